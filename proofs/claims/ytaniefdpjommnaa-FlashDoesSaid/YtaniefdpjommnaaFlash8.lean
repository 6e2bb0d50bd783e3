/-
  It is proved that the laws FlashKeeps and FlashTears return true for every input. There are no further conditions.
-/
import Derived.Test.YtaniefdpjommnaaFlashPlain
set_option linter.unusedVariables false
set_option linter.unusedSimpArgs false
namespace Go.Proofs.Ytaniefdpjommnaa
open Go.HL

theorem law_FlashKeeps (L : HList) (v0 : SlV) (l0 : List FA) (h0 : FActs L v0 l0) (hl0 : l0.length ≤ 9223372036854775807) (u : SlV) (data : List UInt8) (hu : BSl L u data) (v2 : SlV) (l2 : List FA) (h2 : FActs L v2 l2) (hl2 : l2.length ≤ 9223372036854775807) :
    Reads PP 9 #[.slice v0.a v0.len v0.cap, .slice u.a u.len u.cap, .slice v2.a v2.len v2.cap] L (.bool true) := by
  refine Reads.of (args := [.slice v0.a v0.len v0.cap, .slice u.a u.len u.cap, .slice v2.a v2.len v2.cap]) noNum mixed Try.func9 (e9 v0 u v2 _) ?_
  unfold t9
  have hr3 : right (3, 8, 64, 100, ()) := by unfold right; simp
  have hlen0 := h0.len
  have hlen2 := h2.len
  have hul := hu.len
  refine cl_in [] L (new_cl (3, 8, 64, 100, ())) rfl ?_
  rintro _ A0 - (⟨hn, -, -⟩ | ⟨-, m, rfl, hF0⟩)
  · exact absurd hr3 hn
  rw [List.nil_append]
  have hcf : cfg (3, 8, 64, 100, ()) = ⟨3, 8, 64, 100⟩ := rfl
  have hok0 := fresh_ok (cfg_ok hr3)
  rw [hcf] at hF0 hok0
  refine ⟨(some ⟨m, 0, none⟩, 0, ()), rfl, ifF rfl ?_⟩
  have hB : ∀ A : HList, HL.Ends (fun v' L' => v' = Value.bool true ∧ L' = L) (.bool true) (A ++ L) := fun A => .app (.of ⟨rfl, rfl⟩)
  have hburn : ∀ (A : HList), cl PP 24 #[] [.lf .bool] (fun r => HL.Ends (fun v' L' => v' = Value.bool true ∧ L' = L) (.bool r.1)) (A ++ L) := fun A => cl_rd (burns_rd _) (true, ()) rfl (hB A)
  refine cl_in A0 [] (small_cl L v0 l0 h0 hl0) (by simp) ?_
  rintro _ L1 - ⟨hL1, b0, rfl, hb0⟩
  rw [List.append_nil, hL1]
  clear hL1 L1
  refine ⟨(b0, ()), rfl, ?_⟩
  cases b0 with
  | false => exact ifT rfl (hburn _)
  | true =>
  obtain ⟨hs0, -⟩ := hb0 rfl
  refine ifF rfl (cl_in A0 [] (small_cl L v2 l2 h2 hl2) (by simp) ?_)
  rintro _ L1 - ⟨hL1, b2, rfl, hb2⟩
  rw [List.append_nil, hL1]
  clear hL1 L1
  refine ⟨(b2, ()), rfl, ?_⟩
  cases b2 with
  | false => exact ifT rfl (hburn _)
  | true =>
  obtain ⟨hs2, -⟩ := hb2 rfl
  refine ifF rfl (ifD_of (fun _ => hburn _) (fun hdl => ?_))
  refine lp_of (fun z' z L' => ∃ (i : Nat) (d : Dev) (A : HList), i ≤ l0.length ∧ z' = l0.length - i ∧ z = ((i : Int), ()) ∧ L' = A ++ L ∧ FH m d A ∧ DvOk d ∧ d.c = ⟨3, 8, 64, 100⟩ ∧ d.torn.length ≤ i) l0.length ⟨0, fresh ⟨3, 8, 64, 100⟩, A0, by omega, by omega, rfl, rfl, hF0, hok0, rfl, Nat.le_refl _⟩ ?_
  rintro z' z _ ⟨i, d, A, hi, rfl, rfl, rfl, hF, hok, hc, hto⟩
  refine ifD_of (fun (hlt : (i : Int) < v0.len) => ?_) (fun (hge : ¬ (i : Int) < v0.len) => ?_)
  · have hi' : i < l0.length := by omega
    obtain ⟨a, ha, l1⟩ := h0.at' hi'
    have hx := h0.val l0[i] (List.getElem_mem hi')
    have hxr := h0.rng l0[i] (List.getElem_mem hi')
    refine nilc_of ha (ixn_of (show (0 : Int) ≤ (i : Int) by omega) hlt ?_)
    refine ld_of (l0[i].1, l0[i].2.1, l0[i].2.2.1, l0[i].2.2.2.1.1, l0[i].2.2.2.2.1, l0[i].2.2.2.2.2.1, ()) (l1.mono fun x hx => List.mem_append_right _ hx) ?_
    refine cl_in [] [] (do1_cl m d A L hF hok (by omega) l0[i] hx) (by simp) ?_
    rintro _ _ - ⟨rfl, A', rfl, hF'⟩
    rw [List.append_nil, List.nil_append]
    refine ⟨(), rfl, l0.length - (i + 1), by omega, i + 1, act d l0[i], A', by omega, rfl, ?_, rfl, hF', act_ok hok _ hxr, by rw [act_c, hc], ?_⟩
    · rw [w64_id (by first | omega | (simp only; omega)) (by first | omega | (simp only; omega))]
      rfl
    · have := act_torn d l0[i]
      omega
  refine cl_in [] L (restart_cl m d A hF) rfl ?_
  rintro _ A1 - ⟨rfl, hF1⟩
  rw [List.nil_append]
  refine ⟨(), rfl, ?_⟩
  have hok1 := restart_ok hok
  have hc1 : (restart d).c = ⟨3, 8, 64, 100⟩ := hc
  have hd1 : (restart d).down = false := rfl
  have ha1 : (restart d).after = 0 := rfl
  have ht1 : (restart d).torn.length ≤ 200 := by show d.torn.length ≤ 200; omega
  generalize restart d = d1 at hF1 hok1 hc1 hd1 ha1 ht1
  refine cl_rd (Reads.in (X := []) (Y := L) (next_rd m d1 A1 hF1 hok1 1)) (nextOf d1 1, ()) rfl ?_
  have hbl : 1 < d1.bs.length := by rw [hok1.len, hc1]; decide
  obtain ⟨hne, heq⟩ := prog_next hok1 hd1 ha1 hbl data
  have hone : ((1 : Nat) : Int) = 1 := rfl
  rw [hone] at hne heq
  refine cl_in [] [] (program_cl m d1 A1 L hF1 hok1 (by omega) 1 (nextOf d1 1) u data hu) (by simp) ?_
  rintro _ _ - ⟨A2, rfl, rfl, hF2⟩
  rw [List.nil_append, List.append_nil]
  refine ⟨((prog d1 1 (nextOf d1 1) data).1, ()), rfl, ?_⟩
  refine ifNe_of (fun (hc2 : (prog d1 1 (nextOf d1 1) data).1 ≠ 0) => ?_) (fun (hc2 : (prog d1 1 (nextOf d1 1) data).1 = 0) => ?_)
  · obtain ⟨hsame, hor⟩ := hne hc2
    rw [hsame] at hF2
    rw [hc1] at hor
    refine ifE_of (fun _ => hburn _) (fun (hn8 : nextOf d1 1 ≠ 8) => ifNe_of (fun _ => hburn _) (fun (hn64 : (u.len : Int) = 64) => ?_))
    refine cl_rd (Reads.in (X := []) (Y := L) (bad_rd m d1 A2 hF2 hok1 1)) (badOf d1 1, ()) rfl ?_
    rcases hor with h | h | h
    · exact absurd h hn8
    · simp only at h; omega
    · exact ifT h (hburn _)
  obtain ⟨p, hp, hpP, hkept⟩ := heq hc2
  rw [hp] at hF2 hkept ⊢
  have hok2 := prog_ok hok1 1 (p : Int) data
  have hto2 := prog_torn d1 1 (p : Int) data
  generalize (prog d1 1 (p : Int) data).2 = d2 at hF2 hkept hok2 hto2
  refine lp_of (fun z' z L' => ∃ (i : Nat) (d : Dev) (A : HList), i ≤ l2.length ∧ z' = l2.length - i ∧ z = ((i : Int), ()) ∧ L' = A ++ L ∧ FH m d A ∧ DvOk d ∧ Kept d 1 p data ∧ d.torn.length ≤ 201 + i) l2.length ⟨0, d2, A2, by omega, by omega, rfl, rfl, hF2, hok2, hkept, by omega⟩ ?_
  clear hkept hF2 hok2 hto2
  rintro z' z _ ⟨i, d, A, hi, rfl, rfl, rfl, hF, hok, hkept, hto⟩
  refine ifD_of (fun (hlt : (i : Int) < v2.len) => ?_) (fun (hge : ¬ (i : Int) < v2.len) => ?_)
  · have hi' : i < l2.length := by omega
    obtain ⟨a, ha, l1'⟩ := h2.at' hi'
    have l1 : LdAt (Addr.add a ((i : Int).toNat * 6)) (faEnc l2[i]) (A ++ L) := l1'.mono fun x hx => List.mem_append_right _ hx
    have hx := h2.val l2[i] (List.getElem_mem hi')
    have hxr := h2.rng l2[i] (List.getElem_mem hi')
    have h0i : (0 : Int) ≤ (i : Int) := by omega
    have hstep : ∀ (hnot : ¬ (l2[i].1 = 2 ∧ l2[i].2.1 = ((1 : Nat) : Int))) , cl PP 39 #[.pointer (some ⟨m, 0, none⟩), faV l2[i]] [] (fun _ => fun L'' => ∃ k', k' < l2.length - i ∧ ∃ (i_1 : Nat) (d : Dev) (A : HList), i_1 ≤ l2.length ∧ k' = l2.length - i_1 ∧ ((IntKind.i64.wrap ((i : Int) + 1), ()) : Int × Unit) = ((i_1 : Int), ()) ∧ L'' = A ++ L ∧ FH m d A ∧ DvOk d ∧ Kept d 1 p data ∧ d.torn.length ≤ 201 + i_1) (A ++ L) := by
      intro hnot
      refine cl_in [] [] (do1_cl m d A L hF hok (by omega) l2[i] hx) (by simp) ?_
      rintro _ _ - ⟨rfl, A', rfl, hF'⟩
      rw [List.append_nil, List.nil_append]
      refine ⟨(), rfl, l2.length - (i + 1), by omega, i + 1, act d l2[i], A', by omega, rfl, ?_, rfl, hF', act_ok hok _ hxr, act_kept hkept _ hnot, ?_⟩
      · rw [w64_id (by first | omega | (simp only; omega)) (by first | omega | (simp only; omega))]
        rfl
      · have := act_torn d l2[i]
        omega
    refine nilc_of ha (ixn_of h0i hlt (ld_of l2[i].1 (l1.pre fun i u hu => by cases i with | zero => exact hu | succ i => exact absurd (show (none : Option Value) = some u from hu) (by simp)) ?_))
    refine ifE_of (fun (hk : l2[i].1 = 2) => ?_) (fun (hk : l2[i].1 ≠ 2) => ?_)
    · refine nilc_of ha (ixn_of h0i hlt (ld_of l2[i].2.1 (l1.one 1 rfl) ?_))
      refine ifE_of (fun _ => hburn _) (fun (hb : l2[i].2.1 ≠ 1) => ?_)
      refine nilc_of ha (ixn_of h0i hlt (ld_of (l2[i].1, l2[i].2.1, l2[i].2.2.1, l2[i].2.2.2.1.1, l2[i].2.2.2.2.1, l2[i].2.2.2.2.2.1, ()) l1 ?_))
      exact hstep fun h => hb h.2
    · refine nilc_of ha (ixn_of h0i hlt (ld_of (l2[i].1, l2[i].2.1, l2[i].2.2.1, l2[i].2.2.2.1.1, l2[i].2.2.2.2.1, l2[i].2.2.2.2.2.1, ()) l1 ?_))
      exact hstep fun h => hk h.1
  refine cl_in [] L (restart_cl m d A hF) rfl ?_
  rintro _ A3 - ⟨rfl, hF3⟩
  rw [List.nil_append]
  refine ⟨(), rfl, ?_⟩
  have hok3 := restart_ok hok
  have hd3 : (restart d).down = false := rfl
  have hk3 : Kept (restart d) 1 p data := hkept.same rfl
  generalize restart d = d3 at hF3 hok3 hd3 hk3
  obtain ⟨hrd, hnx⟩ := kept_read hok3 hd3 hk3
  rw [hone] at hrd hnx
  refine cl_in [] L (read_cl m d3 A3 hF3 hok3 1 p) rfl ?_
  rintro _ _ - ⟨g, rfl, rfl, hg, hgl⟩
  rw [hrd] at hgl ⊢
  rw [List.nil_append]
  refine ⟨(g.v, 0, ()), rfl, ?_⟩
  have hgs : BSl (g.seg ++ A3 ++ L) g.v data := by
    have : BSl g.seg g.v g.l := hg.sl
    rw [hgl] at this
    exact this.left.left
  refine cl_rd (same_rd _ g.v u data hgs hu.right) (true, ()) rfl (ifT rfl (ifT rfl ?_))
  refine cl_rd (Reads.in (X := g.seg) (Y := L) (next_rd m d3 A3 hF3 hok3 1)) (nextOf d3 1, ()) rfl ?_
  exact ifP (show nextOf d3 1 > (p : Int) from hnx) (hburn _)
theorem row_FlashKeeps (W : World) (a0 : SlV) (l0 : List FA) (w0 : SlOk W faEnc (faWf W) 6 (a0, l0)) (a1 : SlV) (l1 : List UInt8) (w1 : SlOk W (fun b => [bv b]) (fun _ => True) 1 (a1, l1)) (a2 : SlV) (l2 : List FA) (w2 : SlOk W faEnc (faWf W) 6 (a2, l2)) :
    Reads PP 9 #[.slice a0.a a0.len a0.cap, .slice a1.a a1.len a1.cap, .slice a2.a a2.len a2.cap] (allB W) (.bool true) := by
  have hm : maxLen = 9223372036854775807 := rfl
  have h1 := w0.len'
  have h2 := w0.sl.cap
  have h3 := w0.cap
  have h4 := w2.len'
  have h5 := w2.sl.cap
  have h6 := w2.cap
  simp only at h2 h3 h5 h6
  exact law_FlashKeeps _ a0 l0 ⟨w0.sl, fun x hx => (w0.all x hx).2.2.2.1.bytes, fun x hx => (wf_i64 (w0.all x hx).2.2.2.2.1).2⟩ (by omega) a1 l1 w1.bytes a2 l2 ⟨w2.sl, fun x hx => (w2.all x hx).2.2.2.1.bytes, fun x hx => (wf_i64 (w2.all x hx).2.2.2.2.1).2⟩ (by omega)
end Go.Proofs.Ytaniefdpjommnaa
