/-
  It is proved that the law BlocksDoes returns true for every input. There are no further conditions than those that each theorem names.
-/
import Derived.Test.YtefllmfoneocaaaBlocksRef2
import Derived.Test.YtefllmfoneocaaaHL23
set_option linter.unusedVariables false
set_option linter.unusedSimpArgs false
namespace Go.Proofs.Ytefllmfoneocaaa
open Go.HL

structure DInv (ss : List BS) (us : List Int) (i : Nat) : Prop where
  use : bus ss us
  len : ss.length ≤ 16
  wear : ∀ x ∈ ss, 0 ≤ x.wear ∧ x.wear ≤ 1048576 + i
theorem DInv.few {ss : List BS} {us : List Int} {i : Nat} (h : DInv ss us i) : us.length ≤ 16 := by
  have := bus_few h.use
  have := h.len
  omega
theorem DInv.up {ss : List BS} {us : List Int} {i : Nat} (h : DInv ss us i) : DInv ss us (i + 1) := ⟨h.use, h.len, fun x hx => by have := h.wear x hx; omega⟩
theorem DInv.mod {ss : List BS} {us : List Int} {i : Nat} (h : DInv ss us i) (n : Int) (g : BS → BS) (hg : ∀ x, x.wear ≤ (g x).wear ∧ (g x).wear ≤ x.wear + 1) : DInv (bmod ss n g) (iwo us n) (i + 1) := by
  refine ⟨⟨h.use.1.filter _, fun x hx => ?_⟩, by rw [bmod_len]; exact h.len, fun x hx => ?_⟩
  · rw [bmod_len]; exact h.use.2 x (iwo_mem.1 hx).1
  · have := wear_mod (i := 1048576 + i) (fun y hy => by have := h.wear y hy; omega) n hg x hx
    omega
theorem law_BlocksDoes (L : HList) (v : SlV) (ss0 : List BS) (hv : Sl L v 3 (ss0.flatMap bsEnc)) (hb : ss0.length * 16 ≤ 140737488351232) (u : SlV) (used : List Int) (hu : ISl L u .i64 used) (hul : used.length ≤ 9223372036854775807) (w : SlV) (l : List BAct) (hw : Sl L w 3 (l.flatMap bactEnc)) :
    Reads PP 12 #[.slice v.a v.len v.cap, .slice u.a u.len u.cap, .slice w.a w.len w.cap] L (.bool true) := by
  refine Reads.of (args := [.slice v.a v.len v.cap, .slice u.a u.len u.cap, .slice w.a w.len w.cap]) noNum mixed Try.func12 (e12 v u w _) ?_
  unfold t12
  have hwl := hw.els_len bact_len (by decide)
  refine cl_in [] [] (given_cl L v ss0 hv hb) (by simp) ?_
  rintro _ _ - ⟨v1, sg1, rfl, rfl, own1⟩
  rw [List.append_nil, List.nil_append]
  refine ⟨(v1, ()), rfl, cl_in [] [] (bnew_cl (sg1 ++ L) v1 ss0 own1.sl.left u used (Sl.right hu) hul) (by simp) ?_⟩
  rintro _ A1 - hK
  rw [List.append_nil, List.nil_append]
  unfold BNewK at hK
  cases hN : bnewR ss0 used with
  | none =>
    rw [hN] at hK
    obtain ⟨rfl, rfl⟩ := hK
    refine ⟨(none, 2, ()), rfl, cl_in [] [] (rbnew_cl (sg1 ++ L) v ss0 hv.right u used (Sl.right hu) hul) (by simp) ?_⟩
    rintro _ A2 - hK
    unfold RBNewK at hK
    rw [hN] at hK
    obtain ⟨rfl, rfl⟩ := hK
    rw [List.append_nil, List.nil_append]
    exact ⟨(none, 2, ()), rfl, ifF rfl (ifT rfl (cl_rd (wears_rd _) (true, ()) rfl (.app (.of ⟨rfl, rfl⟩))))⟩
  | some r =>
    rw [hN] at hK
    obtain ⟨m, B, rfl, rfl, hB, hbus⟩ := hK
    refine ⟨(some ⟨m, 0, none⟩, 0, ()), rfl, cl_pm (R := []) (rbnew_cl (B ++ (sg1 ++ L)) v ss0 hv.right.right u used (Sl.right (Sl.right hu)) hul) (by simp) ?_⟩
    rintro _ A2 hK
    unfold RBNewK at hK
    rw [hN] at hK
    obtain ⟨mr, C, rfl, rfl, hC, -⟩ := hK
    refine ⟨B ++ (C ++ (sg1 ++ L)), ?_, (some ⟨mr, 0, none⟩, 0, ()), rfl, ifF rfl (ifF rfl ?_)⟩
    · rw [List.append_nil]
      exact List.perm_append_comm_assoc C B (sg1 ++ L)
    refine ifD_of (fun _ => cl_rd (wears_rd _) (true, ()) rfl (.app (.app (.app (.of ⟨rfl, rfl⟩))))) (fun (hl3 : ¬ (w.len : Int) > 300) => ?_)
    obtain ⟨ss1, us1⟩ := r
    simp only at hB hC hbus
    have hlen1 : ss1.length ≤ 16 := by obtain ⟨_, _, _, _, _, ok⟩ := hB; exact ok.cnt.2
    have hwear1 : ∀ x ∈ ss1, 0 ≤ x.wear ∧ x.wear ≤ 1048576 := by
      have key : ∀ (used : List Int) (cs : List BS) (us : List Int), (∀ x ∈ cs, 0 ≤ x.wear ∧ x.wear ≤ 1048576) → bnewU cs us used = some (ss1, us1) → ∀ x ∈ ss1, 0 ≤ x.wear ∧ x.wear ≤ 1048576 := by
        intro used
        induction used with
        | nil =>
          intro cs us h e
          simp only [bnewU, Option.some.injEq, Prod.mk.injEq] at e
          rw [← e.1]; exact h
        | cons n r ih =>
          intro cs us h e
          unfold bnewU at e
          split at e
          · refine ih _ _ (fun x hx => ?_) e
            by_cases hi : n.toNat < cs.length
            · rw [bmod_at hi] at hx
              rcases List.mem_append.1 hx with h1 | h1
              · exact h x (List.mem_of_mem_take h1)
              · rcases List.mem_cons.1 h1 with rfl | h2
                · exact h cs[n.toNat] (List.getElem_mem hi)
                · exact h x (List.mem_of_mem_drop h2)
            · unfold bmod at hx
              rw [List.modify_eq_self (by omega)] at hx
              exact h x hx
          · cases e
      unfold bnewR at hN
      split at hN
      · rename_i hc
        exact key used ss0 [] (bwear_all hc.2.2) hN
      · cases hN
    generalize hL0 : sg1 ++ L = L0
    have hw0 : Sl L0 w 3 (l.flatMap bactEnc) := by subst hL0; exact hw.right
    refine jn_of (fun (_ : RsV []) L' => ∃ X, L' = X ++ L0) ?_ ?_
    · rintro ⟨⟩ _ ⟨X, rfl⟩
      subst hL0
      exact cl_rd (wears_rd _) (true, ()) rfl (.app (.app (.of ⟨rfl, rfl⟩)))
    intro j1 hj1
    refine lp_of (fun k z L' => ∃ (i : Nat) (J A C : HList) (ss : List BS) (us : List Int), i ≤ l.length ∧ k = l.length - i ∧ z = ((i : Int), ()) ∧ L' = J ++ (A ++ (C ++ L0)) ∧ BX m ss us A ∧ RBX mr ss us C ∧ DInv ss us i) l.length
      ⟨0, [], B, C, ss1, us1, by omega, by omega, rfl, rfl, hB, hC, ⟨hbus, hlen1, fun x hx => by have := hwear1 x hx; omega⟩⟩ ?_
    clear hB hC hbus hlen1 hwear1 hN
    rintro k z L' ⟨i, J, A, C, ss, us, hi, rfl, rfl, rfl, hA, hC, inv⟩
    have hpA : (J ++ (A ++ (C ++ L0))).Perm (A ++ (J ++ (C ++ L0))) := by
      classical
      rw [List.perm_iff_count]
      intro x
      simp only [List.count_append]
      omega
    have hpC : (J ++ (A ++ (C ++ L0))).Perm (C ++ (J ++ (A ++ L0))) := by
      classical
      rw [List.perm_iff_count]
      intro x
      simp only [List.count_append]
      omega
    refine ifP (show (i : Int) ≤ (w.len : Int) by omega) ?_
    refine cl_rpm (bpick_cl m ss us A hA) hpA ((bpick ss us).2.2, (bpick ss us).2.1.dirty, (bpick ss us).1, ()) rfl ?_
    refine cl_rpm (rbpick_cl mr ss us C hC) hpC ((bpick ss us).2.2, (bpick ss us).2.1.dirty, (bpick ss us).1, ()) rfl ?_
    refine cl_rpm (boldest_rd m ss us A hA) hpA (us.headD 0, decide (us ≠ []), ()) rfl ?_
    refine cl_rpm (rboldest_rd mr ss us C hC) hpC (us.headD 0, decide (us ≠ []), ()) rfl ?_
    refine ifF (by simp) (ifF (by simp) (ifF (by simp) (ifF (by simp) (ifF (by simp) ?_))))
    refine cl_rpm (bfreeN_cl m ss us A hA) hpA (bfreeN ss us, ()) rfl ?_
    refine cl_rpm (rbfreeN_rd mr ss us C hC) hpC (bfreeN ss us, ()) rfl (ifF (by simp) ?_)
    have hfew := inv.few
    obtain ⟨uv, huv, lu⟩ : ∃ uv : SlV, ISl C uv .i64 us ∧ LdAt ⟨mr, 1, none⟩ [.slice uv.a uv.len uv.cap] C := by
      obtain ⟨sv, sseg, uv, useg, rfl, ok⟩ := hC
      exact ⟨uv, ok.uown.sl.right.cons, rb_u (sv := sv) List.mem_cons_self⟩
    have lu2 : ∀ {X : HList}, LdAt ⟨mr, 1, none⟩ [.slice uv.a uv.len uv.cap] (X ++ (A ++ (C ++ L0))) := fun {X} => lu.mono fun x hx => by simp [hx]
    refine nilc_of rfl (ld_of uv lu2 (cl_pm (bused_cl m ss us A hA) hpA ?_))
    rintro _ _ ⟨s, sg, rfl, rfl, own⟩
    refine ⟨(sg ++ J) ++ (A ++ (C ++ L0)), ?_, (s, ()), rfl, keep_of lu2 ?_⟩
    · classical
      rw [List.perm_iff_count]
      intro x
      simp only [List.count_append]
      omega
    refine cl_rd (ints_rd _ s uv us (own.sl.mono fun x hx => by simp [hx]) (Sl.mono huv fun x hx => by simp [hx]) (by omega)) (true, ()) rfl (ifF rfl ?_)
    generalize sg ++ J = J
    clear hpA hpC own
    have hpA : ∀ {X : HList}, (X ++ (A ++ (C ++ L0))).Perm (A ++ (X ++ (C ++ L0))) := by
      intro X
      classical
      rw [List.perm_iff_count]
      intro x
      simp only [List.count_append]
      omega
    have hpC : ∀ {X A : HList}, (X ++ (A ++ (C ++ L0))).Perm (C ++ (X ++ (A ++ L0))) := by
      intro X A
      classical
      rw [List.perm_iff_count]
      intro x
      simp only [List.count_append]
      omega
    have hpA' : ∀ {X A' : HList}, (A' ++ (X ++ (C ++ L0))).Perm (X ++ (A' ++ (C ++ L0))) := by
      intro X A'
      classical
      rw [List.perm_iff_count]
      intro x
      simp only [List.count_append]
      omega
    have hpC' : ∀ {X A' C' : HList}, (C' ++ (X ++ (A' ++ L0))).Perm (X ++ (A' ++ (C' ++ L0))) := by
      intro X A' C'
      classical
      rw [List.perm_iff_count]
      intro x
      simp only [List.count_append]
      omega
    refine cl_rpm (bspread_rd m ss us A hA) hpA (bspread ss, ()) rfl ?_
    refine cl_rpm (rbspread_rd mr ss us C hC) hpC (bspread ss, ()) rfl (ifF (by simp) ?_)
    refine ifE_of (fun he => hj1 _ _ ⟨J ++ (A ++ C), by simp⟩) (fun he => ?_)
    have hne : (i : Int) ≠ (w.len : Int) := he
    have hi' : i < l.length := by omega
    have hw1 : Sl (J ++ (A ++ (C ++ L0))) w 3 (l.flatMap bactEnc) := hw0.right.right.right
    obtain ⟨a, ha, lx⟩ := hw1.el bact_len (by decide) hi'
    refine nilc_of ha (ixn_of (show (0 : Int) ≤ (i : Int) by omega) (show (i : Int) < w.len by omega) (ld_of l[i] (by rw [Int.toNat_natCast]; exact lx) ?_))
    generalize l[i] = x
    refine nw_of fun n1 _ => st_of [] _ rfl rfl (by simp) (.inl (Nat.le_refl _)) #[.int .i64 x.1, .int .i64 x.2.1, .bool x.2.2.1] rfl ?_
    rw [List.nil_append]
    generalize ho1 : (n1, Obj.cells #[.int .i64 x.1, .int .i64 x.2.1, .bool x.2.2.1] 118) = o1
    have l0 : ∀ {Z : HList}, LdAt ⟨n1, 0, none⟩ [.int .i64 x.1] (o1 :: J ++ Z) := by subst ho1; exact ldB List.mem_cons_self rfl
    have l1 : ∀ {Z : HList}, LdAt (Addr.add ⟨n1, 0, none⟩ 1) [.int .i64 x.2.1] (o1 :: J ++ Z) := by subst ho1; exact ldB List.mem_cons_self rfl
    have l2 : ∀ {Z : HList}, LdAt (Addr.add ⟨n1, 0, none⟩ 2) [.bool x.2.2.1] (o1 :: J ++ Z) := by subst ho1; exact ldB List.mem_cons_self rfl
    clear ho1
    generalize x.1 = kind at l0
    generalize x.2.1 = n at l1
    generalize x.2.2.1 = xb at l2
    rw [← List.cons_append]
    have hwr : ∀ x ∈ ss, 0 ≤ x.wear ∧ x.wear ≤ 900000000 := fun x hx => by have := inv.wear x hx; omega
    refine jn_of (fun (y : RsV [.lf .bool, .lf .bool]) L' => ∃ (A C : HList) (ss : List BS) (us : List Int) (b : Bool), y = (b, b, ()) ∧ L' = (o1 :: J) ++ (A ++ (C ++ L0)) ∧ BX m ss us A ∧ RBX mr ss us C ∧ DInv ss us (i + 1)) ?_ ?_
    · rintro _ _ ⟨A, C, ss, us, b, rfl, rfl, hA, hC, inv⟩
      refine ifF (by cases b <;> rfl) ⟨l.length - (i + 1), by omega, i + 1, o1 :: J, A, C, ss, us, by omega, rfl, ?_, rfl, hA, hC, inv⟩
      rw [w64_id (by first | omega | (simp only; omega)) (by first | omega | (simp only; omega))]
      rfl
    intro j2 hj2
    refine ld_of kind l0 (ifE_of (fun _ => ?_) (fun _ => ifE_of (fun _ => ?_) (fun _ => ?_)))
    · refine ld_of n l1 (ld_of n l1 (cl_pm (bopened_cl m ss us A hA (by omega) n) hpA ?_))
      rintro _ A' ⟨rfl, hA'⟩
      refine ⟨_, hpA', (bopens ss us n, ()), rfl, keep_of l1 (cl_pm (rbopened_cl mr ss us C hC (by omega) n) hpC ?_)⟩
      rintro _ C' ⟨rfl, hC'⟩
      refine ⟨_, hpC', (bopens ss us n, ()), rfl, hj2 _ _ ⟨A', C', _, _, bopens ss us n, rfl, rfl, hA', hC', ?_⟩⟩
      split
      · rename_i hop
        have hfr : bfree ss us n = true := by unfold bopens at hop; rw [Bool.and_eq_true] at hop; exact hop.1
        exact ⟨bus_snoc inv.use hfr, inv.len, inv.up.wear⟩
      · exact inv.up
    · refine ld_of n l1 (ld_of xb l2 (ld_of n l1 (ld_of xb l2 (cl_pm (berased_cl m ss us A hA hwr n xb) hpA ?_))))
      rintro _ A' ⟨rfl, hA'⟩
      refine ⟨_, hpA', (bgood ss n, ()), rfl, keep_of l2 (keep_of l1 (cl_pm (rberased_cl mr ss us C hC hwr n xb) hpC ?_))⟩
      rintro _ C' ⟨rfl, hC'⟩
      refine ⟨_, hpC', (bgood ss n, ()), rfl, hj2 _ _ ⟨A', C', _, _, bgood ss n, rfl, rfl, hA', hC', ?_⟩⟩
      split
      · exact inv.mod n _ (fun x => by unfold gErase; simp only; omega)
      · exact inv.up
    · refine ld_of n l1 (ld_of n l1 (cl_pm (bspoilt_cl m ss us A hA n) hpA ?_))
      rintro _ A' ⟨rfl, hA'⟩
      refine ⟨_, hpA', (bgood ss n, ()), rfl, keep_of l1 (cl_pm (rbspoilt_cl mr ss us C hC n) hpC ?_)⟩
      rintro _ C' ⟨rfl, hC'⟩
      refine ⟨_, hpC', (bgood ss n, ()), rfl, hj2 _ _ ⟨A', C', _, _, bgood ss n, rfl, rfl, hA', hC', ?_⟩⟩
      split
      · exact inv.mod n _ (fun x => by unfold gSpoil; simp only; omega)
      · exact inv.up
def toBS (x : Int × Bool × Bool × Unit) : BS := ⟨x.1, x.2.1, x.2.2.1⟩
theorem toBS_enc : ∀ l : List (Int × Bool × Bool × Unit), l.flatMap (fun x => [.int .i64 x.1, .bool x.2.1, .bool x.2.2.1]) = (l.map toBS).flatMap bsEnc
  | [] => rfl
  | x :: r => by rw [List.map_cons, List.flatMap_cons, List.flatMap_cons, toBS_enc r]; rfl
theorem row_BlocksDoes (W : World) (a0 : SlV) (l0 : List (Int × Bool × Bool × Unit)) (w0 : SlOk W (fun x : Int × Bool × Bool × Unit => [.int .i64 x.1, .bool x.2.1, .bool x.2.2.1]) (fun x => intWf .i64 x.1 ∧ True ∧ True ∧ True) 3 (a0, l0)) (z0 : l0.length * 16 ≤ 140737488351232) (a1 : SlV) (l1 : List Int) (w1 : SlOk W (fun n => [.int .i64 n]) (intWf .i64) 1 (a1, l1)) (z1 : l1.length * 8 ≤ 140737488351232) (a2 : SlV) (l2 : List BAct) (w2 : SlOk W bactEnc (fun x => intWf .i64 x.1 ∧ intWf .i64 x.2.1 ∧ True ∧ True) 3 (a2, l2)) (z2 : l2.length * 24 ≤ 140737488351232) :
    Reads PP 12 #[.slice a0.a a0.len a0.cap, .slice a1.a a1.len a1.cap, .slice a2.a a2.len a2.cap] (allB W) (.bool true) := by
  have h0 := w0.sl
  simp only at h0
  rw [toBS_enc] at h0
  exact law_BlocksDoes _ a0 (l0.map toBS) h0 (by rw [List.length_map]; exact z0) a1 l1 w1.ints (by omega) a2 l2 w2.sl
end Go.Proofs.Ytefllmfoneocaaa
