/-
  It is proved what the program's blocks do: Erased, Spoilt, New; and the page's example. There are no further conditions than those that each theorem names.
-/
import Derived.Test.YtefllmfoneocaaaBlocks3
set_option linter.unusedVariables false
set_option linter.unusedSimpArgs false
namespace Go.Proofs.Ytefllmfoneocaaa
open Go.HL

theorem enc_at (p s : List BS) (x x' : BS) (k : Nat) (hk : k < 3) (w : Value) (hx : (bsEnc x).set k w = bsEnc x') : putL ((p ++ x :: s).flatMap bsEnc) (p.length * 3 + k) [w] = (p ++ x' :: s).flatMap bsEnc := by
  have hp : (p.flatMap bsEnc).length = p.length * 3 := flat_len bsEnc_len p
  rw [putL_one (by rw [flat_len bsEnc_len, List.length_append, List.length_cons]; omega)]
  rw [List.flatMap_append, List.flatMap_append, List.flatMap_cons, List.flatMap_cons, ← hx, List.set_append_right _ _ (by omega), hp, show p.length * 3 + k - p.length * 3 = k by omega, List.set_append_left _ _ (by rw [bsEnc_len]; exact hk)]
def gErase (bad : Bool) (s : BS) : BS := ⟨s.wear + 1, bad, false⟩
def gSpoil (s : BS) : BS := { s with dirty := true }
def gClean (s : BS) : BS := { s with dirty := false }
theorem erased1_cl (ss : List BS) (hw : ∀ s ∈ ss, 0 ≤ s.wear ∧ s.wear ≤ 1000000000) (bad : Bool) (n1 : Nat) (v : SlV) (seg : HList) (j : Nat) (a : Addr) (hj : j < ss.length) (own : Own v 3 eSt (ss.flatMap bsEnc) seg) (ha : v.a = some a) :
    CallF PP 113 #[.pointer (some (Addr.add a (j * 3))), .pointer (some ⟨n1, 0, none⟩)] ([(n1, Obj.cells #[.bool bad] 4)] ++ seg)
      fun r L' => r = .tuple #[] ∧ ∃ seg', L' = [(n1, Obj.cells #[.bool bad] 4)] ++ seg' ∧ Own v 3 eSt ((ss.take j ++ gErase bad ss[j] :: ss.drop (j + 1)).flatMap bsEnc) seg' := by
  refine CallF.of (args := [.pointer (some (Addr.add a (j * 3))), .pointer (some ⟨n1, 0, none⟩)]) noNum mixed Try.func113 (e113 (some (Addr.add a (j * 3))) (some ⟨n1, 0, none⟩) _) ?_
  unfold t113
  have hx := hw ss[j] (List.getElem_mem hj)
  have hs : ss = ss.take j ++ ss[j] :: ss.drop (j + 1) := by rw [← List.drop_eq_getElem_cons hj, List.take_append_drop]
  have hpj : (ss.take j).length = j := by rw [List.length_take]; omega
  generalize ss.take j = p at hs hpj ⊢
  generalize ss.drop (j + 1) = t at hs ⊢
  generalize ss[j] = x at hs hx ⊢
  subst hs
  have hl : ∀ (y : BS), ((p ++ y :: t).flatMap bsEnc).length = (p.length + 1 + t.length) * 3 := fun y => by rw [flat_len bsEnc_len, List.length_append, List.length_cons]; congr 1; omega
  have hld := own.sl.el bsEnc_len (by decide) (i := p.length) (by simp)
  obtain ⟨a', ha', hld⟩ := hld
  rw [ha] at ha'
  obtain rfl := Option.some.inj ha'
  rw [show (p ++ x :: t)[p.length]'(by simp) = x by simp, hpj] at hld
  generalize ho : (n1, Obj.cells #[.bool bad] 4) = o1
  have lb : ∀ {Z : HList}, LdAt ⟨n1, 0, none⟩ [.bool bad] (o1 :: Z) := by subst ho; exact ldB List.mem_cons_self rfl
  clear ho
  refine nilc_of rfl (ld_of x.wear ?_ (nilc_of rfl ?_))
  · exact (hld.mono fun _ hx => List.mem_append_right _ hx).pre fun i u hu => by cases i with | zero => exact hu | succ i => exact absurd (show (none : Option Value) = some u from hu) (by simp)
  rw [w64_id (by omega) (by omega)]
  refine own.st [o1] [] (p := j * 3 + 0) (by rw [hl]; simp only [List.length_cons, List.length_nil]; omega) (by simp) ha rfl (by simp) fun seg1 own1 => ?_
  rw [← hpj, enc_at p t x ⟨x.wear + 1, x.bad, x.dirty⟩ 0 (by decide) _ rfl] at own1
  refine nilc_of rfl (ld_of bad lb (nilc_of rfl ?_))
  refine own1.st [o1] [] (p := j * 3 + 1) (by rw [hl]; simp only [List.length_cons, List.length_nil]; omega) (by simp) ha (addr2 a (j * 3) 1) rfl fun seg2 own2 => ?_
  rw [← hpj, enc_at p t ⟨x.wear + 1, x.bad, x.dirty⟩ ⟨x.wear + 1, bad, x.dirty⟩ 1 (by decide) _ rfl] at own2
  refine nilc_of rfl (own2.st [o1] [] (p := j * 3 + 2) (by rw [hl]; simp only [List.length_cons, List.length_nil]; omega) (by simp) ha (addr2 a (j * 3) 2) rfl fun seg3 own3 => ?_)
  rw [← hpj, enc_at p t ⟨x.wear + 1, bad, x.dirty⟩ ⟨x.wear + 1, bad, false⟩ 2 (by decide) _ rfl] at own3
  rw [List.append_nil]
  exact .of ⟨rfl, seg3, rfl, own3⟩
theorem spoilt1_cl (ss : List BS) (v : SlV) (seg : HList) (j : Nat) (a : Addr) (hj : j < ss.length) (own : Own v 3 eSt (ss.flatMap bsEnc) seg) (ha : v.a = some a) :
    CallF PP 116 #[.pointer (some (Addr.add a (j * 3)))] ([] ++ seg)
      fun r L' => r = .tuple #[] ∧ ∃ seg', L' = [] ++ seg' ∧ Own v 3 eSt ((ss.take j ++ gSpoil ss[j] :: ss.drop (j + 1)).flatMap bsEnc) seg' := by
  refine CallF.of (args := [.pointer (some (Addr.add a (j * 3)))]) noNum mixed Try.func116 (e116 (some (Addr.add a (j * 3))) _) ?_
  unfold t116
  have hs : ss = ss.take j ++ ss[j] :: ss.drop (j + 1) := by rw [← List.drop_eq_getElem_cons hj, List.take_append_drop]
  have hpj : (ss.take j).length = j := by rw [List.length_take]; omega
  generalize ss.take j = p at hs hpj ⊢
  generalize ss.drop (j + 1) = t at hs ⊢
  generalize ss[j] = x at hs ⊢
  subst hs
  refine nilc_of rfl (own.st [] [] (p := j * 3 + 2) (by rw [flat_len bsEnc_len, List.length_append, List.length_cons]; simp only [List.length_cons, List.length_nil]; omega) (by simp) ha (addr2 a (j * 3) 2) (by simp) fun seg3 own3 => ?_)
  rw [← hpj, enc_at p t x (gSpoil x) 2 (by decide) (.bool true) rfl] at own3
  rw [List.append_nil]
  exact .of ⟨rfl, seg3, rfl, own3⟩
theorem berased_cl (m : Nat) (ss : List BS) (us : List Int) (A : HList) (hA : BX m ss us A) (hw : ∀ s ∈ ss, 0 ≤ s.wear ∧ s.wear ≤ 900000000) (n : Int) (bad : Bool) : CallF PP 75 #[.pointer (some ⟨m, 0, none⟩), .int .i64 n, .bool bad] A
    fun r L' => r = .bool (bgood ss n) ∧ BX m (if bgood ss n = true then bmod ss n (gErase bad) else ss) (if bgood ss n = true then iwo us n else us) L' := by
  refine CallF.of (args := [.pointer (some ⟨m, 0, none⟩), .int .i64 n, .bool bad]) noNum mixed Try.func75 (e75 (some ⟨m, 0, none⟩) n bad _) ?_
  unfold t75
  refine nw_of fun n1 _ => ?_
  refine cl_in [] [] (bturn_cl m ss us A hA n 113 (by kernel_rfl) #[.pointer (some ⟨n1, 0, none⟩)] [(n1, Obj.cells #[.bool bad] 4)] (gErase bad) (fun s hs => by have := hw s hs; unfold gErase; simp only; omega)
    (fun v seg j a hj own ha => erased1_cl ss (fun s hs => by have := hw s hs; omega) bad n1 v seg j a hj own ha)) (by simp) ?_
  rintro _ _ - ⟨rfl, A', rfl, hA'⟩
  rw [List.append_nil]
  exact ⟨(bgood ss n, ()), rfl, .cons (.of ⟨rfl, hA'⟩)⟩
theorem bspoilt_cl (m : Nat) (ss : List BS) (us : List Int) (A : HList) (hA : BX m ss us A) (n : Int) : CallF PP 77 #[.pointer (some ⟨m, 0, none⟩), .int .i64 n] A
    fun r L' => r = .bool (bgood ss n) ∧ BX m (if bgood ss n = true then bmod ss n gSpoil else ss) (if bgood ss n = true then iwo us n else us) L' := by
  have hwr : ∀ s ∈ ss, 0 ≤ s.wear ∧ s.wear ≤ 1000000000 := by obtain ⟨_, _, _, _, _, ok⟩ := hA; exact ok.wr
  refine CallF.of (args := [.pointer (some ⟨m, 0, none⟩), .int .i64 n]) noNum mixed Try.func77 (e77 (some ⟨m, 0, none⟩) n _) ?_
  unfold t77
  refine cl_in [] [] (bturn_cl m ss us A hA n 116 (by kernel_rfl) #[] [] gSpoil (fun s hs => hwr s hs) (fun v seg j a hj own ha => spoilt1_cl ss v seg j a hj own ha)) (by simp) ?_
  rintro _ _ - ⟨rfl, A', rfl, hA'⟩
  refine ⟨(bgood ss n, ()), rfl, .of ⟨rfl, ?_⟩⟩
  simpa using hA'
/-! ### New -/
/-- The states and the used ones, if some can be used one behind the other. -/
def bnewU : List BS → List Int → List Int → Option (List BS × List Int)
  | ss, us, [] => some (ss, us)
  | ss, us, n :: r => if bfree ss us n = true then bnewU (bmod ss n gClean) (us ++ [n]) r else none
def bwear (ss : List BS) : Bool := ss.all fun s => decide (0 ≤ s.wear ∧ s.wear ≤ 1048576)
def bnewR (ss : List BS) (used : List Int) : Option (List BS × List Int) := if 1 ≤ ss.length ∧ ss.length ≤ 16 ∧ bwear ss = true then bnewU ss [] used else none
theorem bmod_len (ss : List BS) (n : Int) (g : BS → BS) : (bmod ss n g).length = ss.length := List.length_modify ..
theorem nodup_few : ∀ (k : Nat) (l : List Int), l.Nodup → (∀ x ∈ l, 0 ≤ x ∧ x < k) → l.length ≤ k
  | 0, l, _, h => by
    cases l with
    | nil => simp
    | cons x r => have := h x (by simp); omega
  | k + 1, l, hn, h => by
    have h1 := nodup_few k (l.erase (k : Int)) (hn.erase _) (fun x hx => by
      rw [hn.mem_erase_iff] at hx
      have := h x hx.2
      have := hx.1
      omega)
    by_cases hk : (k : Int) ∈ l
    · rw [List.length_erase_of_mem hk] at h1; omega
    · rw [List.erase_of_not_mem hk] at h1; omega
/-- The used ones are blocks, each once. -/
def bus (ss : List BS) (us : List Int) : Prop := us.Nodup ∧ ∀ x ∈ us, 0 ≤ x ∧ x < ss.length
theorem bus_few {ss : List BS} {us : List Int} (h : bus ss us) : us.length ≤ ss.length := nodup_few _ _ h.1 h.2
theorem bus_snoc {ss : List BS} {us : List Int} (h : bus ss us) {n : Int} (hf : bfree ss us n = true) : bus ss (us ++ [n]) := by
  obtain ⟨h1, h2⟩ := bfree_good hf
  obtain ⟨h0, hi, _⟩ := bgood_at h1
  refine ⟨?_, fun x hx => ?_⟩
  · rw [List.nodup_append]
    exact ⟨h.1, by simp, fun a ha b hb => by rw [List.mem_singleton.1 hb]; rintro rfl; exact h2 ha⟩
  · rcases List.mem_append.1 hx with h3 | h3
    · exact h.2 x h3
    · rw [List.mem_singleton.1 h3]; omega
theorem bwear_all {ss : List BS} (h : bwear ss = true) : ∀ s ∈ ss, 0 ≤ s.wear ∧ s.wear ≤ 1048576 := by
  unfold bwear at h
  rw [List.all_eq_true] at h
  intro s hs
  simpa using h s hs
def BNewK (ss : List BS) (used : List Int) (A : HList) (v : Value) (L' : HList) : Prop := match bnewR ss used with
  | none => v = .tuple #[.pointer none, .int .i64 2] ∧ L' = A
  | some r => ∃ (m : Nat) (B : HList), v = .tuple #[.pointer (some ⟨m, 0, none⟩), .int .i64 0] ∧ L' = B ++ A ∧ BX m r.1 r.2 B ∧ bus r.1 r.2
theorem BNewK.bad {ss : List BS} {used : List Int} {A : HList} (h : bnewR ss used = none) : BNewK ss used A (.tuple #[.pointer none, .int .i64 2]) A := by
  unfold BNewK
  rw [h]
  exact ⟨rfl, rfl⟩
theorem bnew_cl (A : HList) (v : SlV) (ss : List BS) (hv : Sl A v 3 (ss.flatMap bsEnc)) (u : SlV) (used : List Int) (hu : ISl A u .i64 used) (hul : used.length ≤ 9223372036854775807) : CallF PP 59 #[.slice v.a v.len v.cap, .slice u.a u.len u.cap] A (BNewK ss used A) := by
  refine CallF.of (args := [.slice v.a v.len v.cap, .slice u.a u.len u.cap]) noNum mixed Try.func59 (e59 v u _) ?_
  unfold t59
  have hvl := hv.els_len bsEnc_len (by decide)
  have hulen := hu.len
  refine ifD_of (fun (h1 : (v.len : Int) < 1) => .of (BNewK.bad (by unfold bnewR; rw [if_neg (by omega)]))) (fun (h1 : ¬ (v.len : Int) < 1) => ?_)
  refine ifD_of (fun (h2 : (v.len : Int) > 16) => .of (BNewK.bad (by unfold bnewR; rw [if_neg (by omega)]))) (fun (h2 : ¬ (v.len : Int) > 16) => ?_)
  refine cl_in [] [] (stClone_cl A v ss hv (by omega)) (by simp) ?_
  rintro _ _ - ⟨sv, sseg, rfl, rfl, sown⟩
  rw [List.append_nil, List.nil_append]
  refine ⟨(sv, ()), rfl, nw_of fun m _ => ?_⟩
  refine lp_of (fun k z L' => ∃ (i : Nat) (J : HList), i ≤ ss.length ∧ k = ss.length - i ∧ z = ((i : Int), ()) ∧ L' = J ++ (bO m sv ⟨none, 0, 0⟩ :: (sseg ++ A)) ∧ ∀ s ∈ ss.take i, 0 ≤ s.wear ∧ s.wear ≤ 1048576) ss.length ⟨0, [], by omega, by omega, rfl, rfl, by simp⟩ ?_
  rintro k z L' ⟨i, J, hi, rfl, rfl, rfl, hall⟩
  refine ifD_of (fun (hlt : (i : Int) < v.len) => ?_) (fun (hge : ¬ (i : Int) < v.len) => ?_)
  · have hi' : i < ss.length := by omega
    have hv' : Sl (J ++ (bO m sv ⟨none, 0, 0⟩ :: (sseg ++ A))) v 3 (ss.flatMap bsEnc) := hv.right.cons.right
    obtain ⟨a, ha, hl⟩ := hv'.el bsEnc_len (by decide) hi'
    refine nilc_of ha (ixn_of (show (0 : Int) ≤ (i : Int) by omega) hlt (ld_of (ss[i].wear, ss[i].bad, ss[i].dirty, ()) (by rw [Int.toNat_natCast]; exact hl) ?_))
    have hbad : ¬ (0 ≤ ss[i].wear ∧ ss[i].wear ≤ 1048576) → bnewR ss used = none := by
      intro hc
      unfold bnewR
      rw [if_neg]
      rintro ⟨_, _, h3⟩
      exact hc (bwear_all h3 _ (List.getElem_mem hi'))
    have htk : ∀ (h : 0 ≤ ss[i].wear ∧ ss[i].wear ≤ 1048576), ∀ s ∈ ss.take (i + 1), 0 ≤ s.wear ∧ s.wear ≤ 1048576 := by
      intro h s hs
      rw [List.take_succ_eq_append_getElem hi'] at hs
      rcases List.mem_append.1 hs with h3 | h3
      · exact hall s h3
      · rw [List.mem_singleton.1 h3]; exact h
    generalize ss[i] = x at hbad htk ⊢
    refine nw_of fun n2 _ => st_of [] _ rfl rfl (by simp) (.inl (Nat.le_refl _)) #[.int .i64 x.wear, .bool x.bad, .bool x.dirty] rfl ?_
    rw [List.nil_append]
    refine ld_of x.wear (ldB List.mem_cons_self rfl) (ifD_of (fun (hc : x.wear < 0) => .cons (.app (.cons (.app (.of (BNewK.bad (hbad (by omega)))))))) (fun (hc : ¬ x.wear < 0) => ?_))
    refine ld_of x.wear (ldB List.mem_cons_self rfl) (ifD_of (fun (hc2 : x.wear > 1048576) => .cons (.app (.cons (.app (.of (BNewK.bad (hbad (by omega)))))))) (fun (hc2 : ¬ x.wear > 1048576) => ?_))
    refine ⟨ss.length - (i + 1), by omega, i + 1, (n2, Obj.cells #[.int .i64 x.wear, .bool x.bad, .bool x.dirty] eSt) :: J, by omega, rfl, ?_, rfl, htk (by omega)⟩
    rw [w64_id (by first | omega | (simp only; omega)) (by first | omega | (simp only; omega))]
    rfl
  · obtain rfl : i = ss.length := by omega
    rw [List.take_length] at hall
    have hbw : bwear ss = true := by unfold bwear; rw [List.all_eq_true]; intro s hs; simpa using hall s hs
    have hR : bnewR ss used = bnewU ss [] used := by unfold bnewR; rw [if_pos ⟨by omega, by omega, hbw⟩]
    refine lp_of (fun k z L' => ∃ (i : Nat) (J : HList) (cs : List BS) (us : List Int) (sseg useg : HList) (uv : SlV), i ≤ used.length ∧ k = used.length - i ∧ z = ((i : Int), ()) ∧ L' = J ++ (bO m sv uv :: (sseg ++ useg)) ++ A ∧ BOk sv sseg cs uv useg us ∧ bus cs us ∧ cs.length = ss.length ∧ bnewU ss [] used = bnewU cs us (used.drop i)) used.length
      ⟨0, J, ss, [], sseg, [], ⟨none, 0, 0⟩, by omega, by omega, rfl, by simp, ⟨sown, own_z, by omega, by simp, fun s hs => by have := hall s hs; omega⟩, ⟨by simp, by simp⟩, rfl, rfl⟩ ?_
    rintro k z L' ⟨i, J, cs, us, sseg, useg, uv, hi, rfl, rfl, rfl, ok, hb, hcl, hU⟩
    refine ifD_of (fun (hlt : (i : Int) < u.len) => ?_) (fun (hge : ¬ (i : Int) < u.len) => ?_)
    · have hi' : i < used.length := by omega
      have hu' : ISl (J ++ (bO m sv uv :: (sseg ++ useg)) ++ A) u .i64 used := hu.right
      obtain ⟨a, ha⟩ := hu'.some hi'
      have hdr := List.drop_eq_getElem_cons hi'
      rw [hdr] at hU
      refine nilc_of ha (ixn_of (show (0 : Int) ≤ (i : Int) by omega) hlt (ld_of used[i] (hu'.rd hi' ha _ (by simp)) ?_))
      generalize used[i] = n at hU ⊢
      have hBX : BX m cs us (bO m sv uv :: (sseg ++ useg)) := ⟨sv, sseg, uv, useg, rfl, ok⟩
      refine cl_rd (bfree_rd _ m cs us _ hBX (fun x hx => List.mem_append_left _ (List.mem_append_right _ hx)) n) (bfree cs us n, ()) rfl ?_
      cases hfr : bfree cs us n with
      | false =>
        refine ifT rfl (.app (.of (BNewK.bad ?_)))
        rw [hR, hU]
        unfold bnewU
        rw [if_neg (by rw [hfr]; decide)]
      | true =>
        have hU2 : bnewU ss [] used = bnewU (bmod cs n gClean) (us ++ [n]) (used.drop (i + 1)) := by
          rw [hU]
          conv => lhs; unfold bnewU
          rw [if_pos hfr]
        obtain ⟨h0, hin, _⟩ := bgood_at (bfree_good hfr).1
        have hslen := ok.own.sl.els_len bsEnc_len (by decide)
        have hulen2 := ok.uown.sl.len
        rw [ivs_length, Nat.mul_one] at hulen2
        obtain ⟨b, hb', _⟩ := ok.own.sl.el bsEnc_len (by decide) hin
        have hfew := bus_few hb
        refine ifF rfl (ld_of sv (b_s (uv := uv) (by simp)) (nilc_of hb' (ixn_of h0 (show n < sv.len by omega) ?_)))
        refine ok.own.st (J ++ [bO m sv uv]) (useg ++ A) (p := n.toNat * 3 + 2) (by rw [flat_len bsEnc_len]; simp only [List.length_cons, List.length_nil]; omega) (by simp) hb' (addr2 b (n.toNat * 3) 2) (by simp) fun sseg2 own2 => ?_
        have hsplit : cs = cs.take n.toNat ++ cs[n.toNat] :: cs.drop (n.toNat + 1) := by rw [← List.drop_eq_getElem_cons hin, List.take_append_drop]
        have hplen : (cs.take n.toNat).length = n.toNat := by rw [List.length_take]; omega
        have hput := enc_at (cs.take n.toNat) (cs.drop (n.toNat + 1)) cs[n.toNat] (gClean cs[n.toNat]) 2 (by decide) (.bool false) rfl
        rw [← hsplit, hplen, ← bmod_at hin] at hput
        rw [hput] at own2
        refine ld_of uv (b_u (sv := sv) (by simp)) (nw_of fun n3 _ => ?_)
        have hsrc : ∀ {Z : HList}, Sl ((n3, Obj.cells #[.int .i64 n] eIn) :: Z) ⟨some ⟨n3, 0, none⟩, 1, 1⟩ 1 (ivs .i64 [n]) := fun {Z} => ⟨rfl, Nat.le_refl _, .inr ⟨_, rfl, ldB List.mem_cons_self rfl⟩⟩
        have hcnt := ok.cnt
        refine append_in elemIn srcIn ((n3, Obj.cells #[.int .i64 n] eIn) :: (J ++ (bO m sv uv :: sseg2))) A ok.uown (by simp) (.sl hsrc) (ivs_plain _ _) (by first | omega | (simp only; omega)) fun v2 seg2 hv2 uown2 => ?_
        rw [← ivs_append] at uown2
        refine st_of (n := m) (off := 1) (c := #[.slice sv.a sv.len sv.cap, .slice uv.a uv.len uv.cap]) (T := 165) (fz := (0, 0)) ((n3, Obj.cells #[.int .i64 n] eIn) :: J) (sseg2 ++ (seg2 ++ A)) rfl (by simp [bO]) (by simp) (.inl (Nat.le_refl _)) #[.slice sv.a sv.len sv.cap, .slice v2.a v2.len v2.cap] rfl ?_
        have hbus := bus_snoc hb hfr
        have hml := bmod_len cs n gClean
        refine ⟨used.length - (i + 1), by omega, i + 1, (n3, Obj.cells #[.int .i64 n] eIn) :: J, bmod cs n gClean, us ++ [n], sseg2, seg2, v2, by omega, rfl, ?_, by simp [bO], ⟨own2, uown2, by omega, by have := bus_few hbus; omega, fun s hs => ?_⟩, ⟨hbus.1, fun x hx => by rw [hml]; exact hbus.2 x hx⟩, by omega, hU2⟩
        · rw [w64_id (by first | omega | (simp only; omega)) (by first | omega | (simp only; omega))]
          rfl
        · rw [bmod_at hin] at hs
          rcases List.mem_append.1 hs with h3 | h3
          · exact ok.wr s (List.mem_of_mem_take h3)
          · rcases List.mem_cons.1 h3 with rfl | h4
            · exact ok.wr cs[n.toNat] (List.getElem_mem hin)
            · exact ok.wr s (List.mem_of_mem_drop h4)
    · obtain rfl : i = used.length := by omega
      rw [List.drop_length] at hU
      have hRR : bnewR ss used = some (cs, us) := by rw [hR, hU]; rfl
      rw [List.append_assoc]
      refine .app (.of ?_)
      unfold BNewK
      rw [hRR]
      exact ⟨m, _, rfl, rfl, ⟨sv, sseg, uv, useg, rfl, ok⟩, hb⟩
end Go.Proofs.Ytefllmfoneocaaa
