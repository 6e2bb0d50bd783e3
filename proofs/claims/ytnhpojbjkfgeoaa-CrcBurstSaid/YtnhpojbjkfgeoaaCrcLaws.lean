/-
  It is proved that the laws about the layer crc return true for every input. There are no further conditions than those that each theorem names.
-/
import Derived.Test.YtnhpojbjkfgeoaaCrc
set_option linter.unusedVariables false
set_option linter.unusedSimpArgs false
namespace Go.Proofs.Ytnhpojbjkfgeoaa
open Go.HL

theorem law_CrcSums (L : HList) (c : Int) (x : UInt8) (v : SlV) (l : List UInt8) (h : BSl L v l) : Reads PP 6 #[.int .i64 c, .int .u8 x.toNat, .slice v.a v.len v.cap] L (.bool true) := by
  refine Reads.of (args := [.int .i64 c, .int .u8 x.toNat, .slice v.a v.len v.cap]) noNum mixed Try.func6 (e6 c x.toNat v _) ?_
  unfold t6
  have hlen := h.len
  refine ifD_of (fun (h1 : (v.len : Int) > 2000) => cl_rd (sums_rd L) (true, ()) rfl (.of ⟨rfl, rfl⟩)) (fun (h1 : ¬ (v.len : Int) > 2000) => ?_)
  have hb : l.length ≤ 1000000 := by omega
  refine cl_rd (rsum_rd L v l h hb) (crcSum l, ()) rfl ?_
  refine cl_rd (step_rd L c x) (_, ()) rfl (cl_rd (rstep4_rd L c x) (_, ()) rfl (ifT (by simp) ?_))
  refine cl_rd (sum_rd L v l h hb) (crcSum l, ()) rfl (ifEq rfl ?_)
  refine cl_rd (more_rd L v l h hb c) (crcMore c l, ()) rfl (cl_rd (rmore_rd L v l h hb c) (crcMore c l, ()) rfl (ifEq rfl ?_))
  refine cl_rd (check_rd L v l h hb c) (crcSum l == c, ()) rfl (ifT (by simp) ?_)
  refine cl_rd (check_rd L v l h hb (crcSum l)) (true, ()) (congrArg Value.bool (beq_iff_eq.2 rfl)) (ifT rfl ?_)
  exact cl_rd (sums_rd L) (true, ()) rfl (.of ⟨rfl, rfl⟩)

theorem elem22 : ElemT PP 22 5 1 1 [.int .u8 0] := elemT_of und22 (by kernel_rfl) rfl (by decide) (by decide)
theorem crcMore_join (a b : List UInt8) : crcMore (crcSum a) b = crcSum (a ++ b) := by
  unfold crcSum crcMore
  rw [low_nat, BitVec.not_not, crcSteps_append]
theorem law_CrcJoins (L : HList) (v w : SlV) (a b : List UInt8) (ha : BSl L v a) (hb : BSl L w b) : Reads PP 3 #[.slice v.a v.len v.cap, .slice w.a w.len w.cap] L (.bool true) := by
  refine Reads.of (args := [.slice v.a v.len v.cap, .slice w.a w.len w.cap]) noNum mixed Try.func3 (e3 v w _) ?_
  unfold t3
  have hla := ha.len
  have hlb := hb.len
  refine ifD_of (fun (h1 : (v.len : Int) > 1000) => cl_rd (sums_rd L) (true, ()) rfl (.of ⟨rfl, rfl⟩)) (fun (h1 : ¬ (v.len : Int) > 1000) => ?_)
  refine ifD_of (fun (h2 : (w.len : Int) > 1000) => cl_rd (sums_rd L) (true, ()) rfl (.of ⟨rfl, rfl⟩)) (fun (h2 : ¬ (w.len : Int) > 1000) => ?_)
  refine nw_of fun n hs => ?_
  have own0 : Own ⟨some ⟨n, 0, none⟩, 0, 0⟩ 1 5 [] [(n, Obj.cells #[] 5)] := ⟨rfl, Nat.le_refl _, .inr ⟨n, 0, #[], (0, 0), rfl, rfl, by simp, .inl (Nat.le_refl _), by simp⟩⟩
  refine append_own (R := L) elem22 (.inl ⟨_, und22⟩) own0 (.sl (ha.right (R := [(n, Obj.cells #[] 5)]))) (bvs_plain _) (by simp only; omega) fun v1 seg1 hv1 own1 => ?_
  refine append_own (R := L) elem22 (.inl ⟨_, und22⟩) own1 (.sl (hb.right (R := seg1))) (bvs_plain _) (by simp only at hv1; omega) fun v2 seg2 hv2 own2 => ?_
  have hall : BSl (seg2 ++ L) v2 (a ++ b) := by
    have := Sl.left (R := L) own2.sl
    simpa [BSl, bvs_append] using this
  have ha' : BSl (seg2 ++ L) v a := ha.right
  have hb' : BSl (seg2 ++ L) w b := hb.right
  have hl2 : (a ++ b).length ≤ 1000000 := by rw [List.length_append]; omega
  obtain ⟨q, hq⟩ : ∃ q, q = crcSum (a ++ b) := ⟨_, rfl⟩
  have hr : 0 ≤ q ∧ q < 4294967296 := by rw [hq]; exact crcMore_range 0 (a ++ b)
  have hj : crcMore (crcSum a) b = q := by rw [hq]; exact crcMore_join a b
  refine cl_rd (sum_rd _ v2 (a ++ b) hall hl2) (q, ()) (congrArg (Value.int .i64) hq.symm) ?_
  refine cl_rd (sum_rd _ v a ha' (by omega)) (crcSum a, ()) rfl ?_
  refine cl_rd (more_rd _ w b hb' (by omega) (crcSum a)) (crcMore (crcSum a) b, ()) rfl (ifEq hj ?_)
  refine ifP (show q ≥ 0 from hr.1) (ifP (show q < 4294967296 from hr.2) ?_)
  refine cl_rd (sum_rd _ v a ha' (by omega)) (crcSum a, ()) rfl (cl_rd (sum_rd _ v a ha' (by omega)) (crcSum a, ()) rfl ?_)
  refine cl_rd (more_rd _ ⟨none, 0, 0⟩ [] (Sl.nil 1) (by decide) (crcSum a)) (crcMore (crcSum a) [], ()) rfl (ifEq ?_ ?_)
  · exact ((crcMore_join a []).trans (by rw [List.append_nil])).symm
  exact cl_rd (sums_rd _) (true, ()) rfl (.drop (A := L) (J := seg2) ⟨rfl, rfl⟩ List.perm_append_comm)

/-! ### three lists -/
theorem xor_i64 (a b : BitVec 32) : bitI .xor .i64 (a.toNat : Int) (b.toNat : Int) = ((a ^^^ b).toNat : Int) := by
  have h1 := a.isLt
  have h2 := b.isLt
  have h3 := (a ^^^ b).isLt
  have h4 : bitI .xor .i64 (a.toNat : Int) (b.toNat : Int) = IntKind.i64.wrap ((BitVec.ofInt 64 (a.toNat : Int) ^^^ BitVec.ofInt 64 (b.toNat : Int)).toNat : Int) := rfl
  have e1 : ((a.toNat : Int) % ((2 ^ 64 : Nat) : Int)).toNat = a.toNat := by omega
  have e2 : ((b.toNat : Int) % ((2 ^ 64 : Nat) : Int)).toNat = b.toNat := by omega
  rw [h4, BitVec.toNat_xor, BitVec.toNat_ofInt, BitVec.toNat_ofInt, e1, e2, ← BitVec.toNat_xor, w64_id (by omega) (by omega)]
theorem sum_three (a b c : List UInt8) (n : Nat) (ha : n ≤ a.length) (hb : n ≤ b.length) (hc : n ≤ c.length) :
    crcSum (xor3 a b c n) = bitI .xor .i64 (bitI .xor .i64 (crcSum (a.take n)) (crcSum (b.take n))) (crcSum (c.take n)) := by
  unfold crcSum crcMore
  rw [xor_i64, xor_i64]
  have h0 : ~~~ low32 0 = (~~~ low32 0) ^^^ (~~~ low32 0) ^^^ (~~~ low32 0) := by decide
  conv => lhs; rw [h0, crcSteps_three _ _ _ a b c n ha hb hc]
  congr 2
  apply BitVec.eq_of_getLsbD_eq
  intro i hi
  simp only [BitVec.getLsbD_xor, BitVec.getLsbD_not, hi, decide_true, Bool.true_and]
  generalize (crcSteps (~~~ low32 0) (a.take n)).getLsbD i = p
  generalize (crcSteps (~~~ low32 0) (b.take n)).getLsbD i = q
  generalize (crcSteps (~~~ low32 0) (c.take n)).getLsbD i = r
  cases p <;> cases q <;> cases r <;> rfl
theorem xor_u8 (a b : UInt8) : bitI .xor .u8 (a.toNat : Int) (b.toNat : Int) = ((a ^^^ b).toNat : Int) := by
  rw [xor8, BitVec.toNat_xor, BitVec.toNat_ofInt, BitVec.toNat_ofInt, UInt8.toNat_xor]
  have h1 := a.toNat_lt
  have h2 := b.toNat_lt
  have e1 : ((a.toNat : Int) % ((2 ^ 8 : Nat) : Int)).toNat = a.toNat := by omega
  have e2 : ((b.toNat : Int) % ((2 ^ 8 : Nat) : Int)).toNat = b.toNat := by omega
  rw [e1, e2]
theorem imin3 (x y z : Nat) : imin (imin (x : Int) y) z = ((min (min x y) z : Nat) : Int) := by
  unfold imin; split <;> split <;> omega
theorem law_CrcThree (L : HList) (u v w : SlV) (a b c : List UInt8) (ha : BSl L u a) (hb : BSl L v b) (hc : BSl L w c) :
    Reads PP 4 #[.slice u.a u.len u.cap, .slice v.a v.len v.cap, .slice w.a w.len w.cap] L (.bool true) := by
  refine Reads.of (args := [.slice u.a u.len u.cap, .slice v.a v.len v.cap, .slice w.a w.len w.cap]) noNum mixed Try.func4 (e4 u v w _) ?_
  unfold t4
  have hla := ha.len
  have hlb := hb.len
  have hlc := hc.len
  obtain ⟨n, hn⟩ : ∃ n, n = min (min u.len v.len) w.len := ⟨_, rfl⟩
  simp only [imin3]
  rw [← hn]
  have hna : n ≤ a.length := by omega
  have hnb : n ≤ b.length := by omega
  have hnc : n ≤ c.length := by omega
  refine ifD_of (fun (h1 : (n : Int) > 500) => cl_rd (sums_rd L) (true, ()) rfl (.of ⟨rfl, rfl⟩)) (fun (h1 : ¬ (n : Int) > 500) => ?_)
  refine lp_of (fun k z L' => ∃ i x seg J, i ≤ n ∧ k = n - i ∧ z = (x, (i : Int), ()) ∧ L' = J ++ seg ++ L ∧ Own x 1 5 (bvs (xor3 a b c i)) seg) n
    ⟨0, ⟨none, 0, 0⟩, [], [], by omega, by omega, rfl, rfl, ⟨rfl, Nat.le_refl _, .inl ⟨rfl, rfl, rfl⟩⟩⟩ ?_
  rintro k z L' ⟨i, x, seg, J, hi, rfl, rfl, rfl, own⟩
  have ha' : BSl (J ++ seg ++ L) u a := ha.right
  have hb' : BSl (J ++ seg ++ L) v b := hb.right
  have hc' : BSl (J ++ seg ++ L) w c := hc.right
  refine ifD_of (fun (hlt : (i : Int) < n) => ?_) (fun (hge : ¬ (i : Int) < n) => ?_)
  · have hia : i < a.length := by omega
    have hib : i < b.length := by omega
    have hic : i < c.length := by omega
    obtain ⟨ada, hada⟩ := ha'.some hia
    obtain ⟨adb, hadb⟩ := hb'.some hib
    obtain ⟨adc, hadc⟩ := hc'.some hic
    have h0 : (0 : Int) ≤ i := by omega
    refine nilc_of hada (ixn_of h0 (show (i : Int) < u.len by omega) (nilc_of hadb (ixn_of h0 (show (i : Int) < v.len by omega) (nilc_of hadc (ixn_of h0 (show (i : Int) < w.len by omega) ?_)))))
    refine ld_of (a[i].toNat : Int) (ha'.rd hia hada _ (by simp)) (ld_of (b[i].toNat : Int) (hb'.rd hib hadb _ (by simp)) (ld_of (c[i].toNat : Int) (hc'.rd hic hadc _ (by simp)) ?_))
    simp only [xor_u8]
    refine nw_of fun m hs => ?_
    have hlx : x.len = i := by
      have := own.len
      rw [bvs_length] at this
      simp [xor3] at this
      exact this
    refine append_in elem22 (.inl ⟨_, und22⟩) ((m, Obj.cells #[.int .u8 ((a[i] ^^^ b[i] ^^^ c[i]).toNat : Int)] 5) :: J) L own rfl (.sl (constB (l := [a[i] ^^^ b[i] ^^^ c[i]]) 1 (Nat.le_refl _) List.mem_cons_self)) (bvs_plain _)
      (by simp only [List.length_cons, List.length_nil]; omega) fun v' seg' hv' own' => ?_
    refine ⟨n - (i + 1), by omega, i + 1, v', seg', (m, Obj.cells #[.int .u8 ((a[i] ^^^ b[i] ^^^ c[i]).toNat : Int)] 5) :: J, by omega, rfl, ?_, rfl, ?_⟩
    · rw [w64_id (by omega) (by omega)]
      rfl
    · rw [xor3_succ, bvs_append]
      simpa [List.getD_eq_getElem?_getD, hia, hib, hic] using own'
  · obtain rfl : i = n := by omega
    have hx : BSl (J ++ seg ++ L) x (xor3 a b c i) := own.sl.right.left
    have hxl : (xor3 a b c i).length = i := by simp [xor3]
    have cut : ∀ (v : SlV) (l : List UInt8), BSl (J ++ seg ++ L) v l → i ≤ l.length → BSl (J ++ seg ++ L) (slcV v (0 : Nat) i v.cap 1) (l.take i) := by
      intro v l h hil
      have h1 := Sl.slc (l := 0) (h' := i) (m := v.cap) h (by omega) (by omega) (by have := h.len; omega) (by have := h.len; have := h.cap; omega)
      rw [bvs_slc] at h1
      simpa using h1
    refine slc_of (l' := 0) (h' := i) (m' := u.cap) rfl rfl rfl (by omega) (by have := ha.cap; omega) (Nat.le_refl _) ?_
    refine slc_of (l' := 0) (h' := i) (m' := v.cap) rfl rfl rfl (by omega) (by have := hb.cap; omega) (Nat.le_refl _) ?_
    refine slc_of (l' := 0) (h' := i) (m' := w.cap) rfl rfl rfl (by omega) (by have := hc.cap; omega) (Nat.le_refl _) ?_
    have hlt : ∀ l : List UInt8, (l.take i).length ≤ 1000000 := fun l => by rw [List.length_take]; omega
    refine cl_rd (sum_rd _ x _ hx (by omega)) (crcSum (xor3 a b c i), ()) rfl ?_
    refine cl_rd (sum_rd _ _ _ (cut u a ha' hna) (hlt a)) (crcSum (a.take i), ()) rfl (cl_rd (sum_rd _ _ _ (cut v b hb' hnb) (hlt b)) (crcSum (b.take i), ()) rfl (cl_rd (sum_rd _ _ _ (cut w c hc' hnc) (hlt c)) (crcSum (c.take i), ()) rfl ?_))
    refine ifEq (sum_three a b c i hna hnb hnc) ?_
    exact cl_rd (sums_rd _) (true, ()) rfl (.drop (A := L) (J := J ++ seg) ⟨rfl, rfl⟩ List.perm_append_comm)
end Go.Proofs.Ytnhpojbjkfgeoaa
