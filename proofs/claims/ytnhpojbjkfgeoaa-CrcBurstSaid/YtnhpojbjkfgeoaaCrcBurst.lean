/-
  It is proved that the law about bursts of the layer crc returns true for every input. There are no further conditions than those that each theorem names.
-/
import Derived.Test.YtnhpojbjkfgeoaaCrcLaws
set_option linter.unusedVariables false
set_option linter.unusedSimpArgs false
namespace Go.Proofs.Ytnhpojbjkfgeoaa
open Go.HL

theorem sum_ne {cb b : List UInt8} {N : Nat} {M : BitVec 32} (h : crcSteps (~~~ low32 0) cb = crcSteps (~~~ low32 0) b ^^^ crcBits N M) : crcSum cb = crcSum b ↔ M = 0#32 := by
  unfold crcSum crcMore
  rw [h]
  generalize crcSteps (~~~ low32 0) b = s
  constructor
  · intro e
    have e1 : ~~~ (s ^^^ crcBits N M) = ~~~ s := BitVec.eq_of_toNat_eq (by omega)
    have e2 : s ^^^ crcBits N M = s := by
      have := congrArg (fun x => ~~~ x) e1
      simpa only [BitVec.not_not] using this
    exact crcBits_zero N M ((xor_ne s _).1 e2)
  · rintro rfl
    rw [crcBits_of_zero, BitVec.xor_zero]
theorem mask_bit (m : BitVec 32) (i : Nat) (hi : i < 32) : bitI .and .u32 (Int.fdiv (m.toNat : Int) (2 ^ (min (IntKind.u64.wrap (i : Int)).toNat IntKind.u32.bits))) 1 = if m.getLsbD i then 1 else 0 := by
  rw [wu64_id (by omega) (by omega), Int.toNat_natCast, shr32, and32, bv_nat, show BitVec.ofInt 32 1 = 1#32 from rfl, and_one, BitVec.getLsbD_ushiftRight, Nat.add_zero]
  cases m.getLsbD i <;> rfl
theorem flip_int (x : UInt8) (r : Nat) (hr : r < 8) : bitI .xor .u8 (x.toNat : Int) (IntKind.u8.wrap (1 * 2 ^ (min (IntKind.u64.wrap (r : Int)).toNat IntKind.u8.bits))) = ((flipB x r).toNat : Int) := by
  have h : IntKind.u8.wrap (1 * 2 ^ (min (IntKind.u64.wrap (r : Int)).toNat IntKind.u8.bits)) = ((UInt8.ofNat (2 ^ r)).toNat : Int) := by
    rw [wu64_id (by omega) (by omega), Int.toNat_natCast]
    have : ∀ r : Fin 8, IntKind.u8.wrap (1 * 2 ^ (min r.val IntKind.u8.bits)) = ((UInt8.ofNat (2 ^ r.val)).toNat : Int) := by decide +kernel
    exact this ⟨r, hr⟩
  rw [h, xor_u8]
  rfl
theorem from_nat (x : Int) (N : Nat) (hN : 0 < N) (h2 : N ≤ 1600) : ∃ f : Nat, f < N ∧ Int.tmod (IntKind.i64.wrap (Int.tmod x (N : Int) + N)) (N : Int) = f := by
  have h1 : Int.tmod x (N : Int) < N := Int.tmod_lt_of_pos _ (by omega)
  have h3 : -(N : Int) < Int.tmod x (N : Int) := by
    rcases Int.lt_or_le x 0 with hx | hx
    · have h4 : Int.tmod x (N : Int) = -(Int.tmod (-x) N) := by rw [Int.neg_tmod, Int.neg_neg]
      have h5 : Int.tmod (-x) (N : Int) < N := Int.tmod_lt_of_pos _ (by omega)
      omega
    · have := Int.tmod_nonneg (N : Int) hx
      omega
  rw [w64_id (by omega) (by omega)]
  have h6 := Int.tmod_nonneg (N : Int) (show 0 ≤ Int.tmod x (N : Int) + N by omega)
  have h7 : Int.tmod (Int.tmod x (N : Int) + N) (N : Int) < N := Int.tmod_lt_of_pos _ (by omega)
  exact ⟨(Int.tmod (Int.tmod x (N : Int) + N) (N : Int)).toNat, by omega, by omega⟩

/-- What comes behind the loop. -/
theorem burst_end (L : HList) (v : SlV) (b : List UInt8) (hb : BSl L v b) (c : SlV) (cb : List UInt8) (seg : HList) (own : Own c 1 5 (bvs cb) seg) (h1 : b.length ≤ 1000000) (h2 : cb.length ≤ 1000000) (N f : Nat) (M s : BitVec 32) (hs : s = ~~~ low32 0)
    (hx : crcSteps s cb = crcSteps s b ^^^ crcBits (N - f) M) {K : Value → HP} {k : RsV [.lf .bool, .lf (.int .i64)]} (hk : k.1 = decide (M ≠ 0#32)) (hK : K (.bool true) (seg ++ L)) :
    (cl PP 16 #[.slice c.a c.len c.cap] [.lf (.int .i64)] fun r3 =>
     cl PP 16 #[.slice v.a v.len v.cap] [.lf (.int .i64)] fun r4 =>
     ifB (((r3.1 : Int) != r4.1) == k.1) (
      cl PP 16 #[.slice v.a v.len v.cap] [.lf (.int .i64)] fun r5 =>
      cl PP 18 #[.slice c.a c.len c.cap, .int .i64 r5.1] [.lf .bool] fun r6 =>
      ifB (r6.1 == (!k.1)) (
       cl PP 15 #[] [.lf .bool] fun r7 =>
       K (.bool r7.1)) (
       K (.bool false))) (
      K (.bool false))) (seg ++ L) := by
  subst hs
  have key := sum_ne hx
  have hc' : BSl (seg ++ L) c cb := own.sl.left
  have hv' : BSl (seg ++ L) v b := hb.right
  obtain ⟨p, hp⟩ : ∃ p, p = crcSum cb := ⟨_, rfl⟩
  obtain ⟨q, hq⟩ : ∃ q, q = crcSum b := ⟨_, rfl⟩
  rw [← hp, ← hq] at key
  refine cl_rd (sum_rd _ c cb hc' h2) (p, ()) (congrArg (Value.int .i64) hp.symm) ?_
  refine cl_rd (sum_rd _ v b hv' h1) (q, ()) (congrArg (Value.int .i64) hq.symm) (ifT ?_ ?_)
  · rw [hk]
    by_cases hM : M = 0#32
    · have := key.2 hM
      simp [hM, this]
    · have : p ≠ q := fun e => hM (key.1 e)
      simp [hM, this]
  refine cl_rd (sum_rd _ v b hv' h1) (q, ()) (congrArg (Value.int .i64) hq.symm) ?_
  refine cl_rd (check_rd _ c cb hc' h2 q) (p == q, ()) (by rw [hp]; rfl) (ifT ?_ ?_)
  · rw [hk]
    by_cases hM : M = 0#32
    · have := key.2 hM
      simp [hM, this]
    · have : p ≠ q := fun e => hM (key.1 e)
      simp [hM, this]
  exact cl_rd (sums_rd _) (true, ()) rfl hK
theorem law_CrcBurst (L : HList) (v : SlV) (b : List UInt8) (hb : BSl L v b) (x : Int) (m : BitVec 32) :
    Reads PP 5 #[.slice v.a v.len v.cap, .int .i64 x, .int .u32 m.toNat] L (.bool true) := by
  refine Reads.of (args := [.slice v.a v.len v.cap, .int .i64 x, .int .u32 m.toNat]) noNum mixed Try.func5 (e5 v x m.toNat _) ?_
  unfold t5
  have hlb := hb.len
  refine ifE_of (fun (h1 : (v.len : Int) = 0) => cl_rd (sums_rd L) (true, ()) rfl (.of ⟨rfl, rfl⟩)) (fun (h1 : (v.len : Int) ≠ 0) => ?_)
  refine ifD_of (fun (h2 : (v.len : Int) > 200) => cl_rd (sums_rd L) (true, ()) rfl (.of ⟨rfl, rfl⟩)) (fun (h2 : ¬ (v.len : Int) > 200) => ?_)
  obtain ⟨N, hN⟩ : ∃ N, N = 8 * v.len := ⟨_, rfl⟩
  have hwN : IntKind.i64.wrap (8 * (v.len : Int)) = (N : Int) := by rw [w64_id (by omega) (by omega)]; omega
  obtain ⟨f, hf, hfe⟩ := from_nat x N (by omega) (by omega)
  simp only [hwN, hfe]
  refine req_of (by omega) (req_of (by omega) (nw_of fun n hs => ?_))
  have own0 : Own ⟨some ⟨n, 0, none⟩, 0, 0⟩ 1 5 [] [(n, Obj.cells #[] 5)] := ⟨rfl, Nat.le_refl _, .inr ⟨n, 0, #[], (0, 0), rfl, rfl, by simp, .inl (Nat.le_refl _), by simp⟩⟩
  refine append_own (R := L) elem22 (.inl ⟨_, und22⟩) own0 (.sl (hb.right (R := [(n, Obj.cells #[] 5)]))) (bvs_plain _) (by simp only; omega) fun c seg1 hc own1 => ?_
  have hcl : c.len = v.len := by simp only at hc; omega
  obtain ⟨s, hs⟩ : ∃ s, s = ~~~ low32 0 := ⟨_, rfl⟩
  refine lp_of (fun k z L' => ∃ i M cb seg, i ≤ 32 ∧ k = 32 - i ∧ f + i ≤ N ∧ z = (decide (M ≠ 0#32), (i : Int), ()) ∧ L' = seg ++ L ∧ cb.length = b.length ∧ Own c 1 5 (bvs cb) seg ∧
    (∀ j, i ≤ j → M.getLsbD j = false) ∧ crcSteps s cb = crcSteps s b ^^^ crcBits (N - f) M) 32
    ⟨0, 0#32, b, seg1, by omega, by omega, by omega, rfl, rfl, rfl, own1, by simp, by rw [crcBits_of_zero, BitVec.xor_zero]⟩ ?_
  rintro k z L' ⟨i, M, cb, seg, hi, rfl, hfi, rfl, rfl, hcb, own, hM, hx⟩
  have hwi : IntKind.i64.wrap ((f : Int) + i) = ((f + i : Nat) : Int) := by rw [w64_id (by omega) (by omega)]; omega
  refine ifD_of (fun (hlt : (i : Int) < 32) => ?_) (fun (hge : ¬ (i : Int) < 32) => ?_)
  · simp only [hwi]
    refine ifD_of (fun (hlt2 : ((f + i : Nat) : Int) < N) => ?_) (fun (hge2 : ¬ ((f + i : Nat) : Int) < N) => ?_)
    · have hi32 : i < 32 := by omega
      have hw1 : IntKind.i64.wrap ((i : Int) + 1) = ((i + 1 : Nat) : Int) := by rw [w64_id (by omega) (by omega)]; omega
      refine req_of (by rw [wu64_id (by omega) (by omega)]; omega) ?_
      simp only [mask_bit m i hi32]
      have hq : (f + i) / 8 < cb.length := by omega
      refine ifE_of (fun h4 => ?_) (fun h4 => ?_)
      · have hd : IntKind.i64.wrap (Int.tdiv ((f + i : Nat) : Int) 8) = (((f + i) / 8 : Nat) : Int) := by
          rw [Int.tdiv_eq_ediv_of_nonneg (by omega), w64_id (by omega) (by omega)]; omega
        have hmod : Int.tmod ((f + i : Nat) : Int) 8 = (((f + i) % 8 : Nat) : Int) := by
          rw [Int.tmod_eq_emod_of_nonneg (by omega)]; omega
        simp only [hd, hmod, Int.toNat_natCast, Nat.mul_one]
        have hsl : BSl (seg ++ L) c cb := own.sl.left
        obtain ⟨ad, ha⟩ := hsl.some hq
        refine req_of (by decide) (req_of (by decide) (nilc_of ha (ixn_of (by omega) (by omega) (ld_of (cb[(f + i) / 8].toNat : Int) (hsl.rd hq ha _ (by simp)) ?_))))
        refine req_of (by decide) (req_of (by rw [wu64_id (by omega) (by omega)]; omega) (nilc_of ha (ixn_of (by omega) (by omega) ?_)))
        simp only [flip_int _ _ (Nat.mod_lt (f + i) (show 8 > 0 by omega))]
        refine Own.st own [] L (p := (f + i) / 8) (by rw [bvs_length]; simp only [List.length_cons, List.length_nil]; omega) (by simp) ha rfl rfl fun seg' own' => ?_
        rw [putL_one (by rw [bvs_length]; omega), bvs_set] at own'
        have hb3 := burst_step N f i hi32 hfi M hM _ _ hx
        refine ⟨32 - (i + 1), by omega, i + 1, M ^^^ 1#32 <<< i, _, seg', by omega, rfl, by omega, ?_, rfl, ?_, own', hb3.1, ?_⟩
        · simp only [hw1, hb3.2.1, ne_eq, not_false_eq_true, decide_true]
        · rw [List.length_set, hcb]
        · rw [crcSteps_flip s cb (f + i) hq, ← hb3.2.2, hcb, ← hlb, ← hN]
      · refine ⟨32 - (i + 1), by omega, i + 1, M, cb, seg, by omega, rfl, by omega, ?_, rfl, hcb, own, fun j hj => hM j (by omega), hx⟩
        simp only [hw1]
    · exact burst_end L v b hb c cb seg own (by omega) (by omega) N f M s hs hx (k := (decide (M ≠ 0#32), (i : Int), ())) rfl (.drop (A := L) (J := seg) ⟨rfl, rfl⟩ List.perm_append_comm)
  · exact burst_end L v b hb c cb seg own (by omega) (by omega) N f M s hs hx (k := (decide (M ≠ 0#32), (i : Int), ())) rfl (.drop (A := L) (J := seg) ⟨rfl, rfl⟩ List.perm_append_comm)

theorem row_CrcSums (W : World) (a0 : Int) (w0 : intWf .i64 a0) (a1 : Int) (w1 : intWf .u8 a1) (a2 : SlV) (l2 : List UInt8) (w2 : SlOk W (fun b => [bv b]) (fun _ => True) 1 (a2, l2)) :
    Reads PP 6 #[.int .i64 a0, .int .u8 a1, .slice a2.a a2.len a2.cap] (allB W) (.bool true) := by
  obtain ⟨c, rfl⟩ := wf_u8 w1
  exact law_CrcSums _ a0 c a2 l2 w2.bytes
theorem row_CrcJoins (W : World) (a0 : SlV) (l0 : List UInt8) (w0 : SlOk W (fun b => [bv b]) (fun _ => True) 1 (a0, l0)) (a1 : SlV) (l1 : List UInt8) (w1 : SlOk W (fun b => [bv b]) (fun _ => True) 1 (a1, l1)) :
    Reads PP 3 #[.slice a0.a a0.len a0.cap, .slice a1.a a1.len a1.cap] (allB W) (.bool true) :=
  law_CrcJoins _ a0 a1 l0 l1 w0.bytes w1.bytes
theorem row_CrcThree (W : World) (a0 : SlV) (l0 : List UInt8) (w0 : SlOk W (fun b => [bv b]) (fun _ => True) 1 (a0, l0)) (a1 : SlV) (l1 : List UInt8) (w1 : SlOk W (fun b => [bv b]) (fun _ => True) 1 (a1, l1))
    (a2 : SlV) (l2 : List UInt8) (w2 : SlOk W (fun b => [bv b]) (fun _ => True) 1 (a2, l2)) :
    Reads PP 4 #[.slice a0.a a0.len a0.cap, .slice a1.a a1.len a1.cap, .slice a2.a a2.len a2.cap] (allB W) (.bool true) :=
  law_CrcThree _ a0 a1 a2 l0 l1 l2 w0.bytes w1.bytes w2.bytes
theorem row_CrcBurst (W : World) (a0 : SlV) (l0 : List UInt8) (w0 : SlOk W (fun b => [bv b]) (fun _ => True) 1 (a0, l0)) (a1 : Int) (w1 : intWf .i64 a1) (a2 : Int) (w2 : intWf .u32 a2) :
    Reads PP 5 #[.slice a0.a a0.len a0.cap, .int .i64 a1, .int .u32 a2] (allB W) (.bool true) := by
  obtain ⟨m, rfl⟩ := wf_u32 w2
  exact law_CrcBurst _ a0 l0 w0.bytes a1 m
end Go.Proofs.Ytnhpojbjkfgeoaa
