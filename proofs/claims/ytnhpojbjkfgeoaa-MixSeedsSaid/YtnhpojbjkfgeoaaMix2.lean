/-
  It is proved what the functions of the layer mix and of its document's answer compute: hash, set, part and the example. There are no further conditions than those that each theorem names.
-/
import Derived.Test.YtnhpojbjkfgeoaaMix
set_option linter.unusedVariables false
set_option linter.unusedSimpArgs false
namespace Go.Proofs.Ytnhpojbjkfgeoaa
open Go.HL

theorem byteAt_of (s : ByteArray) (i : Nat) (h : i < s.data.toList.length) : byteAt s (i : Int) = ((s.data.toList[i]).toNat : Int) := by
  unfold byteAt
  rw [Int.toNat_natCast]
  have h2 : i < s.size := by have : i < s.data.size := by simpa using h
                             exact this
  simp [Array.getD, h2]
theorem size_list (s : ByteArray) : s.data.toList.length = s.size := by rw [Array.length_toList]; rfl
theorem mhash_rd (L : HList) (seed : Int) (s : ByteArray) (hb : s.size ≤ 1000000) : Reads PP 28 #[.int .i64 seed, .string s] L (.int .u64 (mixHash seed s.data.toList).toNat) := by
  refine Reads.of (args := [.int .i64 seed, .string s]) noNum mixed Try.func28 (e28 seed s _) ?_
  unfold t28
  refine s2b_of fun n ob v hv own hs => ?_
  have hl := size_list s
  simp only [xor64, w64u_bv, bv_nat]
  refine cl_rd (msteps_rd _ v s.data.toList (Own.sl own).head (by omega) _) (_, ()) rfl (req_of (by decide) ?_)
  refine .drop (A := L) (J := [_]) ⟨?_, rfl⟩ (List.perm_append_comm (l₁ := [_]))
  simp only [BitVec.ofInt_mul, bv_nat, shr64]
  unfold mixHash fold64
  rw [hl]
  rfl
theorem rhash_rd (L : HList) (seed : Int) (s : ByteArray) (hb : s.size ≤ 1000000) : Reads PP 29 #[.int .i64 seed, .string s] L (.int .u64 (mixHash seed s.data.toList).toNat) := by
  refine Reads.of (args := [.int .i64 seed, .string s]) noNum mixed Try.func29 (e29 seed s _) ?_
  unfold t29
  have hl := size_list s
  refine lp_of (fun k z L' => L' = L ∧ ∃ i, i ≤ s.size ∧ k = s.size - i ∧ z = (((mixSteps (BitVec.ofInt 64 seed ^^^ 11400714819323198485#64) (s.data.toList.take i)).toNat : Int), (i : Int), ())) s.size ⟨rfl, 0, by omega, by omega, ?_⟩ ?_
  · simp only [xor64, w64u_bv, bv_nat]
    rfl
  rintro k z L ⟨rfl, i, hi, rfl, rfl⟩
  refine ifD_of (fun (hlt : (i : Int) < s.size) => ?_) (fun (hge : ¬ (i : Int) < s.size) => ?_)
  · have hlt' : i < s.data.toList.length := by omega
    refine ixn_of (show (0 : Int) ≤ i by omega) hlt ?_
    simp only [byteAt_of s i hlt']
    refine cl_rd (rstep_rd _ _ _) (_, ()) rfl ⟨s.size - (i + 1), by omega, rfl, i + 1, by omega, rfl, ?_⟩
    rw [w64_id (by omega) (by omega), List.take_succ_eq_append_getElem hlt', mixSteps_snoc]
    rfl
  · obtain rfl : i = s.size := by omega
    simp only [BitVec.ofInt_mul, bv_nat, xor64, w64u_bv]
    refine cl_rd (fold_rd _ _ 32) (_, ()) rfl (.of ⟨?_, rfl⟩)
    rw [← hl, List.take_length]
    rfl

theorem set_val (h : BitVec 64) (sets : Int) (h1 : ¬ sets < 1) (h2 : sets ≤ 9223372036854775807) : IntKind.u64.wrap sets ≠ 0 ∧ IntKind.i64.wrap (Int.tmod h.toNat (IntKind.u64.wrap sets)) = mixSet h sets := by
  rw [wu64_id (by omega) (by omega)]
  have h3 := u64_lt h
  rw [Int.tmod_eq_emod_of_nonneg (by omega)]
  have h4 := Int.emod_lt_of_pos (h.toNat : Int) (show 0 < sets by omega)
  have h5 := Int.emod_nonneg (h.toNat : Int) (show sets ≠ 0 by omega)
  refine ⟨by omega, ?_⟩
  rw [w64_id (by omega) (by omega)]
  unfold mixSet
  rw [if_neg h1]
theorem mset_rd (L : HList) (h : BitVec 64) (sets : Int) (h2 : sets ≤ 9223372036854775807) : Reads PP 30 #[.int .u64 h.toNat, .int .i64 sets] L (.int .i64 (mixSet h sets)) := by
  refine Reads.of (args := [.int .u64 h.toNat, .int .i64 sets]) noNum mixed Try.func30 (e30 h.toNat sets _) ?_
  unfold t30
  refine ifD_of (fun (h1 : sets < 1) => .of ⟨?_, rfl⟩) (fun (h1 : ¬ sets < 1) => req_of (set_val h sets h1 h2).1 (.of ⟨?_, rfl⟩))
  · unfold mixSet; rw [if_pos h1]
  · rw [(set_val h sets h1 h2).2]
theorem rset_rd (L : HList) (h : BitVec 64) (sets : Int) (h2 : sets ≤ 9223372036854775807) : Reads PP 31 #[.int .u64 h.toNat, .int .i64 sets] L (.int .i64 (mixSet h sets)) := by
  refine Reads.of (args := [.int .u64 h.toNat, .int .i64 sets]) noNum mixed Try.func31 (e31 h.toNat sets _) ?_
  unfold t31
  refine ifD_of (fun (h1 : sets < 1) => .of ⟨?_, rfl⟩) (fun (h1 : ¬ sets < 1) => req_of (set_val h sets h1 h2).1 (.of ⟨?_, rfl⟩))
  · unfold mixSet; rw [if_pos h1]
  · rw [(set_val h sets h1 h2).2]
theorem mpart_rd (L : HList) (h : BitVec 64) : Reads PP 32 #[.int .u64 h.toNat] L (.int .i64 (mixPart h)) := by
  refine Reads.of (args := [.int .u64 h.toNat]) noNum mixed Try.func32 (e32 h.toNat _) ?_
  unfold t32
  refine req_of (by decide) (.of ⟨?_, rfl⟩)
  have h3 := h.isLt
  rw [shr64, show Int.toNat 48 = 48 from rfl, BitVec.toNat_ushiftRight, Nat.shiftRight_eq_div_pow]
  rw [w64_id (by omega) (by omega)]
  rfl
theorem rpart_rd (L : HList) (h : BitVec 64) : Reads PP 33 #[.int .u64 h.toNat] L (.int .i64 (mixPart h)) := by
  refine Reads.of (args := [.int .u64 h.toNat]) noNum mixed Try.func33 (e33 h.toNat _) ?_
  unfold t33
  refine req_of (by decide) (.of ⟨?_, rfl⟩)
  have h3 := h.isLt
  rw [Int.tdiv_eq_ediv_of_nonneg (by omega), wu64_id (by omega) (by omega), w64_id (by omega) (by omega)]
  unfold mixPart
  rw [Int.natCast_ediv]
  rfl

theorem mixes_rd (L : HList) : Reads PP 23 #[] L (.bool true) := by
  refine Reads.of (args := []) noNum mixed Try.func23 (e23 _) ?_
  unfold t23
  refine cl_rd (mstep_rd L 0#64 1) ((1099511630259 : Int), ()) (by congr 1) (ifT rfl ?_)
  refine cl_rd (mundo_rd L 1099511630259#64 1) ((0 : Int), ()) (by congr 1) (ifT rfl ?_)
  refine cl_rd (mset_rd L 7#64 4 (by decide)) ((3 : Int), ()) (by congr 1) (ifT rfl ?_)
  refine cl_rd (mset_rd L 7#64 0 (by decide)) ((0 : Int), ()) (by congr 1) (ifT rfl ?_)
  refine cl_rd (mpart_rd L 281474976710656#64) ((1 : Int), ()) (by congr 1) (ifT rfl ?_)
  refine cl_rd (mhash_rd L 1 ⟨#[97]⟩ (by decide)) (_, ()) rfl ?_
  refine cl_rd (mhash_rd L 2 ⟨#[97]⟩ (by decide)) (_, ()) rfl ?_
  refine .of ⟨?_, rfl⟩
  congr 1
end Go.Proofs.Ytnhpojbjkfgeoaa
