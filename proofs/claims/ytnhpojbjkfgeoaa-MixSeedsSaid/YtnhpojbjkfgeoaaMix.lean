/-
  It is proved what the functions of the layer mix and of its document's answer compute. There are no further conditions than those that each theorem names.
-/
import Derived.Test.YtnhpojbjkfgeoaaHL17
import Derived.Test.YtnhpojbjkfgeoaaT
set_option linter.unusedVariables false
set_option linter.unusedSimpArgs false
namespace Go.Proofs.Ytnhpojbjkfgeoaa
open Go.HL

/-! ### the mixing of a byte -/
def fold64 (h : BitVec 64) (k : Nat) : BitVec 64 := h ^^^ h >>> k
def mixStep (h : BitVec 64) (c : UInt8) : BitVec 64 := fold64 ((h ^^^ BitVec.ofNat 64 c.toNat) * 1099511628211#64) 29
def mixSteps (h : BitVec 64) (l : List UInt8) : BitVec 64 := l.foldl mixStep h
def unfold29 (h : BitVec 64) : BitVec 64 := h ^^^ (h >>> 29 ^^^ h >>> 58)
def mixInv : BitVec 64 := 14886173955864302971#64
def mixUndo (h : BitVec 64) (c : UInt8) : BitVec 64 := unfold29 h * mixInv ^^^ BitVec.ofNat 64 c.toNat
def mixHash (seed : Int) (l : List UInt8) : BitVec 64 := fold64 ((mixSteps (BitVec.ofInt 64 seed ^^^ 11400714819323198485#64) l ^^^ BitVec.ofNat 64 l.length) * 11400714819323198485#64) 32
def mixSet (h : BitVec 64) (sets : Int) : Int := if sets < 1 then 0 else (h.toNat : Int) % sets
def mixPart (h : BitVec 64) : Int := ((h.toNat / 281474976710656 : Nat) : Int)

theorem mixSteps_snoc (c : BitVec 64) (l : List UInt8) (b : UInt8) : mixSteps c (l ++ [b]) = mixStep (mixSteps c l) b := by simp [mixSteps]
theorem unfold_fold (h : BitVec 64) : unfold29 (fold64 h 29) = h := by
  unfold unfold29 fold64
  rw [BitVec.ushiftRight_xor_distrib, BitVec.ushiftRight_xor_distrib, ← BitVec.shiftRight_add, ← BitVec.shiftRight_add]
  apply BitVec.eq_of_getLsbD_eq
  intro i hi
  have h0 : h.getLsbD (87 + i) = false := BitVec.getLsbD_of_ge _ _ (by omega)
  simp only [BitVec.getLsbD_xor, BitVec.getLsbD_ushiftRight, h0, Nat.reduceAdd]
  cases h.getLsbD i <;> cases h.getLsbD (29 + i) <;> cases h.getLsbD (58 + i) <;> rfl
theorem fold_unfold (h : BitVec 64) : fold64 (unfold29 h) 29 = h := by
  unfold unfold29 fold64
  rw [BitVec.ushiftRight_xor_distrib, BitVec.ushiftRight_xor_distrib, ← BitVec.shiftRight_add, ← BitVec.shiftRight_add]
  apply BitVec.eq_of_getLsbD_eq
  intro i hi
  have h0 : h.getLsbD (87 + i) = false := BitVec.getLsbD_of_ge _ _ (by omega)
  simp only [BitVec.getLsbD_xor, BitVec.getLsbD_ushiftRight, h0, Nat.reduceAdd]
  cases h.getLsbD i <;> cases h.getLsbD (29 + i) <;> cases h.getLsbD (58 + i) <;> rfl
theorem inv_mul : 1099511628211#64 * mixInv = 1#64 := by decide +kernel
theorem xor_back (a b : BitVec 64) : a ^^^ b ^^^ b = a := by rw [BitVec.xor_assoc, BitVec.xor_self, BitVec.xor_zero]
theorem undo_step (h : BitVec 64) (c : UInt8) : mixUndo (mixStep h c) c = h := by
  unfold mixUndo mixStep
  rw [unfold_fold, BitVec.mul_assoc, inv_mul, BitVec.mul_one, xor_back]
theorem step_undo (h : BitVec 64) (c : UInt8) : mixStep (mixUndo h c) c = h := by
  unfold mixUndo mixStep
  rw [xor_back, BitVec.mul_assoc, BitVec.mul_comm mixInv, inv_mul, BitVec.mul_one, fold_unfold]

/-! ### the walks -/
theorem msteps_rd (L : HList) (v : SlV) (l : List UInt8) (h : BSl L v l) (hb : l.length ≤ 1000000) (c : BitVec 64) : Reads PP 55 #[.int .u64 c.toNat, .slice v.a v.len v.cap] L (.int .u64 (mixSteps c l).toNat) := by
  refine Reads.of (args := [.int .u64 c.toNat, .slice v.a v.len v.cap]) noNum mixed Try.func55 (e55 c.toNat v _) ?_
  unfold t55
  have hlen := h.len
  refine lp_of (fun k z L' => L' = L ∧ ∃ i, i ≤ l.length ∧ k = l.length - i ∧ z = (((mixSteps c (l.take i)).toNat : Int), (i : Int), ())) l.length ⟨rfl, 0, by omega, by omega, rfl⟩ ?_
  rintro k z L ⟨rfl, i, hi, rfl, rfl⟩
  refine ifD_of (fun (hlt : (i : Int) < v.len) => ?_) (fun (hge : ¬ (i : Int) < v.len) => ?_)
  · have hlt' : i < l.length := by omega
    obtain ⟨ad, ha⟩ := h.some hlt'
    refine nilc_of ha (ixn_of (show (0 : Int) ≤ i by omega) hlt (ld_of (l[i].toNat : Int) (h.rd hlt' ha _ (by simp)) ?_))
    refine req_of (by decide) ⟨l.length - (i + 1), by omega, rfl, i + 1, by omega, rfl, ?_⟩
    rw [w64_id (by simp only; omega) (by simp only; omega), List.take_succ_eq_append_getElem hlt', mixSteps_snoc]
    simp only [w64u_bv, BitVec.ofInt_mul, bv_nat, xor64, shr64, ofInt_u8]
    rfl
  · refine .of ⟨?_, rfl⟩
    obtain rfl : i = l.length := by omega
    rw [List.take_length]

theorem mstep_rd (L : HList) (h : BitVec 64) (c : UInt8) : Reads PP 24 #[.int .u64 h.toNat, .int .u8 c.toNat] L (.int .u64 (mixStep h c).toNat) := by
  refine Reads.of (args := [.int .u64 h.toNat, .int .u8 c.toNat]) noNum mixed Try.func24 (e24 h.toNat c.toNat _) ?_
  unfold t24
  refine nw_of fun n hs => ?_
  refine cl_rd (msteps_rd _ ⟨some ⟨n, 0, none⟩, 1, 1⟩ [c] ⟨rfl, Nat.le_refl _, .inr ⟨_, rfl, .blk List.mem_cons_self ?_⟩⟩ (by simp) h) (((mixStep h c).toNat : Int), ()) rfl ?_
  · intro i v hv
    cases i with
    | zero => simpa [bvs, bv] using hv
    | succ i => simp [bvs] at hv
  · exact .drop (A := L) (J := [_]) ⟨rfl, rfl⟩ (List.perm_append_comm (l₁ := [_]))

theorem fold_rd (L : HList) (h : BitVec 64) (k : Nat) : Reads PP 56 #[.int .u64 h.toNat, .int .u64 k] L (.int .u64 (fold64 h k).toNat) := by
  refine Reads.of (args := [.int .u64 h.toNat, .int .u64 k]) noNum mixed Try.func56 (e56 h.toNat k _) ?_
  unfold t56
  refine req_of (by omega) (.of ⟨?_, rfl⟩)
  simp only [xor64, Int.toNat_natCast, shr64, bv_nat]
  rfl
theorem rstep_rd (L : HList) (h : BitVec 64) (c : UInt8) : Reads PP 25 #[.int .u64 h.toNat, .int .u8 c.toNat] L (.int .u64 (mixStep h c).toNat) := by
  refine Reads.of (args := [.int .u64 h.toNat, .int .u8 c.toNat]) noNum mixed Try.func25 (e25 h.toNat c.toNat _) ?_
  unfold t25
  simp only [w64u_bv, BitVec.ofInt_mul, bv_nat, xor64, ofInt_u8]
  exact cl_rd (fold_rd L _ 29) (((mixStep h c).toNat : Int), ()) rfl (.of ⟨rfl, rfl⟩)

def invAt : Nat → BitVec 64
  | 0 => 1099511628211#64
  | n + 1 => invAt n * (2#64 - 1099511628211#64 * invAt n)
theorem minv_rd (L : HList) : Reads PP 57 #[] L (.int .u64 mixInv.toNat) := by
  refine Reads.of (args := []) noNum mixed Try.func57 (e57 _) ?_
  unfold t57
  refine lp_of (fun k z L' => L' = L ∧ ∃ i, i ≤ 6 ∧ k = 6 - i ∧ z = (((invAt i).toNat : Int), (i : Int), ())) 6 ⟨rfl, 0, by omega, by omega, rfl⟩ ?_
  rintro k z L ⟨rfl, i, hi, rfl, rfl⟩
  refine ifD_of (fun (hlt : (i : Int) < 6) => ?_) (fun (hge : ¬ (i : Int) < 6) => ?_)
  · refine ⟨6 - (i + 1), by omega, rfl, i + 1, by omega, rfl, ?_⟩
    rw [w64_id (by simp only; omega) (by simp only; omega)]
    simp only [w64u_bv, BitVec.ofInt_mul, ofInt_sub64, bv_nat]
    rfl
  · refine .of ⟨?_, rfl⟩
    obtain rfl : i = 6 := by omega
    have : invAt 6 = mixInv := by decide +kernel
    rw [this]
theorem mundo_rd (L : HList) (h : BitVec 64) (c : UInt8) : Reads PP 26 #[.int .u64 h.toNat, .int .u8 c.toNat] L (.int .u64 (mixUndo h c).toNat) := by
  refine Reads.of (args := [.int .u64 h.toNat, .int .u8 c.toNat]) noNum mixed Try.func26 (e26 h.toNat c.toNat _) ?_
  unfold t26
  refine req_of (by decide) (req_of (by decide) (cl_rd (minv_rd L) ((mixInv.toNat : Int), ()) rfl (.of ⟨?_, rfl⟩)))
  simp only [w64u_bv, BitVec.ofInt_mul, bv_nat, xor64, shr64, ofInt_u8]
  rfl

/-! the document's Undo: bit by bit -/
def powAt : Nat → BitVec 64 × BitVec 64
  | 0 => (1#64, 1099511628211#64)
  | n + 1 => ((powAt n).1 * (powAt n).2, (powAt n).2 * (powAt n).2)
theorem powAt_62 : (powAt 62).1 = mixInv := by decide +kernel
theorem unf_bit (h : BitVec 64) (i : Nat) : (unfold29 h).getLsbD i = (h.getLsbD i ^^ (unfold29 h).getLsbD (29 + i)) := by
  have h0 : h.getLsbD (87 + i) = false := BitVec.getLsbD_of_ge _ _ (by omega)
  unfold unfold29
  simp only [BitVec.getLsbD_xor, BitVec.getLsbD_ushiftRight, ← Nat.add_assoc, Nat.reduceAdd, h0]
  cases h.getLsbD i <;> cases h.getLsbD (29 + i) <;> cases h.getLsbD (58 + i) <;> rfl
theorem bit1 (a : BitVec 64) (j : Nat) : a >>> j &&& 1#64 = if a.getLsbD j then 1#64 else 0#64 := by
  apply BitVec.eq_of_getLsbD_eq
  intro i hi
  rw [BitVec.getLsbD_and, BitVec.getLsbD_ushiftRight, BitVec.getLsbD_one]
  by_cases h : i = 0
  · subst h; cases ha : a.getLsbD j <;> simp [ha]
  · cases ha : a.getLsbD j <;> simp [h]
theorem set_bit (x u : BitVec 64) (j : Nat) (hj : j < 64) (hx : ∀ i, x.getLsbD i = (decide (j < i) && u.getLsbD i)) (b : Bool) (hb : b = u.getLsbD j) :
    ∀ i, (x ||| (if b then 1#64 else 0#64) <<< j).getLsbD i = (decide (j ≤ i) && u.getLsbD i) := by
  intro i
  rw [BitVec.getLsbD_or, hx, BitVec.getLsbD_shiftLeft]
  subst hb
  by_cases h1 : i < j
  · simp [h1, show ¬ j < i by omega, show ¬ j ≤ i by omega]
  · by_cases h2 : i = j
    · subst h2
      cases hu : u.getLsbD i <;> simp [hj]
    · have h3 : j < i := by omega
      have h4 : i - j ≠ 0 := by omega
      cases hu : u.getLsbD j <;> simp [h3, h4, Nat.le_of_lt h3, BitVec.getLsbD_one]
theorem rundo_rd (L : HList) (h : BitVec 64) (c : UInt8) : Reads PP 27 #[.int .u64 h.toNat, .int .u8 c.toNat] L (.int .u64 (mixUndo h c).toNat) := by
  refine Reads.of (args := [.int .u64 h.toNat, .int .u8 c.toNat]) noNum mixed Try.func27 (e27 h.toNat c.toNat _) ?_
  unfold t27
  refine lp_of (fun k z L' => L' = L ∧ k ≤ 64 ∧ ∃ x : BitVec 64, z = ((x.toNat : Int), (k : Int) - 1, ()) ∧ ∀ i, x.getLsbD i = (decide (k ≤ i) && (unfold29 h).getLsbD i)) 64
    ⟨rfl, Nat.le_refl _, 0#64, rfl, fun i => ?_⟩ ?_
  · by_cases h1 : 64 ≤ i
    · simp [h1]
    · simp [h1]
  rintro k z L ⟨rfl, hk, x, rfl, hx⟩
  refine ifD_of (fun (hge : (k : Int) - 1 ≥ 0) => ?_) (fun (hlt : ¬ (k : Int) - 1 ≥ 0) => ?_)
  · obtain ⟨j, rfl⟩ : ∃ j, k = j + 1 := ⟨k - 1, by omega⟩
    have hj1 : ((j + 1 : Nat) : Int) - 1 = j := by omega
    simp only [hj1]
    have hwj : IntKind.u64.wrap (j : Int) = j := wu64_id (by omega) (by omega)
    have hx' : ∀ i, x.getLsbD i = (decide (j < i) && (unfold29 h).getLsbD i) := fun i => by rw [hx]; rfl
    refine jn_of (fun y L' => L' = L ∧ y = (((if x.getLsbD (29 + j) then 1#64 else 0#64 : BitVec 64).toNat : Int), ())) ?_ ?_
    · rintro y L' ⟨rfl, rfl⟩
      refine req_of (by rw [hwj]; omega) (req_of (by rw [hwj]; omega) ⟨j, by omega, rfl, by omega, x ||| (if (h.getLsbD j ^^ x.getLsbD (29 + j)) then 1#64 else 0#64) <<< j, ?_, ?_⟩)
      · rw [hwj]
        simp only [shr64, and64, xor64, or64, bv_nat, shl64, Int.toNat_natCast, show BitVec.ofInt 64 1 = 1#64 from rfl, bit1]
        rw [w64_id (by omega) (by omega)]
        have : ((if h.getLsbD j = true then 1#64 else 0#64) ^^^ if x.getLsbD (29 + j) = true then 1#64 else 0#64) = if (h.getLsbD j ^^ x.getLsbD (29 + j)) then 1#64 else 0#64 := by
          cases h.getLsbD j <;> cases x.getLsbD (29 + j) <;> rfl
        rw [this]
      · refine set_bit x (unfold29 h) j (by omega) hx' _ ?_
        rw [unf_bit, hx']
        by_cases h2 : (unfold29 h).getLsbD (29 + j)
        · simp [h2]
        · simp [h2]
    · intro jj hjj
      rw [w64_id (n := (j : Int) + 29) (by omega) (by omega)]
      refine ifD_of (fun (h1 : (j : Int) + 29 ≤ 63) => ?_) (fun (h1 : ¬ (j : Int) + 29 ≤ 63) => ?_)
      · have hwj2 : IntKind.u64.wrap ((j : Int) + 29) = ((29 + j : Nat) : Int) := by rw [wu64_id (by omega) (by omega)]; omega
        rw [hwj2]
        refine req_of (by omega) (hjj _ _ ⟨rfl, ?_⟩)
        simp only [shr64, and64, bv_nat, Int.toNat_natCast, show BitVec.ofInt 64 1 = 1#64 from rfl, bit1]
      · refine hjj _ _ ⟨rfl, ?_⟩
        rw [BitVec.getLsbD_of_ge _ _ (by omega)]
        rfl
  · obtain rfl : k = 0 := by omega
    have hxu : x = unfold29 h := BitVec.eq_of_getLsbD_eq fun i hi => by rw [hx]; simp
    subst hxu
    refine lp_of (fun k z L' => L' = L ∧ ∃ i, i ≤ 62 ∧ k = 62 - i ∧ z = (((powAt i).1.toNat : Int), ((powAt i).2.toNat : Int), (i : Int), ())) 62 ⟨rfl, 0, by omega, by omega, rfl⟩ ?_
    rintro k z L ⟨rfl, i, hi, rfl, rfl⟩
    refine ifD_of (fun (hlt : (i : Int) < 62) => ?_) (fun (hge : ¬ (i : Int) < 62) => ?_)
    · refine ⟨62 - (i + 1), by omega, rfl, i + 1, by omega, rfl, ?_⟩
      rw [w64_id (by simp only; omega) (by simp only; omega)]
      simp only [w64u_bv, BitVec.ofInt_mul, bv_nat]
      rfl
    · refine .of ⟨?_, rfl⟩
      obtain rfl : i = 62 := by omega
      simp only [w64u_bv, BitVec.ofInt_mul, bv_nat, xor64, ofInt_u8, powAt_62]
      rfl
end Go.Proofs.Ytnhpojbjkfgeoaa
