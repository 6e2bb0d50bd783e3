/-
  It is proved what the functions of the layer crc compute. There are no further conditions than those that each theorem names.
-/
import Derived.Test.YtaniefdpjommnaaDoorHL18
import Derived.Test.YtaniefdpjommnaaDoorCrcBits
import Derived.Test.YtaniefdpjommnaaDoorT
set_option linter.unusedVariables false
namespace Go.Proofs.YtaniefdpjommnaaDoor
open Go.HL

theorem shr1 (d : BitVec 32) : Int.fdiv (d.toNat : Int) (2 ^ (min (1 : Int).toNat IntKind.u32.bits)) = ((d >>> 1).toNat : Int) := by
  have : (2 : Int) ^ (min (1 : Int).toNat IntKind.u32.bits) = 2 := rfl
  rw [this, BitVec.toNat_ushiftRight, Nat.shiftRight_eq_div_pow, Int.fdiv_eq_ediv_of_nonneg _ (by omega)]
  rfl
theorem neg32 (d : BitVec 32) : IntKind.u32.wrap (0 - (d.toNat : Int)) = ((-d).toNat : Int) := by
  rw [w32_bv]
  congr 2
  rw [Int.zero_sub, BitVec.ofInt_neg, bv_nat]
theorem crcBit_int (d : BitVec 32) : bitI .xor .u32 (Int.fdiv (d.toNat : Int) (2 ^ (min (1 : Int).toNat IntKind.u32.bits))) (bitI .and .u32 2197175160 (IntKind.u32.wrap (0 - bitI .and .u32 d.toNat 1))) = ((crcBit d).toNat : Int) := by
  rw [shr1, show (1 : Int) = ((1#32 : BitVec 32).toNat : Int) from rfl, (bit32 _ _).2.1, neg32, show (2197175160 : Int) = ((2197175160#32 : BitVec 32).toNat : Int) from rfl, (bit32 _ _).2.1, (bit32 _ _).1]
  rfl

theorem steps_rd (L : HList) (v : SlV) (l : List UInt8) (h : BSl L v l) (hb : l.length ≤ 1000000) (c : BitVec 32) : Reads PP 45 #[.int .u32 c.toNat, .slice v.a v.len v.cap] L (.int .u32 (crcSteps c l).toNat) := by
  refine Reads.of (args := [.int .u32 c.toNat, .slice v.a v.len v.cap]) noNum mixed Tryd.func45 (e45 c.toNat v _) ?_
  unfold t45
  have hlen := h.len
  refine lp_of (fun k z L' => L' = L ∧ ∃ i, i ≤ l.length ∧ k = l.length - i ∧ z = (((crcSteps c (l.take i)).toNat : Int), (i : Int), ())) l.length ⟨rfl, 0, by omega, by omega, rfl⟩ ?_
  rintro k z L ⟨rfl, i, hi, rfl, rfl⟩
  refine ifD_of (fun (hlt : (i : Int) < v.len) => ?_) (fun (hge : ¬ (i : Int) < v.len) => ?_)
  · have hlt' : i < l.length := by omega
    obtain ⟨ad, ha⟩ := h.some hlt'
    refine nilc_of ha (ixn_of (show (0 : Int) ≤ i by omega) hlt (ld_of (l[i].toNat : Int) (h.rd hlt' ha _ (by simp)) ?_))
    refine lp_of (fun k z L' => L' = L ∧ ∃ j, j ≤ 8 ∧ k = 8 - j ∧ z = (((crcBits j (crcSteps c (l.take i) ^^^ BitVec.ofNat 32 l[i].toNat)).toNat : Int), (j : Int), ())) 8 ⟨rfl, 0, by omega, by omega, ?_⟩ ?_
    · simp only [w32_bv]
      rw [show (BitVec.ofInt 32 (l[i].toNat : Int)) = BitVec.ofNat 32 l[i].toNat from rfl, (bit32 _ _).1]
      rfl
    · rintro k z L ⟨rfl, j, hj, rfl, rfl⟩
      refine ifD_of (fun (hlt : (j : Int) < 8) => ?_) (fun (hge : ¬ (j : Int) < 8) => ?_)
      · refine req_of (by decide) ⟨8 - (j + 1), by omega, rfl, j + 1, by omega, rfl, ?_⟩
        rw [w64_id (by simp only; omega) (by simp only; omega)]
        exact Prod.ext (crcBit_int _) rfl
      · refine ⟨l.length - (i + 1), by omega, rfl, i + 1, by omega, rfl, ?_⟩
        obtain rfl : j = 8 := by omega
        rw [w64_id (by simp only; omega) (by simp only; omega), List.take_succ_eq_append_getElem hlt', crcSteps_snoc]
        rfl
  · refine .of ⟨?_, rfl⟩
    obtain rfl : i = l.length := by omega
    rw [List.take_length]

/-! ### Sum, More, Check, Step -/
def low32 (n : Int) : BitVec 32 := BitVec.ofInt 32 n
def crcMore (n : Int) (l : List UInt8) : Int := ((~~~ crcSteps (~~~ low32 n) l).toNat : Int)
def crcSum (l : List UInt8) : Int := crcMore 0 l
theorem crcMore_range (n : Int) (l : List UInt8) : 0 ≤ crcMore n l ∧ crcMore n l < 4294967296 := by
  unfold crcMore
  have := (~~~ crcSteps (~~~ low32 n) l).isLt
  omega
theorem not32 (d : BitVec 32) : bitI .xor .u32 IntKind.u32.max (d.toNat : Int) = ((~~~ d).toNat : Int) := by
  rw [show (IntKind.u32.max : Int) = ((BitVec.allOnes 32).toNat : Int) from rfl, (bit32 _ _).1, BitVec.allOnes_xor]

theorem more_rd (L : HList) (v : SlV) (l : List UInt8) (h : BSl L v l) (hb : l.length ≤ 1000000) (n : Int) : Reads PP 40 #[.int .i64 n, .slice v.a v.len v.cap] L (.int .i64 (crcMore n l)) := by
  refine Reads.of (args := [.int .i64 n, .slice v.a v.len v.cap]) noNum mixed Tryd.func40 (e40 n v _) ?_
  unfold t40
  rw [w32_bv, not32]
  refine cl_rd (steps_rd L v l h hb (~~~ low32 n)) (((crcSteps (~~~ low32 n) l).toNat : Int), ()) rfl ?_
  refine .of ⟨?_, rfl⟩
  have := crcMore_range n l
  simp only [not32]
  rw [w64_id (by have := crcMore_range n l; unfold crcMore at this; omega) (by have := crcMore_range n l; unfold crcMore at this; omega)]
  rfl
theorem sum_rd (L : HList) (v : SlV) (l : List UInt8) (h : BSl L v l) (hb : l.length ≤ 1000000) : Reads PP 25 #[.slice v.a v.len v.cap] L (.int .i64 (crcSum l)) := by
  refine Reads.of (args := [.slice v.a v.len v.cap]) noNum mixed Tryd.func25 (e25 v _) ?_
  unfold t25
  refine cl_rd (more_rd L v l h hb 0) (crcMore 0 l, ()) rfl ?_
  exact .of ⟨rfl, rfl⟩
theorem check_rd (L : HList) (v : SlV) (l : List UInt8) (h : BSl L v l) (hb : l.length ≤ 1000000) (n : Int) : Reads PP 34 #[.slice v.a v.len v.cap, .int .i64 n] L (.bool (crcSum l == n)) := by
  refine Reads.of (args := [.slice v.a v.len v.cap, .int .i64 n]) noNum mixed Tryd.func34 (e34 v n _) ?_
  unfold t34
  refine cl_rd (sum_rd L v l h hb) (crcSum l, ()) rfl ?_
  exact .of ⟨rfl, rfl⟩

/-! ### Step, and the document's answers -/
theorem low_rd (L : HList) (n : Int) : Reads PP 46 #[.int .i64 n] L (.int .u32 (low32 n).toNat) := by
  refine Reads.of (args := [.int .i64 n]) noNum mixed Tryd.func46 (e46 n _) ?_
  unfold t46
  refine .of ⟨?_, rfl⟩
  rw [w32_bv, w64u_bv]
  unfold low32
  congr 2
  simp only [BitVec.toNat_ofInt]
  omega
theorem low_nat (d : BitVec 32) : low32 (d.toNat : Int) = d := bv_nat d
theorem half32 (d : BitVec 32) : IntKind.u32.wrap (Int.tdiv d.toNat 2) = ((d >>> 1).toNat : Int) := by
  have h0 : (0 : Int) ≤ (d.toNat : Int) := Int.natCast_nonneg _
  have h1 := d.isLt
  rw [Int.tdiv_eq_ediv_of_nonneg h0, w32_id (n := (d.toNat : Int) / 2) (by omega) (by omega), BitVec.toNat_ushiftRight, Nat.shiftRight_eq_div_pow]
  rfl
theorem rstep4_rd (L : HList) (n : Int) (x : UInt8) : Reads PP 47 #[.int .i64 n, .int .u8 x.toNat] L (.int .i64 (crcByte (low32 n) x).toNat) := by
  refine Reads.of (args := [.int .i64 n, .int .u8 x.toNat]) noNum mixed Tryd.func47 (e47 n x.toNat _) ?_
  unfold t47
  refine cl_rd (low_rd L n) (_, ()) rfl ?_
  refine lp_of (fun k z L' => L' = L ∧ ∃ j, j ≤ 8 ∧ k = 8 - j ∧ z = (((crcBits j (low32 n ^^^ BitVec.ofNat 32 x.toNat)).toNat : Int), (j : Int), ())) 8 ⟨rfl, 0, by omega, by omega, ?_⟩ ?_
  · simp only [xor32, w32_bv, bv_nat, ofInt_u8]
    rfl
  · rintro k z L ⟨rfl, j, hj, rfl, rfl⟩
    generalize hd : crcBits j (low32 n ^^^ BitVec.ofNat 32 x.toNat) = d
    have hodd : Int.tmod (d.toNat : Int) 2 = if d.getLsbD 0 then 1 else 0 := by
      rw [Int.tmod_eq_emod_of_nonneg (by omega)]
      have : d.getLsbD 0 = decide (d.toNat % 2 = 1) := by simp [BitVec.getLsbD, Nat.testBit_zero]
      rw [this]
      by_cases h : d.toNat % 2 = 1
      · simp [h]; omega
      · simp [h]; omega
    have hstep : crcBits (j + 1) (low32 n ^^^ BitVec.ofNat 32 x.toNat) = (d >>> 1) ^^^ (if d.getLsbD 0 then 2197175160#32 else 0#32) := by rw [crcBits, hd, crcBit_if]
    refine ifD_of (fun (hlt : (j : Int) < 8) => ?_) (fun (hge : ¬ (j : Int) < 8) => ?_)
    · refine req_of (by decide) (req_of (by decide) ?_)
      refine ifE_of (fun (h1 : Int.tmod (d.toNat : Int) 2 = 1) => ?_) (fun (h1 : Int.tmod (d.toNat : Int) 2 ≠ 1) => ?_)
      · refine ⟨8 - (j + 1), by omega, rfl, j + 1, by omega, rfl, ?_⟩
        rw [w64_id (by simp only; omega) (by simp only; omega), hstep]
        have h2 : d.getLsbD 0 = true := by
          rw [hodd] at h1
          cases h3 : d.getLsbD 0
          · rw [h3] at h1; cases h1
          · rfl
        simp only [half32, xor32, bv_nat, h2, if_true]
        rfl
      · refine ⟨8 - (j + 1), by omega, rfl, j + 1, by omega, rfl, ?_⟩
        rw [w64_id (by simp only; omega) (by simp only; omega), hstep]
        have h2 : d.getLsbD 0 = false := by
          rw [hodd] at h1
          cases h3 : d.getLsbD 0
          · rfl
          · rw [h3] at h1; exact absurd rfl h1
        simp only [half32, h2, Bool.false_eq_true, if_false, BitVec.xor_zero]
        rfl
    · obtain rfl : j = 8 := by omega
      refine .of ⟨?_, rfl⟩
      rw [← hd, w64_id (by simp only; omega) (by have := (crcBits 8 (low32 n ^^^ BitVec.ofNat 32 x.toNat)).isLt; simp only; omega)]
      rfl
theorem rmore_rd (L : HList) (v : SlV) (l : List UInt8) (h : BSl L v l) (hb : l.length ≤ 1000000) (n : Int) : Reads PP 41 #[.int .i64 n, .slice v.a v.len v.cap] L (.int .i64 (crcMore n l)) := by
  refine Reads.of (args := [.int .i64 n, .slice v.a v.len v.cap]) noNum mixed Tryd.func41 (e41 n v _) ?_
  unfold t41
  have hlen := h.len
  refine cl_rd (low_rd L n) (_, ()) rfl ?_
  refine lp_of (fun k z L' => L' = L ∧ ∃ i, i ≤ l.length ∧ k = l.length - i ∧ z = (((crcSteps (~~~ low32 n) (l.take i)).toNat : Int), (i : Int), ())) l.length ⟨rfl, 0, by omega, by omega, ?_⟩ ?_
  · have := (~~~ low32 n).isLt
    rw [not32, w64_id (by omega) (by omega)]
    rfl
  rintro k z L ⟨rfl, i, hi, rfl, rfl⟩
  refine ifD_of (fun (hlt : (i : Int) < v.len) => ?_) (fun (hge : ¬ (i : Int) < v.len) => ?_)
  · have hlt' : i < l.length := by omega
    obtain ⟨ad, ha⟩ := h.some hlt'
    refine nilc_of ha (ixn_of (show (0 : Int) ≤ i by omega) hlt (ld_of (l[i].toNat : Int) (h.rd hlt' ha _ (by simp)) ?_))
    refine cl_rd (rstep4_rd _ _ _) (_, ()) rfl ⟨l.length - (i + 1), by omega, rfl, i + 1, by omega, rfl, ?_⟩
    rw [w64_id (by simp only; omega) (by simp only; omega), List.take_succ_eq_append_getElem hlt', crcSteps_snoc, low_nat]
    rfl
  · obtain rfl : i = l.length := by omega
    refine cl_rd (low_rd _ _) (_, ()) rfl (.of ⟨?_, rfl⟩)
    have := crcMore_range n l
    simp only [not32, low_nat, List.take_length]
    unfold crcMore at this ⊢
    rw [w64_id (by omega) (by omega)]
theorem rsum_rd (L : HList) (v : SlV) (l : List UInt8) (h : BSl L v l) (hb : l.length ≤ 1000000) : Reads PP 28 #[.slice v.a v.len v.cap] L (.int .i64 (crcSum l)) := by
  refine Reads.of (args := [.slice v.a v.len v.cap]) noNum mixed Tryd.func28 (e28 v _) ?_
  unfold t28
  refine cl_rd (rmore_rd L v l h hb 0) (crcMore 0 l, ()) rfl ?_
  exact .of ⟨rfl, rfl⟩

/-! ### the page's example -/
end Go.Proofs.YtaniefdpjommnaaDoor
