/-
  It is proved what a burst of turned bits does to a sum. There are no further conditions than those that each theorem names.
-/
import Derived.Test.YtaniefdpjommnaaDoorCrcCore
set_option linter.unusedVariables false
set_option linter.unusedSimpArgs false
namespace Go.Proofs.YtaniefdpjommnaaDoor
open Go.HL

theorem xor_u8 (a b : UInt8) : bitI .xor .u8 (a.toNat : Int) (b.toNat : Int) = ((a ^^^ b).toNat : Int) := by
  rw [xor8, BitVec.toNat_xor, BitVec.toNat_ofInt, BitVec.toNat_ofInt, UInt8.toNat_xor]
  have h1 := a.toNat_lt
  have h2 := b.toNat_lt
  have e1 : ((a.toNat : Int) % ((2 ^ 8 : Nat) : Int)).toNat = a.toNat := by omega
  have e2 : ((b.toNat : Int) % ((2 ^ 8 : Nat) : Int)).toNat = b.toNat := by omega
  rw [e1, e2]
theorem sum_ne {cb b : List UInt8} {N : Nat} {M : BitVec 32} (h : crcSteps (~~~ low32 0) cb = crcSteps (~~~ low32 0) b ^^^ crcBits N M) : crcSum cb = crcSum b ↔ M = 0#32 := by
  unfold crcSum crcMore
  rw [h]
  generalize crcSteps (~~~ low32 0) b = s
  constructor
  · intro e
    have e1 : ~~~ (s ^^^ crcBits N M) = ~~~ s := BitVec.eq_of_toNat_eq (by omega)
    have e2 : s ^^^ crcBits N M = s := by
      have := congrArg (fun x => ~~~ x) e1
      simpa only [BitVec.not_not] using this
    exact crcBits_zero N M ((xor_ne s _).1 e2)
  · rintro rfl
    rw [crcBits_of_zero, BitVec.xor_zero]
theorem mask_bit (m : BitVec 32) (i : Nat) (hi : i < 32) : bitI .and .u32 (Int.fdiv (m.toNat : Int) (2 ^ (min (IntKind.u64.wrap (i : Int)).toNat IntKind.u32.bits))) 1 = if m.getLsbD i then 1 else 0 := by
  rw [wu64_id (by omega) (by omega), Int.toNat_natCast, shr32, and32, bv_nat, show BitVec.ofInt 32 1 = 1#32 from rfl, and_one, BitVec.getLsbD_ushiftRight, Nat.add_zero]
  cases m.getLsbD i <;> rfl
theorem flip_int (x : UInt8) (r : Nat) (hr : r < 8) : bitI .xor .u8 (x.toNat : Int) (IntKind.u8.wrap (1 * 2 ^ (min (IntKind.u64.wrap (r : Int)).toNat IntKind.u8.bits))) = ((flipB x r).toNat : Int) := by
  have h : IntKind.u8.wrap (1 * 2 ^ (min (IntKind.u64.wrap (r : Int)).toNat IntKind.u8.bits)) = ((UInt8.ofNat (2 ^ r)).toNat : Int) := by
    rw [wu64_id (by omega) (by omega), Int.toNat_natCast]
    have : ∀ r : Fin 8, IntKind.u8.wrap (1 * 2 ^ (min r.val IntKind.u8.bits)) = ((UInt8.ofNat (2 ^ r.val)).toNat : Int) := by decide +kernel
    exact this ⟨r, hr⟩
  rw [h, xor_u8]
  rfl
theorem from_nat (x : Int) (N : Nat) (hN : 0 < N) (h2 : N ≤ 1000000) : ∃ f : Nat, f < N ∧ Int.tmod (IntKind.i64.wrap (Int.tmod x (N : Int) + N)) (N : Int) = f := by
  have h1 : Int.tmod x (N : Int) < N := Int.tmod_lt_of_pos _ (by omega)
  have h3 : -(N : Int) < Int.tmod x (N : Int) := by
    rcases Int.lt_or_le x 0 with hx | hx
    · have h4 : Int.tmod x (N : Int) = -(Int.tmod (-x) N) := by rw [Int.neg_tmod, Int.neg_neg]
      have h5 : Int.tmod (-x) (N : Int) < N := Int.tmod_lt_of_pos _ (by omega)
      omega
    · have := Int.tmod_nonneg (N : Int) hx
      omega
  rw [w64_id (by omega) (by omega)]
  have h6 := Int.tmod_nonneg (N : Int) (show 0 ≤ Int.tmod x (N : Int) + N by omega)
  have h7 : Int.tmod (Int.tmod x (N : Int) + N) (N : Int) < N := Int.tmod_lt_of_pos _ (by omega)
  exact ⟨(Int.tmod (Int.tmod x (N : Int) + N) (N : Int)).toNat, by omega, by omega⟩

end Go.Proofs.YtaniefdpjommnaaDoor
