/-
  It is proved what the wraps of numbers and the bytes of slices are. There are no further conditions than those that each theorem names.
-/
import Derived.Test.YtaniefdpjommnaaDoorHL13
import Derived.IntWalk
set_option linter.unusedVariables false
set_option linter.unusedSimpArgs false
namespace Go.HL
/-! ### 10. Numbers -/
theorem w64_id {n : Int} (h0 : -9223372036854775808 ≤ n) (h1 : n ≤ 9223372036854775807) : IntKind.i64.wrap n = n := IntWalk.i64_in n ⟨h0, h1⟩
theorem w8_id {n : Int} (h0 : 0 ≤ n) (h1 : n ≤ 255) : IntKind.u8.wrap n = n := IntWalk.u8_in n ⟨h0, h1⟩
theorem w32_id {n : Int} (h0 : 0 ≤ n) (h1 : n ≤ 4294967295) : IntKind.u32.wrap n = n := IntWalk.u32_in n ⟨h0, h1⟩
theorem wu64_id {n : Int} (h0 : 0 ≤ n) (h1 : n ≤ 18446744073709551615) : IntKind.u64.wrap n = n := IntWalk.u64_in n ⟨h0, h1⟩
theorem w32_bv (n : Int) : IntKind.u32.wrap n = ((BitVec.ofInt 32 n).toNat : Int) := by
  simp only [IntKind.wrap, IntKind.bits, IntKind.signed, Bool.false_and, Bool.false_eq_true, if_false, BitVec.toNat_ofInt]
  omega
theorem w64u_bv (n : Int) : IntKind.u64.wrap n = ((BitVec.ofInt 64 n).toNat : Int) := by
  simp only [IntKind.wrap, IntKind.bits, IntKind.signed, Bool.false_and, Bool.false_eq_true, if_false, BitVec.toNat_ofInt]
  omega
theorem w8_bv (n : Int) : IntKind.u8.wrap n = ((BitVec.ofInt 8 n).toNat : Int) := by
  simp only [IntKind.wrap, IntKind.bits, IntKind.signed, Bool.false_and, Bool.false_eq_true, if_false, BitVec.toNat_ofInt]
  omega
theorem bv_nat {m : Nat} (a : BitVec m) : BitVec.ofInt m (a.toNat : Int) = a := by
  simp
theorem bit32 (a b : BitVec 32) : bitI .xor .u32 a.toNat b.toNat = ((a ^^^ b).toNat : Int) ∧ bitI .and .u32 a.toNat b.toNat = ((a &&& b).toNat : Int) ∧ bitI .or .u32 a.toNat b.toNat = ((a ||| b).toNat : Int) := by
  refine ⟨?_, ?_, ?_⟩ <;>
    (simp only [bitI, IntKind.bits]
     rw [w32_bv]
     exact congrArg (fun x : BitVec 32 => (x.toNat : Int)) (by rw [bv_nat, bv_nat, bv_nat]; rfl))
theorem bit64 (a b : BitVec 64) : bitI .xor .u64 a.toNat b.toNat = ((a ^^^ b).toNat : Int) ∧ bitI .and .u64 a.toNat b.toNat = ((a &&& b).toNat : Int) ∧ bitI .or .u64 a.toNat b.toNat = ((a ||| b).toNat : Int) := by
  refine ⟨?_, ?_, ?_⟩ <;>
    (simp only [bitI, IntKind.bits]
     rw [w64u_bv]
     exact congrArg (fun x : BitVec 64 => (x.toNat : Int)) (by rw [bv_nat, bv_nat, bv_nat]; rfl))
theorem bit8 (a b : BitVec 8) : bitI .xor .u8 a.toNat b.toNat = ((a ^^^ b).toNat : Int) ∧ bitI .and .u8 a.toNat b.toNat = ((a &&& b).toNat : Int) := by
  refine ⟨?_, ?_⟩ <;>
    (simp only [bitI, IntKind.bits]
     rw [w8_bv]
     exact congrArg (fun x : BitVec 8 => (x.toNat : Int)) (by rw [bv_nat, bv_nat, bv_nat]; rfl))

/-! ### 11. Bytes -/
def bv (b : UInt8) : Value := .int .u8 b.toNat
def bvs (l : List UInt8) : List Value := l.map bv
theorem bvs_length (l : List UInt8) : (bvs l).length = l.length := by simp [bvs]
theorem bvs_append (l m : List UInt8) : bvs (l ++ m) = bvs l ++ bvs m := by simp [bvs]
theorem bvs_plain (l : List UInt8) : (bvs l).all plainV = true := by
  induction l with
  | nil => rfl
  | cons b r ih => exact ih
theorem bvs_get {l : List UInt8} {i : Nat} (h : i < l.length) : (bvs l)[i]? = some (.int .u8 (l[i].toNat : Int)) := by
  simp [bvs, h, bv]
abbrev BSl (L : HList) (v : SlV) (l : List UInt8) : Prop := Sl L v 1 (bvs l)
theorem BSl.len {L : HList} {v : SlV} {l : List UInt8} (h : BSl L v l) : v.len = l.length := by
  have := Sl.len h; rw [bvs_length] at this; omega
/-- A byte of a slice, read. -/
theorem BSl.rd {L : HList} {v : SlV} {l : List UInt8} (h : BSl L v l) {i : Nat} (hi : i < l.length) {a : Addr} (ha : v.a = some a) (j : Nat) (hj : j = i * 1) : LdAt (Addr.add a j) [.int .u8 (l[i].toNat : Int)] L := by
  subst hj
  obtain ⟨ad, ha', hl⟩ := h.at' (i := i) (by rw [h.len]; exact hi) (by omega)
  rw [ha] at ha'
  obtain rfl := Option.some.inj ha'
  rw [Nat.mul_one]
  exact hl.one i (bvs_get hi)
theorem BSl.some {L : HList} {v : SlV} {l : List UInt8} (h : BSl L v l) {i : Nat} (hi : i < l.length) : ∃ a, v.a = some a := by
  obtain ⟨ad, ha', hl⟩ := h.at' (i := i) (by rw [h.len]; exact hi) (by omega)
  exact ⟨ad, ha'⟩
end Go.HL
