/-
  It is proved what the bit operations on numbers are as words. There are no further conditions than those that each theorem names.
-/
import Derived.Test.YtaniefdpjommnaaDoorHL16
set_option linter.unusedVariables false
set_option linter.unusedSimpArgs false
namespace Go.HL
/-! ### 13. Words: what the numbers of a kind are as words -/
theorem xor64 (x y : Int) : bitI .xor .u64 x y = ((BitVec.ofInt 64 x ^^^ BitVec.ofInt 64 y).toNat : Int) := by
  simp only [bitI, IntKind.bits]; rw [w64u_bv, bv_nat]; rfl
theorem and64 (x y : Int) : bitI .and .u64 x y = ((BitVec.ofInt 64 x &&& BitVec.ofInt 64 y).toNat : Int) := by
  simp only [bitI, IntKind.bits]; rw [w64u_bv, bv_nat]; rfl
theorem or64 (x y : Int) : bitI .or .u64 x y = ((BitVec.ofInt 64 x ||| BitVec.ofInt 64 y).toNat : Int) := by
  simp only [bitI, IntKind.bits]; rw [w64u_bv, bv_nat]; rfl
theorem xor32 (x y : Int) : bitI .xor .u32 x y = ((BitVec.ofInt 32 x ^^^ BitVec.ofInt 32 y).toNat : Int) := by
  simp only [bitI, IntKind.bits]; rw [w32_bv, bv_nat]; rfl
theorem and32 (x y : Int) : bitI .and .u32 x y = ((BitVec.ofInt 32 x &&& BitVec.ofInt 32 y).toNat : Int) := by
  simp only [bitI, IntKind.bits]; rw [w32_bv, bv_nat]; rfl
theorem or32 (x y : Int) : bitI .or .u32 x y = ((BitVec.ofInt 32 x ||| BitVec.ofInt 32 y).toNat : Int) := by
  simp only [bitI, IntKind.bits]; rw [w32_bv, bv_nat]; rfl
theorem xor8 (x y : Int) : bitI .xor .u8 x y = ((BitVec.ofInt 8 x ^^^ BitVec.ofInt 8 y).toNat : Int) := by
  simp only [bitI, IntKind.bits]; rw [w8_bv, bv_nat]; rfl
theorem and8 (x y : Int) : bitI .and .u8 x y = ((BitVec.ofInt 8 x &&& BitVec.ofInt 8 y).toNat : Int) := by
  simp only [bitI, IntKind.bits]; rw [w8_bv, bv_nat]; rfl
theorem or8 (x y : Int) : bitI .or .u8 x y = ((BitVec.ofInt 8 x ||| BitVec.ofInt 8 y).toNat : Int) := by
  simp only [bitI, IntKind.bits]; rw [w8_bv, bv_nat]; rfl
theorem shr_nat {m : Nat} (a : BitVec m) (k n : Nat) (hn : n = m) : Int.fdiv (a.toNat : Int) (2 ^ (min k n)) = ((a >>> k).toNat : Int) := by
  subst hn
  rw [BitVec.toNat_ushiftRight, Nat.shiftRight_eq_div_pow, Int.fdiv_eq_ediv_of_nonneg _ (by exact Int.le_of_lt (Int.pow_pos (by omega)))]
  have h2 : (2 : Int) ^ min k n = ((2 ^ min k n : Nat) : Int) := by simp
  rw [h2, ← Int.natCast_ediv]
  congr 1
  by_cases h : k ≤ n
  · rw [Nat.min_eq_left h]
  · rw [Nat.min_eq_right (by omega)]
    have h3 := a.isLt
    rw [Nat.div_eq_of_lt h3, Nat.div_eq_of_lt (Nat.lt_of_lt_of_le h3 (Nat.pow_le_pow_right (by omega) (by omega)))]
theorem shr64 (a : BitVec 64) (k : Nat) : Int.fdiv (a.toNat : Int) (2 ^ (min k IntKind.u64.bits)) = ((a >>> k).toNat : Int) := shr_nat a _ _ rfl
theorem shr32 (a : BitVec 32) (k : Nat) : Int.fdiv (a.toNat : Int) (2 ^ (min k IntKind.u32.bits)) = ((a >>> k).toNat : Int) := shr_nat a _ _ rfl
theorem shl_nat {m : Nat} (a : BitVec m) (k n : Nat) (hn : n = m) : BitVec.ofInt m ((a.toNat : Int) * 2 ^ (min k n)) = a <<< k := by
  subst hn
  rw [BitVec.ofInt_mul, bv_nat]
  have h2 : (2 : Int) ^ min k n = ((2 ^ min k n : Nat) : Int) := by simp
  rw [h2]
  have h3 : BitVec.ofInt n ((2 ^ min k n : Nat) : Int) = BitVec.ofNat n (2 ^ min k n) := BitVec.ofInt_natCast ..
  rw [h3]
  apply BitVec.eq_of_toNat_eq
  rw [BitVec.toNat_mul, BitVec.toNat_shiftLeft, BitVec.toNat_ofNat, Nat.shiftLeft_eq]
  by_cases h : k ≤ n
  · rw [Nat.min_eq_left h, Nat.mul_mod, Nat.mod_mod, ← Nat.mul_mod]
  · rw [Nat.min_eq_right (by omega), Nat.mod_self, Nat.mul_zero, Nat.zero_mod]
    obtain ⟨d, rfl⟩ : ∃ d, k = n + d := ⟨k - n, by omega⟩
    rw [Nat.pow_add, ← Nat.mul_assoc, Nat.mul_right_comm, Nat.mul_mod_left]
theorem shl64 (a : BitVec 64) (k : Nat) : IntKind.u64.wrap ((a.toNat : Int) * 2 ^ (min k IntKind.u64.bits)) = ((a <<< k).toNat : Int) := by
  rw [w64u_bv]; exact congrArg (fun x : BitVec 64 => (x.toNat : Int)) (shl_nat a k _ rfl)
theorem shl32 (a : BitVec 32) (k : Nat) : IntKind.u32.wrap ((a.toNat : Int) * 2 ^ (min k IntKind.u32.bits)) = ((a <<< k).toNat : Int) := by
  rw [w32_bv]; exact congrArg (fun x : BitVec 32 => (x.toNat : Int)) (shl_nat a k _ rfl)

theorem ofInt_sub' (m : Nat) (x y : Int) : BitVec.ofInt m (x - y) = BitVec.ofInt m x - BitVec.ofInt m y := by
  rw [Int.sub_eq_add_neg, BitVec.ofInt_add, BitVec.ofInt_neg, BitVec.sub_eq_add_neg]
theorem ofInt_sub64 (x y : Int) : BitVec.ofInt 64 (x - y) = BitVec.ofInt 64 x - BitVec.ofInt 64 y := ofInt_sub' _ _ _
theorem wf_rng {k : IntKind} {n : Int} (h : intWf k n) : k.min ≤ n ∧ n ≤ k.max := by
  simpa only [intWf, Lit.wf, Bool.and_eq_true, decide_eq_true_eq] using h
theorem wf_u64 {n : Int} (h : intWf .u64 n) : ∃ a : BitVec 64, n = (a.toNat : Int) := by
  have h2 : 0 ≤ n ∧ n ≤ 18446744073709551615 := wf_rng h
  refine ⟨BitVec.ofInt 64 n, ?_⟩
  rw [← w64u_bv, wu64_id h2.1 h2.2]
theorem wf_u32 {n : Int} (h : intWf .u32 n) : ∃ a : BitVec 32, n = (a.toNat : Int) := by
  have h2 : 0 ≤ n ∧ n ≤ 4294967295 := wf_rng h
  refine ⟨BitVec.ofInt 32 n, ?_⟩
  rw [← w32_bv, w32_id h2.1 h2.2]
theorem wf_u8 {n : Int} (h : intWf .u8 n) : ∃ a : UInt8, n = (a.toNat : Int) := by
  have h2 : 0 ≤ n ∧ n ≤ 255 := wf_rng h
  refine ⟨UInt8.ofNat n.toNat, ?_⟩
  have : (UInt8.ofNat n.toNat).toNat = n.toNat := by simp; omega
  rw [this]; omega
theorem wf_i64 {n : Int} (h : intWf .i64 n) : -9223372036854775808 ≤ n ∧ n ≤ 9223372036854775807 := by
  exact wf_rng h
theorem u64_lt (a : BitVec 64) : (a.toNat : Int) < 18446744073709551616 := by have := a.isLt; omega
theorem ofInt_u8 (m : Nat) (c : UInt8) : BitVec.ofInt m (c.toNat : Int) = BitVec.ofNat m c.toNat := BitVec.ofInt_natCast ..
theorem Sl.head {p : Nat × Obj} {L : HList} {v : SlV} {sz : Nat} {vs : List Value} (h : Sl [p] v sz vs) : Sl (p :: L) v sz vs := h.mono fun q hq => by
  obtain rfl := List.mem_singleton.1 hq
  exact List.mem_cons_self
end Go.HL
