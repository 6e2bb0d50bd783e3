/-
  It is proved, of lists of bytes alone, that the checksum is linear and that a burst of at most 32 bits changes it. There are no further conditions than those that each theorem names.
-/
import Derived.KernelRfl
set_option linter.unusedVariables false
set_option linter.unusedSimpArgs false
namespace Go.Proofs.YtaniefdpjommnaaDoor

/-! ### the checksum -/
def crcBit (c : BitVec 32) : BitVec 32 := (c >>> 1) ^^^ (2197175160#32 &&& -(c &&& 1#32))
def crcBits : Nat → BitVec 32 → BitVec 32
  | 0, c => c
  | n + 1, c => crcBit (crcBits n c)
def crcByte (c : BitVec 32) (b : UInt8) : BitVec 32 := crcBits 8 (c ^^^ BitVec.ofNat 32 b.toNat)
def crcSteps (c : BitVec 32) (l : List UInt8) : BitVec 32 := l.foldl crcByte c
theorem crcSteps_snoc (c : BitVec 32) (l : List UInt8) (b : UInt8) : crcSteps c (l ++ [b]) = crcByte (crcSteps c l) b := by simp [crcSteps]
theorem crcSteps_append (c : BitVec 32) (l m : List UInt8) : crcSteps c (l ++ m) = crcSteps (crcSteps c l) m := by simp [crcSteps]

theorem and_one (c : BitVec 32) : c &&& 1#32 = if c.getLsbD 0 then 1#32 else 0#32 := by
  apply BitVec.eq_of_getLsbD_eq
  intro i hi
  rw [BitVec.getLsbD_and, BitVec.getLsbD_one]
  by_cases h : i = 0
  · subst h; cases ha : c.getLsbD 0 <;> simp [ha]
  · cases ha : c.getLsbD 0 <;> simp [h]
theorem crcBit_if (c : BitVec 32) : crcBit c = (c >>> 1) ^^^ (if c.getLsbD 0 then 2197175160#32 else 0#32) := by
  unfold crcBit
  rw [and_one]
  cases c.getLsbD 0
  · rfl
  · have : 2197175160#32 &&& -1#32 = 2197175160#32 := by decide
    simp only [if_true, this]
theorem if_xor (a b : Bool) (p : BitVec 32) : (if (a ^^ b) then p else 0#32) = (if a then p else 0#32) ^^^ (if b then p else 0#32) := by
  cases a <;> cases b <;> simp
theorem crcBit_xor (a b : BitVec 32) : crcBit (a ^^^ b) = crcBit a ^^^ crcBit b := by
  rw [crcBit_if, crcBit_if, crcBit_if, BitVec.ushiftRight_xor_distrib, BitVec.getLsbD_xor, if_xor]
  generalize (if a.getLsbD 0 then 2197175160#32 else 0#32) = p
  generalize (if b.getLsbD 0 then 2197175160#32 else 0#32) = q
  rw [BitVec.xor_assoc, BitVec.xor_assoc]
  congr 1
  rw [← BitVec.xor_assoc, BitVec.xor_comm (b >>> 1) p, BitVec.xor_assoc]
theorem crcBits_xor : ∀ (n : Nat) (a b : BitVec 32), crcBits n (a ^^^ b) = crcBits n a ^^^ crcBits n b
  | 0, a, b => rfl
  | n + 1, a, b => by rw [crcBits, crcBits_xor n, crcBit_xor]; rfl
theorem crcBits_add : ∀ (m n : Nat) (c : BitVec 32), crcBits (m + n) c = crcBits m (crcBits n c)
  | 0, n, c => by rw [Nat.zero_add]; rfl
  | m + 1, n, c => by rw [Nat.succ_add, crcBits, crcBits_add m n c]; rfl
theorem crcByte_xor (a e : BitVec 32) (x : UInt8) : crcByte (a ^^^ e) x = crcByte a x ^^^ crcBits 8 e := by
  unfold crcByte
  rw [← crcBits_xor, BitVec.xor_assoc, BitVec.xor_assoc, BitVec.xor_comm e]
theorem crcSteps_xor : ∀ (l : List UInt8) (a e : BitVec 32), crcSteps (a ^^^ e) l = crcSteps a l ^^^ crcBits (8 * l.length) e
  | [], a, e => rfl
  | x :: r, a, e => by
    show crcSteps (crcByte (a ^^^ e) x) r = crcSteps (crcByte a x) r ^^^ _
    rw [crcByte_xor, crcSteps_xor r, ← crcBits_add]
    rfl
theorem crcBit_zero (c : BitVec 32) (h : crcBit c = 0#32) : c = 0#32 := by
  rw [crcBit_if] at h
  cases h0 : c.getLsbD 0 with
  | true =>
    rw [h0] at h
    have h1 := congrArg (fun x => x.getLsbD 31) h
    simp [BitVec.getLsbD_xor, BitVec.getLsbD_ushiftRight] at h1
  | false =>
    rw [h0] at h
    simp only [Bool.false_eq_true, if_false, BitVec.xor_zero] at h
    apply BitVec.eq_of_getLsbD_eq
    intro i hi
    cases i with
    | zero => rw [h0]; simp
    | succ i =>
      have h1 := congrArg (fun x => x.getLsbD i) h
      simp only [BitVec.getLsbD_ushiftRight, BitVec.getLsbD_zero] at h1
      rw [Nat.add_comm] at h1
      rw [h1]; simp
theorem crcBits_zero : ∀ (n : Nat) (c : BitVec 32), crcBits n c = 0#32 → c = 0#32
  | 0, c, h => h
  | n + 1, c, h => crcBits_zero n c (crcBit_zero _ h)
theorem crcBits_of_zero : ∀ n, crcBits n 0#32 = 0#32
  | 0 => rfl
  | n + 1 => by rw [crcBits, crcBits_of_zero n]; decide
theorem bits_pow : ∀ i : Fin 32, crcBits i.val (1#32 <<< i.val) = 1#32 := by decide +kernel

/-! three lists -/
theorem u8_xor (a b : UInt8) : BitVec.ofNat 32 (a ^^^ b).toNat = BitVec.ofNat 32 a.toNat ^^^ BitVec.ofNat 32 b.toNat := by
  apply BitVec.eq_of_toNat_eq
  have h1 := a.toNat_lt
  have h2 := b.toNat_lt
  have h3 := (a ^^^ b).toNat_lt
  simp only [BitVec.toNat_xor, BitVec.toNat_ofNat]
  rw [Nat.mod_eq_of_lt (by omega), Nat.mod_eq_of_lt (by omega), Nat.mod_eq_of_lt (by omega), UInt8.toNat_xor]
theorem xor_six (p q r x y z : BitVec 32) : p ^^^ q ^^^ r ^^^ (x ^^^ y ^^^ z) = (p ^^^ x) ^^^ (q ^^^ y) ^^^ (r ^^^ z) := by
  apply BitVec.eq_of_getLsbD_eq
  intro i hi
  simp only [BitVec.getLsbD_xor]
  cases p.getLsbD i <;> cases q.getLsbD i <;> cases r.getLsbD i <;> cases x.getLsbD i <;> cases y.getLsbD i <;> cases z.getLsbD i <;> rfl
theorem crcByte_three (p q r : BitVec 32) (x y z : UInt8) : crcByte (p ^^^ q ^^^ r) (x ^^^ y ^^^ z) = crcByte p x ^^^ crcByte q y ^^^ crcByte r z := by
  unfold crcByte
  rw [u8_xor, u8_xor, xor_six, crcBits_xor, crcBits_xor]
def xor3 (a b c : List UInt8) (n : Nat) : List UInt8 := (List.range n).map fun i => (a.getD i 0) ^^^ (b.getD i 0) ^^^ (c.getD i 0)
theorem xor3_succ (a b c : List UInt8) (n : Nat) : xor3 a b c (n + 1) = xor3 a b c n ++ [a.getD n 0 ^^^ b.getD n 0 ^^^ c.getD n 0] := by
  simp [xor3, List.range_succ]
theorem crcSteps_three (p q r : BitVec 32) (a b c : List UInt8) : ∀ n, n ≤ a.length → n ≤ b.length → n ≤ c.length →
    crcSteps (p ^^^ q ^^^ r) (xor3 a b c n) = crcSteps p (a.take n) ^^^ crcSteps q (b.take n) ^^^ crcSteps r (c.take n)
  | 0, _, _, _ => rfl
  | n + 1, ha, hb, hc => by
    rw [xor3_succ, crcSteps_snoc, crcSteps_three p q r a b c n (by omega) (by omega) (by omega), crcByte_three,
      List.take_succ_eq_append_getElem ha, List.take_succ_eq_append_getElem hb, List.take_succ_eq_append_getElem hc, crcSteps_snoc, crcSteps_snoc, crcSteps_snoc]
    simp [List.getD_eq_getElem?_getD, show n < a.length from ha, show n < b.length from hb, show n < c.length from hc]

/-! one bit -/
def flipB (x : UInt8) (r : Nat) : UInt8 := x ^^^ UInt8.ofNat (2 ^ r)
theorem flip_bits : ∀ r : Fin 8, crcBits 8 (BitVec.ofNat 32 (UInt8.ofNat (2 ^ r.val)).toNat) = crcBits (8 - r.val) 1#32 := by decide +kernel
theorem crcByte_flip (c : BitVec 32) (x : UInt8) (r : Nat) (hr : r < 8) : crcByte c (flipB x r) = crcByte c x ^^^ crcBits (8 - r) 1#32 := by
  unfold crcByte flipB
  rw [u8_xor, ← BitVec.xor_assoc, crcBits_xor, flip_bits ⟨r, hr⟩]
theorem crcSteps_flip (c : BitVec 32) (l : List UInt8) (k : Nat) (hk : k / 8 < l.length) :
    crcSteps c (l.set (k / 8) (flipB l[k / 8] (k % 8))) = crcSteps c l ^^^ crcBits (8 * l.length - k) 1#32 := by
  have h1 : l = l.take (k / 8) ++ l[k / 8] :: l.drop (k / 8 + 1) := by rw [← List.drop_eq_getElem_cons hk, List.take_append_drop]
  have h2 : l.set (k / 8) (flipB l[k / 8] (k % 8)) = l.take (k / 8) ++ flipB l[k / 8] (k % 8) :: l.drop (k / 8 + 1) := List.set_eq_take_append_cons_drop .. |>.trans (if_pos hk)
  rw [h2]
  conv => rhs; rw [h1]
  rw [crcSteps_append, crcSteps_append]
  show crcSteps (crcByte _ _) _ = crcSteps (crcByte _ _) _ ^^^ _
  rw [crcByte_flip _ _ _ (Nat.mod_lt _ (by omega)), crcSteps_xor, ← crcBits_add]
  congr 2
  simp only [List.length_drop, List.length_append, List.length_take, List.length_cons]
  omega
/-- What is turned so far: M has no bit from i on. -/
theorem burst_step (N f i : Nat) (hi : i < 32) (hN : f + i ≤ N) (M : BitVec 32) (hM : ∀ j, i ≤ j → M.getLsbD j = false) (s : BitVec 32) (x : BitVec 32) (hx : x = s ^^^ crcBits (N - f) M) :
    (∀ j, i + 1 ≤ j → (M ^^^ 1#32 <<< i).getLsbD j = false) ∧ M ^^^ 1#32 <<< i ≠ 0#32 ∧ x ^^^ crcBits (N - (f + i)) 1#32 = s ^^^ crcBits (N - f) (M ^^^ 1#32 <<< i) := by
  refine ⟨fun j hj => ?_, fun h => ?_, ?_⟩
  · rw [BitVec.getLsbD_xor, hM j (by omega), BitVec.getLsbD_shiftLeft, BitVec.getLsbD_one]
    have : j - i ≠ 0 := by omega
    simp [this]
  · have h1 := congrArg (fun x => x.getLsbD i) h
    simp only [BitVec.getLsbD_xor, hM i (Nat.le_refl _), BitVec.getLsbD_shiftLeft, BitVec.getLsbD_one] at h1
    simp [hi] at h1
  · rw [hx, crcBits_xor, ← BitVec.xor_assoc]
    congr 1
    have : N - f = (N - (f + i)) + i := by omega
    rw [this, crcBits_add (N - (f + i)) i (1#32 <<< i), bits_pow ⟨i, hi⟩]
theorem xor_ne (s e : BitVec 32) : (s ^^^ e = s) ↔ e = 0#32 := by
  constructor
  · intro h
    have := congrArg (fun x => s ^^^ x) h
    simpa only [← BitVec.xor_assoc, BitVec.xor_self, BitVec.zero_xor] using this
  · rintro rfl; simp
end Go.Proofs.YtaniefdpjommnaaDoor
