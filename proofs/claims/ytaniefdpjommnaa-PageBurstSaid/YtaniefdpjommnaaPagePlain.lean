/-
  It is proved what the bytes of a page are: no program is in sight. There are no further conditions than those that each theorem names.
-/
import Derived.Test.YtaniefdpjommnaaPage3
set_option linter.unusedVariables false
set_option linter.unusedSimpArgs false
namespace Go.Proofs.Ytaniefdpjommnaa
open Go.HL

theorem digs_num : ∀ l : List UInt8, digs (num l) l.length = l
  | [] => rfl
  | x :: r => by
    rw [List.length_cons, digs_cons]
    have h1 : UInt8.ofNat (num (x :: r)) = x := by
      show UInt8.ofNat (x.toNat + 256 * num r) = x
      apply UInt8.toNat_inj.1
      have := x.toNat_lt
      simp
    have h2 : num (x :: r) / 256 = num r := by
      show (x.toNat + 256 * num r) / 256 = num r
      have := x.toNat_lt
      omega
    rw [h1, h2, digs_num r]
def hOf (b : List UInt8) : Hd := ((b.getD 0 0).toNat, (b.getD 1 0).toNat, (b.getD 2 0).toNat, num ((b.drop 4).take 4), (b.getD 8 0).toNat, ())
def nOf (b : List UInt8) : Nat := num ((b.drop 10).take 2)
def padOf (b : List UInt8) : List UInt8 := (b.drop (12 + nOf b)).take (b.length - 4 - (12 + nOf b))
def payOf (b : List UInt8) : List UInt8 := (b.drop 12).take (nOf b)
def pbad (b : List UInt8) : Bool := decide (b.getD 3 0 ≠ 165) || decide (b.getD 9 0 ≠ 0) || decide (nOf b > b.length - 16) || decide (hErr (hOf b) ≠ 0) || (padOf b).any fun x => decide (x ≠ 0)
def pblank (b : List UInt8) : Bool := b.all fun x => decide (x = 255)
def hz : Hd := (0, 0, 0, 0, 0, ())
/-- What bytes say as a page. -/
def parR (b : List UInt8) : Hd × List UInt8 × Int :=
  if ¬ (64 ≤ b.length ∧ b.length ≤ 512) then (hz, [], 2) else if pblank b = true then (hz, [], 15) else if crcSum (b.take (b.length - 4)) ≠ (num (b.drop (b.length - 4)) : Int) then (hz, [], 12) else if pbad b = true then (hz, [], 5) else (hOf b, payOf b, 0)
theorem cons12 {b : List UInt8} (h : 12 ≤ b.length) : ∃ b0 b1 b2 b3 b4 b5 b6 b7 b8 b9 b10 b11 r, b = b0 :: b1 :: b2 :: b3 :: b4 :: b5 :: b6 :: b7 :: b8 :: b9 :: b10 :: b11 :: r := by
  match b, h with
  | b0 :: b1 :: b2 :: b3 :: b4 :: b5 :: b6 :: b7 :: b8 :: b9 :: b10 :: b11 :: r, _ => exact ⟨b0, b1, b2, b3, b4, b5, b6, b7, b8, b9, b10, b11, r, rfl⟩
theorem dig_b (x : UInt8) : digs x.toNat 1 = [x] := by
  have := digs_num [x]
  simpa [num] using this
theorem hBytes_of (b0 b1 b2 b3 b4 b5 b6 b7 b8 b9 b10 b11 : UInt8) (r : List UInt8) : hBytes (hOf (b0 :: b1 :: b2 :: b3 :: b4 :: b5 :: b6 :: b7 :: b8 :: b9 :: b10 :: b11 :: r)) (nOf (b0 :: b1 :: b2 :: b3 :: b4 :: b5 :: b6 :: b7 :: b8 :: b9 :: b10 :: b11 :: r)) = [b0, b1, b2, 165, b4, b5, b6, b7, b8, 0, b10, b11] := by
  have h4 : digs (num [b4, b5, b6, b7]) 4 = [b4, b5, b6, b7] := digs_num _
  have h2 : digs (num [b10, b11]) 2 = [b10, b11] := digs_num _
  show digs ((b0.toNat : Int)).toNat 1 ++ digs ((b1.toNat : Int)).toNat 1 ++ digs ((b2.toNat : Int)).toNat 1 ++ digs 165 1 ++ digs ((num [b4, b5, b6, b7] : Int)).toNat 4 ++ digs ((b8.toNat : Int)).toNat 1 ++ digs 0 1 ++ digs (num [b10, b11]) 2 = _
  simp only [Int.toNat_natCast, dig_b, h4, h2]
  rfl
theorem nOf_lt (b : List UInt8) : nOf b < 65536 := by
  have h1 := num_lt ((b.drop 10).take 2)
  have h2 : 256 ^ ((b.drop 10).take 2).length ≤ 256 ^ 2 := Nat.pow_le_pow_right (by omega) (by rw [List.length_take]; omega)
  unfold nOf
  omega
theorem payOf_len {b : List UInt8} (h : 12 + nOf b ≤ b.length) : (payOf b).length = nOf b := by
  unfold payOf; rw [List.length_take, List.length_drop]; omega
/-- The bytes of a page are those of its image, where they can be. -/
theorem again {b : List UInt8} (h1 : 64 ≤ b.length) (hc : crcSum (b.take (b.length - 4)) = (num (b.drop (b.length - 4)) : Int)) (hn : nOf b ≤ b.length - 16) :
    iAll (hOf b) (payOf b) b.length = b ↔ b.getD 3 0 = 165 ∧ b.getD 9 0 = 0 ∧ ∀ x ∈ padOf b, x = 0 := by
  have hpl := payOf_len (b := b) (by omega)
  obtain ⟨b0, b1, b2, b3, b4, b5, b6, b7, b8, b9, b10, b11, r, rfl⟩ := cons12 (b := b) (by omega)
  have hb := hBytes_of b0 b1 b2 b3 b4 b5 b6 b7 b8 b9 b10 b11 r
  generalize hB : b0 :: b1 :: b2 :: b3 :: b4 :: b5 :: b6 :: b7 :: b8 :: b9 :: b10 :: b11 :: r = b at *
  have hlen : b.length = r.length + 12 := by subst hB; simp
  have hpay : payOf b = r.take (nOf b) := by unfold payOf; subst hB; rfl
  have hpad : padOf b = (r.drop (nOf b)).take (b.length - 16 - nOf b) := by
    unfold padOf
    rw [show b.length - 4 - (12 + nOf b) = b.length - 16 - nOf b by omega]
    congr 1
    subst hB
    rw [← List.drop_drop]; rfl
  have hlast : b.drop (b.length - 4) = r.drop (b.length - 16) := by
    rw [show b.length - 4 = 12 + (b.length - 16) by omega, ← List.drop_drop]
    congr 1
    subst hB; rfl
  have hpadl : (padOf b).length = b.length - 16 - nOf b := by rw [hpad, List.length_take, List.length_drop]; omega
  have hr : r = payOf b ++ padOf b ++ b.drop (b.length - 4) := by
    rw [hpay, hpad, hlast]
    have e1 : r.drop (b.length - 16) = (r.drop (nOf b)).drop (b.length - 16 - nOf b) := by rw [List.drop_drop]; congr 1; omega
    rw [e1, List.append_assoc, List.take_append_drop, List.take_append_drop]
  have hg3 : b.getD 3 0 = b3 := by subst hB; rfl
  have hg9 : b.getD 9 0 = b9 := by subst hB; rfl
  have hbt : b.take (b.length - 4) = [b0, b1, b2, b3, b4, b5, b6, b7, b8, b9, b10, b11] ++ (payOf b ++ padOf b) := by
    have : b = ([b0, b1, b2, b3, b4, b5, b6, b7, b8, b9, b10, b11] ++ (payOf b ++ padOf b)) ++ b.drop (b.length - 4) := by
      rw [List.append_assoc, ← hr, ← hB]; rfl
    have e := congrArg (List.take (b.length - 4)) this
    rw [List.take_left' (by
      rw [List.length_append, List.length_append, hpl, hpadl]
      simp only [List.length_cons, List.length_nil]
      omega)] at e
    exact e
  have hll : (b.drop (b.length - 4)).length = 4 := by rw [List.length_drop]; omega
  have hbody : iBody (hOf b) (payOf b) b.length = [b0, b1, b2, 165, b4, b5, b6, b7, b8, 0, b10, b11] ++ (payOf b ++ List.replicate (b.length - 16 - nOf b) 0) := by
    unfold iBody
    rw [hpl, hb, List.append_assoc]
  have hpad0 : (∀ x ∈ padOf b, x = 0) ↔ List.replicate (b.length - 16 - nOf b) 0 = padOf b := by
    rw [← hpadl]
    constructor
    · intro h; exact (List.eq_replicate_iff.2 ⟨rfl, h⟩).symm
    · intro h x hx; rw [← h] at hx; exact List.eq_of_mem_replicate hx
  rw [hg3, hg9, hpad0]
  have hB2 : b = [b0, b1, b2, b3, b4, b5, b6, b7, b8, b9, b10, b11] ++ (payOf b ++ (padOf b ++ b.drop (b.length - 4))) := by
    rw [← List.append_assoc (payOf b), ← hr, ← hB]; rfl
  constructor
  · intro h
    unfold iAll at h
    rw [hbody, List.append_assoc, List.append_assoc] at h
    have h' := h.trans hB2
    obtain ⟨e1, e2⟩ := List.append_inj h' rfl
    obtain ⟨e3, e4⟩ := List.append_inj e2 rfl
    obtain ⟨e5, e6⟩ := List.append_inj e4 (by rw [List.length_replicate, hpadl])
    simp only [List.cons.injEq, and_true, true_and] at e1
    exact ⟨e1.1.symm, e1.2.symm, e5⟩
  · rintro ⟨rfl, rfl, e5⟩
    have : iBody (hOf b) (payOf b) b.length = b.take (b.length - 4) := by rw [hbody, e5, hbt]
    unfold iAll
    rw [this, hc, Int.toNat_natCast]
    have h4 := digs_num (b.drop (b.length - 4))
    rw [hll] at h4
    rw [h4, List.take_append_drop]
end Go.Proofs.Ytaniefdpjommnaa
