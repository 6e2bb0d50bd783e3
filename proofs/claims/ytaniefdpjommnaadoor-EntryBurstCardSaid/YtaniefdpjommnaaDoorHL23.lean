/-
  It is proved how long an argument's slice can be. There are no further conditions than those that each theorem names.
-/
import Derived.Test.YtaniefdpjommnaaDoorHL21
import Derived.SizedLaws
set_option linter.unusedVariables false
set_option linter.unusedSimpArgs false
namespace Go.HL
section
variable {P : Program} {w : World}
theorem trod_len {t e : TypeId} {a : Option Addr} {len cap : Nat} {H : Type} {e' : TypeId × Value → H} {sp : Nat → Bool} {held : Bool} {d : DataW H} {ps : List MemPlace} (hu : P.underlying t = some (.slice e)) (h : DataW.Trod e' P w 0 sp held t (.slice a len cap) d ps) :
    len = 0 ∨ ∃ elems spare, d = .slice elems spare ∧ elems.length = len := by
  obtain ⟨fuel, hf⟩ := h
  rcases Deep.open_slice hu hf with ⟨h1, _⟩ | ⟨a', len', cap', m, n, D, Pl, h1, _, _, _, _, h2, _⟩
  · have : [Value.slice a len cap] = [.slice none 0 0] := h1
    injection this with h3
    injection h3 with _ h4 _
    exact .inl h4
  · have : [Value.slice a len cap] = [.slice (some a') len' cap'] := h1
    injection this with h3
    injection h3 with _ h4 _
    subst h4
    injection h2 with h5 _
    exact .inr ⟨_, _, h5, by simp⟩
theorem sized_arg {t e : TypeId} {B : Nat} {a : Option Addr} {len cap : Nat} {H : Type} {e' : TypeId × Value → H} {sp : Nat → Bool} {held : Bool} {d : DataW H} {ps : List MemPlace} {ts : List TypeId} {ds : List (DataW H)} {j : Nat}
    (hz : (DataW.weightsEach P ts ds).all (· ≤ reachBytes) = true) (ht : ts[j]? = some t) (hd : ds[j]? = some d) (hu : P.underlying t = some (.slice e)) (hB : P.bytesOf e = B) (h : DataW.Trod e' P w 0 sp held t (.slice a len cap) d ps) : len * B ≤ 140737488351232 := by
  rcases trod_len hu h with rfl | ⟨elems, spare, rfl, rfl⟩
  · rw [Nat.zero_mul]; exact Nat.zero_le _
  · have h1 := sized_slice hz ht hd hu
    rw [hB] at h1
    have h2 : elems.length * B ≤ (elems.length + spare.length) * B := Nat.mul_le_mul_right _ (Nat.le_add_right _ _)
    have h3 : reachBytes = 140737488351232 := by decide
    omega
end
end Go.HL
