/-
  It is proved what the functions Room of the layer page and of its document's answer compute. There are no further conditions than those that each theorem names.
-/
import Derived.Test.YtaniefdpjommnaaDoorWireRd
import Derived.Test.YtaniefdpjommnaaDoorCrcFlip
import Derived.Test.YtaniefdpjommnaaDoorHL24
set_option linter.unusedVariables false
set_option linter.unusedSimpArgs false
namespace Go.Proofs.YtaniefdpjommnaaDoor
open Go.HL

def szd (n : Int) : Bool := decide (64 ≤ n ∧ n ≤ 512)
def roomOf (n : Int) : Int := if 64 ≤ n ∧ n ≤ 512 then n - 16 else 0
theorem psized_rd (L : HList) (n : Int) : Reads PP 37 #[.int .i64 n] L (.bool (szd n)) := by
  refine Reads.of (args := [.int .i64 n]) noNum mixed Tryd.func37 (e37 n _) ?_
  unfold t37
  refine ifD_of (fun (h : n ≥ 64) => .of ⟨?_, rfl⟩) (fun (h : ¬ n ≥ 64) => .of ⟨?_, rfl⟩)
  · unfold szd; congr 1; rw [decide_eq_decide]; omega
  · unfold szd; rw [decide_eq_false (by omega)]
theorem rsized_rd (L : HList) (n : Int) : Reads PP 42 #[.int .i64 n] L (.bool (szd n)) := by
  refine Reads.of (args := [.int .i64 n]) noNum mixed Tryd.func42 (e42 n _) ?_
  unfold t42
  refine ifD_of (fun (h : n ≥ 64) => .of ⟨?_, rfl⟩) (fun (h : ¬ n ≥ 64) => .of ⟨?_, rfl⟩)
  · unfold szd; congr 1; rw [decide_eq_decide]; omega
  · unfold szd; rw [decide_eq_false (by omega)]
theorem szd_t {n : Int} (h : szd n = true) : 64 ≤ n ∧ n ≤ 512 := of_decide_eq_true h
theorem szd_f {n : Int} (h : szd n = false) : ¬ (64 ≤ n ∧ n ≤ 512) := of_decide_eq_false h
theorem proom_rd (L : HList) (n : Int) : Reads PP 19 #[.int .i64 n] L (.int .i64 (roomOf n)) := by
  refine Reads.of (args := [.int .i64 n]) noNum mixed Tryd.func19 (e19 n _) ?_
  unfold t19
  refine cl_rd (psized_rd _ n) (szd n, ()) rfl ?_
  cases h : szd n with
  | false => exact ifT rfl (.of ⟨by unfold roomOf; rw [if_neg (szd_f h)], rfl⟩)
  | true =>
    have := szd_t h
    refine ifF rfl (.of ⟨?_, rfl⟩)
    unfold roomOf; rw [if_pos this, w64_id (by omega) (by omega)]
theorem rroom_rd (L : HList) (n : Int) : Reads PP 29 #[.int .i64 n] L (.int .i64 (roomOf n)) := by
  refine Reads.of (args := [.int .i64 n]) noNum mixed Tryd.func29 (e29 n _) ?_
  unfold t29
  refine cl_rd (rsized_rd _ n) (szd n, ()) rfl ?_
  cases h : szd n with
  | false => exact ifT rfl (.of ⟨by unfold roomOf; rw [if_neg (szd_f h)], rfl⟩)
  | true =>
    have := szd_t h
    refine ifF rfl (.of ⟨?_, rfl⟩)
    unfold roomOf; rw [if_pos this, w64_id (by omega) (by omega)]
end Go.Proofs.YtaniefdpjommnaaDoor
