/-
  It is proved, of lists alone, which entries a queue has after a list of puts. There are no further conditions than those that each theorem names.
-/
import Derived.Test.YtefllmfoneocaaaQueue6
set_option linter.unusedVariables false
set_option linter.unusedSimpArgs false
namespace Go.Proofs.Ytefllmfoneocaaa
open Go.HL

abbrev KV := ByteArray × List UInt8
def kvOf (x : QAct) : KV := (x.2.1, x.2.2.1.2)
def dataOf (l : List QE) : List KV := l.map fun e => (e.key, e.val)
def kvDrop (d : List KV) (k : ByteArray) : List KV := d.filter fun p => decide (p.1 ≠ k)
section
open Classical
/-- Each key once, with its last value, in the order of the last puts. -/
noncomputable def lasts : List KV → List KV
  | [] => []
  | x :: r => if x.1 ∈ r.map Prod.fst then lasts r else x :: lasts r
theorem lasts_in {x : KV} {r : List KV} (h : x.1 ∈ r.map Prod.fst) : lasts (x :: r) = lasts r := by
  show (if x.1 ∈ r.map Prod.fst then lasts r else x :: lasts r) = _
  rw [if_pos h]
theorem lasts_out {x : KV} {r : List KV} (h : x.1 ∉ r.map Prod.fst) : lasts (x :: r) = x :: lasts r := by
  show (if x.1 ∈ r.map Prod.fst then lasts r else x :: lasts r) = _
  rw [if_neg h]
theorem lasts_keys (l : List KV) (k : ByteArray) : k ∈ (lasts l).map Prod.fst ↔ k ∈ l.map Prod.fst := by
  induction l with
  | nil => rfl
  | cons x r ih =>
    unfold lasts
    split
    · rename_i h
      rw [ih, List.map_cons, List.mem_cons]
      exact ⟨.inr, fun h2 => h2.elim (fun e => by rw [e]; exact h) id⟩
    · rw [List.map_cons, List.mem_cons, ih, List.map_cons, List.mem_cons]
theorem lasts_snoc (l : List KV) (x : KV) : lasts (l ++ [x]) = kvDrop (lasts l) x.1 ++ [x] := by
  induction l with
  | nil => simp [lasts, kvDrop]
  | cons y r ih =>
    show (if y.1 ∈ (r ++ [x]).map Prod.fst then lasts (r ++ [x]) else y :: lasts (r ++ [x])) = kvDrop (if y.1 ∈ r.map Prod.fst then lasts r else y :: lasts r) x.1 ++ [x]
    rw [ih]
    by_cases h1 : y.1 ∈ r.map Prod.fst
    · rw [if_pos (by rw [List.map_append, List.mem_append]; exact .inl h1), if_pos h1]
    · rw [if_neg h1]
      by_cases h2 : y.1 = x.1
      · rw [if_pos (by rw [List.map_append, List.mem_append]; exact .inr (by simp [h2]))]
        unfold kvDrop
        rw [List.filter_cons_of_neg (by simp [h2])]
      · rw [if_neg (by rw [List.map_append, List.mem_append]; rintro (h | h); exact h1 h; exact h2 (by simpa using h))]
        unfold kvDrop
        rw [List.filter_cons_of_pos (by simp [h2])]
        rfl
end
theorem data_drop {l : List QE} (ok : QOk l) (k : ByteArray) : dataOf (qdrop l k) = kvDrop (dataOf l) k := by
  have hnd := ok.nd
  clear ok
  have keep : ∀ r : List QE, k ∉ r.map QE.key → kvDrop (dataOf r) k = dataOf r := by
    intro r hr
    unfold kvDrop dataOf
    rw [List.filter_eq_self]
    intro p hp
    obtain ⟨e, he, rfl⟩ := List.mem_map.1 hp
    simp only [decide_eq_true_eq]
    rintro rfl
    exact hr (List.mem_map_of_mem he)
  induction l with
  | nil => rfl
  | cons e r ih =>
    rw [List.map_cons, List.nodup_cons] at hnd
    unfold qdrop
    by_cases h : k = e.key
    · subst h
      rw [List.eraseP_cons_of_pos (by simp)]
      show dataOf r = kvDrop ((e.key, e.val) :: dataOf r) e.key
      have h2 := keep r hnd.1
      unfold kvDrop at h2 ⊢
      rw [List.filter_cons_of_neg (by simp), h2]
    · rw [List.eraseP_cons_of_neg (by simpa using h)]
      have h2 := ih hnd.2
      show (e.key, e.val) :: dataOf (qdrop r k) = kvDrop ((e.key, e.val) :: dataOf r) k
      rw [h2]
      unfold kvDrop
      rw [List.filter_cons_of_pos (by simpa using fun e2 => h e2.symm)]
theorem data_bump (l : List QE) (k : ByteArray) : dataOf (qbump l k) = dataOf l := by
  unfold dataOf qbump
  rw [List.map_map]
  refine List.map_congr_left fun e _ => ?_
  simp only [Function.comp]
  split <;> rfl
theorem data_append (l m : List QE) : dataOf (l ++ m) = dataOf l ++ dataOf m := by simp [dataOf]
end Go.Proofs.Ytefllmfoneocaaa
