/-
  It is proved what appending zeros to a slice that is nil does. There are no further conditions than those that each theorem names.
-/
import Derived.Test.YtaniefdpjommnaaDoorHL23
set_option linter.unusedVariables false
set_option linter.unusedSimpArgs false
namespace Go.HL
section
variable {P : Program} {L : HList}
theorem run_append_zeros {t t2 ty e : TypeId} {i : TypeInfo} {z : Value} {ik : IntKind} (ht : P.underlying t = some (.slice e)) (h2 : P.underlying t2 = some (.int ik)) (hi : P.info? e = some i) (hz : i.zero = some z) (hs : 0 < i.size) {n : Nat} (h0 : 0 < n) (h63 : (n : Int) ≤ 9223372036854775807) (hb : n * i.bytes ≤ 281474976710656) (w : World) :
    (Builtin.append_ #[t, t2] ty #[.slice none 0 0, .int .i64 (n : Int)]).run P w =
      .ok (.slice (some ⟨w.heap.size, 0, none⟩) n (grownCap w n 0 e)) (w.drew.alloc (.cells (#[] ++ Builtin.zeroCells z.cells n ++ Builtin.zeroCells z.cells (grownCap w n 0 e - n)) e)) := by
  have hw : IntKind.i64.wrap (n : Int) = n := w64_id (by omega) (by omega)
  have h1 : ¬ ((n : Int) < 0) := by omega
  have hbi : ¬ (281474976710656 < (n : Int) * (i.bytes : Int)) := by
    have : ((n * i.bytes : Nat) : Int) ≤ 281474976710656 := by omega
    rw [Int.natCast_mul] at this
    omega
  have hn : n ≠ 0 := by omega
  have hns : n * i.size ≠ 0 := Nat.mul_ne_zero hn (by omega)
  have hns2 : ¬ (n = 0 ∨ i.size = 0) := by omega
  have h48' : ¬ (281474976710656 < Builtin.nextslicecap n 0 * i.bytes) := by rw [nextslicecap_zero h0]; omega
  have h63' : ¬ (9223372036854775807 < (n : Int)) := by omega
  have hs0 : i.size ≠ 0 := by omega
  simp [Builtin.append_, run_underlying ht, run_underlying h2, sizeOf, typeInfo, zeroValue, hi, hz, asInt, asIntOf, hw, h1, hbi, hn, hs0, hns, hns2, h48', h63', Question.forced, run_firstCells_none, newRow, grownCap]
/-- Zeros are appended to what is nil. -/
theorem grow0_of {t t2 ty e : TypeId} {sz bytes : Nat} {z : List Value} {ik : IntKind} (hT : ElemT P t e sz bytes z) (h2 : P.underlying t2 = some (.int ik)) {n : Nat} (h0 : 0 < n) (hb : n * bytes ≤ 140737488355328) {k : RsV [.lf .sl] → HP}
    (hk : ∀ q cap ob, n ≤ cap → Own ⟨some ⟨q, 0, none⟩, 0, cap⟩ sz e [] [(q, ob)] → k (⟨some ⟨q, 0, none⟩, n, cap⟩, ()) ((q, ob) :: L)) :
    smW P (Builtin.append_ #[t, t2] ty #[.slice none 0 0, .int .i64 (n : Int)]) [.lf .sl] k L := by
  obtain ⟨i, hi, his, hib, zv, hz, hzl⟩ := hT.info
  subst his hib
  intro E F w hw
  have hle : n ≤ n * i.bytes := Nat.le_mul_of_pos_right _ hT.bpos
  have hzs : zv.cells.size = i.size := by rw [← hT.zlen, ← hzl]; simp
  have hr := run_append_zeros (ty := ty) hT.und h2 hi hz hT.pos h0 (by omega) (by omega) w
  have hge := grownCap_ge w n 0 e
  refine ⟨_, _, (w.heap.size, Obj.cells (#[] ++ Builtin.zeroCells zv.cells n ++ Builtin.zeroCells zv.cells (grownCap w n 0 e - n)) e) :: L, hr, ?_, (⟨some ⟨w.heap.size, 0, none⟩, n, grownCap w n 0 e⟩, ()), rfl, ?_⟩
  · exact (hw.drew _).push (.cells (#[] ++ Builtin.zeroCells zv.cells n ++ Builtin.zeroCells zv.cells (grownCap w n 0 e - n)) e)
  · refine hk _ _ _ hge ⟨by simp, Nat.zero_le _, .inr ⟨w.heap.size, 0, _, (0, 0), rfl, rfl, ?_, .inl (Nat.le_refl _), fun j u hu => by simp at hu⟩⟩
    simp only [Array.size_append, zeroCells_size, hzs]
    simp only [List.size_toArray, List.length_nil, Nat.zero_add, ← Nat.add_mul]
    rw [show n + (grownCap w n 0 e - n) = grownCap w n 0 e by omega]
    simp
end
end Go.HL
