/-
  It is proved that the given law 'BlocksDoes' returns true for every input and leaves what came in as it was. There are no further conditions.
  The row's step, written by the program row.py.
-/
import Derived.Test.YtefllmfoneocaaaRows
import Derived.Test.YtefllmfoneocaaaBlocksDoes
import Derived.WalkKit
import Derived.ProofKit
import Derived.OpenShut
import Derived.ShutString
import Derived.ChangeOld
import Derived.Below
import Derived.SizedLaws
set_option linter.unusedVariables false
namespace Go.Proofs.Ytefllmfoneocaaa.RBlocksDoes
open Go.ChangeShapes Go.WideShapes Go.ChangeAt Go.RowKit Go.HL

theorem own : ownKnob Try.prog.godebug = none := by kernel_rfl
theorem laidOut : laidOutB Try.prog = true := by kernel_rfl

set_option maxRecDepth 100000 in
theorem lifted (os : Os) (started : os.Started) (H : Type) (enc : TypeId × Value → H) :
    ReturnsInHanded {} Try.checked os 12 .any (Rows.blocksDoesSpec.pre6 enc Try.prog Try.f12 Rows.blocksDoesRow.domain false) (Rows.blocksDoesSpec.post enc Try.prog Try.f12 false true false false) := by
  refine returnsInHanded_of_change_sized (C := Try.checked) own started (by kernel_rfl) Try.func12
    (ChangeSpec.witness6 (enc := enc) (C := Try.checked) false ⟨#[], #[.slice none 0 0, .slice none 0 0, .slice none 0 0], []⟩ 8 (by kernel_rfl) (by kernel_rfl) (by kernel_rfl) (by kernel_rfl)) ?_
  intro W base args ds gs before hval0 hW hcnd hz _
  have hval : ∀ (j : Nat) t v, Try.f12.params[j]? = some t → args[j]? = some v → Value.okWide Try.prog W .any base t v := hval0
  have hW' := hW
  obtain ⟨p, q, hA0, hV, rfl, hfz, hnd⟩ := hW
  have hA : DataW.TrodAll enc Try.prog W 0 (fun _ => true) true Try.f12.params.toList args.toList ds p := hA0
  rw [Try.params12] at hA hval
  obtain ⟨v0, vs0, d0, ds0, p0, q0, hargs, rfl, rfl, h0, r0⟩ := trodAll_cons hA
  obtain ⟨v1, vs1, d1, ds1, p1, q1, rfl, rfl, rfl, h1, r1⟩ := trodAll_cons r0
  obtain ⟨v2, vs2, d2, ds2, p2, q2, rfl, rfl, rfl, h2, r2⟩ := trodAll_cons r1
  obtain ⟨rfl, rfl, rfl⟩ := trodAll_nil r2
  obtain rfl : args = #[v0, v1, v2] := by cases args; simp_all
  obtain ⟨rfl, rfl⟩ := trodVars_none hV
  have k0 := h0
  have lt0 : ∀ x ∈ p0, x.block < W.heap.size := by obtain ⟨m, hm⟩ := k0; exact DataW.trod_lt m _ _ _ hm
  have k1 := h1
  have lt1 : ∀ x ∈ p1, x.block < W.heap.size := by obtain ⟨m, hm⟩ := k1; exact DataW.trod_lt m _ _ _ hm
  have k2 := h2
  have lt2 : ∀ x ∈ p2, x.block < W.heap.size := by obtain ⟨m, hm⟩ := k2; exact DataW.trod_lt m _ _ _ hm
  obtain ⟨a0, l0, rfl, w0⟩ := arg_slice Try.underlying99 (hval 0 99 v0 rfl rfl) (dec_slice (sz := 3) Try.underlying99 (by kernel_rfl) (fun _ => rfl) (by decide) (dec_struct Try.underlying166 (by kernel_rfl) (decF_cons (dec_int Try.underlying3) (decF_cons (dec_bool Try.underlying4) (decF_cons (dec_bool Try.underlying4) decF_nil))))) h0
  have z0 : l0.length * 16 ≤ 140737488351232 := by
    have z := sized_arg (B := 16) (j := 0) (t := 99) hz (by kernel_rfl) rfl Try.underlying99 (by kernel_rfl) h0
    have zl := w0.len
    simp only at zl
    rwa [zl] at z
  obtain ⟨a1, l1, rfl, w1⟩ := arg_slice Try.underlying37 (hval 1 37 v1 rfl rfl) (dec_slice (sz := 1) Try.underlying37 (by kernel_rfl) (fun _ => rfl) (by decide) (dec_int Try.underlying3)) h1
  have z1 : l1.length * 8 ≤ 140737488351232 := by
    have z := sized_arg (B := 8) (j := 1) (t := 37) hz (by kernel_rfl) rfl Try.underlying37 (by kernel_rfl) h1
    have zl := w1.len
    simp only at zl
    rwa [zl] at z
  obtain ⟨a2, l2, rfl, w2⟩ := arg_slice Try.underlying100 (hval 2 100 v2 rfl rfl) (dec_slice (sz := 3) Try.underlying100 (by kernel_rfl) (fun _ => rfl) (by decide) (dec_struct Try.underlying118 (by kernel_rfl) (decF_cons (dec_int Try.underlying3) (decF_cons (dec_int Try.underlying3) (decF_cons (dec_bool Try.underlying4) decF_nil))))) h2
  have z2 : l2.length * 24 ≤ 140737488351232 := by
    have z := sized_arg (B := 24) (j := 2) (t := 100) hz (by kernel_rfl) rfl Try.underlying100 (by kernel_rfl) h2
    have zl := w2.len
    simp only at zl
    rwa [zl] at z
  clear hA0 hval0
  refine (law_calls (row_BlocksDoes W a0 l0 w0 z0 a1 l1 w1 z1 a2 l2 w2 z2)).mono fun e W' ⟨he, bel⟩ => ?_
  subst he
  exact ⟨_, rfl, _, _, _, [], _, [], hW', trodAll_mk1 (shut_bool Try.underlying4 _), (trodAll_cons_mk (Below.trod laidOut (by kernel_rfl) (of_decide_eq_true (by kernel_rfl)) k0 bel lt0) (trodAll_cons_mk (Below.trod laidOut (by kernel_rfl) (of_decide_eq_true (by kernel_rfl)) k1 bel lt1) (trodAll_cons_mk (Below.trod laidOut (by kernel_rfl) (of_decide_eq_true (by kernel_rfl)) k2 bel lt2) trodAll_mk0))), rfl, bel.frame _, fun h => by cases h⟩

theorem over : Rows.blocksDoesRow.holds Try.pinned (OpenSpec.ofChange Rows.blocksDoesSpec) :=
  OpenClaim.holds_of_wide 12 Try.f12 rfl rfl rfl rfl rfl rfl rfl ⟨rfl, rfl, rfl, rfl, rfl⟩ rfl rfl rfl rfl rfl (by kernel_rfl) Try.func12 (by kernel_rfl)
    (of_decide_eq_true (by kernel_rfl)) (by unfold Func.isWrapper; first | (rw [if_pos (by decide +kernel)]; kernel_rfl) | (rw [if_neg (by decide +kernel)]; exact ⟨rfl, rfl⟩))
    (fun os started H enc _ => lifted os started H enc)

/-- The statement. -/
theorem proved : Rows.BlocksDoesSaid := over
#print axioms proved
end Go.Proofs.Ytefllmfoneocaaa.RBlocksDoes
