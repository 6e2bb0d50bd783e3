/-
  It is proved that the given law 'IndexFinds' returns true for every input and leaves what came in as it was. There are no further conditions.
  The row's step, written by the program row.py.
-/
import Derived.Test.YtefllmfoneocaaaRows
import Derived.Test.YtefllmfoneocaaaIndexLaws3
import Derived.WalkKit
import Derived.ProofKit
import Derived.OpenShut
import Derived.ShutString
import Derived.ChangeOld
import Derived.Below
set_option linter.unusedVariables false
namespace Go.Proofs.Ytefllmfoneocaaa.RIndexFinds
open Go.ChangeShapes Go.WideShapes Go.ChangeAt Go.RowKit Go.HL

theorem own : ownKnob Try.prog.godebug = none := by kernel_rfl
theorem laidOut : laidOutB Try.prog = true := by kernel_rfl

set_option maxRecDepth 100000 in
theorem lifted (os : Os) (started : os.Started) (H : Type) (enc : TypeId × Value → H) :
    ReturnsInHanded {} Try.checked os 11 .any (Rows.indexFindsSpec.pre6 enc Try.prog Try.f11 Rows.indexFindsRow.domain false) (Rows.indexFindsSpec.post enc Try.prog Try.f11 false true false false) := by
  refine returnsInHanded_of_change (C := Try.checked) own started (by kernel_rfl) Try.func11
    (ChangeSpec.witness6 (enc := enc) (C := Try.checked) false ⟨#[], #[.int .i64 0, .int .i64 0, .slice none 0 0, .int .u64 0, .agg #[.int .i64 0, .int .i64 0, .int .i64 0], .slice none 0 0], []⟩ 8 (by kernel_rfl) (by kernel_rfl) (by kernel_rfl) (by kernel_rfl)) ?_
  intro W base args ds gs before hval0 hW hcnd _
  have hval : ∀ (j : Nat) t v, Try.f11.params[j]? = some t → args[j]? = some v → Value.okWide Try.prog W .any base t v := hval0
  have hW' := hW
  obtain ⟨p, q, hA0, hV, rfl, hfz, hnd⟩ := hW
  have hA : DataW.TrodAll enc Try.prog W 0 (fun _ => true) true Try.f11.params.toList args.toList ds p := hA0
  rw [Try.params11] at hA hval
  obtain ⟨v0, vs0, d0, ds0, p0, q0, hargs, rfl, rfl, h0, r0⟩ := trodAll_cons hA
  obtain ⟨v1, vs1, d1, ds1, p1, q1, rfl, rfl, rfl, h1, r1⟩ := trodAll_cons r0
  obtain ⟨v2, vs2, d2, ds2, p2, q2, rfl, rfl, rfl, h2, r2⟩ := trodAll_cons r1
  obtain ⟨v3, vs3, d3, ds3, p3, q3, rfl, rfl, rfl, h3, r3⟩ := trodAll_cons r2
  obtain ⟨v4, vs4, d4, ds4, p4, q4, rfl, rfl, rfl, h4, r4⟩ := trodAll_cons r3
  obtain ⟨v5, vs5, d5, ds5, p5, q5, rfl, rfl, rfl, h5, r5⟩ := trodAll_cons r4
  obtain ⟨rfl, rfl, rfl⟩ := trodAll_nil r5
  obtain rfl : args = #[v0, v1, v2, v3, v4, v5] := by cases args; simp_all
  obtain ⟨rfl, rfl⟩ := trodVars_none hV
  have k0 := h0
  have lt0 : ∀ x ∈ p0, x.block < W.heap.size := by obtain ⟨m, hm⟩ := k0; exact DataW.trod_lt m _ _ _ hm
  have k1 := h1
  have lt1 : ∀ x ∈ p1, x.block < W.heap.size := by obtain ⟨m, hm⟩ := k1; exact DataW.trod_lt m _ _ _ hm
  have k2 := h2
  have lt2 : ∀ x ∈ p2, x.block < W.heap.size := by obtain ⟨m, hm⟩ := k2; exact DataW.trod_lt m _ _ _ hm
  have k3 := h3
  have lt3 : ∀ x ∈ p3, x.block < W.heap.size := by obtain ⟨m, hm⟩ := k3; exact DataW.trod_lt m _ _ _ hm
  have k4 := h4
  have lt4 : ∀ x ∈ p4, x.block < W.heap.size := by obtain ⟨m, hm⟩ := k4; exact DataW.trod_lt m _ _ _ hm
  have k5 := h5
  have lt5 : ∀ x ∈ p5, x.block < W.heap.size := by obtain ⟨m, hm⟩ := k5; exact DataW.trod_lt m _ _ _ hm
  obtain ⟨a0, rfl, w0⟩ := arg_int Try.underlying3 (hval 0 3 v0 rfl rfl) h0
  obtain ⟨a1, rfl, w1⟩ := arg_int Try.underlying3 (hval 1 3 v1 rfl rfl) h1
  obtain ⟨a2, l2, rfl, w2⟩ := arg_slice Try.underlying94 (hval 2 94 v2 rfl rfl) (dec_slice (sz := 8) Try.underlying94 (by kernel_rfl) (fun _ => rfl) (by decide) (dec_struct Try.underlying83 (by kernel_rfl) (decF_cons (dec_int Try.underlying3) (decF_cons (dec_int Try.underlying79) (decF_cons (dec_struct Try.underlying81 (by kernel_rfl) (decF_cons (dec_int Try.underlying3) (decF_cons (dec_int Try.underlying3) (decF_cons (dec_int Try.underlying3) decF_nil)))) (decF_cons (dec_struct Try.underlying81 (by kernel_rfl) (decF_cons (dec_int Try.underlying3) (decF_cons (dec_int Try.underlying3) (decF_cons (dec_int Try.underlying3) decF_nil)))) decF_nil)))))) h2
  obtain ⟨a3, rfl, w3⟩ := arg_int Try.underlying79 (hval 3 79 v3 rfl rfl) h3
  obtain ⟨a4, rfl, w4⟩ := arg_struct Try.underlying81 (hval 4 81 v4 rfl rfl) (dec_struct Try.underlying81 (by kernel_rfl) (decF_cons (dec_int Try.underlying3) (decF_cons (dec_int Try.underlying3) (decF_cons (dec_int Try.underlying3) decF_nil)))) h4
  obtain ⟨a5, l5, rfl, w5⟩ := arg_slice Try.underlying94 (hval 5 94 v5 rfl rfl) (dec_slice (sz := 8) Try.underlying94 (by kernel_rfl) (fun _ => rfl) (by decide) (dec_struct Try.underlying83 (by kernel_rfl) (decF_cons (dec_int Try.underlying3) (decF_cons (dec_int Try.underlying79) (decF_cons (dec_struct Try.underlying81 (by kernel_rfl) (decF_cons (dec_int Try.underlying3) (decF_cons (dec_int Try.underlying3) (decF_cons (dec_int Try.underlying3) decF_nil)))) (decF_cons (dec_struct Try.underlying81 (by kernel_rfl) (decF_cons (dec_int Try.underlying3) (decF_cons (dec_int Try.underlying3) (decF_cons (dec_int Try.underlying3) decF_nil)))) decF_nil)))))) h5
  clear hA0 hval0
  refine (law_calls (row_IndexFinds W a0 w0 a1 w1 a2 l2 w2 a3 w3 a4 w4 a5 l5 w5)).mono fun e W' ⟨he, bel⟩ => ?_
  subst he
  exact ⟨_, rfl, _, _, _, [], _, [], hW', trodAll_mk1 (shut_bool Try.underlying4 _), (trodAll_cons_mk (Below.trod laidOut (by kernel_rfl) (of_decide_eq_true (by kernel_rfl)) k0 bel lt0) (trodAll_cons_mk (Below.trod laidOut (by kernel_rfl) (of_decide_eq_true (by kernel_rfl)) k1 bel lt1) (trodAll_cons_mk (Below.trod laidOut (by kernel_rfl) (of_decide_eq_true (by kernel_rfl)) k2 bel lt2) (trodAll_cons_mk (Below.trod laidOut (by kernel_rfl) (of_decide_eq_true (by kernel_rfl)) k3 bel lt3) (trodAll_cons_mk (Below.trod laidOut (by kernel_rfl) (of_decide_eq_true (by kernel_rfl)) k4 bel lt4) (trodAll_cons_mk (Below.trod laidOut (by kernel_rfl) (of_decide_eq_true (by kernel_rfl)) k5 bel lt5) trodAll_mk0)))))), rfl, bel.frame _, fun h => by cases h⟩

theorem over : Rows.indexFindsRow.holds Try.pinned (OpenSpec.ofChange Rows.indexFindsSpec) :=
  OpenClaim.holds_of_wide 11 Try.f11 rfl rfl rfl rfl rfl rfl rfl ⟨rfl, rfl, rfl, rfl, rfl⟩ rfl rfl rfl rfl rfl (by kernel_rfl) Try.func11 (by kernel_rfl)
    (of_decide_eq_true (by kernel_rfl)) (by unfold Func.isWrapper; first | (rw [if_pos (by decide +kernel)]; kernel_rfl) | (rw [if_neg (by decide +kernel)]; exact ⟨rfl, rfl⟩))
    (fun os started H enc _ => lifted os started H enc)

/-- The statement. -/
theorem proved : Rows.IndexFindsSaid := over
#print axioms proved
end Go.Proofs.Ytefllmfoneocaaa.RIndexFinds
