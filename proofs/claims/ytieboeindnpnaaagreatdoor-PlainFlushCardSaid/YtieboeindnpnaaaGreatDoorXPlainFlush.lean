/-
  It is proved that the given law 'PlainFlush' returns true for every input and leaves what came in as it was. There are no further conditions.
  The row's step and the card, written by the program rowcard.py.
-/
import Derived.Test.YtieboeindnpnaaaGreatDoorCards
import Derived.Test.YtieboeindnpnaaaGreatDoorTie
import Derived.Test.YtieboeindnpnaaaGreatDoorMPlainFlush6
import Derived.WalkKit
import Derived.ProofKit
import Derived.OpenShut
import Derived.ShutString
import Derived.ChangeOld
import Derived.Below
import Derived.Deep.DeepHandedRow
import Derived.Lib.LaidTab
set_option linter.unusedVariables false
namespace Go.Proofs.YtieboeindnpnaaaGreatDoor.RPlainFlush
open Go.ChangeShapes Go.WideShapes Go.ChangeAt Go.RowKit Go.HL

theorem own : ownKnob Tryz.prog.godebug = none := by kernel_rfl
theorem laidOut : laidOutB Tryz.prog = true := by kernel_rfl
theorem gTab : Tryz.prog.globalNamed "depot/entry.classes" = some 0 := by kernel_rfl
theorem gTabType : (Tryz.prog.globals[0]?).map (·.type) = some 257 := by kernel_rfl
theorem cellsT : Tryz.prog.cellsOf 257 = 4 := by kernel_rfl
theorem cellsE : Tryz.prog.cellsOf 3 = 1 := by kernel_rfl
theorem table {W : World} (h : laidMetH Tryz.prog Rows.plainFlushRow.laid W) : Tab (Gz W) := by
  have ht : Lib.TabIs Tryz.prog W "depot/entry.classes" .i64 [1, 2, 4, 8] := Lib.tabIs_of_head (rest := []) gTab gTabType Tryz.underlying257 Tryz.underlying3 cellsE cellsT h
  refine Bz1 (by simp) fun i v hv => ?_
  have hi : i < 4 := (PL.1 hv).1
  have hc := ht.cell gTab i hi
  have : i = 0 ∨ i = 1 ∨ i = 2 ∨ i = 3 := by omega
  rcases this with rfl | rfl | rfl | rfl
  all_goals
    have kX := NI hv
    subst kX
    exact hc

set_option maxRecDepth 100000 in
theorem contract (H : Type) (enc : TypeId × Value → H) (W : World) (base : Nat) (args : Array Value) (ds gs : List (DataW H)) (before : List MemPlace)
    (oY : ∀ (j : Nat) t v, Tryz.f5.params[j]? = some t → args[j]? = some v → Value.okWide Tryz.prog W .any base t v)
    (hW : DataW.Whole enc Tryz.prog Tryz.f5.params.toList Rows.plainFlushSpec.vars false W args.toList ds gs before) (hz : (DataW.weightsEach Tryz.prog (Tryz.f5.params.toList ++ ((OpenSpec.ofChange Rows.plainFlushSpec).bare.plain.varTypes Tryz.prog)) (ds ++ gs)).all (· ≤ reachBytes) = true) (hL : laidMetH Tryz.prog Rows.plainFlushRow.laid W) :
    Calls Tryz.prog 5 args W fun e W' => ∃ v, e = .returned v ∧ Rows.plainFlushSpec.post enc Tryz.prog Tryz.f5 false true false false W args v W' := by
  have gT := oY
  have hT := table hL
  have hW' := hW
  obtain ⟨p, q, xJ, hV, rfl, eS, aZ⟩ := hW
  have hA : DataW.TrodAll enc Tryz.prog W 0 (fun _ => true) true Tryz.f5.params.toList args.toList ds p := xJ
  rw [Tryz.params5] at hA gT
  obtain ⟨v0, vs0, d0, ds0, p0, q0, jY, rfl, rfl, h0, r0⟩ := trodAll_cons hA
  obtain ⟨v1, vs1, d1, ds1, p1, q1, rfl, rfl, rfl, h1, r1⟩ := trodAll_cons r0
  obtain ⟨rfl, rfl, rfl⟩ := trodAll_nil r1
  obtain rfl : args = #[v0, v1] := by cases args; simp_all
  obtain ⟨rfl, rfl⟩ := trodVars_none hV
  have k0 := h0
  have lt0 : ∀ x ∈ p0, x.block < W.heap.size := by obtain ⟨m, hm⟩ := k0; exact DataW.trod_lt m _ _ _ hm
  have k1 := h1
  have lt1 : ∀ x ∈ p1, x.block < W.heap.size := by obtain ⟨m, hm⟩ := k1; exact DataW.trod_lt m _ _ _ hm
  obtain ⟨a0, rfl, w0⟩ := Cu8 Tryz.underlying25 (gT 0 25 v0 rfl rfl) (Cu1 Tryz.underlying25 (by kernel_rfl) (Cu6 (Cu1 Tryz.underlying23 (by kernel_rfl) (Cu6 (Cu4 Tryz.underlying3) (Cu6 (Cu4 Tryz.underlying3) (Cu6 (Cu4 Tryz.underlying3) (Cu6 (Cu4 Tryz.underlying3) Cu5))))) (Cu6 (Cu4 Tryz.underlying3) (Cu6 (Cu4 Tryz.underlying3) (Cu6 (Cu4 Tryz.underlying3) (Cu6 (Cu4 Tryz.underlying3) (Cu6 (Cu4 Tryz.underlying3) (Cu6 (Cu4 Tryz.underlying3) (Cu6 (Cu4 Tryz.underlying3) Cu5))))))))) h0
  obtain ⟨a1, l1, rfl, w1⟩ := Cu9 Tryz.underlying26 (gT 1 26 v1 rfl rfl) (Cu3 (sz := 5) Tryz.underlying26 (by kernel_rfl) (fun _ => rfl) (by decide) (Cu1 Tryz.underlying39 (by kernel_rfl) (Cu6 (Cu4 Tryz.underlying3) (Cu6 (Cu2 Tryz.underlying9) (Cu6 (Cu3 (sz := 1) Tryz.underlying37 (by kernel_rfl) (fun _ => rfl) (by decide) (Cu0 Tryz.underlying5)) (Cu6 (Cu4 Tryz.underlying3) (Cu6 (Cu4 Tryz.underlying3) Cu5))))))) h1
  clear xJ oY
  refine (Ct9 (Ct8 W hT a0 w0 a1 l1 w1)).mono fun e W' ⟨he, bel⟩ => ?_
  subst he
  exact ⟨_, rfl, _, _, _, [], _, [], hW', trodAll_mk1 (shut_bool Tryz.underlying4 _), (trodAll_cons_mk (Below.trod laidOut (by kernel_rfl) (PF (by kernel_rfl)) k0 bel lt0) (trodAll_cons_mk (Below.trod laidOut (by kernel_rfl) (PF (by kernel_rfl)) k1 bel lt1) trodAll_mk0)), rfl, bel.frame _, fun h => by cases h⟩

noncomputable def laidWorld (os : Os) : World :=
  { World.holding Tryz.prog os ⟨#[], #[], []⟩ with heap := (World.holding Tryz.prog os ⟨#[], #[], []⟩).heap.modify 0 fun
      | .cells _ t frozen => .cells #[.int .i64 1, .int .i64 2, .int .i64 4, .int .i64 8] t frozen
      | o => o }
theorem laid_met (os : Os) : laidMet Tryz.prog Rows.plainFlushRow.laid ((laidWorld os).forCall (fun _ _ => 0) ⟨#[], #[.agg #[.int .i64 0, .int .i64 0, .int .i64 0, .int .i64 0, .int .i64 0, .int .i64 0, .int .i64 0, .int .i64 0, .int .i64 0, .int .i64 0, .int .i64 0], .slice none 0 0], []⟩).memory :=
  laidMet_of_run' 8 (by kernel_rfl) (by kernel_rfl)
theorem reads (os : Os) {H : Type} (enc : TypeId × Value → H) : ∃ places, DataW.whole enc Tryz.prog ((laidWorld os).forCall (fun _ _ => 0) ⟨#[], #[.agg #[.int .i64 0, .int .i64 0, .int .i64 0, .int .i64 0, .int .i64 0, .int .i64 0, .int .i64 0, .int .i64 0, .int .i64 0, .int .i64 0, .int .i64 0], .slice none 0 0], []⟩).memory Tryz.f5.params.toList Rows.plainFlushSpec.vars false (#[.agg #[.int .i64 0, .int .i64 0, .int .i64 0, .int .i64 0, .int .i64 0, .int .i64 0, .int .i64 0, .int .i64 0, .int .i64 0, .int .i64 0, .int .i64 0], .slice none 0 0] : Array Value).toList 8 = some ([.agg [.agg [.lit (.int .i64 0), .lit (.int .i64 0), .lit (.int .i64 0), .lit (.int .i64 0)], .lit (.int .i64 0), .lit (.int .i64 0), .lit (.int .i64 0), .lit (.int .i64 0), .lit (.int .i64 0), .lit (.int .i64 0), .lit (.int .i64 0)], .nil], [], places) :=
  ⟨[], by kernel_rfl⟩

set_option maxRecDepth 100000 in
theorem lifted (os : Os) (started : os.Started) (H : Type) (enc : TypeId × Value → H) (F : Stop.Interp) :
    ReturnsInHanded {} Tryz.checked os 5 .any ((OpenSpec.ofChange Rows.plainFlushSpec).preRow enc Tryz.prog Tryz.f5 Rows.plainFlushRow.domain false Rows.plainFlushRow.laid) (((OpenSpec.ofChange Rows.plainFlushSpec).at F).post enc Tryz.prog Tryz.f5 false true false false) := by
  obtain ⟨places, hx⟩ := reads os enc
  refine returnsInHanded_of_row (C := Tryz.checked) (s := OpenSpec.ofChange Rows.plainFlushSpec) own started (by kernel_rfl) Tryz.func5
    (witness_row_at (enc := enc) (C := Tryz.checked) false (laidWorld os) #[.agg #[.int .i64 0, .int .i64 0, .int .i64 0, .int .i64 0, .int .i64 0, .int .i64 0, .int .i64 0, .int .i64 0, .int .i64 0, .int .i64 0, .int .i64 0], .slice none 0 0] rfl (by kernel_rfl) (by kernel_rfl) (by kernel_rfl)
      (OpenSpec.preRow_of_cond 8 hx (by kernel_rfl) (fun k hk => by cases hk) (by kernel_rfl) (laid_met os))) ?_
  intro W base args ds gs before gT hW _ _ hz hL _ _
  exact contract H enc W base args ds gs before gT hW hz hL

theorem factsPl : ((Rows.plainFlushRow).inPlace == Tryz.prog.inPlace 5) = true := by kernel_rfl
theorem factsUn : ((Rows.plainFlushRow).unfollowed == Tryz.prog.unfollowed 5) = true := by kernel_rfl
theorem factsRe : ((Rows.plainFlushRow).recurses == Tryz.prog.recurses 5) = true := by kernel_rfl
theorem factsNa : ((Rows.plainFlushRow).named == Tryz.prog.varsNamed 5) = true := by kernel_rfl
theorem facts : joinedFacts Tryz.prog 5 Tryz.f5 (OpenSpec.ofChange Rows.plainFlushSpec).bare Rows.plainFlushRow = true := by
  unfold joinedFacts
  rw [factsPl, factsUn, factsRe, factsNa, laidOut]
  kernel_rfl
theorem factFn : Tryz.prog.funcNamed (Rows.plainFlushRow).func = some 5 := by kernel_rfl
theorem said : Rows.PlainFlushSaid :=
  OpenClaim.holds_of_cond 5 Tryz.f5 rfl rfl rfl rfl rfl rfl rfl ⟨rfl, rfl, rfl, rfl, rfl⟩ rfl rfl rfl rfl rfl factFn Tryz.func5 facts
    (PF (by kernel_rfl)) (by unfold Func.isWrapper; first | (rw [NE (by decide +kernel)]; kernel_rfl) | (rw [ND (by decide +kernel)]; exact ⟨rfl, rfl⟩))
    (fun os started H enc _ F => by rw [OpenClaim.pre_eq_preRow]; exact lifted os started H enc F)
theorem plain (f : FuncId) (fn : Func) (hf : Tryz.pinned.checked.prog.funcNamed "depot/depotlaw32.PlainFlush" = some f) (mX : Tryz.pinned.checked.prog.funcs[f]? = some fn) :
    false = Tryz.pinned.checked.prog.looks [] ∧ ∀ (j : Nat) t, fn.params[j]? = some t → Tryz.pinned.checked.prog.wantsStandIn t = false := by
  obtain rfl : f = 5 := NI ((show Tryz.prog.funcNamed "depot/depotlaw32.PlainFlush" = some 5 by kernel_rfl).symm.trans hf) |>.symm
  obtain rfl : fn = Tryz.f5 := (NI (Tryz.func5.symm.trans mX)).symm
  refine ⟨by kernel_rfl, fun j t ht => ?_⟩
  rw [Tryz.params5] at ht
  have hm := WT ht
  simp only [List.mem_toArray, OC, VS, or_false] at hm
  rcases hm with rfl | rfl
  · exact (show Tryz.prog.wantsStandIn 25 = false by kernel_rfl)
  · exact (show Tryz.prog.wantsStandIn 26 = false by kernel_rfl)

/-- The card. -/
theorem proved : Rows.PlainFlushCardSaid :=
  Claim7.holds_tied_plain_at .later [] _ _ _ _ said (fun _ h => by cases h) (by kernel_rfl) (fun _ h => by cases h) plainFlush_row_tie rfl ⟨rfl, rfl⟩ (by kernel_rfl) rfl plain (by kernel_rfl)
#print axioms proved
end Go.Proofs.YtieboeindnpnaaaGreatDoor.RPlainFlush
