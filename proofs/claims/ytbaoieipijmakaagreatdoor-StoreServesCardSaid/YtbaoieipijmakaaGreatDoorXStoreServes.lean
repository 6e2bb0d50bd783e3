/-
  It is proved that the given law 'StoreServes' returns true for every input and leaves what came in as it was. There are no further conditions.
  The row's step and the card, written by the program rowcard.py.
-/
import Derived.Test.YtbaoieipijmakaaGreatDoorCards
import Derived.Test.YtbaoieipijmakaaGreatDoorTie
import Derived.Test.YtbaoieipijmakaaGreatDoorMStoreServes5
import Derived.WalkKit
import Derived.ProofKit
import Derived.OpenShut
import Derived.ShutString
import Derived.ChangeOld
import Derived.Below
import Derived.Deep.DeepHandedRow
import Derived.Lib.LaidTab
set_option linter.unusedVariables false
namespace Go.Proofs.YtbaoieipijmakaaGreatDoor.RStoreServes
open Go.ChangeShapes Go.WideShapes Go.ChangeAt Go.RowKit Go.HL

theorem own : ownKnob Tryz.prog.godebug = none := by kernel_rfl
theorem laidOut : laidOutB Tryz.prog = true := by kernel_rfl
theorem gTab : Tryz.prog.globalNamed "depot/entry.classes" = some 0 := by kernel_rfl
theorem gTabType : (Tryz.prog.globals[0]?).map (·.type) = some 266 := by kernel_rfl
theorem cellsT : Tryz.prog.cellsOf 266 = 4 := by kernel_rfl
theorem cellsE : Tryz.prog.cellsOf 3 = 1 := by kernel_rfl
theorem table {W : World} (h : laidMetH Tryz.prog Rows.storeServesRow.laid W) : Tab (Cd6 W) := by
  have ht : Lib.TabIs Tryz.prog W "depot/entry.classes" .i64 [1, 2, 4, 8] := Lib.tabIs_of_head (rest := []) gTab gTabType Tryz.underlying266 Tryz.underlying3 cellsE cellsT h
  refine Cn2 (by simp) fun i v hv => ?_
  have hi : i < 4 := (Dw0.1 hv).1
  have hc := ht.cell gTab i hi
  have : i = 0 ∨ i = 1 ∨ i = 2 ∨ i = 3 := by omega
  rcases this with rfl | rfl | rfl | rfl
  all_goals
    have oB := Dq9 hv
    subst oB
    exact hc

set_option maxRecDepth 100000 in
theorem contract (H : Type) (enc : TypeId × Value → H) (W : World) (base : Nat) (args : Array Value) (ds gs : List (DataW H)) (before : List MemPlace)
    (oA : ∀ (j : Nat) t v, Tryz.f3.params[j]? = some t → args[j]? = some v → Value.okWide Tryz.prog W .any base t v)
    (hW : DataW.Whole enc Tryz.prog Tryz.f3.params.toList Rows.storeServesSpec.vars false W args.toList ds gs before) (hz : (DataW.weightsEach Tryz.prog (Tryz.f3.params.toList ++ ((OpenSpec.ofChange Rows.storeServesSpec).bare.plain.varTypes Tryz.prog)) (ds ++ gs)).all (· ≤ reachBytes) = true) (hL : laidMetH Tryz.prog Rows.storeServesRow.laid W) :
    Calls Tryz.prog 3 args W fun e W' => ∃ v, e = .returned v ∧ Rows.storeServesSpec.post enc Tryz.prog Tryz.f3 false true false false W args v W' := by
  have fG := oA
  have hT := table hL
  have hW' := hW
  obtain ⟨p, q, pG, hV, rfl, eP, bV⟩ := hW
  have hA : DataW.TrodAll enc Tryz.prog W 0 (fun _ => true) true Tryz.f3.params.toList args.toList ds p := pG
  rw [Tryz.params3] at hA fG
  obtain ⟨v0, vs0, d0, ds0, p0, q0, jM, rfl, rfl, h0, r0⟩ := trodAll_cons hA
  obtain ⟨v1, vs1, d1, ds1, p1, q1, rfl, rfl, rfl, h1, r1⟩ := trodAll_cons r0
  obtain ⟨v2, vs2, d2, ds2, p2, q2, rfl, rfl, rfl, h2, r2⟩ := trodAll_cons r1
  obtain ⟨v3, vs3, d3, ds3, p3, q3, rfl, rfl, rfl, h3, r3⟩ := trodAll_cons r2
  obtain ⟨rfl, rfl, rfl⟩ := trodAll_nil r3
  obtain rfl : args = #[v0, v1, v2, v3] := by cases args; simp_all
  obtain ⟨rfl, rfl⟩ := trodVars_none hV
  have k0 := h0
  have lt0 : ∀ x ∈ p0, x.block < W.heap.size := by obtain ⟨m, hm⟩ := k0; exact DataW.trod_lt m _ _ _ hm
  have k1 := h1
  have lt1 : ∀ x ∈ p1, x.block < W.heap.size := by obtain ⟨m, hm⟩ := k1; exact DataW.trod_lt m _ _ _ hm
  have k2 := h2
  have lt2 : ∀ x ∈ p2, x.block < W.heap.size := by obtain ⟨m, hm⟩ := k2; exact DataW.trod_lt m _ _ _ hm
  have k3 := h3
  have lt3 : ∀ x ∈ p3, x.block < W.heap.size := by obtain ⟨m, hm⟩ := k3; exact DataW.trod_lt m _ _ _ hm
  obtain ⟨a0, rfl, w0⟩ := arg_struct Tryz.underlying25 (fG 0 25 v0 rfl rfl) (dec_struct Tryz.underlying25 (by kernel_rfl) (decF_cons (dec_struct Tryz.underlying23 (by kernel_rfl) (decF_cons (dec_int Tryz.underlying3) (decF_cons (dec_int Tryz.underlying3) (decF_cons (dec_int Tryz.underlying3) (decF_cons (dec_int Tryz.underlying3) decF_nil))))) (decF_cons (dec_int Tryz.underlying3) (decF_cons (dec_int Tryz.underlying3) (decF_cons (dec_int Tryz.underlying3) (decF_cons (dec_int Tryz.underlying3) (decF_cons (dec_int Tryz.underlying3) (decF_cons (dec_int Tryz.underlying3) (decF_cons (dec_int Tryz.underlying3) decF_nil))))))))) h0
  obtain ⟨a1, l1, rfl, w1⟩ := arg_slice Tryz.underlying26 (fG 1 26 v1 rfl rfl) (dec_slice (sz := 5) Tryz.underlying26 (by kernel_rfl) (fun _ => rfl) (by decide) (dec_struct Tryz.underlying35 (by kernel_rfl) (decF_cons (dec_int Tryz.underlying3) (decF_cons (Do3 Tryz.underlying9) (decF_cons (dec_slice (sz := 1) Tryz.underlying27 (by kernel_rfl) (fun _ => rfl) (by decide) (dec_u8 Tryz.underlying5)) (decF_cons (dec_int Tryz.underlying3) (decF_cons (dec_int Tryz.underlying3) decF_nil))))))) h1
  obtain ⟨a2, rfl, w2⟩ := arg_str Tryz.underlying9 (fG 2 9 v2 rfl rfl) h2
  obtain ⟨a3, l3, rfl, w3⟩ := arg_slice Tryz.underlying27 (fG 3 27 v3 rfl rfl) (dec_slice (sz := 1) Tryz.underlying27 (by kernel_rfl) (fun _ => rfl) (by decide) (dec_u8 Tryz.underlying5)) h3
  clear pG oA
  refine (law_calls (Ci1 W hT a0 w0 a1 l1 w1 a2 w2 a3 l3 w3)).mono fun e W' ⟨he, bel⟩ => ?_
  subst he
  exact ⟨_, rfl, _, _, _, [], _, [], hW', trodAll_mk1 (shut_bool Tryz.underlying4 _), (trodAll_cons_mk (Below.trod laidOut (by kernel_rfl) (Dv5 (by kernel_rfl)) k0 bel lt0) (trodAll_cons_mk (Below.trod laidOut (by kernel_rfl) (Dv5 (by kernel_rfl)) k1 bel lt1) (trodAll_cons_mk (Below.trod laidOut (by kernel_rfl) (Dv5 (by kernel_rfl)) k2 bel lt2) (trodAll_cons_mk (Below.trod laidOut (by kernel_rfl) (Dv5 (by kernel_rfl)) k3 bel lt3) trodAll_mk0)))), rfl, bel.frame _, fun h => by cases h⟩

noncomputable def laidWorld (os : Os) : World :=
  { World.holding Tryz.prog os ⟨#[], #[], []⟩ with heap := (World.holding Tryz.prog os ⟨#[], #[], []⟩).heap.modify 0 fun
      | .cells _ t frozen => .cells #[.int .i64 1, .int .i64 2, .int .i64 4, .int .i64 8] t frozen
      | o => o }
theorem laid_met (os : Os) : laidMet Tryz.prog Rows.storeServesRow.laid ((laidWorld os).forCall (fun _ _ => 0) ⟨#[], #[.agg #[.int .i64 0, .int .i64 0, .int .i64 0, .int .i64 0, .int .i64 0, .int .i64 0, .int .i64 0, .int .i64 0, .int .i64 0, .int .i64 0, .int .i64 0], .slice none 0 0, .string ByteArray.empty, .slice none 0 0], []⟩).memory :=
  laidMet_of_run' 8 (by kernel_rfl) (by kernel_rfl)
theorem reads (os : Os) {H : Type} (enc : TypeId × Value → H) : ∃ places, DataW.whole enc Tryz.prog ((laidWorld os).forCall (fun _ _ => 0) ⟨#[], #[.agg #[.int .i64 0, .int .i64 0, .int .i64 0, .int .i64 0, .int .i64 0, .int .i64 0, .int .i64 0, .int .i64 0, .int .i64 0, .int .i64 0, .int .i64 0], .slice none 0 0, .string ByteArray.empty, .slice none 0 0], []⟩).memory Tryz.f3.params.toList Rows.storeServesSpec.vars false (#[.agg #[.int .i64 0, .int .i64 0, .int .i64 0, .int .i64 0, .int .i64 0, .int .i64 0, .int .i64 0, .int .i64 0, .int .i64 0, .int .i64 0, .int .i64 0], .slice none 0 0, .string ByteArray.empty, .slice none 0 0] : Array Value).toList 8 = some ([.agg [.agg [.lit (.int .i64 0), .lit (.int .i64 0), .lit (.int .i64 0), .lit (.int .i64 0)], .lit (.int .i64 0), .lit (.int .i64 0), .lit (.int .i64 0), .lit (.int .i64 0), .lit (.int .i64 0), .lit (.int .i64 0), .lit (.int .i64 0)], .nil, .lit (.string []), .nil], [], places) :=
  ⟨[], by kernel_rfl⟩

set_option maxRecDepth 100000 in
theorem lifted (os : Os) (started : os.Started) (H : Type) (enc : TypeId × Value → H) (F : Stop.Interp) :
    ReturnsInHanded {} Tryz.checked os 3 .any ((OpenSpec.ofChange Rows.storeServesSpec).preRow enc Tryz.prog Tryz.f3 Rows.storeServesRow.domain false Rows.storeServesRow.laid) (((OpenSpec.ofChange Rows.storeServesSpec).at F).post enc Tryz.prog Tryz.f3 false true false false) := by
  obtain ⟨places, hx⟩ := reads os enc
  refine returnsInHanded_of_row (C := Tryz.checked) (s := OpenSpec.ofChange Rows.storeServesSpec) own started (by kernel_rfl) Tryz.func3
    (witness_row_at (enc := enc) (C := Tryz.checked) false (laidWorld os) #[.agg #[.int .i64 0, .int .i64 0, .int .i64 0, .int .i64 0, .int .i64 0, .int .i64 0, .int .i64 0, .int .i64 0, .int .i64 0, .int .i64 0, .int .i64 0], .slice none 0 0, .string ByteArray.empty, .slice none 0 0] rfl (by kernel_rfl) (by kernel_rfl) (by kernel_rfl)
      (OpenSpec.preRow_of_cond 8 hx (by kernel_rfl) (fun k hk => by cases hk) (by kernel_rfl) (laid_met os))) ?_
  intro W base args ds gs before fG hW _ _ hz hL _ _
  exact contract H enc W base args ds gs before fG hW hz hL

theorem factsPl : ((Rows.storeServesRow).inPlace == Tryz.prog.inPlace 3) = true := by kernel_rfl
theorem factsUn : ((Rows.storeServesRow).unfollowed == Tryz.prog.unfollowed 3) = true := by kernel_rfl
theorem factsRe : ((Rows.storeServesRow).recurses == Tryz.prog.recurses 3) = true := by kernel_rfl
theorem factsNa : ((Rows.storeServesRow).named == Tryz.prog.varsNamed 3) = true := by kernel_rfl
theorem facts : joinedFacts Tryz.prog 3 Tryz.f3 (OpenSpec.ofChange Rows.storeServesSpec).bare Rows.storeServesRow = true := by
  unfold joinedFacts
  rw [factsPl, factsUn, factsRe, factsNa, laidOut]
  kernel_rfl
theorem factFn : Tryz.prog.funcNamed (Rows.storeServesRow).func = some 3 := by kernel_rfl
theorem said : Rows.StoreServesSaid :=
  OpenClaim.holds_of_cond 3 Tryz.f3 rfl rfl rfl rfl rfl rfl rfl ⟨rfl, rfl, rfl, rfl, rfl⟩ rfl rfl rfl rfl rfl factFn Tryz.func3 facts
    (Dv5 (by kernel_rfl)) (by unfold Func.isWrapper; first | (rw [Dq5 (by decide +kernel)]; kernel_rfl) | (rw [Dq4 (by decide +kernel)]; exact ⟨rfl, rfl⟩))
    (fun os started H enc _ F => by rw [OpenClaim.pre_eq_preRow]; exact lifted os started H enc F)
theorem plain (f : FuncId) (fn : Func) (hf : Tryz.pinned.checked.prog.funcNamed "depot/depotlaw31.StoreServes" = some f) (nN : Tryz.pinned.checked.prog.funcs[f]? = some fn) :
    false = Tryz.pinned.checked.prog.looks [] ∧ ∀ (j : Nat) t, fn.params[j]? = some t → Tryz.pinned.checked.prog.wantsStandIn t = false := by
  obtain rfl : f = 3 := Dq9 ((show Tryz.prog.funcNamed "depot/depotlaw31.StoreServes" = some 3 by kernel_rfl).symm.trans hf) |>.symm
  obtain rfl : fn = Tryz.f3 := (Dq9 (Tryz.func3.symm.trans nN)).symm
  refine ⟨by kernel_rfl, fun j t ht => ?_⟩
  rw [Tryz.params3] at ht
  have hm := Ea3 ht
  simp only [List.mem_toArray, Dt5, Eb7, or_false] at hm
  rcases hm with rfl | rfl | rfl | rfl
  · exact (show Tryz.prog.wantsStandIn 25 = false by kernel_rfl)
  · exact (show Tryz.prog.wantsStandIn 26 = false by kernel_rfl)
  · exact (show Tryz.prog.wantsStandIn 9 = false by kernel_rfl)
  · exact (show Tryz.prog.wantsStandIn 27 = false by kernel_rfl)

/-- The card. -/
theorem proved : Rows.StoreServesCardSaid :=
  Claim7.holds_tied_plain_at .later [] _ _ _ _ said (fun _ h => by cases h) (by kernel_rfl) (fun _ h => by cases h) storeServes_row_tie rfl ⟨rfl, rfl⟩ (by kernel_rfl) rfl plain (by kernel_rfl)
#print axioms proved
end Go.Proofs.YtbaoieipijmakaaGreatDoor.RStoreServes
