/-
  It is proved that each plain operation's node is sound. There are no further conditions than those that each theorem names.
-/
import Derived.Test.YtaniefdpjommnaaDoorHL6
set_option linter.unusedVariables false
set_option linter.unusedSimpArgs false
namespace Go.HL
section
variable {P : Program} {n : Nat} {env : Env} {a : Act} {o : Oper} {φs : List HP} {k : Value → List HP → HP} {L : HList}

/-- What an operation is that only hands on a value. -/
theorem run_v {s : Sem Value} {w w' : World} {v : Value} (h : s.run P w = .ok v w') : (do pure (.value (← s)) : Sem Next).run P w = .ok (.value v) w' := by simp [h]
theorem run_u {s : Sem Unit} {w w' : World} (h : s.run P w = .ok () w') : (do s; pure .skip : Sem Next).run P w = .ok .skip w' := by simp [h]

theorem ok_A {s : Sem Value} (he : ∀ w, (execOp a.eval o).run P w = (do pure (.value (← s)) : Sem Next).run P w) (hal : AlV P s)
    (hk : ∀ m ob v, AlVG P s m ob v → Sat ((m, ob) :: L) → k v [] ((m, ob) :: L)) : OpOk P .A o a L φs k := by
  have inv : ∀ {w w' : World} {v : Value}, (execOp a.eval o).run P w = .ok (.value v) w' → s.run P w = .ok v w' := by
    intro w w' v h
    rw [he] at h
    simp only [Sem.run_bind] at h
    cases hs : s.run P w with
    | ok v' w1 => rw [hs] at h; simp at h; obtain ⟨rfl, rfl⟩ := h; rfl
    | halt x w1 => rw [hs] at h; simp at h
  refine ⟨fun w => ?_, fun m ob v hg hs => ?_⟩
  · obtain ⟨ob, v, d, h⟩ := hal w
    exact ⟨ob, v, d, by rw [he]; exact run_v h⟩
  · obtain ⟨w, d, hw, h⟩ := hg
    exact hk m ob v ⟨w, d, hw, inv h⟩ hs

theorem ok_R {s : Sem Value} (he : ∀ w, (execOp a.eval o).run P w = (do pure (.value (← s)) : Sem Next).run P w) {v : Value} {φ : HP} (h1 : RdV P s v L) (h2 : ∀ L', φ L' → RdV P s v L')
    (hk : k v [φ] L) : OpOk P .R o a L φs k :=
  ⟨v, φ, fun E F w hw => by rw [he]; exact run_v (h1 E F w hw), fun L' hφ E F w hw => by rw [he]; exact run_v (h2 L' hφ E F w hw), hk⟩

theorem ok_W {s : Sem Value} (he : ∀ w, (execOp a.eval o).run P w = (do pure (.value (← s)) : Sem Next).run P w) (h : SemF P s (fun v L' => (∀ φ ∈ φs, φ L') ∧ k v [] L') L) : OpOk P .W o a L φs k := by
  intro E F w next hw hn
  obtain ⟨v, w', L', hr, hw', hφ, hk⟩ := h E F w hw
  unfold Oper.wp
  rw [he, run_v hr]
  exact hn _ _ _ hw' ⟨v, rfl, hφ, hk⟩

theorem ok_U {s : Sem Unit} (he : ∀ w, (execOp a.eval o).run P w = (do s; pure .skip : Sem Next).run P w)
    (h : ∀ E F w, Hold E w (L ++ F) → ∃ w' L', s.run P w = .ok () w' ∧ Hold E w' (L' ++ F) ∧ (∀ φ ∈ φs, φ L') ∧ k undef [] L') : OpOk P .W o a L φs k := by
  intro E F w next hw hn
  obtain ⟨w', L', hr, hw', hφ, hk⟩ := h E F w hw
  unfold Oper.wp
  rw [he, run_u hr]
  exact hn _ _ _ hw' ⟨undef, rfl, hφ, hk⟩

theorem callee_run (hN : NoNum P) {f : FuncId} {fn : Func} (hf : P.funcs[f]? = some fn) (hb : fn.body.isSome = true) (args : Array Value) (w : World) :
    (callFunc f args).run P w = .ok (.enter f args) w := by
  have hn : (fn.name == "runtime.NumGoroutine") = false := by
    have := Array.all_eq_true_iff_forall_mem.1 hN fn (Array.mem_of_getElem? hf)
    simpa using this
  have hn' : ¬ fn.name = "runtime.NumGoroutine" := by simpa using hn
  have hb' : ¬ fn.body = none := by intro h; rw [h] at hb; cases hb
  simp [callFunc, hf, hn', hb']

theorem ok_call {f : FuncId} {args : Array Value} (he : ∀ w, (execOp a.eval o).run P w = .ok (.enter f args) w) {K : Value → HP} (h : CallF P f args L K)
    (hk : ∀ v L', K v L' → (∀ φ ∈ φs, φ L') ∧ k v [] L') : OpOk P .W o a L φs k := by
  intro E F w next hw hn
  unfold Oper.wp
  rw [he]
  rw [Oper.upon_enter]
  refine Calls.mono (h E F w hw) fun e w' ⟨v, L', hv, hw', hK⟩ => ?_
  subst hv
  obtain ⟨h1, h2⟩ := hk v L' hK
  exact hn _ _ _ hw' ⟨v, rfl, h1, h2⟩

theorem rsVal_one (s : Sh) (x : RsV [s]) : rsVal [s] x = s.val x.1 := rfl

theorem intsOf_spec : ∀ {vs : List Value} {kd : IntKind} {ns : List Int}, intsOf vs = some (kd, ns) → ∃ k0 n r, vs = .int k0 n :: r ∧ kd = k0 ∧ ∃ ms, ns = n :: ms ∧
    (∀ w, (r.foldlM Builtin.min2 (.int kd n)).run P w = .ok (.int kd (ms.foldl imin n)) w) ∧ (∀ w, (r.foldlM Builtin.max2 (.int kd n)).run P w = .ok (.int kd (ms.foldl imax n)) w) := by
  have key : ∀ (vs : List Value) (kd : IntKind) (ns : List Int), intsOf vs = some (kd, ns) →
      (∀ (k1 : IntKind) (n : Int) w, (vs.foldlM Builtin.min2 (.int k1 n)).run P w = .ok (.int k1 (ns.foldl imin n)) w) ∧ (∀ (k1 : IntKind) (n : Int) w, (vs.foldlM Builtin.max2 (.int k1 n)).run P w = .ok (.int k1 (ns.foldl imax n)) w) := by
    intro vs
    induction vs with
    | nil => intro kd ns h; simp [intsOf] at h
    | cons v r ih =>
      intro kd ns h
      cases v with
      | int k1 n1 =>
        cases r with
        | nil =>
          simp only [intsOf, Option.some.injEq, Prod.mk.injEq] at h
          obtain ⟨_, rfl⟩ := h
          exact ⟨fun k n w => by simp [Builtin.min2, imin], fun k n w => by simp [Builtin.max2, imax]⟩
        | cons v2 r2 =>
          simp only [intsOf] at h
          split at h
          · rename_i k2 ns2 h2
            obtain ⟨rfl, rfl⟩ := by simpa using h
            obtain ⟨h3, h4⟩ := ih _ _ h2
            refine ⟨fun k n w => ?_, fun k n w => ?_⟩
            · rw [List.foldlM_cons, Sem.run_bind]
              simp only [Builtin.min2, Sem.run_pure, Result.andThen_ok]
              exact h3 k _ w
            · rw [List.foldlM_cons, Sem.run_bind]
              simp only [Builtin.max2, Sem.run_pure, Result.andThen_ok]
              exact h4 k _ w
          · cases h
      | _ => cases r <;> simp [intsOf] at h
  intro vs kd ns h
  cases vs with
  | nil => simp [intsOf] at h
  | cons v r =>
    cases v with
    | int k0 n =>
      cases r with
      | nil =>
        simp only [intsOf, Option.some.injEq, Prod.mk.injEq] at h
        obtain ⟨rfl, rfl⟩ := h
        exact ⟨_, _, _, rfl, rfl, [], rfl, fun w => by simp, fun w => by simp⟩
      | cons v2 r2 =>
        simp only [intsOf] at h
        split at h
        · rename_i k2 ns2 h2
          obtain ⟨rfl, rfl⟩ := by simpa using h
          obtain ⟨h3, h4⟩ := key _ _ _ h2
          exact ⟨_, _, _, rfl, rfl, ns2, rfl, fun w => h3 _ _ w, fun w => h4 _ _ w⟩
        · cases h
    | _ => cases r <;> simp [intsOf] at h
end
end Go.HL
