/-
  It is proved that each operation's node is sound: calls and built-in functions. There are no further conditions than those that each theorem names.
-/
import Derived.Test.YtaniefdpjommnaaDoorHL8
set_option linter.unusedVariables false
set_option linter.unusedSimpArgs false
namespace Go.HL
section
variable {P : Program} {n : Nat} {env : Env} {a : Act} {o : Oper} {φs : List HP} {k : Value → List HP → HP} {L : HList}

theorem invoke_fn (f : FuncId) (captured args : Array Value) : invoke (.fn (.func f) captured) args = callFunc f (args ++ captured) := rfl

theorem exec_call_fn {c : Call} {f : FuncId} (ho : o.op = .call c) (hc : c.callee = .value (.func f)) (w : World) :
    (execOp a.eval o).run P w = (callFunc f (c.args.map a.eval)).run P w := by
  simp only [execOp, ho, resolve, hc, Sem.run_bind, Act.eval, Deferred.ofValue, Sem.run_pure, Result.andThen_ok, invoke_fn]
  congr 2
  simp

theorem exec_call_val {c : Call} {x : Operand} {f : FuncId} {first captured : Array Value} (ho : o.op = .call c) (hc : c.callee = .value x) (hx : a.eval x = .func (.func f) first captured) (w : World) :
    (execOp a.eval o).run P w = (callFunc f ((first ++ c.args.map a.eval) ++ captured)).run P w := by
  simp only [execOp, ho, resolve, hc, hx, Sem.run_bind, Deferred.ofValue, Sem.run_pure, Result.andThen_ok, invoke_fn]

theorem exec_call_builtin {c : Call} {b : Builtin} (ho : o.op = .call c) (hc : c.callee = .builtin b) (w : World) :
    (execOp a.eval o).run P w = (builtin b c.argTypes o.type (c.args.map fun | .const _ => true | _ => false) (c.args.map a.eval)).run P w := by
  simp only [execOp, ho, resolve, hc, Sem.run_bind, Sem.run_pure, Result.andThen_ok]
  rfl

theorem SemF_of_smW {s : Sem Value} {sh : List Sh} {K : RsV sh → HP} (h : smW P s sh K L) : SemF P s (fun v L' => ∃ r, v = rsVal sh r ∧ K r L') L := h

theorem flatCall_sound (hN : NoNum P) (hag : Agree n env a) {c : Call} (ho : o.op = .call c) (h : flatCall P o env c (keeps φs) k L) : OpOk P (clsOf P o) o a L φs k := by
  unfold flatCall at h
  cases hargs : evA env c.args with
  | none => simp only [hargs] at h; exact False.elim h
  | some args =>
    simp only [hargs] at h
    have hargs' := hag.eva hargs
    cases hc : c.callee with
    | invoke r m => simp only [hc] at h; exact False.elim h
    | value x =>
      have hcls : clsOf P o = .W := by simp only [clsOf, ho, hc]
      rw [hcls]
      have viaClv : ∀ {fn : Fn} {first captured : Array Value} {rs : List Sh} {K : RsV rs → HP}, a.eval x = .func fn first captured → clv P fn (first ++ args) captured rs K L →
          (∀ r L', K r L' → (∀ φ ∈ φs, φ L') ∧ k (rsVal rs r) [] L') → OpOk P .W o a L φs k := by
        rintro fn first captured rs K hx ⟨f, rfl, hf, hcall⟩ hk
        unfold calleeOk at hf
        cases hfn : P.funcs[f]? with
        | none => rw [hfn] at hf; cases hf
        | some fn =>
          rw [hfn] at hf
          refine ok_call (f := f) (args := (first ++ args) ++ captured) (fun w => ?_) hcall fun v L' ⟨r, hv, hK⟩ => by subst hv; exact hk r L' hK
          rw [exec_call_val ho hc hx, hargs']
          exact callee_run hN hfn hf _ w
      have generic : ∀ (hxx : ∀ f, x ≠ .func f), OpOk P .W o a L φs k := by
        intro hxx
        have h' : (match evL env x with
            | some (.func fn first captured) => match P.underlying o.type with
              | some (.tuple ts) => match shsOf P ts.toList with
                | some rs => clv P fn (first ++ args) captured rs fun r => keeps φs (k (rsVal rs r) [])
                | none => ff
              | _ => match shOf P o.type with
                | some s => clv P fn (first ++ args) captured [s] fun r => keeps φs (k (s.val r.1) [])
                | none => ff
            | _ => ff : HP) L := by
          rw [hc] at h
          cases x with
          | func f => exact absurd rfl (hxx f)
          | _ => exact h
        cases hx : evL env x with
        | none => rw [hx] at h'; exact False.elim h'
        | some v =>
          rw [hx] at h'
          have hx' := hag.ev hx
          cases v
          case func fn first captured =>
            have one : ∀ (h : (match shOf P o.type with
                | some s => clv P fn (first ++ args) captured [s] fun r => keeps φs (k (s.val r.1) [])
                | none => ff : HP) L), OpOk P .W o a L φs k := by
              intro h
              cases hs : shOf P o.type with
              | none => rw [hs] at h; exact False.elim h
              | some s => rw [hs] at h; exact viaClv hx' h fun r L' hK => keeps_spec hK
            cases hu : P.underlying o.type with
            | none => rw [hu] at h'; exact one h'
            | some d =>
              rw [hu] at h'
              cases d
              case tuple ts =>
                cases hs : shsOf P ts.toList with
                | none => simp only [hs] at h'; exact False.elim h'
                | some rs => simp only [hs] at h'; exact viaClv hx' h' fun r L' hK => keeps_spec hK
              all_goals exact one h'
          all_goals exact False.elim h'
      cases x with
      | func f =>
        rw [hc] at h
        simp only at h
        cases hfn : P.funcs[f]? with
        | none => rw [hfn] at h; exact False.elim h
        | some fn =>
          rw [hfn] at h
          simp only at h
          cases hb : fn.body.isSome with
          | false => rw [hb] at h; exact False.elim h
          | true =>
            rw [hb] at h
            cases hs : shsOf P fn.resultTypes.toList with
            | none => rw [hs] at h; exact False.elim h
            | some rs =>
              rw [hs] at h
              refine ok_call (f := f) (args := args) (fun w => ?_) h fun v L' ⟨r, hv, hK⟩ => by subst hv; exact keeps_spec hK
              rw [exec_call_fn ho hc, hargs']
              exact callee_run hN hfn hb _ w
      | tmp t => exact generic (by intro f e; cases e)
      | const v => exact generic (by intro f e; cases e)
      | global g => exact generic (by intro f e; cases e)
    | builtin b =>
      have heb := fun w => exec_call_builtin (P := P) (a := a) ho hc w
      rw [hargs'] at heb
      rw [hc] at h
      simp only at h
      have okP : ∀ {v : Value}, clsOf P o = .P → (∀ w, (builtin b c.argTypes o.type (c.args.map fun | .const _ => true | _ => false) args).run P w = .ok (.value v) w) → k v [] L → OpOk P (clsOf P o) o a L φs k := by
        intro v hcl hr hk
        rw [hcl]
        exact ⟨v, fun w => by rw [heb]; exact hr w, hk⟩
      cases b
      case len =>
        have hargT : args = args.toList.toArray := by simp
        have hct : c.argTypes = c.argTypes.toList.toArray := by simp
        generalize hal : args.toList = al at h
        generalize htl : c.argTypes.toList = tl at h
        rw [hal] at hargT
        rw [htl] at hct
        cases tl with
        | nil => exact False.elim (by cases al with | nil => exact h | cons x r => cases r <;> cases x <;> exact h)
        | cons t tr =>
          cases tr with
          | cons t2 tr => exact False.elim (by cases al with | nil => exact h | cons x r => cases r <;> cases x <;> exact h)
          | nil =>
            cases al with
            | nil => exact False.elim h
            | cons x r =>
              cases r with
              | cons x2 r => exact False.elim (by cases x <;> exact h)
              | nil =>
                subst hargT
                have hclsNM : (∀ kk e, P.underlying t ≠ some (.map kk e)) → clsOf P o = .P := by
                  intro hm
                  simp only [clsOf, ho, hc, htl]
                have other : (match P.underlying t with
                    | some (.array n _) => k (.int .i64 n) []
                    | some (.pointer u) => match P.underlying u with | some (.array n _) => k (.int .i64 n) [] | _ => ff
                    | _ => ff : HP) L → OpOk P (clsOf P o) o a L φs k := by
                  intro h
                  cases hu : P.underlying t with
                  | none => rw [hu] at h; exact False.elim h
                  | some d =>
                    rw [hu] at h
                    cases d
                    case array m e =>
                      refine okP (hclsNM (by rw [hu]; intro _ _ h; cases h)) (fun w => ?_) h
                      rw [hct]
                      cases x <;> simp [builtin, Builtin.len_, run_und hu, goInt]
                    case pointer u =>
                      cases hu2 : P.underlying u with
                      | none => simp only [hu2] at h; exact False.elim h
                      | some d2 =>
                        simp only [hu2] at h
                        cases d2
                        case array m e =>
                          refine okP (hclsNM (by rw [hu]; intro _ _ h; cases h)) (fun w => ?_) h
                          rw [hct]
                          cases x <;> simp [builtin, Builtin.len_, run_und hu, run_und hu2, goInt]
                        all_goals exact False.elim h
                    all_goals exact False.elim h
                cases x
                case string s =>
                  cases hu : P.underlying t with
                  | none => simp only [hu] at h; exact False.elim h
                  | some d =>
                    simp only [hu] at h
                    cases d
                    case string =>
                      refine okP (hclsNM (by rw [hu]; intro _ _ h; cases h)) (fun w => ?_) h
                      rw [hct]
                      simp [builtin, Builtin.len_, run_und hu, goInt]
                    all_goals exact False.elim h
                case slice b l cp =>
                  cases hu : P.underlying t with
                  | none => simp only [hu] at h; exact False.elim h
                  | some d =>
                    simp only [hu] at h
                    cases d
                    case slice e =>
                      refine okP (hclsNM (by rw [hu]; intro _ _ h; cases h)) (fun w => ?_) h
                      rw [hct]
                      simp [builtin, Builtin.len_, run_und hu, goInt]
                    all_goals exact False.elim h
                case map r =>
                  cases hu : P.underlying t with
                  | none => simp only [hu] at h; exact False.elim h
                  | some d =>
                    simp only [hu] at h
                    cases d
                    case map kk e =>
                      obtain ⟨r, hr, hk⟩ := h
                      have hcl : clsOf P o = .R := by simp only [clsOf, ho, hc, htl, hu]
                      rw [hcl]
                      exact ok_R (s := Builtin.len_ c.argTypes o.type #[.map _]) (fun w => by rw [heb]; rfl) hr (fun L' h => h) hk
                    all_goals exact False.elim h
                all_goals exact other h
      case cap =>
        have hargT : args = args.toList.toArray := by simp
        have hct : c.argTypes = c.argTypes.toList.toArray := by simp
        generalize hal : args.toList = al at h
        generalize htl : c.argTypes.toList = tl at h
        rw [hal] at hargT
        rw [htl] at hct
        have hcl : clsOf P o = .P := by simp only [clsOf, ho, hc]
        cases al with
        | nil => exact False.elim h
        | cons x r =>
          cases r with
          | cons x2 r => exact False.elim (by cases x <;> exact h)
          | nil =>
            cases x
            case slice b l cp =>
              cases tl with
              | nil => exact False.elim h
              | cons t tr =>
                cases tr with
                | cons t2 tr => exact False.elim h
                | nil =>
                  subst hargT
                  cases hu : P.underlying t with
                  | none => simp only [hu] at h; exact False.elim h
                  | some d =>
                    simp only [hu] at h
                    cases d
                    case slice e =>
                      refine okP hcl (fun w => ?_) h
                      rw [hct]
                      simp [builtin, Builtin.cap_, run_und hu, goInt]
                    all_goals exact False.elim h
            all_goals exact False.elim h
      case min =>
        have hcl : clsOf P o = .P := by simp only [clsOf, ho, hc]
        cases hi : intsOf args.toList with
        | none => simp only [hi] at h; exact False.elim h
        | some p =>
          obtain ⟨kd, ns⟩ := p
          obtain ⟨k0, m, r, hvs, rfl, ms, rfl, hmin, hmax⟩ := intsOf_spec (P := P) hi
          simp only [hi] at h
          exact okP hcl (fun w => run_v (by simp only [Builtin.min_, hvs]; exact hmin w)) h
      case max =>
        have hcl : clsOf P o = .P := by simp only [clsOf, ho, hc]
        cases hi : intsOf args.toList with
        | none => simp only [hi] at h; exact False.elim h
        | some p =>
          obtain ⟨kd, ns⟩ := p
          obtain ⟨k0, m, r, hvs, rfl, ms, rfl, hmin, hmax⟩ := intsOf_spec (P := P) hi
          simp only [hi] at h
          exact okP hcl (fun w => run_v (by simp only [Builtin.max_, hvs]; exact hmax w)) h
      case append =>
        have hcl : clsOf P o = .W := by simp only [clsOf, ho, hc]
        rw [hcl]
        refine ok_W (s := Builtin.append_ c.argTypes o.type args) (fun w => by rw [heb]; rfl) fun E F w hw => ?_
        obtain ⟨v, w', L', hr, hw', r, rfl, hk⟩ := h E F w hw
        exact ⟨_, w', L', hr, hw', keeps_spec hk⟩
      case copy =>
        have hcl : clsOf P o = .W := by simp only [clsOf, ho, hc]
        rw [hcl]
        refine ok_W (s := Builtin.copy_ c.argTypes o.type args) (fun w => by rw [heb]; rfl) fun E F w hw => ?_
        obtain ⟨v, w', L', hr, hw', r, rfl, hk⟩ := h E F w hw
        exact ⟨_, w', L', hr, hw', keeps_spec hk⟩
      case clear =>
        have hcl : clsOf P o = .W := by simp only [clsOf, ho, hc]
        rw [hcl]
        refine ok_W (s := Builtin.clear_ c.argTypes o.type args) (fun w => by rw [heb]; rfl) fun E F w hw => ?_
        obtain ⟨v, w', L', hr, hw', r, rfl, hk⟩ := h E F w hw
        exact ⟨_, w', L', hr, hw', keeps_spec hk⟩
      case delete =>
        have hcl : clsOf P o = .W := by simp only [clsOf, ho, hc]
        rw [hcl]
        refine ok_W (s := Builtin.delete_ c.argTypes o.type args) (fun w => by rw [heb]; rfl) fun E F w hw => ?_
        obtain ⟨v, w', L', hr, hw', r, rfl, hk⟩ := h E F w hw
        exact ⟨_, w', L', hr, hw', keeps_spec hk⟩
      all_goals exact False.elim h
end
end Go.HL
