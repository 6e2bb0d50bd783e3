/-
  It is proved that each operation's node is sound: memory. There are no further conditions than those that each theorem names.
-/
import Derived.Test.YtaniefdpjommnaaDoorHL7
set_option linter.unusedVariables false
set_option linter.unusedSimpArgs false
namespace Go.HL
section
variable {P : Program} {n : Nat} {env : Env} {a : Act} {o : Oper} {φs : List HP} {k : Value → List HP → HP} {L : HList}

theorem run_intBin (k : IntKind) (op : BinOp) (x y : Int) (w : World) (v : Value) (hx : op ≠ .shl ∧ op ≠ .shr)
    (h : (match op with
      | .add => some (.int k (k.wrap (x + y))) | .sub => some (.int k (k.wrap (x - y))) | .mul => some (.int k (k.wrap (x * y)))
      | .quo => if y = 0 then none else some (.int k (k.wrap (x.tdiv y))) | .rem => if y = 0 then none else some (.int k (x.tmod y))
      | .and | .or | .xor | .andNot => some (.int k (bitI op k x y))
      | .eql => some (.bool (x == y)) | .neq => some (.bool (x != y)) | .lss => some (.bool (decide (x < y))) | .leq => some (.bool (decide (x ≤ y)))
      | .gtr => some (.bool (decide (x > y))) | .geq => some (.bool (decide (x ≥ y))) | _ => none) = some v) (t : TypeId) :
    (binOp op t (.int k x) (.int k y)).run P w = .ok v w := by
  cases op
  case shl => exact absurd rfl hx.1
  case shr => exact absurd rfl hx.2
  case quo =>
    simp only at h
    split at h
    · cases h
    · rename_i h0
      simp at h
      subst h
      simp [binOp, Op.intDiv, h0]
  case rem =>
    simp only at h
    split at h
    · cases h
    · rename_i h0
      simp at h
      subst h
      simp [binOp, Op.intDiv, h0]
  all_goals
    simp only [Option.some.injEq] at h
    subst h
    first
      | (simp [binOp, Op.intArith]; done)
      | (simp [binOp, Op.intBits, bitI]; done)
      | (simp [binOp, Op.intCmp]; done)

theorem run_eqGuard_int (op : BinOp) (t : TypeId) (x y : Operand) (k k' : IntKind) (i j : Int) (w : World) : (eqGuard op t x y (.int k i) (.int k' j)).run P w = .ok () w := by
  cases op <;> simp [eqGuard]
theorem run_eqGuard_str (op : BinOp) (t : TypeId) (x y : Operand) (i j : ByteArray) (w : World) : (eqGuard op t x y (.string i) (.string j)).run P w = .ok () w := by
  cases op <;> simp [eqGuard]
theorem run_eqGuard_bool (op : BinOp) (t : TypeId) (x y : Operand) (i j : Bool) (w : World) : (eqGuard op t x y (.bool i) (.bool j)).run P w = .ok () w := by
  cases op <;> simp [eqGuard]
theorem run_eqGuard_ptr (op : BinOp) (t : TypeId) (x y : Operand) (i j : Option Addr) (w : World) : (eqGuard op t x y (.pointer i) (.pointer j)).run P w = .ok () w := by
  cases op <;> simp [eqGuard]
theorem run_eqGuard_sl (op : BinOp) (t : TypeId) (x y : Operand) (i j : Option Addr) (l m c d : Nat) (w : World) : (eqGuard op t x y (.slice i l c) (.slice j m d)).run P w = .ok () w := by
  cases op <;> simp [eqGuard]
theorem run_eqGuard_agg (op : BinOp) (t : TypeId) (x y : Operand) (i j : Array Value) (h : P.eqGuardType P.depth t = false) (w : World) : (eqGuard op t x y (.agg i) (.agg j)).run P w = .ok () w := by
  cases op <;> simp [eqGuard, h]

theorem flatInt_sound {op : BinOp} {kx : IntKind} {i j : Int} (hx : op ≠ .shl ∧ op ≠ .shr) (h : flatInt op kx i j k L) : ∃ v, k v [] L ∧ ∀ (t : TypeId) w, (binOp op t (.int kx i) (.int kx j)).run P w = .ok v w := by
  cases op
  case shl => exact absurd rfl hx.1
  case shr => exact absurd rfl hx.2
  case quo => obtain ⟨h0, hk⟩ := h; exact ⟨_, hk, fun t w => run_intBin kx .quo i j w _ hx (by simp [h0]) t⟩
  case rem => obtain ⟨h0, hk⟩ := h; exact ⟨_, hk, fun t w => run_intBin kx .rem i j w _ hx (by simp [h0]) t⟩
  all_goals first
    | exact ⟨_, h, fun t w => run_intBin kx _ i j w _ hx rfl t⟩
    | exact h.elim

theorem isT {t : TypeId} : (isIntT P t = true → ∃ k, P.underlying t = some (.int k)) ∧ (isStrT P t = true → P.underlying t = some .string) ∧ (isBoolT P t = true → P.underlying t = some .bool) ∧
    (isPtrT P t = true → ∃ e, P.underlying t = some (.pointer e)) ∧ (isSlT P t = true → ∃ e, P.underlying t = some (.slice e)) := by
  refine ⟨fun h => ?_, fun h => ?_, fun h => ?_, fun h => ?_, fun h => ?_⟩
  · unfold isIntT at h; split at h
    · exact ⟨_, by assumption⟩
    · cases h
  · unfold isStrT at h; split at h
    · assumption
    · cases h
  · unfold isBoolT at h; split at h
    · assumption
    · cases h
  · unfold isPtrT at h; split at h
    · exact ⟨_, by assumption⟩
    · cases h
  · unfold isSlT at h; split at h
    · exact ⟨_, by assumption⟩
    · cases h

theorem run_eqIn_bool (d : Nat) {t : TypeId} (hu : P.underlying t = some .bool) (i j : Bool) (w : World) : (Op.equalIn (d + 1) t (.bool i) (.bool j)).run P w = .ok (i == j) w := by
  simp only [Op.equalIn, Sem.run_bind, run_und hu, Result.andThen_ok, Sem.run_pure]
theorem run_eqIn_ptr (d : Nat) {t e : TypeId} (hu : P.underlying t = some (.pointer e)) (i : Option Addr) (w : World) : (Op.equalIn (d + 1) t (.pointer i) (.pointer none)).run P w = .ok i.isNone w := by
  cases i <;> simp only [Op.equalIn, Sem.run_bind, run_und hu, Result.andThen_ok, Sem.run_pure] <;> rfl
theorem run_eqIn_sl (d : Nat) {t e : TypeId} (hu : P.underlying t = some (.slice e)) (i : Option Addr) (l c m q : Nat) (w : World) : (Op.equalIn (d + 1) t (.slice i l c) (.slice none m q)).run P w = .ok i.isNone w := by
  cases i <;> simp only [Op.equalIn, Sem.run_bind, run_und hu, Result.andThen_ok, Sem.run_pure] <;> rfl
theorem run_eql_of {t : TypeId} {x y : Value} {r : Bool} {w : World} (hb : ∀ (op : BinOp), binOp .eql t x y = (do pure (.bool (← Op.equal t x y)) : Sem Value)) (h : (Op.equalIn (9999 + 1) t x y).run P w = .ok r w) :
    (binOp .eql t x y).run P w = .ok (.bool r) w := by
  rw [hb .eql, Sem.run_bind]
  show ((Op.equalIn (9999 + 1) t x y).run P w).andThen _ = _
  rw [h]; rfl
theorem run_neq_of {t : TypeId} {x y : Value} {r : Bool} {w : World} (hb : ∀ (op : BinOp), binOp .neq t x y = (do pure (.bool (!(← Op.equal t x y))) : Sem Value)) (h : (Op.equalIn (9999 + 1) t x y).run P w = .ok r w) :
    (binOp .neq t x y).run P w = .ok (.bool (!r)) w := by
  rw [hb .neq, Sem.run_bind]
  show ((Op.equalIn (9999 + 1) t x y).run P w).andThen _ = _
  rw [h]; rfl

theorem flatBin_sound (hag : Agree n env a) {op : BinOp} {xt yt : TypeId} {x y : Operand} (ho : o.op = .binOp op xt x y yt) (h : flatBin P o env op xt x y k L) : OpOk P (clsOf P o) o a L φs k := by
  have he : ∀ w, (execOp a.eval o).run P w = (do let v ← (do eqGuard op xt x y (a.eval x) (a.eval y); binOp op xt (a.eval x) (a.eval y)); pure (.value v) : Sem Next).run P w := by
    intro w; simp only [execOp, ho]
  have okP : ∀ {v : Value}, clsOf P o = .P → (∀ w, (eqGuard op xt x y (a.eval x) (a.eval y)).run P w = .ok () w) → (∀ w, (binOp op xt (a.eval x) (a.eval y)).run P w = .ok v w) → k v [] L → OpOk P (clsOf P o) o a L φs k := by
    intro v hc hg hr hk
    rw [hc]
    exact ⟨v, fun w => by rw [he]; exact run_v (by simp [hg w, hr w]), hk⟩
  unfold flatBin at h
  cases hx : evL env x with
  | none => simp only [hx] at h; exact h.elim
  | some vx =>
    cases hy : evL env y with
    | none => simp only [hx, hy] at h; exact h.elim
    | some vy =>
      simp only [hx, hy] at h
      have hx' := hag.ev hx
      have hy' := hag.ev hy
      have hcls : ∀ {b : Bool}, isPtrT P xt = b → (b = false ∨ isNilC y = true ∨ (op ≠ .eql ∧ op ≠ .neq)) → clsOf P o = .P := by
        intro b hb hh
        simp only [clsOf, ho]
        rw [hb]
        rcases hh with rfl | hn | ⟨h1, h2⟩
        · cases op <;> cases isNilC y <;> rfl
        · rw [hn]; cases op <;> rfl
        · split
          · exact absurd rfl h1
          · exact absurd rfl h2
          · rfl
      unfold flatBinV at h
      split at h
      · -- integers
        rename_i kx i ky j
        have hp : isIntT P xt = true → isPtrT P xt = false := by
          intro h; obtain ⟨kk, hk⟩ := (isT (P := P)).1 h; simp [isPtrT, hk]
        have fin : ∀ {v : Value}, isIntT P xt = true → (∀ w, (binOp op xt (.int kx i) (.int ky j)).run P w = .ok v w) → k v [] L → OpOk P (clsOf P o) o a L φs k := fun hi hr hk =>
          okP (hcls (hp hi) (.inl rfl)) (fun w => by rw [hx', hy']; exact run_eqGuard_int _ _ _ _ _ _ _ _ _) (fun w => by rw [hx', hy']; exact hr w) hk
        cases hi : isIntT P xt with
        | false => rw [hi] at h; exact False.elim h
        | true =>
          rw [hi] at h
          by_cases h1 : op = .shl
          · subst h1
            obtain ⟨h0, hk⟩ := h
            exact fin hi (fun w => by simp [binOp, Op.shift, Int.not_lt.2 h0]) hk
          · by_cases h2 : op = .shr
            · subst h2
              obtain ⟨h0, hk⟩ := h
              exact fin hi (fun w => by simp [binOp, Op.shift, Int.not_lt.2 h0]) hk
            · cases hke : kindEq kx ky with
              | false => rw [hke] at h; exact False.elim (by cases op <;> first | exact h | exact absurd rfl h1 | exact absurd rfl h2)
              | true =>
                rw [hke] at h
                obtain rfl := kindEq_spec hke
                have h' : flatInt op kx i j k L := by cases op <;> first | exact h | exact absurd rfl h1 | exact absurd rfl h2
                obtain ⟨v, hk, hr⟩ := flatInt_sound (P := P) ⟨h1, h2⟩ h'
                exact fin hi (fun w => hr _ w) hk
      · -- strings
        rename_i i j
        have hp : isStrT P xt = true → isPtrT P xt = false := by
          intro h; have hk := (isT (P := P)).2.1 h; simp [isPtrT, hk]
        cases hi : isStrT P xt with
        | false => rw [hi] at h; exact False.elim h
        | true =>
          rw [hi] at h
          cases op
          case add =>
            obtain ⟨h0, hk⟩ := h
            refine okP (hcls (hp hi) (.inl rfl)) (fun w => by rw [hx', hy']; exact run_eqGuard_str _ _ _ _ _ _ _) (fun w => ?_) hk
            rw [hx', hy']
            have : ¬ IntKind.i64.max < ((i.size + j.size : Nat) : Int) := Int.not_lt.2 h0
            simp only [binOp, Op.stringOp, Sem.run_ite]
            rw [if_neg this]
            rfl
          case eql => exact okP (hcls (hp hi) (.inl rfl)) (fun w => by rw [hx', hy']; exact run_eqGuard_str _ _ _ _ _ _ _) (fun w => by rw [hx', hy']; rfl) h
          case neq => exact okP (hcls (hp hi) (.inl rfl)) (fun w => by rw [hx', hy']; exact run_eqGuard_str _ _ _ _ _ _ _) (fun w => by rw [hx', hy']; rfl) h
          all_goals exact False.elim h
      · -- bools
        rename_i i j
        have hp : isBoolT P xt = true → isPtrT P xt = false := by
          intro h; have hk := (isT (P := P)).2.2.1 h; simp [isPtrT, hk]
        cases hi : isBoolT P xt with
        | false => rw [hi] at h; exact False.elim h
        | true =>
          rw [hi] at h
          have hu := (isT (P := P)).2.2.1 hi
          cases op
          case eql =>
            refine okP (hcls (hp hi) (.inl rfl)) (fun w => by rw [hx', hy']; exact run_eqGuard_bool _ _ _ _ _ _ _) (fun w => ?_) h
            rw [hx', hy']
            exact run_eql_of (fun _ => rfl) (run_eqIn_bool 9999 hu i j w)
          case neq =>
            refine okP (hcls (hp hi) (.inl rfl)) (fun w => by rw [hx', hy']; exact run_eqGuard_bool _ _ _ _ _ _ _) (fun w => ?_) h
            rw [hx', hy']
            exact run_neq_of (fun _ => rfl) (run_eqIn_bool 9999 hu i j w)
          all_goals exact False.elim h
      · -- pointers
        rename_i i j
        cases hi : isPtrT P xt with
        | false => rw [hi] at h; exact False.elim h
        | true =>
          rw [hi] at h
          obtain ⟨e, hu⟩ := (isT (P := P)).2.2.2.1 hi
          cases hn : isNilC y with
          | true =>
            rw [hn] at h
            cases op
            case eql =>
              cases j with
              | some _ => exact False.elim h
              | none =>
                refine okP (hcls hi (.inr (.inl hn))) (fun w => by rw [hx', hy']; exact run_eqGuard_ptr _ _ _ _ _ _ _) (fun w => ?_) h
                rw [hx', hy']
                exact run_eql_of (fun _ => rfl) (run_eqIn_ptr 9999 hu i w)
            case neq =>
              cases j with
              | some _ => exact False.elim h
              | none =>
                refine okP (hcls hi (.inr (.inl hn))) (fun w => by rw [hx', hy']; exact run_eqGuard_ptr _ _ _ _ _ _ _) (fun w => ?_) h
                rw [hx', hy']
                exact run_neq_of (fun _ => rfl) (run_eqIn_ptr 9999 hu i w)
            all_goals exact False.elim h
          | false =>
            rw [hn] at h
            have goR : ∀ (op' : BinOp), op = op' → (clsOf P o = .R) → smR P (binOp op' xt (.pointer i) (.pointer j)) [.lf .bool] (fun r => k (.bool r.1) [RdV P (binOp op' xt (.pointer i) (.pointer j)) (.bool r.1)]) L → OpOk P (clsOf P o) o a L φs k := by
              rintro op' rfl hc ⟨r, hr, hk⟩
              rw [hc]
              refine ok_R (s := (do eqGuard op xt x y (a.eval x) (a.eval y); binOp op xt (a.eval x) (a.eval y))) he (v := .bool r.1) ?_ (fun L' h => ?_) hk
              · intro E F w hw; rw [Sem.run_bind, hx', hy', run_eqGuard_ptr]; exact hr E F w hw
              · intro E F w hw; rw [Sem.run_bind, hx', hy', run_eqGuard_ptr]; exact h E F w hw
            cases op
            case eql => exact goR .eql rfl (by simp only [clsOf, ho, hi, hn]) h
            case neq => exact goR .neq rfl (by simp only [clsOf, ho, hi, hn]) h
            all_goals exact False.elim h
      · -- slices
        rename_i i l c j m d
        have hp : isSlT P xt = true → isPtrT P xt = false := by
          intro h; obtain ⟨e, hk⟩ := (isT (P := P)).2.2.2.2 h; simp [isPtrT, hk]
        cases hi : isSlT P xt with
        | false => rw [hi] at h; exact False.elim h
        | true =>
          rw [hi] at h
          obtain ⟨e, hk⟩ := (isT (P := P)).2.2.2.2 hi
          cases op
          case eql =>
            cases j with
            | some _ => exact False.elim h
            | none =>
              refine okP (hcls (hp hi) (.inl rfl)) (fun w => by rw [hx', hy']; exact run_eqGuard_sl _ _ _ _ _ _ _ _ _ _ _) (fun w => ?_) h
              rw [hx', hy']
              exact run_eql_of (fun _ => rfl) (run_eqIn_sl 9999 hk i l c m d w)
          case neq =>
            cases j with
            | some _ => exact False.elim h
            | none =>
              refine okP (hcls (hp hi) (.inl rfl)) (fun w => by rw [hx', hy']; exact run_eqGuard_sl _ _ _ _ _ _ _ _ _ _ _) (fun w => ?_) h
              rw [hx', hy']
              exact run_neq_of (fun _ => rfl) (run_eqIn_sl 9999 hk i l c m d w)
          all_goals exact False.elim h
      · -- structs, arrays
        rename_i i j
        cases hi : isPtrT P xt with
        | true => rw [hi] at h; exact False.elim (by cases op <;> exact h)
        | false =>
          rw [hi] at h
          cases hg : P.eqGuardType P.depth xt with
          | true => rw [hg] at h; exact False.elim (by cases op <;> exact h)
          | false =>
            rw [hg] at h
            cases op
            case eql =>
              obtain ⟨r, hr, hk⟩ := h
              exact okP (hcls hi (.inl rfl)) (fun w => by rw [hx', hy']; exact run_eqGuard_agg _ _ _ _ _ _ hg _) (fun w => by rw [hx', hy']; exact hr w) hk
            case neq =>
              obtain ⟨r, hr, hk⟩ := h
              exact okP (hcls hi (.inl rfl)) (fun w => by rw [hx', hy']; exact run_eqGuard_agg _ _ _ _ _ _ hg _) (fun w => by rw [hx', hy']; exact hr w) hk
            all_goals exact False.elim h
      · exact h.elim
end
end Go.HL
