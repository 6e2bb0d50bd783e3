/-
  It is proved how structs are compared, and what a function value's call is. There are no further conditions than those that each theorem names.
-/
import Derived.Test.YtaniefdpjommnaaDoorHL20
import Derived.Laws.StructEq
import Derived.ChangeKeysEq
set_option linter.unusedVariables false
set_option linter.unusedSimpArgs false
namespace Go.HL
section
variable {P : Program} {L : HList}

/-- What '==' says of two values of a type, by their cells. -/
def eqAt (P : Program) : Nat → TypeId → List Value → List Value → Option Bool
  | 0, _, _, _ => none
  | d + 1, t, xs, ys =>
    match P.underlying t with
    | some .bool => match xs, ys with | [.bool a], [.bool b] => some (a == b) | _, _ => none
    | some (.int _) => match xs, ys with | [.int k a], [.int k' b] => if k = k' then some (a == b) else none | _, _ => none
    | some .string => match xs, ys with | [.string a], [.string b] => some (a.toList == b.toList) | _, _ => none
    | some (.struct fs) =>
      if P.stoodInHeld t = false then
        fs.toList.foldr (fun f acc => if f.name = "_" then none else acc.bind fun r => (eqAt P d f.type ((xs.drop f.offset).take (P.cellsOf f.type)) ((ys.drop f.offset).take (P.cellsOf f.type))).map (· && r)) (some true)
      else none
    | _ => none
def RepC (P : Program) (t : TypeId) (x : Value) (xs : List Value) : Prop :=
  match P.underlying t with
  | some (.struct _) => x = .agg xs.toArray
  | _ => xs = [x]
theorem take_one {xs : List Value} {off s : Nat} {v : Value} (h : (xs.drop off).take s = [v]) : xs.toArray[off]? = some v := by
  have h0 : ((xs.drop off).take s)[0]? = some v := by rw [h]; rfl
  rw [List.getElem?_take] at h0
  split at h0
  · rw [List.getElem?_drop] at h0
    simpa using h0
  · cases h0
theorem run_part_eq {t : TypeId} {n : Nat} {xs ys : List Value} {off : Nat} {r : Bool} (h : eqAt P n t ((xs.drop off).take (P.cellsOf t)) ((ys.drop off).take (P.cellsOf t)) = some r) (w : World) :
    ∃ a b, (part t xs.toArray off).run P w = .ok a w ∧ (part t ys.toArray off).run P w = .ok b w ∧ RepC P t a ((xs.drop off).take (P.cellsOf t)) ∧ RepC P t b ((ys.drop off).take (P.cellsOf t)) := by
  cases n with
  | zero => simp [eqAt] at h
  | succ n =>
    unfold eqAt at h
    have plainP : ∀ {d : TypeDesc}, P.underlying t = some d → (match d with | .struct _ | .array _ _ => true | _ => false) = false → ∀ {a b : Value}, (xs.drop off).take (P.cellsOf t) = [a] → (ys.drop off).take (P.cellsOf t) = [b] →
        ∃ a b, (part t xs.toArray off).run P w = .ok a w ∧ (part t ys.toArray off).run P w = .ok b w ∧ RepC P t a ((xs.drop off).take (P.cellsOf t)) ∧ RepC P t b ((ys.drop off).take (P.cellsOf t)) := by
      intro d hu hd a b ha hb
      have hr : ∀ {v : Value} {l : List Value}, l = [v] → RepC P t v l := by
        intro v l hl
        unfold RepC
        rw [hu]
        cases d <;> simp_all
      have hp : ∀ {zs : List Value} {v : Value}, (zs.drop off).take (P.cellsOf t) = [v] → (part t zs.toArray off).run P w = .ok v w := by
        intro zs v hv
        have hg : (isAgg t).run P w = .ok false w := by
          unfold isAgg
          rw [Sem.run_bind, run_underlying hu]
          cases d <;> simp_all
        unfold part
        rw [Sem.run_bind, hg]
        simp only [Result.andThen_ok, Bool.false_eq_true, if_false, take_one hv, Sem.run_pure]
      exact ⟨a, b, hp ha, hp hb, hr ha, hr hb⟩
    cases hu : P.underlying t with
    | none => rw [hu] at h; simp at h
    | some d =>
      rw [hu] at h
      cases d with
      | bool =>
        simp only at h
        split at h
        · exact plainP hu rfl (by assumption) (by assumption)
        · cases h
      | int k =>
        simp only at h
        split at h
        · exact plainP hu rfl (by assumption) (by assumption)
        · cases h
      | string =>
        simp only at h
        split at h
        · exact plainP hu rfl (by assumption) (by assumption)
        · cases h
      | struct fs =>
        obtain ⟨i, hi⟩ : ∃ i, P.info? t = some i := by
          cases hi : P.info? t with
          | none => unfold Program.underlying at hu; simp [hi] at hu
          | some i => exact ⟨i, rfl⟩
        have hp : ∀ zs : List Value, (part t zs.toArray off).run P w = .ok (.agg ((zs.drop off).take (P.cellsOf t)).toArray) w := by
          intro zs
          have hg : (isAgg t).run P w = .ok true w := by
            unfold isAgg
            rw [Sem.run_bind, run_underlying hu]
            simp
          unfold part
          rw [Sem.run_bind, hg]
          simp only [Result.andThen_ok, if_true, Sem.run_bind, run_sizeOf w hi, Sem.run_pure]
          rw [List.extract_toArray, List.extract_eq_take_drop, Nat.add_sub_cancel_left]
        refine ⟨_, _, hp xs, hp ys, ?_, ?_⟩ <;> (unfold RepC; rw [hu])
      | _ => simp at h
theorem run_eqAt (d : Nat) : ∀ (n : Nat) (t : TypeId) (xs ys : List Value) (r : Bool), eqAt P n t xs ys = some r → ∀ (x y : Value), RepC P t x xs → RepC P t y ys → ∀ w, (Op.equalIn (d + n) t x y).run P w = .ok r w
  | 0, _, _, _, _, h, _, _, _, _, _ => by simp [eqAt] at h
  | n + 1, t, xs, ys, r, h, x, y, hx, hy, w => by
    unfold eqAt at h
    unfold RepC at hx hy
    cases hu : P.underlying t with
    | none => rw [hu] at h; simp at h
    | some q =>
      rw [hu] at h hx hy
      cases q with
      | bool =>
        simp only at h hx hy
        subst hx hy
        split at h
        · rename_i a b e1 e2
          cases e1; cases e2
          cases h
          exact run_equalIn_bool' w (d + n) t a b hu
        · cases h
      | int k =>
        simp only at h hx hy
        subst hx hy
        split at h
        · rename_i k a k' b e1 e2
          cases e1; cases e2
          split at h
          · rename_i hk
            subst hk
            cases h
            exact run_equalIn_int w (d + n) t k _ a b hu
          · cases h
        · cases h
      | string =>
        simp only at h hx hy
        subst hx hy
        split at h
        · rename_i a b e1 e2
          cases e1; cases e2
          cases h
          exact run_equalIn_string w (d + n) t a b hu
        · cases h
      | struct fs =>
        simp only at h hx hy
        subst hx hy
        split at h
        · rename_i hst
          have hf : P.underlying t = some (.struct (P.fieldsOf t)) := by unfold Program.fieldsOf; rw [hu]
          have hfs : P.fieldsOf t = fs := by unfold Program.fieldsOf; rw [hu]
          show (Op.equalIn ((d + n) + 1) t (.agg xs.toArray) (.agg ys.toArray)).run P w = .ok r w
          rw [run_equalIn_agg w (d + n) t _ _ hf hst, hfs]
          revert h
          generalize fs.toList = l
          clear hu hf hfs hst
          induction l generalizing r with
          | nil => intro h; cases h; simp [Op.eqFields]
          | cons f l ih =>
            intro h
            rw [List.foldr_cons] at h
            split at h
            · cases h
            · rename_i hn
              rw [Option.bind_eq_some_iff] at h
              obtain ⟨r', h1, h2⟩ := h
              rw [Option.map_eq_some_iff] at h2
              obtain ⟨q, h3, rfl⟩ := h2
              obtain ⟨a, b, p1, p2, ra, rb⟩ := run_part_eq h3 w
              have h4 := run_eqAt d n f.type _ _ q h3 a b ra rb w
              have h5 := ih r' h1
              unfold Op.eqFields
              simp only [hn, ne_eq, not_false_eq_true, if_true, Sem.run_bind, p1, p2, h4, Result.andThen_ok]
              cases q
              · simp
              · simpa using h5
        · cases h
      | _ => simp at h
def isStr (P : Program) (t : TypeId) : Bool := match P.underlying t with | some (.struct _) => true | _ => false
theorem isStr_rep {t : TypeId} (h : isStr P t = true) (xs : Array Value) : RepC P t (.agg xs) xs.toList := by
  unfold isStr at h
  unfold RepC
  split at h
  · simp
  · cases h
theorem eqS_of {t : TypeId} {xs ys : Array Value} {r : Bool} (hu : isStr P t = true) (h : eqAt P 100 t xs.toList ys.toList = some r) {k : ShV (.lf .bool) → HP} (hk : k r L) :
    smP P (binOp .eql t (.agg xs) (.agg ys)) (.lf .bool) k L := by
  refine ⟨r, fun w => ?_, hk⟩
  rw [run_eql_struct, run_eqAt 9900 100 t _ _ r h (.agg xs) (.agg ys) (isStr_rep hu xs) (isStr_rep hu ys) w]
  rfl
theorem neS_of {t : TypeId} {xs ys : Array Value} {r : Bool} (hu : isStr P t = true) (h : eqAt P 100 t xs.toList ys.toList = some r) {k : ShV (.lf .bool) → HP} (hk : k (!r) L) :
    smP P (binOp .neq t (.agg xs) (.agg ys)) (.lf .bool) k L := by
  refine ⟨!r, fun w => ?_, hk⟩
  rw [run_neq_struct, run_eqAt 9900 100 t _ _ r h (.agg xs) (.agg ys) (isStr_rep hu xs) (isStr_rep hu ys) w]
  rfl
/-- A function value that is called. -/
theorem clv_of {f : FuncId} {args captured : Array Value} {rs : List Sh} {k : RsV rs → HP} (ho : calleeOk P f = true) (h : cl P f (args ++ captured) rs k L) : clv P (.func f) args captured rs k L := ⟨f, rfl, ho, h⟩
end
end Go.HL
