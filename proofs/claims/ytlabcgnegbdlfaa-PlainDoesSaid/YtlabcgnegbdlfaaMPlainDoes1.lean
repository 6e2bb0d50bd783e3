/-
  It is proved what the functions that the law PlainDoes reaches compute, part 1. There are no further conditions than those that each theorem names.
-/
import Derived.Test.YtlabcgnegbdlfaaMPlainDoes0
import Derived.Laws.StructEq
import Derived.ChangeKeysEq
import Derived.SizedLaws
import Derived.Test.YtlabcgnegbdlfaaProg
import Derived.KernelRfl
set_option linter.unusedVariables false
set_option linter.unusedSimpArgs false
namespace Go.HL
section
variable {P : Program} {L : HList}

/-- What '==' says of two values of a type, by their cells. -/
def eqAt (P : Program) : Nat → TypeId → List Value → List Value → Option Bool
  | 0, _, _, _ => none
  | d + 1, t, xs, ys =>
    match P.underlying t with
    | some .bool => match xs, ys with | [.bool a], [.bool b] => some (a == b) | _, _ => none
    | some (.int _) => match xs, ys with | [.int k a], [.int k' b] => if k = k' then some (a == b) else none | _, _ => none
    | some .string => match xs, ys with | [.string a], [.string b] => some (a.toList == b.toList) | _, _ => none
    | some (.struct fs) =>
      if P.stoodInHeld t = false then
        fs.toList.foldr (fun f acc => if f.name = "_" then none else acc.bind fun r => (eqAt P d f.type ((xs.drop f.offset).take (P.cellsOf f.type)) ((ys.drop f.offset).take (P.cellsOf f.type))).map (· && r)) (some true)
      else none
    | _ => none
def RepC (P : Program) (t : TypeId) (x : Value) (xs : List Value) : Prop :=
  match P.underlying t with
  | some (.struct _) => x = .agg xs.toArray
  | _ => xs = [x]
theorem take_one {xs : List Value} {off s : Nat} {v : Value} (h : (xs.drop off).take s = [v]) : xs.toArray[off]? = some v := by
  have h0 : ((xs.drop off).take s)[0]? = some v := by rw [h]; rfl
  rw [List.getElem?_take] at h0
  split at h0
  · rw [List.getElem?_drop] at h0
    simpa using h0
  · cases h0
theorem run_part_eq {t : TypeId} {n : Nat} {xs ys : List Value} {off : Nat} {r : Bool} (h : eqAt P n t ((xs.drop off).take (P.cellsOf t)) ((ys.drop off).take (P.cellsOf t)) = some r) (w : World) :
    ∃ a b, (part t xs.toArray off).run P w = .ok a w ∧ (part t ys.toArray off).run P w = .ok b w ∧ RepC P t a ((xs.drop off).take (P.cellsOf t)) ∧ RepC P t b ((ys.drop off).take (P.cellsOf t)) := by
  cases n with
  | zero => simp [eqAt] at h
  | succ n =>
    unfold eqAt at h
    have plainP : ∀ {d : TypeDesc}, P.underlying t = some d → (match d with | .struct _ | .array _ _ => true | _ => false) = false → ∀ {a b : Value}, (xs.drop off).take (P.cellsOf t) = [a] → (ys.drop off).take (P.cellsOf t) = [b] →
        ∃ a b, (part t xs.toArray off).run P w = .ok a w ∧ (part t ys.toArray off).run P w = .ok b w ∧ RepC P t a ((xs.drop off).take (P.cellsOf t)) ∧ RepC P t b ((ys.drop off).take (P.cellsOf t)) := by
      intro d hu hd a b ha hb
      have hr : ∀ {v : Value} {l : List Value}, l = [v] → RepC P t v l := by
        intro v l hl
        unfold RepC
        rw [hu]
        cases d <;> simp_all
      have hp : ∀ {zs : List Value} {v : Value}, (zs.drop off).take (P.cellsOf t) = [v] → (part t zs.toArray off).run P w = .ok v w := by
        intro zs v hv
        have hg : (isAgg t).run P w = .ok false w := by
          unfold isAgg
          rw [Sem.run_bind, run_underlying hu]
          cases d <;> simp_all
        unfold part
        rw [Sem.run_bind, hg]
        simp only [Result.andThen_ok, Bool.false_eq_true, if_false, take_one hv, Sem.run_pure]
      exact ⟨a, b, hp ha, hp hb, hr ha, hr hb⟩
    cases hu : P.underlying t with
    | none => rw [hu] at h; simp at h
    | some d =>
      rw [hu] at h
      cases d with
      | bool =>
        simp only at h
        split at h
        · exact plainP hu rfl (by assumption) (by assumption)
        · cases h
      | int k =>
        simp only at h
        split at h
        · exact plainP hu rfl (by assumption) (by assumption)
        · cases h
      | string =>
        simp only at h
        split at h
        · exact plainP hu rfl (by assumption) (by assumption)
        · cases h
      | struct fs =>
        obtain ⟨i, hi⟩ : ∃ i, P.info? t = some i := by
          cases hi : P.info? t with
          | none => unfold Program.underlying at hu; simp [hi] at hu
          | some i => exact ⟨i, rfl⟩
        have hp : ∀ zs : List Value, (part t zs.toArray off).run P w = .ok (.agg ((zs.drop off).take (P.cellsOf t)).toArray) w := by
          intro zs
          have hg : (isAgg t).run P w = .ok true w := by
            unfold isAgg
            rw [Sem.run_bind, run_underlying hu]
            simp
          unfold part
          rw [Sem.run_bind, hg]
          simp only [Result.andThen_ok, if_true, Sem.run_bind, run_sizeOf w hi, Sem.run_pure]
          rw [List.extract_toArray, List.extract_eq_take_drop, Nat.add_sub_cancel_left]
        refine ⟨_, _, hp xs, hp ys, ?_, ?_⟩ <;> (unfold RepC; rw [hu])
      | _ => simp at h
theorem run_eqAt (d : Nat) : ∀ (n : Nat) (t : TypeId) (xs ys : List Value) (r : Bool), eqAt P n t xs ys = some r → ∀ (x y : Value), RepC P t x xs → RepC P t y ys → ∀ w, (Op.equalIn (d + n) t x y).run P w = .ok r w
  | 0, _, _, _, _, h, _, _, _, _, _ => by simp [eqAt] at h
  | n + 1, t, xs, ys, r, h, x, y, hx, hy, w => by
    unfold eqAt at h
    unfold RepC at hx hy
    cases hu : P.underlying t with
    | none => rw [hu] at h; simp at h
    | some q =>
      rw [hu] at h hx hy
      cases q with
      | bool =>
        simp only at h hx hy
        subst hx hy
        split at h
        · rename_i a b e1 e2
          cases e1; cases e2
          cases h
          exact run_equalIn_bool' w (d + n) t a b hu
        · cases h
      | int k =>
        simp only at h hx hy
        subst hx hy
        split at h
        · rename_i k a k' b e1 e2
          cases e1; cases e2
          split at h
          · rename_i hk
            subst hk
            cases h
            exact run_equalIn_int w (d + n) t k _ a b hu
          · cases h
        · cases h
      | string =>
        simp only at h hx hy
        subst hx hy
        split at h
        · rename_i a b e1 e2
          cases e1; cases e2
          cases h
          exact run_equalIn_string w (d + n) t a b hu
        · cases h
      | struct fs =>
        simp only at h hx hy
        subst hx hy
        split at h
        · rename_i hst
          have hf : P.underlying t = some (.struct (P.fieldsOf t)) := by unfold Program.fieldsOf; rw [hu]
          have hfs : P.fieldsOf t = fs := by unfold Program.fieldsOf; rw [hu]
          show (Op.equalIn ((d + n) + 1) t (.agg xs.toArray) (.agg ys.toArray)).run P w = .ok r w
          rw [run_equalIn_agg w (d + n) t _ _ hf hst, hfs]
          revert h
          generalize fs.toList = l
          clear hu hf hfs hst
          induction l generalizing r with
          | nil => intro h; cases h; simp [Op.eqFields]
          | cons f l ih =>
            intro h
            rw [List.foldr_cons] at h
            split at h
            · cases h
            · rename_i hn
              rw [Option.bind_eq_some_iff] at h
              obtain ⟨r', h1, h2⟩ := h
              rw [Option.map_eq_some_iff] at h2
              obtain ⟨q, h3, rfl⟩ := h2
              obtain ⟨a, b, p1, p2, ra, rb⟩ := run_part_eq h3 w
              have h4 := run_eqAt d n f.type _ _ q h3 a b ra rb w
              have h5 := ih r' h1
              unfold Op.eqFields
              simp only [hn, ne_eq, not_false_eq_true, if_true, Sem.run_bind, p1, p2, h4, Result.andThen_ok]
              cases q
              · simp
              · simpa using h5
        · cases h
      | _ => simp at h
def isStr (P : Program) (t : TypeId) : Bool := match P.underlying t with | some (.struct _) => true | _ => false
theorem isStr_rep {t : TypeId} (h : isStr P t = true) (xs : Array Value) : RepC P t (.agg xs) xs.toList := by
  unfold isStr at h
  unfold RepC
  split at h
  · simp
  · cases h
theorem eqS_of {t : TypeId} {xs ys : Array Value} {r : Bool} (hu : isStr P t = true) (h : eqAt P 100 t xs.toList ys.toList = some r) {k : ShV (.lf .bool) → HP} (hk : k r L) :
    smP P (binOp .eql t (.agg xs) (.agg ys)) (.lf .bool) k L := by
  refine ⟨r, fun w => ?_, hk⟩
  rw [run_eql_struct, run_eqAt 9900 100 t _ _ r h (.agg xs) (.agg ys) (isStr_rep hu xs) (isStr_rep hu ys) w]
  rfl
variable {κ : Type} [DecidableEq κ]
end
end Go.HL
set_option linter.unusedVariables false
set_option linter.unusedSimpArgs false
namespace Go.HL
section
variable {P : Program} {w : World}
end
end Go.HL
set_option linter.unusedVariables false
set_option linter.unusedSimpArgs false
namespace Go.HL
section
variable {P : Program} {L : HList}
end
end Go.HL
set_option linter.unusedVariables false
set_option linter.unusedSimpArgs false
namespace Go.HL
/-- Where N' holds, N holds with the variables R and whatever beside it. -/
def Fr (R : HList) (N' N : HP) : Prop := ∀ L L2 J, N' L → L2.Perm (L ++ (R ++ J)) → N L2
def elp (a : Option Addr) (len : Nat) (i : Int) (sz : Nat) (k : Addr → HP) : HP := nilc a fun ad => ixn i len (k (ad.add (i.toNat * sz)))
def w64 (e : Int) (k : Int → HP) : HP := k (IntKind.i64.wrap e)
def apv (P : Program) (t t2 ty e : TypeId) (v : SlV) (n : Nat) (ws : List Value) (k : SlV → HP) : HP := fun L =>
  ∀ m, SemF P (Builtin.append_ #[t, t2] ty #[.slice v.a v.len v.cap, .slice (some ⟨m, 0, none⟩) n n]) (fun r L' => ∃ s L0, r = .slice s.a s.len s.cap ∧ L'.Perm ((m, Obj.cells ws.toArray e) :: L0) ∧ k s L0) ((m, Obj.cells ws.toArray e) :: L)
/-- A row's cells as a shape. -/
def ldX (sh : Sh) (cs : List Value) (off : Nat) : Option (ShV sh) :=
  match sh with
  | .lf l => match cs.drop off with | v :: _ => l.of v | [] => none
  | .agg ls => lfOfs ls ((cs.drop off).take ls.length)
def wrO : List Value → Nat → List Value → Option (List Value)
  | cs, 0, [] => some cs
  | c :: cs, 0, w :: ws => match wrO cs 0 ws with | some r => some (w :: r) | none => none
  | c :: cs, i + 1, ws => match wrO cs i ws with | some r => some (c :: r) | none => none
  | [], _, _ => none
def getO : HList → Nat → Option (Nat × Obj)
  | p :: r, 0 => some p
  | p :: r, i + 1 => getO r i
  | [], _ => none
def setO : HList → Nat → Nat × Obj → Option HList
  | p :: r, 0, x => some (x :: r)
  | p :: r, i + 1, x => match setO r i x with | some r' => some (p :: r') | none => none
  | [], _, _ => none
def delO : HList → Nat → Option HList
  | p :: r, 0 => some r
  | p :: r, i + 1 => match delO r i with | some r' => some (p :: r') | none => none
  | [], _ => none
theorem getO_spec : ∀ {R : HList} {i : Nat} {p : Nat × Obj}, getO R i = some p → ∃ A B, R = A ++ p :: B ∧ (∀ x R', setO R i x = some R' → R' = A ++ x :: B) ∧ (∀ R', delO R i = some R' → R' = A ++ B)
  | p :: r, 0, q, h => by
    simp only [getO, Option.some.injEq] at h; subst h
    exact ⟨[], r, rfl, fun x R' h => by simp only [setO, Option.some.injEq] at h; exact h.symm, fun R' h => by simp only [delO, Option.some.injEq] at h; exact h.symm⟩
  | p :: r, i + 1, q, h => by
    simp only [getO] at h
    obtain ⟨A, B, rfl, h1, h2⟩ := getO_spec h
    refine ⟨p :: A, B, rfl, fun x R' h => ?_, fun R' h => ?_⟩
    · simp only [setO] at h
      split at h
      · rename_i r' hr; obtain rfl := Option.some.inj h; rw [h1 _ _ hr]; rfl
      · cases h
    · simp only [delO] at h
      split at h
      · rename_i r' hr; obtain rfl := Option.some.inj h; rw [h2 _ hr]; rfl
      · cases h
  | [], _, _, h => by simp [getO] at h
theorem ldX_spec {sh : Sh} {cs : List Value} {off : Nat} {x : ShV sh} (h : ldX sh cs off = some x) : ∀ (i : Nat) (v : Value), (sh.vals x)[i]? = some v → cs[off + i]? = some v := by
  intro i v hv
  cases sh with
  | lf l =>
    simp only [ldX] at h
    split at h
    · rename_i u r hu
      have := Lf.of_spec h
      cases i with
      | zero =>
        have h2 : l.val x = v := by simpa [Sh.vals] using hv
        have h3 : (cs.drop off)[0]? = some u := by rw [hu]; rfl
        rw [List.getElem?_drop] at h3
        rw [h3, ← this, h2]
      | succ i => simp [Sh.vals] at hv
    · cases h
  | agg ls =>
    simp only [ldX] at h
    have h1 := lfOfs_spec h
    have h3 : ((cs.drop off).take ls.length)[i]? = some v := by rw [← h1]; exact hv
    rw [List.getElem?_take] at h3
    split at h3
    · rwa [List.getElem?_drop] at h3
    · cases h3
theorem wrO_spec : ∀ (cs : List Value) (off : Nat) (ws cs' : List Value), wrO cs off ws = some cs' → off + ws.length ≤ cs.length ∧ wr cs.toArray off ws = cs'.toArray
  | cs, 0, [], cs', h => by cases cs <;> simp only [wrO, Option.some.injEq] at h <;> subst h <;> exact ⟨by simp, rfl⟩
  | c :: cs, 0, w :: ws, cs', h => by
    simp only [wrO] at h
    split at h
    · rename_i r hr
      obtain rfl := Option.some.inj h
      obtain ⟨h1, h2⟩ := wrO_spec cs 0 ws r hr
      have hl : (0 : Nat) + (w :: ws).length ≤ (c :: cs).length := by simp only [List.length_cons] at *; omega
      refine ⟨hl, ?_⟩
      apply Array.ext_getElem?
      intro j
      rw [wr_get _ _ _ _ (by simpa using hl)]
      cases j with
      | zero => simp
      | succ j =>
        have h3 := wr_get ws cs.toArray 0 j (by simpa using h1)
        rw [h2] at h3
        simp only [List.getElem?_toArray, List.getElem?_cons_succ, List.length_cons, Nat.zero_add, Nat.sub_zero, Nat.zero_le, true_and] at h3 ⊢
        rw [h3]
        by_cases hj : j < ws.length
        · rw [if_pos hj, if_pos (by omega)]
        · rw [if_neg hj, if_neg (by omega)]
    · cases h
  | c :: cs, i + 1, ws, cs', h => by
    simp only [wrO] at h
    split at h
    · rename_i r hr
      obtain rfl := Option.some.inj h
      obtain ⟨h1, h2⟩ := wrO_spec cs i ws r hr
      have hl : i + 1 + ws.length ≤ (c :: cs).length := by simp only [List.length_cons]; omega
      refine ⟨hl, ?_⟩
      apply Array.ext_getElem?
      intro j
      rw [wr_get _ _ _ _ (by simpa using hl)]
      cases j with
      | zero => simp
      | succ j =>
        have h3 := wr_get ws cs.toArray i j (by simpa using h1)
        rw [h2] at h3
        simp only [List.getElem?_toArray, List.getElem?_cons_succ] at h3 ⊢
        rw [h3]
        by_cases hj : i ≤ j ∧ j < i + ws.length
        · rw [if_pos hj, if_pos (by omega), show j + 1 - (i + 1) = j - i by omega]
        · rw [if_neg hj, if_neg (by omega)]
    · cases h
  | [], 0, w :: ws, _, h => by simp [wrO] at h
  | [], i + 1, ws, _, h => by simp [wrO] at h

theorem mid_swap {A2 B2 L A B J : HList} {x y : Nat × Obj} (hp : (A2 ++ x :: B2).Perm (L ++ (A ++ x :: B ++ J))) : (A2 ++ y :: B2).Perm (L ++ (A ++ y :: B ++ J)) := by
  classical
  rw [List.perm_iff_count]
  intro z
  have := hp.count_eq z
  simp only [List.count_append, List.count_cons] at this ⊢
  omega
theorem mid_mem {L A B J : HList} {x : Nat × Obj} : x ∈ L ++ (A ++ x :: B ++ J) := List.mem_append_right _ (List.mem_append_left _ (List.mem_append_right _ List.mem_cons_self))
theorem Sat.sub {L L2 G : HList} (h : Sat L2) (hp : L2.Perm (L ++ G)) : Sat L := by
  obtain ⟨E, F, w, hw⟩ := h
  exact ⟨E, G ++ F, w, by rw [← List.append_assoc]; exact hw.perm (hp.append_right F)⟩
theorem LdAt.perm {ad : Addr} {vs : List Value} {L L2 G : HList} (h : LdAt ad vs L) (hp : L2.Perm (L ++ G)) : LdAt ad vs L2 := h.mono fun p hq => hp.symm.subset (List.mem_append_left _ hq)
section
variable {P : Program} {R : HList}
theorem fr_run {a b : HP} {L : HList} (h : Fr [] a b) (ha : a L) : b L := h L L [] ha (by simp)
theorem fr_end {K : Value → HP} {v : Value} : Fr R (Ends K v) (Ends K v) := by
  rintro L L2 J ⟨A, B, hp, hK⟩ h2
  exact ⟨A, B ++ (R ++ J), by rw [← List.append_assoc]; exact h2.trans (hp.append_right _), hK⟩
theorem fr_ff {N : HP} : Fr R ff N := fun _ _ _ h => h.elim
theorem fr_nw {o : Obj} {k' k : Nat → HP} (h : ∀ n, Fr R (k' n) (k n)) : Fr R (nw o k') (nw o k) := fun L L2 J hN hp n hs =>
  h n _ _ J (hN n (hs.sub (G := R ++ J) (hp.cons _))) (hp.cons _)
theorem fr_nwL {o : Obj} {k' : HP} {k : Nat → HP} (h : ∀ n, Fr ((n, o) :: R) k' (k n)) : Fr R k' (nw o k) := fun L L2 J hN hp n hs =>
  h n L _ J hN ((hp.cons _).trans List.perm_middle.symm)
theorem fr_ld {ad : Addr} {sh : Sh} {k' k : ShV sh → HP} (h : ∀ x, Fr R (k' x) (k x)) : Fr R (ld ad sh k') (ld ad sh k) := fun L L2 J ⟨x, hx, hk⟩ hp => ⟨x, hx.perm hp, h x _ _ J hk hp⟩
theorem fr_ldI (i off : Nat) {ad : Addr} {sh : Sh} {k' : HP} {k : ShV sh → HP} {n : Nat} {cs : List Value} {T : TypeId} {fz : Nat × Nat} {x : ShV sh} (hi : getO R i = some (n, Obj.cells cs.toArray T fz)) (had : ad = ⟨n, off, none⟩) (hx : ldX sh cs off = some x) (h : Fr R k' (k x)) : Fr R k' (ld ad sh k) := by
  intro L L2 J hk hp
  obtain ⟨A, B, rfl, _⟩ := getO_spec hi
  subst had
  refine ⟨x, ⟨_, T, fz, hp.symm.subset mid_mem, rfl, fun j v hv => ?_⟩, h _ _ J hk hp⟩
  simpa using ldX_spec hx j v hv
theorem fr_st {ad : Addr} {ws : List Value} {k' k : HP} (h : Fr R k' k) : Fr R (st ad ws k') (st ad ws k) := by
  rintro L L2 J ⟨A, B, c, T, fz, rfl, hs, h1, h2, hk⟩ hp
  obtain ⟨A2, B2, rfl⟩ := List.append_of_mem (hp.symm.subset (show (ad.block, Obj.cells c T fz) ∈ (A ++ (ad.block, Obj.cells c T fz) :: B) ++ (R ++ J) by simp))
  refine ⟨A2, B2, c, T, fz, rfl, hs, h1, h2, h _ _ J hk ?_⟩
  have h3 : (A2 ++ B2).Perm (A ++ (B ++ (R ++ J))) := by
    have h4 : ((ad.block, Obj.cells c T fz) :: (A2 ++ B2)).Perm ((ad.block, Obj.cells c T fz) :: (A ++ (B ++ (R ++ J)))) := by
      refine List.perm_middle.symm.trans (hp.trans ?_)
      rw [List.append_assoc, List.cons_append]
      exact List.perm_middle
    exact (List.perm_cons _).1 h4
  refine List.perm_middle.trans (((h3.cons _)).trans ?_)
  rw [List.append_assoc, List.cons_append]
  exact List.perm_middle.symm
theorem fr_stI (i off : Nat) {ad : Addr} {ws cs cs' : List Value} {k' k : HP} {n : Nat} {T : TypeId} {R' : HList} (hi : getO R i = some (n, Obj.cells cs.toArray T (0, 0))) (had : ad = ⟨n, off, none⟩) (hw : wrO cs off ws = some cs') (hs : setO R i (n, Obj.cells cs'.toArray T (0, 0)) = some R') (h : Fr R' k' k) : Fr R k' (st ad ws k) := by
  intro L L2 J hk hp
  obtain ⟨A, B, rfl, hset, _⟩ := getO_spec hi
  obtain rfl := hset _ _ hs
  subst had
  obtain ⟨h1, h2⟩ := wrO_spec _ _ _ _ hw
  obtain ⟨A2, B2, rfl⟩ := List.append_of_mem (hp.symm.subset (mid_mem (L := L)))
  refine ⟨A2, B2, _, T, (0, 0), rfl, rfl, by simpa using h1, fun j hj => by simp, ?_⟩
  simp only [h2]
  exact h _ _ J hk (mid_swap hp)
theorem fr_wk {R' G : HList} {a b : HP} (h : Fr R' a b) (hR : R = R' ++ G) : Fr R a b := by
  subst hR
  intro L L2 J ha hp
  exact h L L2 (G ++ J) ha (by rw [List.append_assoc] at hp; exact hp)
theorem RdV.perm {s : Sem Value} {v : Value} {L L2 G : HList} (h : RdV P s v L) (hp : L2.Perm (L ++ G)) : RdV P s v L2 := fun E F w hw => h E (G ++ F) w (by rw [← List.append_assoc]; exact hw.perm (hp.append_right F))
theorem SemF.fr {s : Sem Value} {K : Value → HP} {L L2 G : HList} (h : SemF P s K L) (hp : L2.Perm (L ++ G)) : SemF P s (fun v L' => ∃ L0, L' = L0 ++ G ∧ K v L0) L2 := by
  intro E F w hw
  obtain ⟨v, w', L', h1, h2, h3⟩ := h E (G ++ F) w (by rw [← List.append_assoc]; exact hw.perm (hp.append_right F))
  exact ⟨v, w', L' ++ G, h1, by rw [List.append_assoc]; exact h2, L', rfl, h3⟩
theorem SemF.mono {s : Sem Value} {K K' : Value → HP} {L : HList} (h : SemF P s K L) (hk : ∀ v L', K v L' → K' v L') : SemF P s K' L := by
  intro E F w hw
  obtain ⟨v, w', L', h1, h2, h3⟩ := h E F w hw
  exact ⟨v, w', L', h1, h2, hk _ _ h3⟩
theorem fr_keepI (i off : Nat) {ad : Addr} {vs cs : List Value} {k' k : HP} {n : Nat} {T : TypeId} {fz : Nat × Nat} (hi : getO R i = some (n, Obj.cells cs.toArray T fz)) (had : ad = ⟨n, off, none⟩) (hx : (cs.drop off).take vs.length = vs) (h : Fr R k' k) : Fr R k' (keep (LdAt ad vs) k) := by
  intro L L2 J hk hp
  obtain ⟨A, B, rfl, _⟩ := getO_spec hi
  subst had
  exact ⟨ldB (hp.symm.subset mid_mem) (by simpa using hx), h _ _ J hk hp⟩
theorem CallF.fr {f : FuncId} {args : Array Value} {K : Value → HP} {L L2 G : HList} (h : CallF P f args L K) (hp : L2.Perm (L ++ G)) : CallF P f args L2 fun v L' => ∃ L0, L' = L0 ++ G ∧ K v L0 := CallF.perm hp.symm (CallF.frame (R := G) h)
theorem fr_cl {f : FuncId} {args : Array Value} {rs : List Sh} {k' k : RsV rs → HP} (h : ∀ r, Fr R (k' r) (k r)) : Fr R (cl P f args rs k') (cl P f args rs k) := fun L L2 J hc hp =>
  CallF.mono (CallF.fr hc hp) (by rintro v L' - ⟨L0, rfl, r, hr, hk⟩; exact ⟨r, hr, h r _ _ J hk (List.Perm.refl _)⟩)
theorem fr_ifB {t : Bool} {A' A B' B : HP} (h1 : Fr R A' A) (h2 : Fr R B' B) : Fr R (ifB t A' B') (ifB t A B) := by cases t <;> assumption
theorem fr_ifNot {t : Bool} {A' A B' B : HP} (h1 : Fr R A' A) (h2 : Fr R B' B) : Fr R (ifB t B' A') (ifB (!t) A B) := by cases t <;> assumption
theorem fr_ifEq {x y : Int} {A' A B' B : HP} (h1 : Fr R A' A) (h2 : Fr R B' B) : Fr R (ifB (decide (x = y)) A' B') (ifB (x == y) A B) := by
  by_cases h : x = y
  · rw [decide_eq_true h, beq_iff_eq.2 h]; exact h1
  · rw [decide_eq_false h, beq_eq_false_iff_ne.2 h]; exact h2
theorem fr_ifNe {x y : Int} {A' A B' B : HP} (h1 : Fr R A' A) (h2 : Fr R B' B) : Fr R (ifB (decide (x = y)) B' A') (ifB (x != y) A B) := by
  by_cases h : x = y
  · rw [decide_eq_true h]; simp only [bne, beq_iff_eq.2 h, Bool.not_true]; exact h2
  · rw [decide_eq_false h]; simp only [bne, beq_eq_false_iff_ne.2 h, Bool.not_false]; exact h1
theorem fr_ifS {x y : ByteArray} {A' A B' B : HP} (h1 : Fr R A' A) (h2 : Fr R B' B) : Fr R (ifB (decide (x = y)) A' B') (ifB (x.toList == y.toList) A B) := by rw [str_beq]; exact fr_ifB h1 h2
theorem fr_ifSn {x y : ByteArray} {A' A B' B : HP} (h1 : Fr R A' A) (h2 : Fr R B' B) : Fr R (ifB (decide (x = y)) B' A') (ifB (!(x.toList == y.toList)) A B) := by rw [str_beq]; exact fr_ifNot h1 h2
theorem fr_nilcK {p : Option Addr} {k' k : Addr → HP} (h : ∀ a, p = some a → Fr R (k' a) (k a)) : Fr R (nilc p k') (nilc p k) := by
  cases p with
  | none => exact fr_ff
  | some a => exact h a rfl
theorem fr_nilcE {p : Option Addr} {a : Addr} {k' : HP} {k : Addr → HP} (hp : p = some a) (h : Fr R k' (k a)) : Fr R k' (nilc p k) := by subst hp; exact h
theorem fr_req {p : Prop} {k' k : HP} (h : Fr R k' k) : Fr R (req p k') (req p k) := fun L L2 J ⟨h1, h2⟩ hp => ⟨h1, h _ _ J h2 hp⟩
theorem fr_reqT {p : Prop} {k' k : HP} (hq : p) (h : Fr R k' k) : Fr R k' (req p k) := fun L L2 J h2 hp => ⟨hq, h _ _ J h2 hp⟩
theorem fr_ixn {i n : Int} {k' k : HP} (h : Fr R k' k) : Fr R (ixn i n k') (ixn i n k) := fr_req h
theorem fr_elpK {a : Option Addr} {len : Nat} {i : Int} {sz : Nat} {k' : Addr → HP} {k : Addr → HP} (h : ∀ b, (a = some b ∧ 0 ≤ i ∧ i < len) → Fr R (k' (b.add (i.toNat * sz))) (k b)) : Fr R (elp a len i sz k') (nilc a fun b => ixn i len (k b)) := by
  cases a with
  | none => exact fr_ff
  | some b =>
    rintro L L2 J ⟨h1, h2⟩ hp
    exact ⟨h1, h _ ⟨rfl, h1⟩ _ _ J h2 hp⟩
theorem fr_elpE {a : Option Addr} {len : Nat} {i : Int} {b : Addr} {k' : HP} {k : Addr → HP} (he : a = some b ∧ 0 ≤ i ∧ i < len) (h : Fr R k' (k b)) : Fr R k' (nilc a fun b => ixn i len (k b)) := by
  obtain ⟨rfl, h1⟩ := he
  intro L L2 J h2 hp
  exact ⟨h1, h _ _ J h2 hp⟩
theorem fr_slc {v : SlV} {l h' m : Int} {sz : Nat} {k' k : SlV → HP} (h : ∀ s, Fr R (k' s) (k s)) : Fr R (slc v l h' m sz k') (slc v l h' m sz k) := fr_req (h _)
theorem fr_w64 {e : Int} {k' : Int → HP} {N : HP} (h : Fr R (k' (IntKind.i64.wrap e)) N) : Fr R (w64 e k') N := h
theorem fr_smP {s : Sem Value} {sh : Sh} {k' k : ShV sh → HP} (h : ∀ r, Fr R (k' r) (k r)) : Fr R (smP P s sh k') (smP P s sh k) := fun L L2 J ⟨r, h1, h2⟩ hp => ⟨r, h1, h r _ _ J h2 hp⟩
theorem fr_smR {s : Sem Value} {sh : List Sh} {k' k : RsV sh → HP} (h : ∀ r, Fr R (k' r) (k r)) : Fr R (smR P s sh k') (smR P s sh k) := fun L L2 J ⟨r, h1, h2⟩ hp => ⟨r, h1.perm hp, h r _ _ J h2 hp⟩
theorem fr_smE {s : Sem Value} {a b : Option Sh} {k' k : OvT a → OvT b → HP} (h : ∀ x y, Fr R (k' x y) (k x y)) : Fr R (smE P s a b k') (smE P s a b k) := fun L L2 J ⟨x, y, h1, h2⟩ hp => ⟨x, y, h1.perm hp, h x y _ _ J h2 hp⟩
theorem fr_smW {s : Sem Value} {sh : List Sh} {k' k : RsV sh → HP} (h : ∀ r, Fr R (k' r) (k r)) : Fr R (smW P s sh k') (smW P s sh k) := fun L L2 J hc hp =>
  (SemF.fr hc hp).mono (by rintro v L' ⟨L0, rfl, r, hr, hk⟩; exact ⟨r, hr, h r _ _ J hk (List.Perm.refl _)⟩)
theorem fr_smN {s : Sem Value} {a b : Option Sh} {kE' kE : HP} {k' k : OvT a → OvT b → HP} (h0 : Fr R kE' kE) (h : ∀ x y, Fr R (k' x y) (k x y)) : Fr R (smN P s a b kE' k') (smN P s a b kE k) := fun L L2 J hc hp =>
  (SemF.fr hc hp).mono (by
    rintro v L' ⟨L0, rfl, ⟨hv, hk⟩ | ⟨x, y, hv, hk⟩⟩
    · exact .inl ⟨hv, h0 _ _ J hk (List.Perm.refl _)⟩
    · exact .inr ⟨x, y, hv, h x y _ _ J hk (List.Perm.refl _)⟩)
theorem fr_smU {s : Sem Unit} {k' k : HP} (h : Fr R k' k) : Fr R (smU P s k') (smU P s k) := by
  intro L L2 J hc hp E F w hw
  obtain ⟨w', L', h1, h2, h3⟩ := hc E ((R ++ J) ++ F) w (by rw [← List.append_assoc]; exact hw.perm (hp.append_right F))
  exact ⟨w', L' ++ (R ++ J), h1, by rw [List.append_assoc]; exact h2, h _ _ J h3 (List.Perm.refl _)⟩
theorem fr_apv (i : Nat) {t t2 ty e : TypeId} {v : SlV} {n m : Nat} {ws : List Value} {k' : SlV → HP} {k : RsV [.lf .sl] → HP} (hi : getO R i = some (m, Obj.cells ws.toArray e (0, 0))) (h : ∀ s : SlV, Fr R (k' s) (k (s, ()))) :
    Fr R (apv P t t2 ty e v n ws k') (smW P (Builtin.append_ #[t, t2] ty #[.slice v.a v.len v.cap, .slice (some ⟨m, 0, none⟩) n n]) [.lf .sl] k) := by
  intro L L2 J hc hp
  obtain ⟨A, B, rfl, _⟩ := getO_spec hi
  have hp2 : L2.Perm (((m, Obj.cells ws.toArray e (0, 0)) :: L) ++ (A ++ B ++ J)) := hp.trans (by
    classical
    rw [List.perm_iff_count]
    intro z
    simp only [List.count_append, List.count_cons]
    omega)
  refine (SemF.fr (hc m) hp2).mono ?_
  rintro r L' ⟨L0, rfl, s, L1, rfl, hp3, hk⟩
  refine ⟨(s, ()), rfl, h s L1 _ J hk ?_⟩
  classical
  rw [List.perm_iff_count]
  intro z
  have := hp3.count_eq z
  simp only [List.count_append, List.count_cons] at this ⊢
  omega
theorem fr_lp {sh sh' : List Sh} {x0 : RsV sh} {x0' : RsV sh'} {body : RsV sh → (RsV sh → HP) → HP} {body' : RsV sh' → (RsV sh' → HP) → HP} {C : HList} (M : RsV sh' → HList) (pr : RsV sh' → RsV sh) (hx : pr x0' = x0) (hR : R = M x0' ++ C)
    (h : ∀ (go' : RsV sh' → HP) (go : RsV sh → HP), (∀ x, Fr (M x ++ C) (go' x) (go (pr x))) → ∀ x, Fr (M x ++ C) (body' x go') (body (pr x) go)) : Fr R (lp sh' x0' body') (lp sh x0 body) := by
  rintro L L2 J ⟨I, ⟨k0, hI0⟩, hI⟩ hp
  subst hx hR
  refine ⟨fun k x L2 => ∃ x' L1 J1, pr x' = x ∧ L2.Perm (L1 ++ ((M x' ++ C) ++ J1)) ∧ I k x' L1, ⟨k0, x0', L, J, rfl, hp, hI0⟩, ?_⟩
  rintro k _ L2 ⟨x', L1, J1, rfl, hp1, hI1⟩
  refine h (fun x L'' => ∃ k', k' < k ∧ I k' x L'') _ ?_ x' L1 L2 J1 (hI k x' L1 hI1) hp1
  rintro x L3 L4 J3 ⟨k', hk', h3⟩ hp3
  exact ⟨k', hk', x, L3, J3, rfl, hp3, h3⟩
/-- A loop that changes none of the variables. -/
theorem fr_lp0 {sh : List Sh} {x0 : RsV sh} {body body' : RsV sh → (RsV sh → HP) → HP}
    (h : ∀ (go' go : RsV sh → HP), (∀ x, Fr R (go' x) (go x)) → ∀ x, Fr R (body' x go') (body x go)) : Fr R (lp sh x0 body') (lp sh x0 body) :=
  fr_lp (C := R) (fun _ => []) id rfl rfl h
theorem fr_jn0 {α : Type} {b b' : α → HP} {r r' : (α → HP) → HP}
    (hb : ∀ y, Fr R (b' y) (b y)) (hr : ∀ (j' j : α → HP), (∀ y, Fr R (j' y) (j y)) → Fr R (r' j') (r j)) : Fr R (jn b' r') (jn b r) := hr b' b hb
end
end Go.HL
set_option linter.unusedVariables false
set_option linter.unusedSimpArgs false
namespace Go.HL
section
variable {P : Program} {L A : HList}
theorem w64_of {e : Int} {k : Int → HP} (h : -9223372036854775808 ≤ e ∧ e ≤ 9223372036854775807) (hk : k e L) : w64 e k L := by
  unfold w64; rw [w64_id h.1 h.2]; exact hk
theorem elp_el {α : Type} {enc : α → List Value} {sz : Nat} (hsz : ∀ x, (enc x).length = sz) (hpos : 0 < sz) {v : SlV} {l : List α} (h : Sl L v sz (l.flatMap enc)) {i : Int} {n : Nat} (hi : i = n) (hn : n < l.length) {k : Addr → HP} (hk : ∀ a, LdAt a (enc l[n]) L → k a L) : elp v.a v.len i sz k L := by
  subst hi
  obtain ⟨a, ha, hl⟩ := h.el hsz hpos hn
  refine nilc_of ha (ixn_of (by omega) (by have := h.els_len hsz hpos; omega) (hk _ ?_))
  rw [Int.toNat_natCast]; exact hl
theorem slc_sl {v : SlV} {sz : Nat} {vs : List Value} (h : Sl A v sz vs) (hsz : 0 < sz) {i j m : Int} {i' j' m' : Nat} (hi : i = i') (hj : j = j') (hm : m = m') (h1 : i' ≤ j') (h2 : j' ≤ v.len) (h3 : j' ≤ m') (h4 : m' ≤ v.cap) {k : SlV → HP}
    (hk : ∀ s : SlV, s.len = j' - i' → s.cap = m' - i' → Sl A s sz ((vs.drop (i' * sz)).take ((j' - i') * sz)) → k s L) : slc v i j m sz k L :=
  slc_of hi hj hm h1 h3 h4 (hk _ (by simp [slcV]) (by simp [slcV]) (Sl.slc h hsz h1 h2 h3))
theorem slc_el {α : Type} {enc : α → List Value} {sz : Nat} (hsz : ∀ x, (enc x).length = sz) (hpos : 0 < sz) {v : SlV} {l : List α} (h : Sl A v sz (l.flatMap enc)) {i j m : Int} {i' j' m' : Nat} (hi : i = i') (hj : j = j') (hm : m = m') (h1 : i' ≤ j') (h2 : j' ≤ l.length) (h3 : j' ≤ m') (h4 : m' ≤ v.cap) {k : SlV → HP}
    (hk : ∀ s : SlV, s.len = j' - i' → s.cap = m' - i' → Sl A s sz (((l.drop i').take (j' - i')).flatMap enc) → k s L) : slc v i j m sz k L :=
  slc_sl h hpos hi hj hm h1 (by rw [h.els_len hsz hpos]; exact h2) h3 h4 fun s a b c => hk s a b (by rw [flat_slc hsz] at c; exact c)
theorem apv_in {t t2 ty e : TypeId} {sz bytes : Nat} {z : List Value} (hT : ElemT P t e sz bytes z) (h2 : SrcT P t2) {v : SlV} {vs ws : List Value} {n : Nat} {seg : HList} (X Y : HList) (own : Own v sz e vs seg) (hL : L = X ++ seg ++ Y) (hn : n * sz = ws.length) (hws : ws.all plainV = true)
    (hb : (v.len + n) * bytes ≤ 140737488355328) {k : SlV → HP} (hk : ∀ v' seg', v'.len = v.len + n → Own v' sz e (vs ++ ws) seg' → k v' (X ++ seg' ++ Y)) : apv P t t2 ty e v n ws k L := by
  subst hL
  intro m
  refine SemF.mono (append_in hT h2 ((m, Obj.cells ws.toArray e) :: X) Y own (by simp) (n := n) (ws := ws) (Src.sl (v := ⟨some ⟨m, 0, none⟩, n, n⟩) ⟨hn, Nat.le_refl _, .inr ⟨_, rfl, ldB List.mem_cons_self (by simp)⟩⟩) hws hb (k := fun r L' => ∃ L0, L' = (m, Obj.cells ws.toArray e) :: L0 ∧ k r.1 L0) fun v' seg' h1 h2 => ⟨_, rfl, hk v' seg' h1 h2⟩) ?_
  rintro r L' ⟨x, rfl, L0, rfl, hk0⟩
  exact ⟨x.1, L0, rfl, List.Perm.refl _, hk0⟩
open Classical in
noncomputable def cnt (L : HList) (z : Nat × Obj) : Nat := L.count z
open Classical in
noncomputable def cn1 (p z : Nat × Obj) : Nat := if p == z then 1 else 0
open Classical in
theorem cnt_a (X Y : HList) (z : Nat × Obj) : cnt (X ++ Y) z = cnt X z + cnt Y z := by unfold cnt; exact List.count_append
open Classical in
theorem cnt_c (p : Nat × Obj) (Y : HList) (z : Nat × Obj) : cnt (p :: Y) z = cnt Y z + cn1 p z := by unfold cnt cn1; exact List.count_cons
open Classical in
theorem cnt_n (z : Nat × Obj) : cnt [] z = 0 := by unfold cnt; exact List.count_nil
theorem pc {X Y : HList} (h : ∀ z, cnt X z = cnt Y z) : X.Perm Y := by
  classical
  rw [List.perm_iff_count]
  intro z
  have := h z
  unfold cnt at this
  exact this
open Classical in
theorem pcn {X Y : HList} (h : X.Perm Y) (z : Nat × Obj) : cnt X z = cnt Y z := by
  unfold cnt
  exact h.count_eq z
theorem psub0 {Y : HList} (h : L.Perm (A ++ Y)) : ∀ p ∈ A, p ∈ L := fun p hp => h.symm.subset (by simp [hp])
theorem apv_pm {t t2 ty e : TypeId} {sz bytes : Nat} {z : List Value} (hT : ElemT P t e sz bytes z) (h2 : SrcT P t2) {v : SlV} {vs ws : List Value} {n : Nat} {seg Y : HList} (own : Own v sz e vs seg) (hL : L.Perm (seg ++ Y)) (hn : n * sz = ws.length) (hws : ws.all plainV = true)
    (hb : (v.len + n) * bytes ≤ 140737488355328) {k : SlV → HP} (hk : ∀ v' seg', v'.len = v.len + n → Own v' sz e (vs ++ ws) seg' → k v' (seg' ++ Y)) : apv P t t2 ty e v n ws k L := fun m =>
  SemF.permL (hL.cons _) (apv_in hT h2 [] Y own rfl hn hws hb hk m)
theorem app_pm {t t2 ty e : TypeId} {sz bytes : Nat} {z : List Value} (hT : ElemT P t e sz bytes z) (h2 : SrcT P t2) {v : SlV} {vs ws : List Value} {x : Value} {n : Nat} {seg Y : HList} (own : Own v sz e vs seg) (hL : L.Perm (seg ++ Y)) (src : Src L x sz n ws) (hws : ws.all plainV = true)
    (hb : (v.len + n) * bytes ≤ 140737488355328) {k : RsV [.lf .sl] → HP} (hk : ∀ v' seg', v'.len = v.len + n → Own v' sz e (vs ++ ws) seg' → k (v', ()) (seg' ++ Y)) : smW P (Builtin.append_ #[t, t2] ty #[.slice v.a v.len v.cap, x]) [.lf .sl] k L := by
  refine SemF.permL hL (append_in hT h2 [] Y own rfl (n := n) (ws := ws) ?_ hws hb hk)
  cases src with
  | sl h => exact .sl (h.mono fun p hq => hL.subset hq)
  | str s => exact .str s
theorem st_pm {ad : Addr} {ws : List Value} {k : HP} {n off : Nat} {c : Array Value} {T : TypeId} {fz : Nat × Nat} {Y : HList} (hL : L.Perm ((n, Obj.cells c T fz) :: Y)) (had : ad = ⟨n, off, none⟩) (hsz : off + ws.length ≤ c.size)
    (hfz : fz.2 ≤ fz.1 ∨ c.size ≤ fz.1) (c' : Array Value) (hc : wr c off ws = c') (hk : ∀ L', L'.Perm ((n, Obj.cells c' T fz) :: Y) → k L') : st ad ws k L := by
  obtain ⟨A2, B2, rfl⟩ := List.append_of_mem (hL.symm.subset (List.mem_cons_self))
  exact st_of A2 B2 had rfl hsz hfz c' hc (hk _ (List.perm_middle.trans (((List.perm_cons _).1 (List.perm_middle.symm.trans hL)).cons _)))
theorem LdAt.hd {ad : Addr} {v : Value} {vs : List Value} (h : LdAt ad (v :: vs) L) : LdAt ad [v] L := h.pre fun i u hu => by
  cases i with
  | zero => exact hu
  | succ i => simp at hu
theorem ifb_of {p : Prop} [Decidable p] {A B : HP} (h1 : p → A L) (h2 : ¬ p → B L) : ifB (decide p) A B L := ifD_of h1 h2
end
end Go.HL
set_option linter.unusedVariables false
set_option linter.unusedSimpArgs false
set_option linter.unusedSectionVars false
namespace Go.HL
section
variable {P : Program} {L A Y : HList}
theorem own_st {v : SlV} {sz : Nat} {T : TypeId} {vs ws : List Value} {seg : HList} (own : Own v sz T vs seg) {p : Nat} (hp : p + ws.length ≤ vs.length) (hws : 0 < ws.length) {a ad : Addr} (ha : v.a = some a) (had : ad = Addr.add a p) {k : HP}
    (hL : L.Perm (seg ++ Y)) (hk : ∀ seg' L', L'.Perm (seg' ++ Y) → Own v sz T (putL vs p ws) seg' → k L') : st ad ws k L := by
  subst had
  rcases own.row with ⟨ha', _, _⟩ | ⟨b, off, c, fz, ha', rfl, hsz, hfz, hc⟩
  · rw [ha] at ha'; cases ha'
  · rw [ha] at ha'
    obtain rfl := Option.some.inj ha'
    have hlen := own.len
    have hcap := own.cap
    have hle := Nat.mul_le_mul_right sz hcap
    refine st_pm (n := b) (off := off + p) (c := c) (T := T) (fz := fz) (Y := Y) hL (addr_add (ad := ⟨b, off, none⟩) rfl p) (by omega) (by omega) _ rfl fun L' hL' => ?_
    refine hk [(b, Obj.cells (wr c (off + p) ws) T fz)] L' hL' ⟨by rw [putL_len _ _ _ hp]; exact hlen, hcap, .inr ⟨b, off, _, fz, ha, rfl, by rw [wr_size]; exact hsz, by rw [wr_size]; exact hfz, fun i u hu => ?_⟩⟩
    rw [putL_get _ _ _ hp] at hu
    rw [wr_get _ _ _ _ (by omega)]
    split at hu
    · rw [if_pos (by omega), show off + i - (off + p) = i - p by omega]; exact hu
    · rw [if_neg (by omega)]; exact hc i u hu
theorem putL_enc {α : Type} {enc : α → List Value} {sz : Nat} (hsz : ∀ x, (enc x).length = sz) (hpos : 0 < sz) {l : List α} {n : Nat} (hn : n < l.length) (x : α) : putL (l.flatMap enc) (n * sz) (enc x) = (l.set n x).flatMap enc := by
  have hfl := flat_len hsz l
  have hfl2 := flat_len hsz (l.set n x)
  rw [List.length_set] at hfl2
  have h0 : n * sz + sz ≤ l.length * sz := by rw [← Nat.succ_mul]; exact Nat.mul_le_mul_right sz hn
  apply List.ext_getElem?
  intro i
  rw [putL_get _ _ _ (by rw [hsz, hfl]; exact h0), hsz]
  by_cases hi : i < l.length * sz
  · have hq : i / sz < l.length := by rw [Nat.div_lt_iff_lt_mul hpos]; exact hi
    have hr : i % sz < sz := Nat.mod_lt _ hpos
    have hi2 : i = i / sz * sz + i % sz := by rw [Nat.mul_comm]; exact (Nat.div_add_mod i sz).symm
    generalize i / sz = q at hq hi2
    generalize i % sz = r at hr hi2
    subst hi2
    rw [flat_at hsz (l.set n x) q (by simpa using hq) r hr, flat_at hsz l q hq r hr, List.getElem_set]
    by_cases hqn : n = q
    · subst hqn
      rw [if_pos (by omega), if_pos rfl]
      congr 1; omega
    · rw [if_neg, if_neg hqn]
      intro hc
      rcases Nat.lt_or_ge n q with h | h
      · have := Nat.mul_le_mul_right sz (show n + 1 ≤ q by omega)
        rw [Nat.succ_mul] at this
        omega
      · have := Nat.mul_le_mul_right sz (show q + 1 ≤ n by omega)
        rw [Nat.succ_mul] at this
        omega
  · rw [if_neg (by omega), List.getElem?_eq_none (by omega), List.getElem?_eq_none (by omega)]
theorem elp_own {α : Type} {enc : α → List Value} {sz : Nat} (hsz : ∀ x, (enc x).length = sz) (hpos : 0 < sz) {v : SlV} {T : TypeId} {l : List α} {seg : HList} (own : Own v sz T (l.flatMap enc) seg) (hs : ∀ p ∈ seg, p ∈ L) {i : Int} {n : Nat} (hi : i = n) (hn : n < l.length) {k : Addr → HP}
    (hk : ∀ b, v.a = some b → LdAt (Addr.add b (n * sz)) (enc l[n]) L → k (Addr.add b (n * sz)) L) : elp v.a v.len i sz k L := by
  subst hi
  obtain ⟨a, ha, hl⟩ := own.sl.el hsz hpos hn
  refine nilc_of ha (ixn_of (by omega) (by have := own.sl.els_len hsz hpos; omega) ?_)
  rw [Int.toNat_natCast]
  exact hk a ha (hl.mono hs)
theorem st_own {α : Type} {enc : α → List Value} {sz : Nat} (hsz : ∀ x, (enc x).length = sz) (hpos : 0 < sz) {v : SlV} {T : TypeId} {l : List α} {seg : HList} (own : Own v sz T (l.flatMap enc) seg) {b : Addr} (hb : v.a = some b) {n : Nat} (hn : n < l.length) (x : α) (hL : L.Perm (seg ++ Y)) {k : HP}
    (hk : ∀ seg' L', L'.Perm (seg' ++ Y) → Own v sz T ((l.set n x).flatMap enc) seg' → k L') : st (Addr.add b (n * sz)) (enc x) k L := by
  have h0 : n * sz + sz ≤ l.length * sz := by rw [← Nat.succ_mul]; exact Nat.mul_le_mul_right sz hn
  refine own_st own (p := n * sz) (by rw [hsz, flat_len hsz]; exact h0) (by rw [hsz]; exact hpos) hb rfl hL fun seg' L' hL' o => hk seg' L' hL' ?_
  rw [putL_enc hsz hpos hn] at o; exact o
variable {κ : Type} [DecidableEq κ]
theorem update_pm {t kt et : TypeId} {kv : κ → Value} {z : Value} (hT : MapT P t kt et kv z) {r : Nat} {es : Array MapEntry} {clock : Nat} {m : List (κ × Value)} (hL : L.Perm ((r, Obj.map es clock) :: Y)) (h : Mp kv es m) (k : κ) (v : Value) {K : HP}
    (hk : ∀ es' clock' L', Mp kv es' (mput m k v) → L'.Perm ((r, Obj.map es' clock') :: Y) → K L') : smU P (Instr.mapUpdate t (.map (some r)) (kv k) v) K L := by
  obtain ⟨A2, B2, rfl⟩ := List.append_of_mem (hL.symm.subset List.mem_cons_self)
  refine update_of hT A2 B2 rfl h k v fun es' clock' hm => hk es' clock' _ hm ?_
  exact List.perm_middle.trans (((List.perm_cons _).1 (List.perm_middle.symm.trans hL)).cons _)
theorem mget_nil (k : κ) : mget ([] : List (κ × Value)) k = none := rfl
theorem mget_cons (p : κ × Value) (m : List (κ × Value)) (k : κ) : mget (p :: m) k = if k = p.1 then some p.2 else mget m k := by
  unfold mget
  by_cases h : k = p.1
  · rw [if_pos h, List.find?_cons_of_pos (by simpa using h)]; rfl
  · rw [if_neg h, List.find?_cons_of_neg (by simpa using h)]
theorem mget_mput : ∀ (m : List (κ × Value)) (k : κ) (v : Value) (k' : κ), mget (mput m k v) k' = if k' = k then some v else mget m k'
  | [], k, v, k' => by rw [mput, mget_cons]
  | p :: r, k, v, k' => by
    rw [mput]
    by_cases h : k = p.1
    · rw [if_pos h, mget_cons, mget_cons]
      by_cases h2 : k' = k
      · subst h2; simp
      · simp only [h2, if_false]; rw [if_neg (fun e => h2 (e.trans h.symm))]
    · rw [if_neg h, mget_cons, mget_cons, mget_mput r k v k']
      by_cases h2 : k' = p.1
      · rw [if_pos h2, if_pos h2, if_neg (fun e => h (e.symm.trans h2))]
      · rw [if_neg h2, if_neg h2]
end
end Go.HL
set_option linter.unusedVariables false
set_option linter.unusedSimpArgs false
namespace Go.Proofs.Ytlabcgnegbdlfaa
open Go.HL

def lt (x y : ByteArray) : Bool := Op.bytesLess x.data.toList y.data.toList
theorem bl_irr : ∀ l : List UInt8, Op.bytesLess l l = false
  | [] => rfl
  | a :: l => by
    unfold Op.bytesLess
    rw [bl_irr l]
    simp
theorem bl_trans : ∀ a b c : List UInt8, Op.bytesLess a b = true → Op.bytesLess b c = true → Op.bytesLess a c = true
  | _, _, [], _, h => by unfold Op.bytesLess at h; cases h
  | [], _, _ :: _, _, _ => rfl
  | _ :: _, [], _ :: _, h, _ => by simp [Op.bytesLess] at h
  | x :: a, y :: b, z :: c, h1, h2 => by
    unfold Op.bytesLess at h1 h2 ⊢
    simp only [Bool.or_eq_true, decide_eq_true_eq, Bool.and_eq_true, beq_iff_eq] at h1 h2 ⊢
    rcases h1 with h1 | ⟨rfl, h1⟩
    · rcases h2 with h2 | ⟨rfl, h2⟩
      · exact .inl (UInt8.lt_trans h1 h2)
      · exact .inl h1
    · rcases h2 with h2 | ⟨rfl, h2⟩
      · exact .inl h2
      · exact .inr ⟨rfl, bl_trans a b c h1 h2⟩
theorem bl_tri : ∀ a b : List UInt8, Op.bytesLess a b = true ∨ a = b ∨ Op.bytesLess b a = true
  | [], [] => .inr (.inl rfl)
  | [], _ :: _ => .inl rfl
  | _ :: _, [] => .inr (.inr rfl)
  | x :: a, y :: b => by
    have h := bl_tri a b
    have hx : x < y ∨ x = y ∨ y < x := by
      rcases Nat.lt_trichotomy x.toNat y.toNat with h | h | h
      · exact .inl (UInt8.lt_iff_toNat_lt.2 h)
      · exact .inr (.inl (UInt8.toNat_inj.1 h))
      · exact .inr (.inr (UInt8.lt_iff_toNat_lt.2 h))
    unfold Op.bytesLess
    rcases hx with h1 | rfl | h1
    · left; simp [h1]
    · rcases h with h | rfl | h
      · left; simp [h]
      · right; left; rfl
      · right; right; simp [h]
    · right; right; simp [h1]
theorem lt_irr (x : ByteArray) : lt x x = false := bl_irr _
theorem lt_trans {x y z : ByteArray} (h1 : lt x y = true) (h2 : lt y z = true) : lt x z = true := bl_trans _ _ _ h1 h2
theorem lt_tri (x y : ByteArray) : lt x y = true ∨ x = y ∨ lt y x = true := by
  rcases bl_tri x.data.toList y.data.toList with h | h | h
  · exact .inl h
  · refine .inr (.inl ?_)
    cases x; cases y
    simp only at h
    exact congrArg ByteArray.mk (Array.toList_inj.1 h)
  · exact .inr (.inr h)
/-- At most. -/
def le (x y : ByteArray) : Prop := lt y x = false
theorem le_refl (x : ByteArray) : le x x := lt_irr x
theorem le_of_lt {x y : ByteArray} (h : lt x y = true) : le x y := by
  unfold le
  cases h2 : lt y x with
  | false => rfl
  | true => have := lt_trans h h2; rw [lt_irr] at this; cases this
theorem le_trans {x y z : ByteArray} (h1 : le x y) (h2 : le y z) : le x z := by
  unfold le at *
  cases h : lt z x with
  | false => rfl
  | true =>
    rcases lt_tri y z with h3 | rfl | h3
    · rw [lt_trans h3 h] at h1; cases h1
    · rw [h] at h1; cases h1
    · rw [h3] at h2; cases h2
theorem lt_of_le_ne {x y : ByteArray} (h : le x y) (hn : x ≠ y) : lt x y = true := by
  rcases lt_tri x y with h1 | h1 | h1
  · exact h1
  · exact absurd h1 hn
  · unfold le at h; rw [h1] at h; cases h
theorem le_anti {x y : ByteArray} (h1 : le x y) (h2 : le y x) : x = y := by
  rcases lt_tri x y with h | h | h
  · unfold le at h2; rw [h] at h2; cases h2
  · exact h
  · unfold le at h1; rw [h] at h1; cases h1
abbrev BL := List ByteArray
def ga (l : BL) (i : Nat) : ByteArray := l.getD i ⟨#[]⟩
theorem ga_get {l : BL} {i : Nat} (h : i < l.length) : ga l i = l[i] := by simp [ga, List.getD_eq_getElem?_getD, h]
def sw (l : BL) (i j : Nat) : BL := (l.set i (ga l j)).set j (ga l i)
theorem sw_len (l : BL) (i j : Nat) : (sw l i j).length = l.length := by simp [sw]
theorem sw_ga {l : BL} {i j : Nat} (hi : i < l.length) (hj : j < l.length) (k : Nat) : ga (sw l i j) k = if k = j then ga l i else if k = i then ga l j else ga l k := by
  unfold sw
  by_cases h1 : k = j
  · subst h1
    rw [if_pos rfl]
    simp [ga, List.getD_eq_getElem?_getD, hj]
  · rw [if_neg h1]
    by_cases h2 : k = i
    · subst h2
      rw [if_pos rfl]
      have h3 : ¬ j = k := fun e => h1 e.symm
      simp [ga, List.getD_eq_getElem?_getD, List.getElem?_set, hi, h3]
    · rw [if_neg h2]
      have h3 : ¬ j = k := fun e => h1 e.symm
      have h4 : ¬ i = k := fun e => h2 e.symm
      simp [ga, List.getD_eq_getElem?_getD, List.getElem?_set, h3, h4]
theorem sw_comm {l : BL} {i j : Nat} (hi : i < l.length) (hj : j < l.length) : (l.set j (ga l i)).set i (ga l j) = sw l i j := by
  unfold sw
  by_cases h : i = j
  · subst h; rfl
  · exact List.set_comm _ _ (fun e => h e.symm)
theorem lawBA : LawfulBEq ByteArray := { eq_of_beq := fun {a b} h => by rw [ba_beq] at h; simpa using h, rfl := fun {a} => by rw [ba_beq]; simp }
instance lawBAi : LawfulBEq ByteArray := lawBA
theorem sw_perm {l : BL} {i j : Nat} (hi : i < l.length) (hj : j < l.length) : (sw l i j).Perm l := by
  rw [List.perm_iff_count]
  intro z
  unfold sw
  rw [List.count_set (by simpa using hj), List.count_set hi, ga_get hi, ga_get hj]
  have h1 : (l.set i l[j])[j]'(by simpa using hj) = l[j] := by
    rw [List.getElem_set]; split <;> rfl
  rw [h1]
  have hc : ∀ k (hk : k < l.length), l[k] = z → 1 ≤ l.count z := fun k hk h => by
    rw [← h]; exact List.count_pos_iff.2 (List.getElem_mem hk)
  have e1 := hc i hi
  have e2 := hc j hj
  simp only [beq_iff_eq]
  by_cases a : l[i] = z
  · by_cases b : l[j] = z
    · simp only [a, b, if_true]; have := e1 a; omega
    · simp only [a, b, if_true, if_false]; have := e1 a; omega
  · by_cases b : l[j] = z
    · simp only [a, b, if_true, if_false]; have := e2 b; omega
    · simp only [a, b, if_false]; omega
/-- The part from a to b is permuted, no more. -/
structure Sg (a b : Nat) (l l' : BL) : Prop where
  len : l'.length = l.length
  out : ∀ k, k < a ∨ b ≤ k → ga l' k = ga l k
  perm : l'.Perm l
theorem Sg.refl (a b : Nat) (l : BL) : Sg a b l l := ⟨rfl, fun _ _ => rfl, List.Perm.refl _⟩
theorem Sg.trans {a b : Nat} {l l' l'' : BL} (h1 : Sg a b l l') (h2 : Sg a b l' l'') : Sg a b l l'' := ⟨h2.len.trans h1.len, fun k hk => (h2.out k hk).trans (h1.out k hk), h2.perm.trans h1.perm⟩
theorem Sg.wide {a b a' b' : Nat} {l l' : BL} (h : Sg a b l l') (h1 : a' ≤ a) (h2 : b ≤ b') : Sg a' b' l l' := ⟨h.len, fun k hk => h.out k (by omega), h.perm⟩
theorem Sg.swap {a b i j : Nat} {l : BL} (hi : i < l.length) (hj : j < l.length) (h1 : a ≤ i) (h2 : i < b) (h3 : a ≤ j) (h4 : j < b) : Sg a b l (sw l i j) :=
  ⟨sw_len l i j, fun k hk => by rw [sw_ga hi hj, if_neg (by omega), if_neg (by omega)], sw_perm hi hj⟩
theorem ext_ga {l l' : BL} (h : l.length = l'.length) (hg : ∀ k, k < l.length → ga l k = ga l' k) : l = l' := by
  apply List.ext_getElem h
  intro i h1 h2
  have := hg i h1
  rwa [ga_get h1, ga_get h2] at this
theorem Sg.part {a b : Nat} {l l' : BL} (h : Sg a b l l') (hab : a ≤ b) (hb : b ≤ l.length) : ((l'.drop a).take (b - a)).Perm ((l.drop a).take (b - a)) := by
  have hl := h.len
  have e1 : l'.take a = l.take a := ext_ga (by simp [hl]) fun k hk => by
    rw [List.length_take] at hk
    have := h.out k (by omega)
    unfold ga at *
    simp only [List.getD_eq_getElem?_getD, List.getElem?_take] at *
    rw [if_pos (by omega), if_pos (by omega)]; exact this
  have e2 : l'.drop b = l.drop b := ext_ga (by simp [hl]) fun k hk => by
    rw [List.length_drop] at hk
    have := h.out (b + k) (by omega)
    unfold ga at *
    simp only [List.getD_eq_getElem?_getD, List.getElem?_drop] at *
    exact this
  have sp : ∀ m : BL, b ≤ m.length → m = m.take a ++ ((m.drop a).take (b - a) ++ m.drop b) := fun m hm => by
    have h1 : (m.drop a).drop (b - a) = m.drop b := by rw [List.drop_drop]; congr 1; omega
    rw [← h1, List.take_append_drop, List.take_append_drop]
  have hp := h.perm
  rw [sp l' (by omega), sp l hb, e1, e2] at hp
  exact (List.perm_append_right_iff _).1 ((List.perm_append_left_iff _).1 hp)
theorem part_mem {l : BL} {a b : Nat} (hb : b ≤ l.length) {x : ByteArray} : x ∈ (l.drop a).take (b - a) ↔ ∃ k, a ≤ k ∧ k < b ∧ ga l k = x := by
  constructor
  · intro h
    obtain ⟨i, hi, rfl⟩ := List.getElem_of_mem h
    rw [List.length_take, List.length_drop] at hi
    refine ⟨a + i, by omega, by omega, ?_⟩
    rw [ga_get (by omega), List.getElem_take, List.getElem_drop]
  · rintro ⟨k, h1, h2, rfl⟩
    rw [ga_get (by omega)]
    have : (l.drop a).take (b - a) = (l.drop a).take (b - a) := rfl
    refine List.mem_iff_getElem.2 ⟨k - a, by rw [List.length_take, List.length_drop]; omega, ?_⟩
    rw [List.getElem_take, List.getElem_drop]
    congr 1; omega
/-- What holds of all in the part holds of all afterwards. -/
theorem Sg.all {a b : Nat} {l l' : BL} (h : Sg a b l l') (hb : b ≤ l.length) {P : ByteArray → Prop} (hP : ∀ k, a ≤ k → k < b → P (ga l k)) : ∀ k, a ≤ k → k < b → P (ga l' k) := by
  intro k h1 h2
  have hl := h.len
  have hm : ga l' k ∈ (l'.drop a).take (b - a) := (part_mem (by omega)).2 ⟨k, h1, h2, rfl⟩
  have hm2 := (h.part (by omega) hb).subset hm
  obtain ⟨j, h3, h4, h5⟩ := (part_mem hb).1 hm2
  rw [← h5]; exact hP j h3 h4
def Srt (l : BL) (a b : Nat) : Prop := ∀ i j, a ≤ i → i < j → j < b → le (ga l i) (ga l j)
theorem Srt.nil (l : BL) {a b : Nat} (h : b ≤ a + 1) : Srt l a b := fun i j h1 h2 h3 => by omega
theorem srt_adj {l : BL} {a b : Nat} (h : ∀ i, a ≤ i → i + 1 < b → le (ga l i) (ga l (i + 1))) : Srt l a b := by
  intro i j h1 h2 h3
  obtain ⟨k, rfl⟩ : ∃ k, j = i + 1 + k := ⟨j - (i + 1), by omega⟩
  clear h2
  induction k with
  | zero => exact h i h1 h3
  | succ k ih => exact le_trans (ih (by omega)) (h (i + 1 + k) (by omega) h3)
theorem Srt.sub {l : BL} {a b c d : Nat} (h : Srt l a b) (h1 : a ≤ c) (h2 : d ≤ b) : Srt l c d := fun i j e1 e2 e3 => h i j (by omega) e2 (by omega)
theorem Srt.out {l l' : BL} {a b : Nat} (h : Srt l a b) (he : ∀ k, a ≤ k → k < b → ga l' k = ga l k) : Srt l' a b := fun i j h1 h2 h3 => by rw [he i h1 (by omega), he j (by omega) h3]; exact h i j h1 h2 h3
/-- Two sorted lists with the same elements are the same. -/
theorem srt_uniq {l l' : BL} (hp : l.Perm l') (h1 : Srt l 0 l.length) (h2 : Srt l' 0 l'.length) : l = l' := by
  have pw : ∀ m : BL, Srt m 0 m.length → m.Pairwise le := fun m hm => by
    rw [List.pairwise_iff_getElem]
    intro i j hi hj hij
    have := hm i j (by omega) hij hj
    rwa [ga_get hi, ga_get hj] at this
  exact hp.eq_of_pairwise (fun a b _ _ h1 h2 => le_anti h1 h2) (pw l h1) (pw l' h2)
end Go.Proofs.Ytlabcgnegbdlfaa
set_option linter.unusedVariables false
set_option maxRecDepth 100000
namespace Go.Proofs.Ytlabcgnegbdlfaa
open Go.HL
noncomputable abbrev PP : Program := Try.prog
theorem noNum : NoNum PP := by unfold NoNum; kernel_rfl
theorem mixed : PP.follows .mixedOrders = true := by kernel_rfl

/-- depot/depotlaw32.PlainDoes -/
def h5 : Hints := ⟨[(0, [(5, .lf (.int .i64))])], [(22, [(7, .lf .bool), (8, .lf .bool)])], [(21, [0, 1, 3, 5, 8, 9, 11, 13, 2, 4, 6, 10, 12, 14, 7, 15, 16, 17]), (10, [0, 1, 3, 5, 8, 9, 11, 13, 2, 4, 6, 10, 12, 14, 7, 15, 16, 17])]⟩
def t5 (x0 : SlV) (K : Value → HP) : HP :=
  cl PP 22 #[.slice x0.a x0.len x0.cap, .int .i64 300, .int .i64 300] [.lf .bool] fun r1 =>
  ifB (!r1.1) (
   cl PP 23 #[] [.lf .bool] fun r2 =>
   K (.bool r2.1)) (
   cl PP 24 #[] [.lf .ptr] fun r3 =>
   nw (.cells #[.slice none 0 0] 60) fun n1 =>
   lp [.lf (.int .i64)] (0, ()) fun z1 go1 =>   -- i
    ifB (decide ((z1.1 : Int) < x0.len)) (
     nilc x0.a fun a1 =>
     ixn z1.1 x0.len <|
     ld (Addr.add a1 (z1.1.toNat * 4)) (.agg [.int .i64, .str, .str, .bool]) fun v1 =>
     nw (.cells #[.int .i64 0, .string ByteArray.empty, .string ByteArray.empty, .bool false] 62) fun n2 =>
     st ⟨n2, 0, none⟩ [.int .i64 v1.1, .string v1.2.1, .string v1.2.2.1, .bool v1.2.2.2.1] <|
     jn (fun y1 : RsV [.lf .bool, .lf .bool] =>
      ifB (!(y1.1 == y1.2.1)) (
       K (.bool false)) (
       cl PP 36 #[.pointer r3.1] [.lf .sl] fun r14 =>
       cl PP 37 #[.pointer (some ⟨n1, 0, none⟩)] [.lf .sl] fun r15 =>
       cl PP 35 #[.slice r14.1.a r14.1.len r14.1.cap, .slice r15.1.a r15.1.len r15.1.cap] [.lf .bool] fun r16 =>
       ifB (!r16.1) (
        K (.bool false)) (
        go1 (IntKind.i64.wrap (z1.1 + 1), ())))) fun j1 =>
     ld ⟨n2, 0, none⟩ (.lf (.int .i64)) fun v2 =>
      ifB ((v2 : Int) == 0) (
       ld (Addr.add ⟨n2, 0, none⟩ 1) (.lf .str) fun v3 =>
       ld (Addr.add ⟨n2, 0, none⟩ 2) (.lf .str) fun v4 =>
       cl PP 25 #[.pointer r3.1, .string v3, .string v4] [] fun r4 =>
       ld (Addr.add ⟨n2, 0, none⟩ 1) (.lf .str) fun v5 =>
       ld (Addr.add ⟨n2, 0, none⟩ 2) (.lf .str) fun v6 =>
       cl PP 26 #[.pointer (some ⟨n1, 0, none⟩), .string v5, .string v6] [] fun r5 =>
       j1 (true, true, ())) (
       ifB ((v2 : Int) == 1) (
        ld (Addr.add ⟨n2, 0, none⟩ 1) (.lf .str) fun v7 =>
        cl PP 27 #[.pointer r3.1, .string v7] [] fun r6 =>
        ld (Addr.add ⟨n2, 0, none⟩ 1) (.lf .str) fun v8 =>
        cl PP 28 #[.pointer (some ⟨n1, 0, none⟩), .string v8] [] fun r7 =>
        j1 (true, true, ())) (
        ifB ((v2 : Int) == 2) (
         cl PP 29 #[.pointer r3.1] [] fun r8 =>
         cl PP 30 #[.pointer (some ⟨n1, 0, none⟩)] [] fun r9 =>
         j1 (true, true, ())) (
         ifB ((v2 : Int) == 3) (
          ld (Addr.add ⟨n2, 0, none⟩ 1) (.lf .str) fun v9 =>
          ld (Addr.add ⟨n2, 0, none⟩ 2) (.lf .str) fun v10 =>
          ld (Addr.add ⟨n2, 0, none⟩ 3) (.lf .bool) fun v11 =>
          ld (Addr.add ⟨n2, 0, none⟩ 1) (.lf .str) fun v12 =>
          ld (Addr.add ⟨n2, 0, none⟩ 2) (.lf .str) fun v13 =>
          ld (Addr.add ⟨n2, 0, none⟩ 3) (.lf .bool) fun v14 =>
          cl PP 31 #[.pointer r3.1, .string v9, .string v10, .bool v11] [.lf .bool] fun r10 =>
          keep (LdAt (Addr.add ⟨n2, 0, none⟩ 3) [.bool v14]) <|
          keep (LdAt (Addr.add ⟨n2, 0, none⟩ 2) [.string v13]) <|
          keep (LdAt (Addr.add ⟨n2, 0, none⟩ 1) [.string v12]) <|
          cl PP 32 #[.pointer (some ⟨n1, 0, none⟩), .string v12, .string v13, .bool v14] [.lf .bool] fun r11 =>
          j1 (r10.1, r11.1, ())) (
          ld (Addr.add ⟨n2, 0, none⟩ 1) (.lf .str) fun v15 =>
          ld (Addr.add ⟨n2, 0, none⟩ 2) (.lf .str) fun v16 =>
          ld (Addr.add ⟨n2, 0, none⟩ 3) (.lf .bool) fun v17 =>
          ld (Addr.add ⟨n2, 0, none⟩ 1) (.lf .str) fun v18 =>
          ld (Addr.add ⟨n2, 0, none⟩ 2) (.lf .str) fun v19 =>
          ld (Addr.add ⟨n2, 0, none⟩ 3) (.lf .bool) fun v20 =>
          cl PP 33 #[.pointer r3.1, .string v15, .string v16, .bool v17] [.lf .bool] fun r12 =>
          keep (LdAt (Addr.add ⟨n2, 0, none⟩ 3) [.bool v20]) <|
          keep (LdAt (Addr.add ⟨n2, 0, none⟩ 2) [.string v19]) <|
          keep (LdAt (Addr.add ⟨n2, 0, none⟩ 1) [.string v18]) <|
          cl PP 34 #[.pointer (some ⟨n1, 0, none⟩), .string v18, .string v19, .bool v20] [.lf .bool] fun r13 =>
          j1 (r12.1, r13.1, ())))))) (
     cl PP 23 #[] [.lf .bool] fun r17 =>
     K (.bool r17.1)))
theorem e5 (x0 : SlV) (K : Value → HP) : flatFn PP h5 Try.f5 [.slice x0.a x0.len x0.cap] K = t5 x0 K := by kernel_rfl

end Go.Proofs.Ytlabcgnegbdlfaa
set_option linter.unusedVariables false
set_option maxRecDepth 100000
namespace Go.Proofs.Ytlabcgnegbdlfaa
open Go.HL
/-- depot/depotref32.Few -/
def h22 : Hints := ⟨[(0, [(7, .lf (.int .i64))])], [], []⟩
def t22 (x0 : SlV) (x1 : Int) (x2 : Int) (K : Value → HP) : HP :=
  lp [.lf (.int .i64)] (0, ()) fun z1 go1 =>   -- i
   ifB (decide ((z1.1 : Int) < x0.len)) (
    ifB (decide ((z1.1 : Int) ≤ x1)) (
     nilc x0.a fun a1 =>
     ixn z1.1 x0.len <|
     ld (Addr.add (Addr.add a1 (z1.1.toNat * 4)) 1) (.lf .str) fun v1 =>
     ifB (decide ((v1.size : Int) > x2)) (
      K (.bool false)) (
      nilc x0.a fun a2 =>
      ixn z1.1 x0.len <|
      ld (Addr.add (Addr.add a2 (z1.1.toNat * 4)) 2) (.lf .str) fun v2 =>
      ifB (decide ((v2.size : Int) > x2)) (
       K (.bool false)) (
       go1 (IntKind.i64.wrap (z1.1 + 1), ())))) (
     K (.bool (decide ((x0.len : Int) ≤ x1))))) (
    K (.bool (decide ((x0.len : Int) ≤ x1))))
theorem e22 (x0 : SlV) (x1 : Int) (x2 : Int) (K : Value → HP) : flatFn PP h22 Try.f22 [.slice x0.a x0.len x0.cap, .int .i64 x1, .int .i64 x2] K = t22 x0 x1 x2 K := by kernel_rfl

/-- depot/depotlaw32.plains -/
def h23 : Hints := ⟨[], [], []⟩
def t23 (K : Value → HP) : HP :=
  cl PP 24 #[] [.lf .ptr] fun r1 =>
  cl PP 25 #[.pointer r1.1, .string (ByteArray.mk #[97]), .string (ByteArray.mk #[49])] [] fun r2 =>
  cl PP 25 #[.pointer r1.1, .string (ByteArray.mk #[97]), .string (ByteArray.mk #[50])] [] fun r3 =>
  cl PP 31 #[.pointer r1.1, .string (ByteArray.mk #[97]), .string (ByteArray.mk #[50]), .bool true] [.lf .bool] fun r4 =>
  cl PP 31 #[.pointer r1.1, .string (ByteArray.mk #[97]), .string (ByteArray.mk #[49]), .bool true] [.lf .bool] fun r5 =>
  cl PP 33 #[.pointer r1.1, .string (ByteArray.mk #[97]), .string (ByteArray.mk #[49]), .bool true] [.lf .bool] fun r6 =>
  cl PP 31 #[.pointer r1.1, .string (ByteArray.mk #[97]), .string (ByteArray.mk #[49]), .bool true] [.lf .bool] fun r7 =>
  cl PP 25 #[.pointer r1.1, .string (ByteArray.mk #[97]), .string (ByteArray.mk #[50])] [] fun r8 =>
  cl PP 29 #[.pointer r1.1] [] fun r9 =>
  cl PP 33 #[.pointer r1.1, .string (ByteArray.mk #[97]), .string (ByteArray.mk #[49]), .bool true] [.lf .bool] fun r10 =>
  cl PP 25 #[.pointer r1.1, .string (ByteArray.mk #[66]), .string (ByteArray.mk #[120])] [] fun r11 =>
  cl PP 27 #[.pointer r1.1, .string (ByteArray.mk #[66])] [] fun r12 =>
  cl PP 25 #[.pointer none, .string (ByteArray.mk #[97]), .string (ByteArray.mk #[49])] [] fun r13 =>
  ifB r4.1 (
   ifB (!r5.1) (
    ifB r6.1 (
     ifB r7.1 (
      ifB (!r10.1) (
       cl PP 31 #[.pointer r1.1, .string (ByteArray.mk #[66]), .string (ByteArray.mk #[]), .bool false] [.lf .bool] fun r14 =>
       ifB r14.1 (
        cl PP 31 #[.pointer r1.1, .string (ByteArray.mk #[66]), .string (ByteArray.mk #[120]), .bool true] [.lf .bool] fun r15 =>
        ifB (!r15.1) (
         cl PP 33 #[.pointer r1.1, .string (ByteArray.mk #[66]), .string (ByteArray.mk #[120]), .bool true] [.lf .bool] fun r16 =>
         ifB r16.1 (
          cl PP 36 #[.pointer r1.1] [.lf .sl] fun r17 =>
          nw (.cells #[.string (ByteArray.mk #[66]), .string (ByteArray.mk #[97])] 9) fun n1 =>
          cl PP 35 #[.slice r17.1.a r17.1.len r17.1.cap, .slice (some ⟨n1, 0, none⟩) 2 2] [.lf .bool] fun r18 =>
          ifB r18.1 (
           cl PP 31 #[.pointer none, .string (ByteArray.mk #[97]), .string (ByteArray.mk #[]), .bool false] [.lf .bool] fun r19 =>
           ifB r19.1 (
            cl PP 33 #[.pointer none, .string (ByteArray.mk #[97]), .string (ByteArray.mk #[49]), .bool true] [.lf .bool] fun r20 =>
            ifB (!r20.1) (
             cl PP 36 #[.pointer none] [.lf .sl] fun r21 =>
             K (.bool ((r21.1.len : Int) == 0))) (
             K (.bool false))) (
            K (.bool false))) (
           K (.bool false))) (
          K (.bool false))) (
         K (.bool false))) (
        K (.bool false))) (
       K (.bool false))) (
      K (.bool false))) (
     K (.bool false))) (
    K (.bool false))) (
   K (.bool false))
theorem e23 (K : Value → HP) : flatFn PP h23 Try.f23 [] K = t23 K := by kernel_rfl

/-- depot/plain.New -/
def h24 : Hints := ⟨[], [], []⟩
def t24 (K : Value → HP) : HP :=
  nw (.map #[] 0) fun n1 =>
  nw (.cells #[.map (some n1)] 138) fun n2 =>
  K (.pointer (some ⟨n2, 0, none⟩))
theorem e24 (K : Value → HP) : flatFn PP h24 Try.f24 [] K = t24 K := by kernel_rfl

/-- (*depot/plain.Plain).Put -/
def h25 : Hints := ⟨[], [(5, [(6, .lf .ptr)])], []⟩
def t25 (x0 : Option Addr) (x1 : ByteArray) (x2 : ByteArray) (K : Value → HP) : HP :=
  ifB (Option.isNone x0) (
   K (.tuple #[])) (
   cl PP 74 #[.pointer x0, .string x1] [.lf .ptr] fun r1 =>
   jn (fun y1 : RsV [.lf .ptr] =>
    nilc y1.1 fun a2 =>
    st a2 [.string x2, .bool true] <|
    nilc y1.1 fun a3 =>
    ld (Addr.add a3 2) (.lf .map) fun v2 =>
    smU PP (Instr.mapUpdate 141 (.map v2) (.string x2) (.bool true)) <|
    K (.tuple #[])) fun j1 =>
   ifB (Option.isNone r1.1) (
     nw (.map #[] 0) fun n1 =>
     nw (.cells #[.string ByteArray.empty, .bool false, .map (some n1)] 145) fun n2 =>
     nilc x0 fun a1 =>
     ld a1 (.lf .map) fun v1 =>
     smU PP (Instr.mapUpdate 136 (.map v1) (.string x1) (.pointer (some ⟨n2, 0, none⟩))) <|
     j1 ((some ⟨n2, 0, none⟩), ())) (
     j1 (r1.1, ())))
theorem e25 (x0 : Option Addr) (x1 : ByteArray) (x2 : ByteArray) (K : Value → HP) : flatFn PP h25 Try.f25 [.pointer x0, .string x1, .string x2] K = t25 x0 x1 x2 K := by kernel_rfl

/-- (*depot/depotref32.Plain).Put -/
def h26 : Hints := ⟨[], [], []⟩
def t26 (x0 : Option Addr) (x1 : ByteArray) (x2 : ByteArray) (K : Value → HP) : HP :=
  cl PP 75 #[.pointer x0, .string x1] [.lf .ptr] fun r1 =>
  nilc r1.1 fun a1 =>
  st (Addr.add a1 1) [.bool true] <|
  nilc r1.1 fun a2 =>
  st (Addr.add a2 2) [.string x2] <|
  nilc r1.1 fun a3 =>
  ld (Addr.add a3 3) (.lf .sl) fun v1 =>
  nw (.cells #[.string x2] 9) fun n1 =>
  smW PP (Builtin.append_ #[67, 67] 67 #[.slice v1.a v1.len v1.cap, .slice (some ⟨n1, 0, none⟩) 1 1]) [.lf .sl] fun v2 =>
  nilc r1.1 fun a4 =>
  st (Addr.add a4 3) [.slice v2.1.a v2.1.len v2.1.cap] <|
  K (.tuple #[])
theorem e26 (x0 : Option Addr) (x1 : ByteArray) (x2 : ByteArray) (K : Value → HP) : flatFn PP h26 Try.f26 [.pointer x0, .string x1, .string x2] K = t26 x0 x1 x2 K := by kernel_rfl

/-- (*depot/plain.Plain).Delete -/
def h27 : Hints := ⟨[], [], []⟩
def t27 (x0 : Option Addr) (x1 : ByteArray) (K : Value → HP) : HP :=
  cl PP 74 #[.pointer x0, .string x1] [.lf .ptr] fun r1 =>
  ifB (!(Option.isNone r1.1)) (
   nilc r1.1 fun a1 =>
   st a1 [.string ByteArray.empty, .bool false] <|
   K (.tuple #[])) (
   K (.tuple #[]))
theorem e27 (x0 : Option Addr) (x1 : ByteArray) (K : Value → HP) : flatFn PP h27 Try.f27 [.pointer x0, .string x1] K = t27 x0 x1 K := by kernel_rfl

/-- (*depot/depotref32.Plain).Delete -/
def h28 : Hints := ⟨[], [], []⟩
def t28 (x0 : Option Addr) (x1 : ByteArray) (K : Value → HP) : HP :=
  cl PP 76 #[.pointer x0, .string x1] [.lf .bool] fun r1 =>
  ifB r1.1 (
   cl PP 75 #[.pointer x0, .string x1] [.lf .ptr] fun r2 =>
   nilc r2.1 fun a1 =>
   st (Addr.add a1 1) [.bool false] <|
   nilc r2.1 fun a2 =>
   st (Addr.add a2 2) [.string (ByteArray.mk #[])] <|
   K (.tuple #[])) (
   K (.tuple #[]))
theorem e28 (x0 : Option Addr) (x1 : ByteArray) (K : Value → HP) : flatFn PP h28 Try.f28 [.pointer x0, .string x1] K = t28 x0 x1 K := by kernel_rfl

/-- (*depot/plain.Plain).Flushed -/
def h29 : Hints := ⟨[(0, [(9, .lf (.int .i64))])], [], []⟩
def t29 (x0 : Option Addr) (K : Value → HP) : HP :=
  ifB (Option.isNone x0) (
   K (.tuple #[])) (
   cl PP 36 #[.pointer x0] [.lf .sl] fun r1 =>
   lp [.lf (.int .i64)] (0, ()) fun z1 go1 =>   -- 
    ifB (decide ((z1.1 : Int) < r1.1.len)) (
     nilc r1.1.a fun a1 =>
     ixn z1.1 r1.1.len <|
     ld (Addr.add a1 (z1.1.toNat * 1)) (.lf .str) fun v1 =>
     nilc x0 fun a2 =>
     ld a2 (.lf .map) fun v2 =>
     smR PP (Instr.lookup 136 (.map v2) (.string v1) false) [.lf .ptr] fun v3 =>
     cl PP 77 #[.pointer v3.1] [] fun r2 =>
     go1 (IntKind.i64.wrap (z1.1 + 1), ())) (
     K (.tuple #[])))
theorem e29 (x0 : Option Addr) (K : Value → HP) : flatFn PP h29 Try.f29 [.pointer x0] K = t29 x0 K := by kernel_rfl

/-- (*depot/depotref32.Plain).Flushed -/
def h30 : Hints := ⟨[(0, [(2, .lf (.int .i64))])], [], [(5, [0, 1, 2, 4, 5, 6, 7, 9, 3, 8, 10, 11, 12, 13, 14, 15, 16])]⟩
def t30 (x0 : Option Addr) (K : Value → HP) : HP :=
  lp [.lf (.int .i64)] (0, ()) fun z1 go1 =>   -- i
   nilc x0 fun a1 =>
   ld a1 (.lf .sl) fun v1 =>
   ifB (decide ((z1.1 : Int) < v1.len)) (
    nilc x0 fun a2 =>
    ld a2 (.lf .sl) fun v2 =>
    nilc v2.a fun a3 =>
    ixn z1.1 v2.len <|
    st (Addr.add (Addr.add a3 (z1.1.toNat * 4)) 3) [.slice none 0 0] <|
    nilc x0 fun a4 =>
    ld a4 (.lf .sl) fun v3 =>
    nilc v3.a fun a5 =>
    ixn z1.1 v3.len <|
    ld (Addr.add (Addr.add a5 (z1.1.toNat * 4)) 1) (.lf .bool) fun v4 =>
    ifB v4 (
     nilc x0 fun a6 =>
     nilc x0 fun a7 =>
     ld a6 (.lf .sl) fun v5 =>
     ld a7 (.lf .sl) fun v6 =>
     nilc v6.a fun a8 =>
     ixn z1.1 v6.len <|
     ld (Addr.add (Addr.add a8 (z1.1.toNat * 4)) 2) (.lf .str) fun v7 =>
     nw (.cells #[.string v7] 9) fun n1 =>
     nilc v5.a fun a9 =>
     ixn z1.1 v5.len <|
     st (Addr.add (Addr.add a9 (z1.1.toNat * 4)) 3) [.slice (some ⟨n1, 0, none⟩) 1 1] <|
     go1 (IntKind.i64.wrap (z1.1 + 1), ())) (
     go1 (IntKind.i64.wrap (z1.1 + 1), ()))) (
    K (.tuple #[]))
theorem e30 (x0 : Option Addr) (K : Value → HP) : flatFn PP h30 Try.f30 [.pointer x0] K = t30 x0 K := by kernel_rfl

/-- (*depot/plain.Plain).May -/
def h31 : Hints := ⟨[], [], []⟩
def t31 (x0 : Option Addr) (x1 : ByteArray) (x2 : ByteArray) (x3 : Bool) (K : Value → HP) : HP :=
  cl PP 74 #[.pointer x0, .string x1] [.lf .ptr] fun r1 =>
  ifB (!x3) (
   K (.bool true)) (
   ifB (!(Option.isNone r1.1)) (
    nilc r1.1 fun a1 =>
    ld a1 (.agg [.str, .bool]) fun v1 =>
    smP PP (binOp .eql 143 (.agg #[.string v1.1, .bool v1.2.1]) (.agg #[.string x2, .bool true])) (.lf .bool) fun v2 =>
    K (.bool v2)) (
    K (.bool false)))
theorem e31 (x0 : Option Addr) (x1 : ByteArray) (x2 : ByteArray) (x3 : Bool) (K : Value → HP) : flatFn PP h31 Try.f31 [.pointer x0, .string x1, .string x2, .bool x3] K = t31 x0 x1 x2 x3 K := by kernel_rfl

/-- (*depot/depotref32.Plain).May -/
def h32 : Hints := ⟨[(0, [(9, .lf (.int .i64))])], [], []⟩
def t32 (x0 : Option Addr) (x1 : ByteArray) (x2 : ByteArray) (x3 : Bool) (K : Value → HP) : HP :=
  ifB (!x3) (
   K (.bool true)) (
   lp [.lf (.int .i64)] (0, ()) fun z1 go1 =>   -- i
    nilc x0 fun a1 =>
    ld a1 (.lf .sl) fun v1 =>
    ifB (decide ((z1.1 : Int) < v1.len)) (
     nilc x0 fun a2 =>
     ld a2 (.lf .sl) fun v2 =>
     nilc v2.a fun a3 =>
     ixn z1.1 v2.len <|
     ld (Addr.add a3 (z1.1.toNat * 4)) (.lf .str) fun v3 =>
     ifB (ByteArray.toList v3 == ByteArray.toList x1) (
      nilc x0 fun a4 =>
      ld a4 (.lf .sl) fun v4 =>
      nilc v4.a fun a5 =>
      ixn z1.1 v4.len <|
      ld (Addr.add (Addr.add a5 (z1.1.toNat * 4)) 1) (.lf .bool) fun v5 =>
      ifB v5 (
       nilc x0 fun a6 =>
       ld a6 (.lf .sl) fun v6 =>
       nilc v6.a fun a7 =>
       ixn z1.1 v6.len <|
       ld (Addr.add (Addr.add a7 (z1.1.toNat * 4)) 2) (.lf .str) fun v7 =>
       K (.bool (ByteArray.toList v7 == ByteArray.toList x2))) (
       K (.bool false))) (
      go1 (IntKind.i64.wrap (z1.1 + 1), ()))) (
     K (.bool false)))
theorem e32 (x0 : Option Addr) (x1 : ByteArray) (x2 : ByteArray) (x3 : Bool) (K : Value → HP) : flatFn PP h32 Try.f32 [.pointer x0, .string x1, .string x2, .bool x3] K = t32 x0 x1 x2 x3 K := by kernel_rfl

/-- (*depot/plain.Plain).Crashed -/
def h33 : Hints := ⟨[], [], []⟩
def t33 (x0 : Option Addr) (x1 : ByteArray) (x2 : ByteArray) (x3 : Bool) (K : Value → HP) : HP :=
  cl PP 74 #[.pointer x0, .string x1] [.lf .ptr] fun r1 =>
  ifB (Option.isNone r1.1) (
   K (.bool (!x3))) (
   ifB (!x3) (
    nilc r1.1 fun a1 =>
    st a1 [.string ByteArray.empty, .bool false] <|
    K (.bool true)) (
    nilc r1.1 fun a2 =>
    ld (Addr.add a2 2) (.lf .map) fun v1 =>
    smR PP (Instr.lookup 141 (.map v1) (.string x2) false) [.lf .bool] fun v2 =>
    ifB (!v2.1) (
     K (.bool false)) (
     nilc r1.1 fun a3 =>
     st a3 [.string x2, .bool true] <|
     cl PP 77 #[.pointer r1.1] [] fun r2 =>
     K (.bool true))))
theorem e33 (x0 : Option Addr) (x1 : ByteArray) (x2 : ByteArray) (x3 : Bool) (K : Value → HP) : flatFn PP h33 Try.f33 [.pointer x0, .string x1, .string x2, .bool x3] K = t33 x0 x1 x2 x3 K := by kernel_rfl

/-- (*depot/depotref32.Plain).Crashed -/
def h34 : Hints := ⟨[(0, [(10, .lf (.int .i64))])], [], []⟩
def t34 (x0 : Option Addr) (x1 : ByteArray) (x2 : ByteArray) (x3 : Bool) (K : Value → HP) : HP :=
  cl PP 76 #[.pointer x0, .string x1] [.lf .bool] fun r1 =>
  ifB (!r1.1) (
   K (.bool (!x3))) (
   cl PP 75 #[.pointer x0, .string x1] [.lf .ptr] fun r2 =>
   ifB (!x3) (
    nilc r2.1 fun a1 =>
    st (Addr.add a1 1) [.bool false] <|
    nilc r2.1 fun a2 =>
    st (Addr.add a2 2) [.string (ByteArray.mk #[])] <|
    K (.bool true)) (
    lp [.lf (.int .i64)] (0, ()) fun z1 go1 =>   -- i
     nilc r2.1 fun a3 =>
     ld (Addr.add a3 3) (.lf .sl) fun v1 =>
     ifB (decide ((z1.1 : Int) < v1.len)) (
      nilc r2.1 fun a4 =>
      ld (Addr.add a4 3) (.lf .sl) fun v2 =>
      nilc v2.a fun a5 =>
      ixn z1.1 v2.len <|
      ld (Addr.add a5 (z1.1.toNat * 1)) (.lf .str) fun v3 =>
      ifB (ByteArray.toList v3 == ByteArray.toList x2) (
       nw (.cells #[.string x2] 9) fun n1 =>
       nilc r2.1 fun a6 =>
       st (Addr.add a6 1) [.bool true] <|
       nilc r2.1 fun a7 =>
       st (Addr.add a7 2) [.string x2] <|
       nilc r2.1 fun a8 =>
       st (Addr.add a8 3) [.slice (some ⟨n1, 0, none⟩) 1 1] <|
       K (.bool true)) (
       go1 (IntKind.i64.wrap (z1.1 + 1), ()))) (
      K (.bool false))))
theorem e34 (x0 : Option Addr) (x1 : ByteArray) (x2 : ByteArray) (x3 : Bool) (K : Value → HP) : flatFn PP h34 Try.f34 [.pointer x0, .string x1, .string x2, .bool x3] K = t34 x0 x1 x2 x3 K := by kernel_rfl

/-- depot/depotref06.Same -/
def h35 : Hints := ⟨[(0, [(5, .lf (.int .i64))])], [], [(6, [0, 1, 2, 4, 5, 6, 3, 7, 8])]⟩
def t35 (x0 : SlV) (x1 : SlV) (K : Value → HP) : HP :=
  ifB ((x0.len : Int) != x1.len) (
   K (.bool false)) (
   lp [.lf (.int .i64)] (0, ()) fun z1 go1 =>   -- i
    ifB (decide ((z1.1 : Int) < x0.len)) (
     nilc x0.a fun a1 =>
     ixn z1.1 x0.len <|
     nilc x1.a fun a2 =>
     ixn z1.1 x1.len <|
     ld (Addr.add a1 (z1.1.toNat * 1)) (.lf .str) fun v1 =>
     ld (Addr.add a2 (z1.1.toNat * 1)) (.lf .str) fun v2 =>
     ifB (!(ByteArray.toList v1 == ByteArray.toList v2)) (
      K (.bool false)) (
      go1 (IntKind.i64.wrap (z1.1 + 1), ()))) (
     K (.bool true)))
theorem e35 (x0 : SlV) (x1 : SlV) (K : Value → HP) : flatFn PP h35 Try.f35 [.slice x0.a x0.len x0.cap, .slice x1.a x1.len x1.cap] K = t35 x0 x1 K := by kernel_rfl

/-- (*depot/plain.Plain).Keys -/
def h36 : Hints := ⟨[(0, [(3, .lf .sl)])], [], []⟩
def t36 (x0 : Option Addr) (K : Value → HP) : HP :=
  ifB (Option.isNone x0) (
   K (.slice none 0 0)) (
   nilc x0 fun a1 =>
   ld a1 (.lf .map) fun v1 =>
   smW PP (Instr.range 136 (.map v1)) [.lf .ptr] fun v2 =>
   lp [.lf .sl] (⟨none, 0, 0⟩, ()) fun z1 go1 =>   -- l
    smN PP (Instr.next (.pointer v2.1) false 0) none none (
     cl PP 78 #[.slice z1.1.a z1.1.len z1.1.cap] [] fun r1 =>
     K (.slice z1.1.a z1.1.len z1.1.cap)) fun v3 v4 =>
    smE PP (Instr.entry (.pointer v2.1)) (some (.lf .str)) none fun v5 v6 =>
    nw (.cells #[.string v5] 9) fun n1 =>
    smW PP (Builtin.append_ #[67, 67] 67 #[.slice z1.1.a z1.1.len z1.1.cap, .slice (some ⟨n1, 0, none⟩) 1 1]) [.lf .sl] fun v7 =>
    go1 (⟨v7.1.a, v7.1.len, v7.1.cap⟩, ()))
theorem e36 (x0 : Option Addr) (K : Value → HP) : flatFn PP h36 Try.f36 [.pointer x0] K = t36 x0 K := by kernel_rfl

/-- (*depot/depotref32.Plain).Keys -/
def h37 : Hints := ⟨[(0, [(3, .lf .sl), (4, .lf (.int .i64))]), (2, [(5, .lf (.int .i64))])], [], [(9, [0, 1, 2, 3, 5, 11, 12, 13, 4, 6, 7, 8, 9, 10, 14, 15]), (6, [0, 1, 2, 3, 4, 5, 6, 7, 9, 10, 11, 13, 8, 12, 14, 15, 16, 17, 18])]⟩
def t37 (x0 : Option Addr) (K : Value → HP) : HP :=
  lp [.lf .sl, .lf (.int .i64)] (⟨none, 0, 0⟩, 0, ()) fun z1 go1 =>   -- out, i
   nilc x0 fun a1 =>
   ld a1 (.lf .sl) fun v1 =>
   ifB (decide ((z1.2.1 : Int) < v1.len)) (
    lp [.lf (.int .i64)] (0, ()) fun z2 go2 =>   -- at
     ifB (decide ((z2.1 : Int) < z1.1.len)) (
      nilc z1.1.a fun a2 =>
      ixn z2.1 z1.1.len <|
      nilc x0 fun a3 =>
      ld (Addr.add a2 (z2.1.toNat * 1)) (.lf .str) fun v2 =>
      ld a3 (.lf .sl) fun v3 =>
      nilc v3.a fun a4 =>
      ixn z1.2.1 v3.len <|
      ld (Addr.add a4 (z1.2.1.toNat * 4)) (.lf .str) fun v4 =>
      cl PP 79 #[.string v2, .string v4] [.lf .bool] fun r1 =>
      ifB r1.1 (
       go2 (IntKind.i64.wrap (z2.1 + 1), ())) (
       nw (.cells #[] 9) fun n1 =>
       slc ⟨z1.1.a, z1.1.len, z1.1.cap⟩ 0 z2.1 z1.1.cap 1 fun s1 =>
       smW PP (Builtin.append_ #[67, 67] 67 #[.slice (some ⟨n1, 0, none⟩) 0 0, .slice s1.a s1.len s1.cap]) [.lf .sl] fun v5 =>
       nilc x0 fun a5 =>
       slc ⟨z1.1.a, z1.1.len, z1.1.cap⟩ z2.1 z1.1.len z1.1.cap 1 fun s2 =>
       ld a5 (.lf .sl) fun v6 =>
       nilc v6.a fun a6 =>
       ixn z1.2.1 v6.len <|
       ld (Addr.add a6 (z1.2.1.toNat * 4)) (.lf .str) fun v7 =>
       nw (.cells #[.string v7] 9) fun n2 =>
       smW PP (Builtin.append_ #[67, 67] 67 #[.slice v5.1.a v5.1.len v5.1.cap, .slice (some ⟨n2, 0, none⟩) 1 1]) [.lf .sl] fun v8 =>
       smW PP (Builtin.append_ #[67, 67] 67 #[.slice v8.1.a v8.1.len v8.1.cap, .slice s2.a s2.len s2.cap]) [.lf .sl] fun v9 =>
       go1 (⟨v9.1.a, v9.1.len, v9.1.cap⟩, IntKind.i64.wrap (z1.2.1 + 1), ()))) (
      nw (.cells #[] 9) fun n3 =>
      slc ⟨z1.1.a, z1.1.len, z1.1.cap⟩ 0 z2.1 z1.1.cap 1 fun s3 =>
      smW PP (Builtin.append_ #[67, 67] 67 #[.slice (some ⟨n3, 0, none⟩) 0 0, .slice s3.a s3.len s3.cap]) [.lf .sl] fun v10 =>
      nilc x0 fun a7 =>
      slc ⟨z1.1.a, z1.1.len, z1.1.cap⟩ z2.1 z1.1.len z1.1.cap 1 fun s4 =>
      ld a7 (.lf .sl) fun v11 =>
      nilc v11.a fun a8 =>
      ixn z1.2.1 v11.len <|
      ld (Addr.add a8 (z1.2.1.toNat * 4)) (.lf .str) fun v12 =>
      nw (.cells #[.string v12] 9) fun n4 =>
      smW PP (Builtin.append_ #[67, 67] 67 #[.slice v10.1.a v10.1.len v10.1.cap, .slice (some ⟨n4, 0, none⟩) 1 1]) [.lf .sl] fun v13 =>
      smW PP (Builtin.append_ #[67, 67] 67 #[.slice v13.1.a v13.1.len v13.1.cap, .slice s4.a s4.len s4.cap]) [.lf .sl] fun v14 =>
      go1 (⟨v14.1.a, v14.1.len, v14.1.cap⟩, IntKind.i64.wrap (z1.2.1 + 1), ()))) (
    K (.slice z1.1.a z1.1.len z1.1.cap))
theorem e37 (x0 : Option Addr) (K : Value → HP) : flatFn PP h37 Try.f37 [.pointer x0] K = t37 x0 K := by kernel_rfl

end Go.Proofs.Ytlabcgnegbdlfaa
set_option linter.unusedVariables false
set_option maxRecDepth 100000
namespace Go.Proofs.Ytlabcgnegbdlfaa
open Go.HL
/-- (*depot/plain.Plain).find -/
def h74 : Hints := ⟨[], [], []⟩
def t74 (x0 : Option Addr) (x1 : ByteArray) (K : Value → HP) : HP :=
  ifB (Option.isNone x0) (
   K (.pointer none)) (
   nilc x0 fun a1 =>
   ld a1 (.lf .map) fun v1 =>
   smR PP (Instr.lookup 136 (.map v1) (.string x1) false) [.lf .ptr] fun v2 =>
   K (.pointer v2.1))
theorem e74 (x0 : Option Addr) (x1 : ByteArray) (K : Value → HP) : flatFn PP h74 Try.f74 [.pointer x0, .string x1] K = t74 x0 x1 K := by kernel_rfl

/-- (*depot/depotref32.Plain).at -/
def h75 : Hints := ⟨[(0, [(5, .lf (.int .i64))])], [], [(7, [0, 1, 2, 4, 5, 6, 3, 7, 8, 9, 10, 11])]⟩
def t75 (x0 : Option Addr) (x1 : ByteArray) (K : Value → HP) : HP :=
  lp [.lf (.int .i64)] (0, ()) fun z1 go1 =>   -- i
   nilc x0 fun a1 =>
   ld a1 (.lf .sl) fun v1 =>
   ifB (decide ((z1.1 : Int) < v1.len)) (
    nilc x0 fun a2 =>
    ld a2 (.lf .sl) fun v2 =>
    nilc v2.a fun a3 =>
    ixn z1.1 v2.len <|
    ld (Addr.add a3 (z1.1.toNat * 4)) (.lf .str) fun v3 =>
    ifB (ByteArray.toList v3 == ByteArray.toList x1) (
     nilc x0 fun a4 =>
     ld a4 (.lf .sl) fun v4 =>
     nilc v4.a fun a5 =>
     ixn z1.1 v4.len <|
     K (.pointer (some (Addr.add a5 (z1.1.toNat * 4))))) (
     go1 (IntKind.i64.wrap (z1.1 + 1), ()))) (
    nilc x0 fun a6 =>
    ld a6 (.lf .sl) fun v5 =>
    nw (.cells #[.string x1, .bool false, .string ByteArray.empty, .slice none 0 0] 149) fun n1 =>
    smW PP (Builtin.append_ #[58, 58] 58 #[.slice v5.a v5.len v5.cap, .slice (some ⟨n1, 0, none⟩) 1 1]) [.lf .sl] fun v6 =>
    nilc x0 fun a7 =>
    st a7 [.slice v6.1.a v6.1.len v6.1.cap] <|
    nilc x0 fun a8 =>
    nilc x0 fun a9 =>
    ld a8 (.lf .sl) fun v7 =>
    ld a9 (.lf .sl) fun v8 =>
    nilc v7.a fun a10 =>
    ixn (IntKind.i64.wrap (v8.len - 1)) v7.len <|
    K (.pointer (some (Addr.add a10 ((IntKind.i64.wrap (v8.len - 1)).toNat * 4)))))
theorem e75 (x0 : Option Addr) (x1 : ByteArray) (K : Value → HP) : flatFn PP h75 Try.f75 [.pointer x0, .string x1] K = t75 x0 x1 K := by kernel_rfl

/-- (*depot/depotref32.Plain).known -/
def h76 : Hints := ⟨[(0, [(5, .lf (.int .i64))])], [], []⟩
def t76 (x0 : Option Addr) (x1 : ByteArray) (K : Value → HP) : HP :=
  lp [.lf (.int .i64)] (0, ()) fun z1 go1 =>   -- i
   nilc x0 fun a1 =>
   ld a1 (.lf .sl) fun v1 =>
   ifB (decide ((z1.1 : Int) < v1.len)) (
    nilc x0 fun a2 =>
    ld a2 (.lf .sl) fun v2 =>
    nilc v2.a fun a3 =>
    ixn z1.1 v2.len <|
    ld (Addr.add a3 (z1.1.toNat * 4)) (.lf .str) fun v3 =>
    ifB (ByteArray.toList v3 == ByteArray.toList x1) (
     K (.bool true)) (
     go1 (IntKind.i64.wrap (z1.1 + 1), ()))) (
    K (.bool false))
theorem e76 (x0 : Option Addr) (x1 : ByteArray) (K : Value → HP) : flatFn PP h76 Try.f76 [.pointer x0, .string x1] K = t76 x0 x1 K := by kernel_rfl

/-- (*depot/plain.known).settle -/
def h77 : Hints := ⟨[], [], [(2, [0, 1, 2, 4, 5, 6, 7, 3, 8, 9])]⟩
def t77 (x0 : Option Addr) (K : Value → HP) : HP :=
  nilc x0 fun a1 =>
  ld (Addr.add a1 2) (.lf .map) fun v1 =>
  smW PP (Builtin.clear_ #[141] 0 #[.map v1]) [] fun v2 =>
  nilc x0 fun a2 =>
  ld (Addr.add a2 1) (.lf .bool) fun v3 =>
  ifB v3 (
   nilc x0 fun a3 =>
   nilc x0 fun a4 =>
   ld (Addr.add a3 2) (.lf .map) fun v4 =>
   ld a4 (.lf .str) fun v5 =>
   smU PP (Instr.mapUpdate 141 (.map v4) (.string v5) (.bool true)) <|
   K (.tuple #[])) (
   K (.tuple #[]))
theorem e77 (x0 : Option Addr) (K : Value → HP) : flatFn PP h77 Try.f77 [.pointer x0] K = t77 x0 K := by kernel_rfl

/-- slices.Sort[[]string,string] -/
def h78 : Hints := ⟨[], [], []⟩
def t78 (x0 : SlV) (K : Value → HP) : HP :=
  cl PP 108 #[.int .u64 (IntKind.u64.wrap x0.len)] [.lf (.int .i64)] fun r1 =>
  cl PP 107 #[.slice x0.a x0.len x0.cap, .int .i64 0, .int .i64 x0.len, .int .i64 r1.1] [] fun r2 =>
  K (.tuple #[])
theorem e78 (x0 : SlV) (K : Value → HP) : flatFn PP h78 Try.f78 [.slice x0.a x0.len x0.cap] K = t78 x0 K := by kernel_rfl

/-- depot/depotref32.before -/
def h79 : Hints := ⟨[(0, [(5, .lf (.int .i64))])], [], [(5, [0, 1, 2, 3, 4, 5, 6, 7]), (4, [0, 1, 2, 3, 4, 5, 6])]⟩
def t79 (x0 : ByteArray) (x1 : ByteArray) (K : Value → HP) : HP :=
  lp [.lf (.int .i64)] (0, ()) fun z1 go1 =>   -- i
   ifB (decide ((z1.1 : Int) < x0.size)) (
    ifB (decide ((z1.1 : Int) < x1.size)) (
     ixn z1.1 x0.size <|
     ixn z1.1 x1.size <|
     ifB ((byteAt x0 z1.1 : Int) != (byteAt x1 z1.1)) (
      ixn z1.1 x0.size <|
      ixn z1.1 x1.size <|
      K (.bool (decide ((byteAt x0 z1.1 : Int) < (byteAt x1 z1.1))))) (
      go1 (IntKind.i64.wrap (z1.1 + 1), ()))) (
     K (.bool (decide ((x0.size : Int) < x1.size))))) (
    K (.bool (decide ((x0.size : Int) < x1.size))))
theorem e79 (x0 : ByteArray) (x1 : ByteArray) (K : Value → HP) : flatFn PP h79 Try.f79 [.string x0, .string x1] K = t79 x0 x1 K := by kernel_rfl

end Go.Proofs.Ytlabcgnegbdlfaa
set_option linter.unusedVariables false
set_option maxRecDepth 100000
namespace Go.Proofs.Ytlabcgnegbdlfaa
open Go.HL
/-- slices.pdqsortOrdered[string] -/
def h107 : Hints := ⟨[(0, [(1, .lf (.int .i64)), (2, .lf (.int .i64)), (3, .lf (.int .i64)), (8, .lf .bool), (9, .lf .bool)])], [(10, [(3, .lf (.int .i64))]), (15, [(11, .lf (.int .i64)), (12, .lf (.int .i64))]), (17, []), (20, [(1, .lf (.int .i64))])], [(17, [0, 1, 2, 3, 4, 5, 6, 8, 9, 10, 7, 11, 12, 13, 14])]⟩
def t107 (x0 : SlV) (x1 : Int) (x2 : Int) (x3 : Int) (K : Value → HP) : HP :=
  lp [.lf (.int .i64), .lf (.int .i64), .lf (.int .i64), .lf .bool, .lf .bool] (x1, x2, x3, true, true, ()) fun z1 go1 =>   -- a, b, limit, wasBalanced, wasPartitioned
   ifB (decide ((IntKind.i64.wrap (z1.2.1 - z1.1) : Int) ≤ 12)) (
    cl PP 117 #[.slice x0.a x0.len x0.cap, .int .i64 z1.1, .int .i64 z1.2.1] [] fun r1 =>
    K (.tuple #[])) (
    ifB ((z1.2.2.1 : Int) == 0) (
     cl PP 118 #[.slice x0.a x0.len x0.cap, .int .i64 z1.1, .int .i64 z1.2.1] [] fun r2 =>
     K (.tuple #[])) (
     jn (fun y1 : RsV [.lf (.int .i64)] =>
      cl PP 120 #[.slice x0.a x0.len x0.cap, .int .i64 z1.1, .int .i64 z1.2.1] [.lf (.int .i64), .lf (.int .i64)] fun r4 =>
      jn (fun y2 : RsV [.lf (.int .i64), .lf (.int .i64)] =>
       jn (fun y3 : RsV [] =>
        jn (fun y4 : RsV [.lf (.int .i64)] =>
         cl PP 125 #[.slice x0.a x0.len x0.cap, .int .i64 y4.1, .int .i64 z1.2.1, .int .i64 y2.1] [.lf (.int .i64), .lf .bool] fun r9 =>
         req ((8 : Int) ≠ 0) <|
         ifB (decide ((IntKind.i64.wrap (r9.1 - y4.1) : Int) < (IntKind.i64.wrap (z1.2.1 - r9.1)))) (
          cl PP 107 #[.slice x0.a x0.len x0.cap, .int .i64 y4.1, .int .i64 r9.1, .int .i64 y1.1] [] fun r10 =>
          go1 (IntKind.i64.wrap (r9.1 + 1), z1.2.1, y1.1, decide ((IntKind.i64.wrap (r9.1 - y4.1) : Int) ≥ (IntKind.i64.wrap (Int.tdiv (IntKind.i64.wrap (z1.2.1 - z1.1)) 8))), r9.2.1, ())) (
          cl PP 107 #[.slice x0.a x0.len x0.cap, .int .i64 (IntKind.i64.wrap (r9.1 + 1)), .int .i64 z1.2.1, .int .i64 y1.1] [] fun r11 =>
          go1 (y4.1, r9.1, y1.1, decide ((IntKind.i64.wrap (z1.2.1 - r9.1) : Int) ≥ (IntKind.i64.wrap (Int.tdiv (IntKind.i64.wrap (z1.2.1 - z1.1)) 8))), r9.2.1, ()))) fun j4 =>
        ifB (decide ((z1.1 : Int) > 0)) (
          nilc x0.a fun a1 =>
          ixn (IntKind.i64.wrap (z1.1 - 1)) x0.len <|
          nilc x0.a fun a2 =>
          ixn y2.1 x0.len <|
          ld (Addr.add a1 ((IntKind.i64.wrap (z1.1 - 1)).toNat * 1)) (.lf .str) fun v1 =>
          ld (Addr.add a2 (y2.1.toNat * 1)) (.lf .str) fun v2 =>
          cl PP 123 #[.string v1, .string v2] [.lf .bool] fun r7 =>
          ifB (!r7.1) (
           cl PP 124 #[.slice x0.a x0.len x0.cap, .int .i64 z1.1, .int .i64 z1.2.1, .int .i64 y2.1] [.lf (.int .i64)] fun r8 =>
           go1 (r8.1, z1.2.1, y1.1, z1.2.2.2.1, z1.2.2.2.2.1, ())) (
           j4 (z1.1, ()))) (
          j4 (z1.1, ()))) fun j3 =>
       ifB z1.2.2.2.1 (
         ifB z1.2.2.2.2.1 (
          ifB ((y2.2.1 : Int) == 1) (
           cl PP 122 #[.slice x0.a x0.len x0.cap, .int .i64 z1.1, .int .i64 z1.2.1] [.lf .bool] fun r6 =>
           ifB r6.1 (
            K (.tuple #[])) (
            j3 (()))) (
           j3 (()))) (
          j3 (()))) (
         j3 (()))) fun j2 =>
      ifB ((r4.2.1 : Int) == 2) (
        cl PP 121 #[.slice x0.a x0.len x0.cap, .int .i64 z1.1, .int .i64 z1.2.1] [] fun r5 =>
        j2 (IntKind.i64.wrap ((IntKind.i64.wrap (z1.2.1 - 1)) - (IntKind.i64.wrap (r4.1 - z1.1))), 1, ())) (
        j2 (r4.1, r4.2.1, ()))) fun j1 =>
     ifB (!z1.2.2.2.1) (
       cl PP 119 #[.slice x0.a x0.len x0.cap, .int .i64 z1.1, .int .i64 z1.2.1] [] fun r3 =>
       j1 (IntKind.i64.wrap (z1.2.2.1 - 1), ())) (
       j1 (z1.2.2.1, ()))))
theorem e107 (x0 : SlV) (x1 : Int) (x2 : Int) (x3 : Int) (K : Value → HP) : flatFn PP h107 Try.f107 [.slice x0.a x0.len x0.cap, .int .i64 x1, .int .i64 x2, .int .i64 x3] K = t107 x0 x1 x2 x3 K := by kernel_rfl

/-- math/bits.Len -/
def h108 : Hints := ⟨[], [], []⟩
def t108 (x0 : Int) (K : Value → HP) : HP :=
  cl PP 127 #[.int .u64 x0] [.lf (.int .i64)] fun r1 =>
  K (.int .i64 r1.1)
theorem e108 (x0 : Int) (K : Value → HP) : flatFn PP h108 Try.f108 [.int .u64 x0] K = t108 x0 K := by kernel_rfl

/-- slices.insertionSortOrdered[string] -/
def h117 : Hints := ⟨[(0, [(6, .lf (.int .i64))]), (2, [(7, .lf (.int .i64))])], [(6, [])], [(6, [0, 1, 2, 3, 4, 5, 6, 7, 8, 10, 11, 12, 9, 13, 14, 15, 16, 17]), (4, [0, 1, 2, 3, 4, 5, 6, 8, 9, 10, 11, 7, 12, 13, 14])]⟩
def t117 (x0 : SlV) (x1 : Int) (x2 : Int) (K : Value → HP) : HP :=
  lp [.lf (.int .i64)] (IntKind.i64.wrap (x1 + 1), ()) fun z1 go1 =>   -- i
   ifB (decide ((z1.1 : Int) < x2)) (
    lp [.lf (.int .i64)] (z1.1, ()) fun z2 go2 =>   -- j
     jn (fun y1 : RsV [] =>
      nilc x0.a fun a3 =>
      ixn (IntKind.i64.wrap (z2.1 - 1)) x0.len <|
      nilc x0.a fun a4 =>
      ixn z2.1 x0.len <|
      ld (Addr.add a3 ((IntKind.i64.wrap (z2.1 - 1)).toNat * 1)) (.lf .str) fun v3 =>
      ld (Addr.add a4 (z2.1.toNat * 1)) (.lf .str) fun v4 =>
      nilc x0.a fun a5 =>
      ixn z2.1 x0.len <|
      st (Addr.add a5 (z2.1.toNat * 1)) [.string v3] <|
      nilc x0.a fun a6 =>
      ixn (IntKind.i64.wrap (z2.1 - 1)) x0.len <|
      st (Addr.add a6 ((IntKind.i64.wrap (z2.1 - 1)).toNat * 1)) [.string v4] <|
      go2 (IntKind.i64.wrap (z2.1 - 1), ())) fun j1 =>
     ifB (decide ((z2.1 : Int) > x1)) (
       nilc x0.a fun a1 =>
       ixn z2.1 x0.len <|
       nilc x0.a fun a2 =>
       ixn (IntKind.i64.wrap (z2.1 - 1)) x0.len <|
       ld (Addr.add a1 (z2.1.toNat * 1)) (.lf .str) fun v1 =>
       ld (Addr.add a2 ((IntKind.i64.wrap (z2.1 - 1)).toNat * 1)) (.lf .str) fun v2 =>
       cl PP 123 #[.string v1, .string v2] [.lf .bool] fun r1 =>
       ifB r1.1 (
        j1 (())) (
        go1 (IntKind.i64.wrap (z1.1 + 1), ()))) (
       go1 (IntKind.i64.wrap (z1.1 + 1), ()))) (
    K (.tuple #[]))
theorem e117 (x0 : SlV) (x1 : Int) (x2 : Int) (K : Value → HP) : flatFn PP h117 Try.f117 [.slice x0.a x0.len x0.cap, .int .i64 x1, .int .i64 x2] K = t117 x0 x1 x2 K := by kernel_rfl

/-- slices.heapSortOrdered[string] -/
def h118 : Hints := ⟨[(0, [(9, .lf (.int .i64))]), (2, [(10, .lf (.int .i64))])], [], [(10, [0, 1, 2, 3, 4, 5, 6, 7, 8, 9, 10, 12, 13, 14, 11, 15, 16, 17, 18, 19])]⟩
def t118 (x0 : SlV) (x1 : Int) (x2 : Int) (K : Value → HP) : HP :=
  req ((2 : Int) ≠ 0) <|
  lp [.lf (.int .i64)] (IntKind.i64.wrap (Int.tdiv (IntKind.i64.wrap ((IntKind.i64.wrap (x2 - x1)) - 1)) 2), ()) fun z1 go1 =>   -- i
   ifB (decide ((z1.1 : Int) ≥ 0)) (
    cl PP 132 #[.slice x0.a x0.len x0.cap, .int .i64 z1.1, .int .i64 (IntKind.i64.wrap (x2 - x1)), .int .i64 x1] [] fun r1 =>
    go1 (IntKind.i64.wrap (z1.1 - 1), ())) (
    lp [.lf (.int .i64)] (IntKind.i64.wrap ((IntKind.i64.wrap (x2 - x1)) - 1), ()) fun z2 go2 =>   -- i
     ifB (decide ((z2.1 : Int) ≥ 0)) (
      nilc x0.a fun a1 =>
      ixn (IntKind.i64.wrap (x1 + z2.1)) x0.len <|
      nilc x0.a fun a2 =>
      ixn x1 x0.len <|
      ld (Addr.add a1 ((IntKind.i64.wrap (x1 + z2.1)).toNat * 1)) (.lf .str) fun v1 =>
      ld (Addr.add a2 (x1.toNat * 1)) (.lf .str) fun v2 =>
      nilc x0.a fun a3 =>
      ixn x1 x0.len <|
      st (Addr.add a3 (x1.toNat * 1)) [.string v1] <|
      nilc x0.a fun a4 =>
      ixn (IntKind.i64.wrap (x1 + z2.1)) x0.len <|
      st (Addr.add a4 ((IntKind.i64.wrap (x1 + z2.1)).toNat * 1)) [.string v2] <|
      cl PP 132 #[.slice x0.a x0.len x0.cap, .int .i64 0, .int .i64 z2.1, .int .i64 x1] [] fun r2 =>
      go2 (IntKind.i64.wrap (z2.1 - 1), ())) (
      K (.tuple #[])))
theorem e118 (x0 : SlV) (x1 : Int) (x2 : Int) (K : Value → HP) : flatFn PP h118 Try.f118 [.slice x0.a x0.len x0.cap, .int .i64 x1, .int .i64 x2] K = t118 x0 x1 x2 K := by kernel_rfl

/-- slices.breakPatternsOrdered[string] -/
def h119 : Hints := ⟨[(0, [(9, .lf (.int .i64))])], [(10, [(10, .lf (.int .i64))])], [(10, [0, 1, 2, 3, 4, 5, 6, 7, 8, 9, 10, 12, 13, 14, 11, 15, 16, 17, 18, 19])]⟩
def t119 (x0 : SlV) (x1 : Int) (x2 : Int) (K : Value → HP) : HP :=
  ifB (decide ((IntKind.i64.wrap (x2 - x1) : Int) ≥ 8)) (
   nw (.cells #[.int .u64 0] 214) fun n1 =>
   st ⟨n1, 0, none⟩ [.int .u64 (IntKind.u64.wrap (IntKind.i64.wrap (x2 - x1)))] <|
   cl PP 133 #[.int .i64 (IntKind.i64.wrap (x2 - x1))] [.lf (.int .u64)] fun r1 =>
   req ((4 : Int) ≠ 0) <|
   lp [.lf (.int .i64)] (IntKind.i64.wrap ((IntKind.i64.wrap (x1 + (IntKind.i64.wrap ((IntKind.i64.wrap (Int.tdiv (IntKind.i64.wrap (x2 - x1)) 4)) * 2)))) - 1), ()) fun z1 go1 =>   -- idx
    req ((4 : Int) ≠ 0) <|
    ifB (decide ((z1.1 : Int) ≤ (IntKind.i64.wrap ((IntKind.i64.wrap (x1 + (IntKind.i64.wrap ((IntKind.i64.wrap (Int.tdiv (IntKind.i64.wrap (x2 - x1)) 4)) * 2)))) + 1)))) (
     cl PP 134 #[.pointer (some ⟨n1, 0, none⟩)] [.lf (.int .u64)] fun r2 =>
     jn (fun y1 : RsV [.lf (.int .i64)] =>
      nilc x0.a fun a1 =>
      ixn (IntKind.i64.wrap (x1 + y1.1)) x0.len <|
      nilc x0.a fun a2 =>
      ixn z1.1 x0.len <|
      ld (Addr.add a1 ((IntKind.i64.wrap (x1 + y1.1)).toNat * 1)) (.lf .str) fun v1 =>
      ld (Addr.add a2 (z1.1.toNat * 1)) (.lf .str) fun v2 =>
      nilc x0.a fun a3 =>
      ixn z1.1 x0.len <|
      st (Addr.add a3 (z1.1.toNat * 1)) [.string v1] <|
      nilc x0.a fun a4 =>
      ixn (IntKind.i64.wrap (x1 + y1.1)) x0.len <|
      st (Addr.add a4 ((IntKind.i64.wrap (x1 + y1.1)).toNat * 1)) [.string v2] <|
      go1 (IntKind.i64.wrap (z1.1 + 1), ())) fun j1 =>
     ifB (decide ((IntKind.i64.wrap (bitI .and .u64 r2.1 (IntKind.u64.wrap (r1.1 - 1))) : Int) ≥ (IntKind.i64.wrap (x2 - x1)))) (
       j1 (IntKind.i64.wrap ((IntKind.i64.wrap (bitI .and .u64 r2.1 (IntKind.u64.wrap (r1.1 - 1)))) - (IntKind.i64.wrap (x2 - x1))), ())) (
       j1 (IntKind.i64.wrap (bitI .and .u64 r2.1 (IntKind.u64.wrap (r1.1 - 1))), ()))) (
     K (.tuple #[]))) (
   K (.tuple #[]))
theorem e119 (x0 : SlV) (x1 : Int) (x2 : Int) (K : Value → HP) : flatFn PP h119 Try.f119 [.slice x0.a x0.len x0.cap, .int .i64 x1, .int .i64 x2] K = t119 x0 x1 x2 K := by kernel_rfl

/-- slices.choosePivotOrdered[string] -/
def h120 : Hints := ⟨[], [(11, [(10, .lf (.int .i64)), (11, .lf (.int .i64)), (12, .lf (.int .i64))]), (12, [(11, .lf (.int .i64))])], []⟩
def t120 (x0 : SlV) (x1 : Int) (x2 : Int) (K : Value → HP) : HP :=
  nw (.cells #[.int .i64 0] 3) fun n1 =>
  req ((4 : Int) ≠ 0) <|
  req ((4 : Int) ≠ 0) <|
  req ((4 : Int) ≠ 0) <|
  jn (fun y1 : RsV [.lf (.int .i64)] =>
   ld ⟨n1, 0, none⟩ (.lf (.int .i64)) fun v1 =>
   ifB ((v1 : Int) == 0) (
    K (.tuple #[.int .i64 y1.1, .int .i64 1])) (
    ifB ((v1 : Int) == 12) (
     K (.tuple #[.int .i64 y1.1, .int .i64 2])) (
     K (.tuple #[.int .i64 y1.1, .int .i64 0])))) fun j1 =>
  ifB (decide ((IntKind.i64.wrap (x2 - x1) : Int) ≥ 8)) (
    jn (fun y2 : RsV [.lf (.int .i64), .lf (.int .i64), .lf (.int .i64)] =>
     cl PP 136 #[.slice x0.a x0.len x0.cap, .int .i64 y2.1, .int .i64 y2.2.1, .int .i64 y2.2.2.1, .pointer (some ⟨n1, 0, none⟩)] [.lf (.int .i64)] fun r4 =>
     j1 (r4.1, ())) fun j2 =>
    ifB (decide ((IntKind.i64.wrap (x2 - x1) : Int) ≥ 50)) (
      cl PP 135 #[.slice x0.a x0.len x0.cap, .int .i64 (IntKind.i64.wrap (x1 + (IntKind.i64.wrap ((IntKind.i64.wrap (Int.tdiv (IntKind.i64.wrap (x2 - x1)) 4)) * 1)))), .pointer (some ⟨n1, 0, none⟩)] [.lf (.int .i64)] fun r1 =>
      cl PP 135 #[.slice x0.a x0.len x0.cap, .int .i64 (IntKind.i64.wrap (x1 + (IntKind.i64.wrap ((IntKind.i64.wrap (Int.tdiv (IntKind.i64.wrap (x2 - x1)) 4)) * 2)))), .pointer (some ⟨n1, 0, none⟩)] [.lf (.int .i64)] fun r2 =>
      cl PP 135 #[.slice x0.a x0.len x0.cap, .int .i64 (IntKind.i64.wrap (x1 + (IntKind.i64.wrap ((IntKind.i64.wrap (Int.tdiv (IntKind.i64.wrap (x2 - x1)) 4)) * 3)))), .pointer (some ⟨n1, 0, none⟩)] [.lf (.int .i64)] fun r3 =>
      j2 (r1.1, r2.1, r3.1, ())) (
      j2 (IntKind.i64.wrap (x1 + (IntKind.i64.wrap ((IntKind.i64.wrap (Int.tdiv (IntKind.i64.wrap (x2 - x1)) 4)) * 1))), IntKind.i64.wrap (x1 + (IntKind.i64.wrap ((IntKind.i64.wrap (Int.tdiv (IntKind.i64.wrap (x2 - x1)) 4)) * 2))), IntKind.i64.wrap (x1 + (IntKind.i64.wrap ((IntKind.i64.wrap (Int.tdiv (IntKind.i64.wrap (x2 - x1)) 4)) * 3))), ()))) (
    j1 (IntKind.i64.wrap (x1 + (IntKind.i64.wrap ((IntKind.i64.wrap (Int.tdiv (IntKind.i64.wrap (x2 - x1)) 4)) * 2))), ()))
theorem e120 (x0 : SlV) (x1 : Int) (x2 : Int) (K : Value → HP) : flatFn PP h120 Try.f120 [.slice x0.a x0.len x0.cap, .int .i64 x1, .int .i64 x2] K = t120 x0 x1 x2 K := by kernel_rfl

/-- slices.reverseRangeOrdered[string] -/
def h121 : Hints := ⟨[(0, [(6, .lf (.int .i64)), (7, .lf (.int .i64))])], [], [(3, [0, 1, 2, 3, 4, 5, 6, 8, 9, 10, 7, 11, 12, 13, 14, 15])]⟩
def t121 (x0 : SlV) (x1 : Int) (x2 : Int) (K : Value → HP) : HP :=
  lp [.lf (.int .i64), .lf (.int .i64)] (x1, IntKind.i64.wrap (x2 - 1), ()) fun z1 go1 =>   -- i, j
   ifB (decide ((z1.1 : Int) < z1.2.1)) (
    nilc x0.a fun a1 =>
    ixn z1.2.1 x0.len <|
    nilc x0.a fun a2 =>
    ixn z1.1 x0.len <|
    ld (Addr.add a1 (z1.2.1.toNat * 1)) (.lf .str) fun v1 =>
    ld (Addr.add a2 (z1.1.toNat * 1)) (.lf .str) fun v2 =>
    nilc x0.a fun a3 =>
    ixn z1.1 x0.len <|
    st (Addr.add a3 (z1.1.toNat * 1)) [.string v1] <|
    nilc x0.a fun a4 =>
    ixn z1.2.1 x0.len <|
    st (Addr.add a4 (z1.2.1.toNat * 1)) [.string v2] <|
    go1 (IntKind.i64.wrap (z1.1 + 1), IntKind.i64.wrap (z1.2.1 - 1), ())) (
    K (.tuple #[]))
theorem e121 (x0 : SlV) (x1 : Int) (x2 : Int) (K : Value → HP) : flatFn PP h121 Try.f121 [.slice x0.a x0.len x0.cap, .int .i64 x1, .int .i64 x2] K = t121 x0 x1 x2 K := by kernel_rfl

/-- slices.partialInsertionSortOrdered[string] -/
def h122 : Hints := ⟨[(0, [(7, .lf (.int .i64)), (8, .lf (.int .i64))]), (2, [(7, .lf (.int .i64))]), (4, [(9, .lf (.int .i64))]), (6, [(10, .lf (.int .i64))])], [(7, [(7, .lf (.int .i64))]), (18, [])], [(23, [0, 1, 2, 3, 4, 5, 6, 7, 8, 10, 11, 12, 9, 13, 14, 15, 16, 17]), (22, [0, 1, 2, 4, 5, 6, 7, 3, 8, 9, 10]), (17, [0, 1, 2, 3, 4, 5, 6, 7, 8, 10, 11, 12, 9, 13, 14, 15, 16, 17]), (16, [0, 1, 2, 4, 5, 6, 7, 3, 8, 9, 10]), (11, [0, 1, 2, 3, 4, 5, 6, 7, 8, 10, 11, 12, 9, 13, 14, 15, 16, 17]), (5, [0, 1, 2, 3, 4, 5, 6, 8, 9, 10, 11, 7, 12, 13, 14, 15])]⟩
def t122 (x0 : SlV) (x1 : Int) (x2 : Int) (K : Value → HP) : HP :=
  lp [.lf (.int .i64), .lf (.int .i64)] (IntKind.i64.wrap (x1 + 1), 0, ()) fun z1 go1 =>   -- i, j
   ifB (decide ((z1.2.1 : Int) < 5)) (
    jn (fun y1 : RsV [.lf (.int .i64)] =>
     ifB ((y1.1 : Int) == x2) (
      K (.bool true)) (
      ifB (decide ((IntKind.i64.wrap (x2 - x1) : Int) < 50)) (
       K (.bool false)) (
       nilc x0.a fun a3 =>
       ixn (IntKind.i64.wrap (y1.1 - 1)) x0.len <|
       nilc x0.a fun a4 =>
       ixn y1.1 x0.len <|
       ld (Addr.add a3 ((IntKind.i64.wrap (y1.1 - 1)).toNat * 1)) (.lf .str) fun v3 =>
       ld (Addr.add a4 (y1.1.toNat * 1)) (.lf .str) fun v4 =>
       nilc x0.a fun a5 =>
       ixn y1.1 x0.len <|
       st (Addr.add a5 (y1.1.toNat * 1)) [.string v3] <|
       nilc x0.a fun a6 =>
       ixn (IntKind.i64.wrap (y1.1 - 1)) x0.len <|
       st (Addr.add a6 ((IntKind.i64.wrap (y1.1 - 1)).toNat * 1)) [.string v4] <|
       jn (fun y2 : RsV [] =>
        ifB (decide ((IntKind.i64.wrap (x2 - y1.1) : Int) ≥ 2)) (
         lp [.lf (.int .i64)] (IntKind.i64.wrap (y1.1 + 1), ()) fun z4 go4 =>   -- j
          ifB (decide ((z4.1 : Int) < x2)) (
           nilc x0.a fun a13 =>
           ixn z4.1 x0.len <|
           nilc x0.a fun a14 =>
           ixn (IntKind.i64.wrap (z4.1 - 1)) x0.len <|
           ld (Addr.add a13 (z4.1.toNat * 1)) (.lf .str) fun v9 =>
           ld (Addr.add a14 ((IntKind.i64.wrap (z4.1 - 1)).toNat * 1)) (.lf .str) fun v10 =>
           cl PP 123 #[.string v9, .string v10] [.lf .bool] fun r3 =>
           ifB (!r3.1) (
            go1 (y1.1, IntKind.i64.wrap (z1.2.1 + 1), ())) (
            nilc x0.a fun a15 =>
            ixn (IntKind.i64.wrap (z4.1 - 1)) x0.len <|
            nilc x0.a fun a16 =>
            ixn z4.1 x0.len <|
            ld (Addr.add a15 ((IntKind.i64.wrap (z4.1 - 1)).toNat * 1)) (.lf .str) fun v11 =>
            ld (Addr.add a16 (z4.1.toNat * 1)) (.lf .str) fun v12 =>
            nilc x0.a fun a17 =>
            ixn z4.1 x0.len <|
            st (Addr.add a17 (z4.1.toNat * 1)) [.string v11] <|
            nilc x0.a fun a18 =>
            ixn (IntKind.i64.wrap (z4.1 - 1)) x0.len <|
            st (Addr.add a18 ((IntKind.i64.wrap (z4.1 - 1)).toNat * 1)) [.string v12] <|
            go4 (IntKind.i64.wrap (z4.1 + 1), ()))) (
           go1 (y1.1, IntKind.i64.wrap (z1.2.1 + 1), ()))) (
         go1 (y1.1, IntKind.i64.wrap (z1.2.1 + 1), ()))) fun j2 =>
       ifB (decide ((IntKind.i64.wrap (y1.1 - x1) : Int) ≥ 2)) (
         lp [.lf (.int .i64)] (IntKind.i64.wrap (y1.1 - 1), ()) fun z3 go3 =>   -- j
          ifB (decide ((z3.1 : Int) ≥ 1)) (
           nilc x0.a fun a7 =>
           ixn z3.1 x0.len <|
           nilc x0.a fun a8 =>
           ixn (IntKind.i64.wrap (z3.1 - 1)) x0.len <|
           ld (Addr.add a7 (z3.1.toNat * 1)) (.lf .str) fun v5 =>
           ld (Addr.add a8 ((IntKind.i64.wrap (z3.1 - 1)).toNat * 1)) (.lf .str) fun v6 =>
           cl PP 123 #[.string v5, .string v6] [.lf .bool] fun r2 =>
           ifB (!r2.1) (
            j2 (())) (
            nilc x0.a fun a9 =>
            ixn (IntKind.i64.wrap (z3.1 - 1)) x0.len <|
            nilc x0.a fun a10 =>
            ixn z3.1 x0.len <|
            ld (Addr.add a9 ((IntKind.i64.wrap (z3.1 - 1)).toNat * 1)) (.lf .str) fun v7 =>
            ld (Addr.add a10 (z3.1.toNat * 1)) (.lf .str) fun v8 =>
            nilc x0.a fun a11 =>
            ixn z3.1 x0.len <|
            st (Addr.add a11 (z3.1.toNat * 1)) [.string v7] <|
            nilc x0.a fun a12 =>
            ixn (IntKind.i64.wrap (z3.1 - 1)) x0.len <|
            st (Addr.add a12 ((IntKind.i64.wrap (z3.1 - 1)).toNat * 1)) [.string v8] <|
            go3 (IntKind.i64.wrap (z3.1 - 1), ()))) (
           j2 (()))) (
         j2 (()))))) fun j1 =>
    lp [.lf (.int .i64)] (z1.1, ()) fun z2 go2 =>   -- i
      ifB (decide ((z2.1 : Int) < x2)) (
       nilc x0.a fun a1 =>
       ixn z2.1 x0.len <|
       nilc x0.a fun a2 =>
       ixn (IntKind.i64.wrap (z2.1 - 1)) x0.len <|
       ld (Addr.add a1 (z2.1.toNat * 1)) (.lf .str) fun v1 =>
       ld (Addr.add a2 ((IntKind.i64.wrap (z2.1 - 1)).toNat * 1)) (.lf .str) fun v2 =>
       cl PP 123 #[.string v1, .string v2] [.lf .bool] fun r1 =>
       ifB (!r1.1) (
        go2 (IntKind.i64.wrap (z2.1 + 1), ())) (
        j1 (z2.1, ()))) (
       j1 (z2.1, ()))) (
    K (.bool false))
theorem e122 (x0 : SlV) (x1 : Int) (x2 : Int) (K : Value → HP) : flatFn PP h122 Try.f122 [.slice x0.a x0.len x0.cap, .int .i64 x1, .int .i64 x2] K = t122 x0 x1 x2 K := by kernel_rfl

/-- cmp.Less[string] -/
def h123 : Hints := ⟨[], [], []⟩
def t123 (x0 : ByteArray) (x1 : ByteArray) (K : Value → HP) : HP :=
  cl PP 137 #[.string x0] [.lf .bool] fun r1 =>
  ifB r1.1 (
   cl PP 137 #[.string x1] [.lf .bool] fun r2 =>
   ifB (!r2.1) (
    K (.bool true)) (
    K (.bool (Op.bytesLess (ByteArray.toList x0) (ByteArray.toList x1))))) (
   K (.bool (Op.bytesLess (ByteArray.toList x0) (ByteArray.toList x1))))
theorem e123 (x0 : ByteArray) (x1 : ByteArray) (K : Value → HP) : flatFn PP h123 Try.f123 [.string x0, .string x1] K = t123 x0 x1 K := by kernel_rfl

/-- slices.partitionOrdered[string] -/
def h125 : Hints := ⟨[(0, [(10, .lf (.int .i64))]), (2, [(11, .lf (.int .i64))]), (4, [(10, .lf (.int .i64)), (11, .lf (.int .i64))]), (6, [(10, .lf (.int .i64))]), (8, [(11, .lf (.int .i64))])], [(7, [(11, .lf (.int .i64))]), (17, [(11, .lf (.int .i64))]), (17, [(11, .lf (.int .i64))]), (21, [(11, .lf (.int .i64))]), (7, [(11, .lf (.int .i64))]), (17, [(11, .lf (.int .i64))]), (17, [(11, .lf (.int .i64))]), (21, [(11, .lf (.int .i64))])], [(21, [0, 1, 2, 3, 4, 5, 6, 8, 9, 10, 7, 11, 12, 13, 14, 15]), (18, [0, 1, 2, 3, 4, 5, 6, 8, 9, 10, 7, 11, 12, 13, 14, 15]), (15, [0, 1, 2, 3, 4, 5, 6, 8, 9, 10, 7, 11, 12, 13, 14]), (13, [0, 1, 2, 3, 4, 5, 6, 8, 9, 10, 7, 11, 12, 13]), (10, [0, 1, 2, 3, 4, 5, 6, 8, 9, 10, 7, 11, 12, 13, 14, 15]), (8, [0, 1, 2, 3, 4, 5, 6, 8, 9, 10, 7, 11, 12, 13, 14, 15]), (5, [0, 1, 2, 3, 4, 5, 6, 8, 9, 10, 7, 11, 12, 13, 14]), (3, [0, 1, 2, 3, 4, 5, 6, 8, 9, 10, 7, 11, 12, 13]), (1, [0, 1, 2, 3, 4, 5, 6, 8, 9, 10, 7, 11, 12, 13, 14, 15])]⟩
def t125 (x0 : SlV) (x1 : Int) (x2 : Int) (x3 : Int) (K : Value → HP) : HP :=
  nilc x0.a fun a1 =>
  ixn x3 x0.len <|
  nilc x0.a fun a2 =>
  ixn x1 x0.len <|
  ld (Addr.add a1 (x3.toNat * 1)) (.lf .str) fun v1 =>
  ld (Addr.add a2 (x1.toNat * 1)) (.lf .str) fun v2 =>
  nilc x0.a fun a3 =>
  ixn x1 x0.len <|
  st (Addr.add a3 (x1.toNat * 1)) [.string v1] <|
  nilc x0.a fun a4 =>
  ixn x3 x0.len <|
  st (Addr.add a4 (x3.toNat * 1)) [.string v2] <|
  lp [.lf (.int .i64)] (IntKind.i64.wrap (x1 + 1), ()) fun z1 go1 =>   -- i
   ifB (decide ((z1.1 : Int) ≤ (IntKind.i64.wrap (x2 - 1)))) (
    nilc x0.a fun a5 =>
    ixn z1.1 x0.len <|
    nilc x0.a fun a6 =>
    ixn x1 x0.len <|
    ld (Addr.add a5 (z1.1.toNat * 1)) (.lf .str) fun v3 =>
    ld (Addr.add a6 (x1.toNat * 1)) (.lf .str) fun v4 =>
    cl PP 123 #[.string v3, .string v4] [.lf .bool] fun r1 =>
    ifB r1.1 (
     go1 (IntKind.i64.wrap (z1.1 + 1), ())) (
     jn (fun y1 : RsV [.lf (.int .i64)] =>
      ifB (decide ((z1.1 : Int) > y1.1)) (
       nilc x0.a fun a9 =>
       ixn x1 x0.len <|
       nilc x0.a fun a10 =>
       ixn y1.1 x0.len <|
       ld (Addr.add a9 (x1.toNat * 1)) (.lf .str) fun v7 =>
       ld (Addr.add a10 (y1.1.toNat * 1)) (.lf .str) fun v8 =>
       nilc x0.a fun a11 =>
       ixn y1.1 x0.len <|
       st (Addr.add a11 (y1.1.toNat * 1)) [.string v7] <|
       nilc x0.a fun a12 =>
       ixn x1 x0.len <|
       st (Addr.add a12 (x1.toNat * 1)) [.string v8] <|
       K (.tuple #[.int .i64 y1.1, .bool true])) (
       nilc x0.a fun a13 =>
       ixn y1.1 x0.len <|
       nilc x0.a fun a14 =>
       ixn z1.1 x0.len <|
       ld (Addr.add a13 (y1.1.toNat * 1)) (.lf .str) fun v9 =>
       ld (Addr.add a14 (z1.1.toNat * 1)) (.lf .str) fun v10 =>
       nilc x0.a fun a15 =>
       ixn z1.1 x0.len <|
       st (Addr.add a15 (z1.1.toNat * 1)) [.string v9] <|
       nilc x0.a fun a16 =>
       ixn y1.1 x0.len <|
       st (Addr.add a16 (y1.1.toNat * 1)) [.string v10] <|
       jn (fun y2 : RsV [.lf (.int .i64)] =>
        nilc x0.a fun a31 =>
        ixn x1 x0.len <|
        nilc x0.a fun a32 =>
        ixn y2.1 x0.len <|
        ld (Addr.add a31 (x1.toNat * 1)) (.lf .str) fun v21 =>
        ld (Addr.add a32 (y2.1.toNat * 1)) (.lf .str) fun v22 =>
        nilc x0.a fun a33 =>
        ixn y2.1 x0.len <|
        st (Addr.add a33 (y2.1.toNat * 1)) [.string v21] <|
        nilc x0.a fun a34 =>
        ixn x1 x0.len <|
        st (Addr.add a34 (x1.toNat * 1)) [.string v22] <|
        K (.tuple #[.int .i64 y2.1, .bool false])) fun j2 =>
       lp [.lf (.int .i64), .lf (.int .i64)] (IntKind.i64.wrap (z1.1 + 1), IntKind.i64.wrap (y1.1 - 1), ()) fun z3 go3 =>   -- i, j
         lp [.lf (.int .i64)] (z3.1, ()) fun z4 go4 =>   -- i
          ifB (decide ((z4.1 : Int) ≤ z3.2.1)) (
           nilc x0.a fun a17 =>
           ixn z4.1 x0.len <|
           nilc x0.a fun a18 =>
           ixn x1 x0.len <|
           ld (Addr.add a17 (z4.1.toNat * 1)) (.lf .str) fun v11 =>
           ld (Addr.add a18 (x1.toNat * 1)) (.lf .str) fun v12 =>
           cl PP 123 #[.string v11, .string v12] [.lf .bool] fun r3 =>
           ifB r3.1 (
            go4 (IntKind.i64.wrap (z4.1 + 1), ())) (
            jn (fun y3 : RsV [.lf (.int .i64)] =>
             ifB (decide ((z4.1 : Int) > y3.1)) (
              j2 (y3.1, ())) (
              nilc x0.a fun a21 =>
              ixn y3.1 x0.len <|
              nilc x0.a fun a22 =>
              ixn z4.1 x0.len <|
              ld (Addr.add a21 (y3.1.toNat * 1)) (.lf .str) fun v15 =>
              ld (Addr.add a22 (z4.1.toNat * 1)) (.lf .str) fun v16 =>
              nilc x0.a fun a23 =>
              ixn z4.1 x0.len <|
              st (Addr.add a23 (z4.1.toNat * 1)) [.string v15] <|
              nilc x0.a fun a24 =>
              ixn y3.1 x0.len <|
              st (Addr.add a24 (y3.1.toNat * 1)) [.string v16] <|
              go3 (IntKind.i64.wrap (z4.1 + 1), IntKind.i64.wrap (y3.1 - 1), ()))) fun j3 =>
            lp [.lf (.int .i64)] (z3.2.1, ()) fun z5 go5 =>   -- j
              ifB (decide ((z4.1 : Int) ≤ z5.1)) (
               nilc x0.a fun a19 =>
               ixn z5.1 x0.len <|
               nilc x0.a fun a20 =>
               ixn x1 x0.len <|
               ld (Addr.add a19 (z5.1.toNat * 1)) (.lf .str) fun v13 =>
               ld (Addr.add a20 (x1.toNat * 1)) (.lf .str) fun v14 =>
               cl PP 123 #[.string v13, .string v14] [.lf .bool] fun r4 =>
               ifB (!r4.1) (
                go5 (IntKind.i64.wrap (z5.1 - 1), ())) (
                j3 (z5.1, ()))) (
               j3 (z5.1, ())))) (
           jn (fun y4 : RsV [.lf (.int .i64)] =>
            ifB (decide ((z4.1 : Int) > y4.1)) (
             j2 (y4.1, ())) (
             nilc x0.a fun a27 =>
             ixn y4.1 x0.len <|
             nilc x0.a fun a28 =>
             ixn z4.1 x0.len <|
             ld (Addr.add a27 (y4.1.toNat * 1)) (.lf .str) fun v19 =>
             ld (Addr.add a28 (z4.1.toNat * 1)) (.lf .str) fun v20 =>
             nilc x0.a fun a29 =>
             ixn z4.1 x0.len <|
             st (Addr.add a29 (z4.1.toNat * 1)) [.string v19] <|
             nilc x0.a fun a30 =>
             ixn y4.1 x0.len <|
             st (Addr.add a30 (y4.1.toNat * 1)) [.string v20] <|
             go3 (IntKind.i64.wrap (z4.1 + 1), IntKind.i64.wrap (y4.1 - 1), ()))) fun j4 =>
           lp [.lf (.int .i64)] (z3.2.1, ()) fun z6 go6 =>   -- j
             ifB (decide ((z4.1 : Int) ≤ z6.1)) (
              nilc x0.a fun a25 =>
              ixn z6.1 x0.len <|
              nilc x0.a fun a26 =>
              ixn x1 x0.len <|
              ld (Addr.add a25 (z6.1.toNat * 1)) (.lf .str) fun v17 =>
              ld (Addr.add a26 (x1.toNat * 1)) (.lf .str) fun v18 =>
              cl PP 123 #[.string v17, .string v18] [.lf .bool] fun r5 =>
              ifB (!r5.1) (
               go6 (IntKind.i64.wrap (z6.1 - 1), ())) (
               j4 (z6.1, ()))) (
              j4 (z6.1, ()))))) fun j1 =>
     lp [.lf (.int .i64)] (IntKind.i64.wrap (x2 - 1), ()) fun z2 go2 =>   -- j
       ifB (decide ((z1.1 : Int) ≤ z2.1)) (
        nilc x0.a fun a7 =>
        ixn z2.1 x0.len <|
        nilc x0.a fun a8 =>
        ixn x1 x0.len <|
        ld (Addr.add a7 (z2.1.toNat * 1)) (.lf .str) fun v5 =>
        ld (Addr.add a8 (x1.toNat * 1)) (.lf .str) fun v6 =>
        cl PP 123 #[.string v5, .string v6] [.lf .bool] fun r2 =>
        ifB (!r2.1) (
         go2 (IntKind.i64.wrap (z2.1 - 1), ())) (
         j1 (z2.1, ()))) (
        j1 (z2.1, ())))) (
    jn (fun y5 : RsV [.lf (.int .i64)] =>
     ifB (decide ((z1.1 : Int) > y5.1)) (
      nilc x0.a fun a37 =>
      ixn x1 x0.len <|
      nilc x0.a fun a38 =>
      ixn y5.1 x0.len <|
      ld (Addr.add a37 (x1.toNat * 1)) (.lf .str) fun v25 =>
      ld (Addr.add a38 (y5.1.toNat * 1)) (.lf .str) fun v26 =>
      nilc x0.a fun a39 =>
      ixn y5.1 x0.len <|
      st (Addr.add a39 (y5.1.toNat * 1)) [.string v25] <|
      nilc x0.a fun a40 =>
      ixn x1 x0.len <|
      st (Addr.add a40 (x1.toNat * 1)) [.string v26] <|
      K (.tuple #[.int .i64 y5.1, .bool true])) (
      nilc x0.a fun a41 =>
      ixn y5.1 x0.len <|
      nilc x0.a fun a42 =>
      ixn z1.1 x0.len <|
      ld (Addr.add a41 (y5.1.toNat * 1)) (.lf .str) fun v27 =>
      ld (Addr.add a42 (z1.1.toNat * 1)) (.lf .str) fun v28 =>
      nilc x0.a fun a43 =>
      ixn z1.1 x0.len <|
      st (Addr.add a43 (z1.1.toNat * 1)) [.string v27] <|
      nilc x0.a fun a44 =>
      ixn y5.1 x0.len <|
      st (Addr.add a44 (y5.1.toNat * 1)) [.string v28] <|
      jn (fun y6 : RsV [.lf (.int .i64)] =>
       nilc x0.a fun a59 =>
       ixn x1 x0.len <|
       nilc x0.a fun a60 =>
       ixn y6.1 x0.len <|
       ld (Addr.add a59 (x1.toNat * 1)) (.lf .str) fun v39 =>
       ld (Addr.add a60 (y6.1.toNat * 1)) (.lf .str) fun v40 =>
       nilc x0.a fun a61 =>
       ixn y6.1 x0.len <|
       st (Addr.add a61 (y6.1.toNat * 1)) [.string v39] <|
       nilc x0.a fun a62 =>
       ixn x1 x0.len <|
       st (Addr.add a62 (x1.toNat * 1)) [.string v40] <|
       K (.tuple #[.int .i64 y6.1, .bool false])) fun j6 =>
      lp [.lf (.int .i64), .lf (.int .i64)] (IntKind.i64.wrap (z1.1 + 1), IntKind.i64.wrap (y5.1 - 1), ()) fun z8 go8 =>   -- i, j
        lp [.lf (.int .i64)] (z8.1, ()) fun z9 go9 =>   -- i
         ifB (decide ((z9.1 : Int) ≤ z8.2.1)) (
          nilc x0.a fun a45 =>
          ixn z9.1 x0.len <|
          nilc x0.a fun a46 =>
          ixn x1 x0.len <|
          ld (Addr.add a45 (z9.1.toNat * 1)) (.lf .str) fun v29 =>
          ld (Addr.add a46 (x1.toNat * 1)) (.lf .str) fun v30 =>
          cl PP 123 #[.string v29, .string v30] [.lf .bool] fun r7 =>
          ifB r7.1 (
           go9 (IntKind.i64.wrap (z9.1 + 1), ())) (
           jn (fun y7 : RsV [.lf (.int .i64)] =>
            ifB (decide ((z9.1 : Int) > y7.1)) (
             j6 (y7.1, ())) (
             nilc x0.a fun a49 =>
             ixn y7.1 x0.len <|
             nilc x0.a fun a50 =>
             ixn z9.1 x0.len <|
             ld (Addr.add a49 (y7.1.toNat * 1)) (.lf .str) fun v33 =>
             ld (Addr.add a50 (z9.1.toNat * 1)) (.lf .str) fun v34 =>
             nilc x0.a fun a51 =>
             ixn z9.1 x0.len <|
             st (Addr.add a51 (z9.1.toNat * 1)) [.string v33] <|
             nilc x0.a fun a52 =>
             ixn y7.1 x0.len <|
             st (Addr.add a52 (y7.1.toNat * 1)) [.string v34] <|
             go8 (IntKind.i64.wrap (z9.1 + 1), IntKind.i64.wrap (y7.1 - 1), ()))) fun j7 =>
           lp [.lf (.int .i64)] (z8.2.1, ()) fun z10 go10 =>   -- j
             ifB (decide ((z9.1 : Int) ≤ z10.1)) (
              nilc x0.a fun a47 =>
              ixn z10.1 x0.len <|
              nilc x0.a fun a48 =>
              ixn x1 x0.len <|
              ld (Addr.add a47 (z10.1.toNat * 1)) (.lf .str) fun v31 =>
              ld (Addr.add a48 (x1.toNat * 1)) (.lf .str) fun v32 =>
              cl PP 123 #[.string v31, .string v32] [.lf .bool] fun r8 =>
              ifB (!r8.1) (
               go10 (IntKind.i64.wrap (z10.1 - 1), ())) (
               j7 (z10.1, ()))) (
              j7 (z10.1, ())))) (
          jn (fun y8 : RsV [.lf (.int .i64)] =>
           ifB (decide ((z9.1 : Int) > y8.1)) (
            j6 (y8.1, ())) (
            nilc x0.a fun a55 =>
            ixn y8.1 x0.len <|
            nilc x0.a fun a56 =>
            ixn z9.1 x0.len <|
            ld (Addr.add a55 (y8.1.toNat * 1)) (.lf .str) fun v37 =>
            ld (Addr.add a56 (z9.1.toNat * 1)) (.lf .str) fun v38 =>
            nilc x0.a fun a57 =>
            ixn z9.1 x0.len <|
            st (Addr.add a57 (z9.1.toNat * 1)) [.string v37] <|
            nilc x0.a fun a58 =>
            ixn y8.1 x0.len <|
            st (Addr.add a58 (y8.1.toNat * 1)) [.string v38] <|
            go8 (IntKind.i64.wrap (z9.1 + 1), IntKind.i64.wrap (y8.1 - 1), ()))) fun j8 =>
          lp [.lf (.int .i64)] (z8.2.1, ()) fun z11 go11 =>   -- j
            ifB (decide ((z9.1 : Int) ≤ z11.1)) (
             nilc x0.a fun a53 =>
             ixn z11.1 x0.len <|
             nilc x0.a fun a54 =>
             ixn x1 x0.len <|
             ld (Addr.add a53 (z11.1.toNat * 1)) (.lf .str) fun v35 =>
             ld (Addr.add a54 (x1.toNat * 1)) (.lf .str) fun v36 =>
             cl PP 123 #[.string v35, .string v36] [.lf .bool] fun r9 =>
             ifB (!r9.1) (
              go11 (IntKind.i64.wrap (z11.1 - 1), ())) (
              j8 (z11.1, ()))) (
             j8 (z11.1, ()))))) fun j5 =>
    lp [.lf (.int .i64)] (IntKind.i64.wrap (x2 - 1), ()) fun z7 go7 =>   -- j
      ifB (decide ((z1.1 : Int) ≤ z7.1)) (
       nilc x0.a fun a35 =>
       ixn z7.1 x0.len <|
       nilc x0.a fun a36 =>
       ixn x1 x0.len <|
       ld (Addr.add a35 (z7.1.toNat * 1)) (.lf .str) fun v23 =>
       ld (Addr.add a36 (x1.toNat * 1)) (.lf .str) fun v24 =>
       cl PP 123 #[.string v23, .string v24] [.lf .bool] fun r6 =>
       ifB (!r6.1) (
        go7 (IntKind.i64.wrap (z7.1 - 1), ())) (
        j5 (z7.1, ()))) (
       j5 (z7.1, ())))
theorem e125 (x0 : SlV) (x1 : Int) (x2 : Int) (x3 : Int) (K : Value → HP) : flatFn PP h125 Try.f125 [.slice x0.a x0.len x0.cap, .int .i64 x1, .int .i64 x2, .int .i64 x3] K = t125 x0 x1 x2 x3 K := by kernel_rfl

/-- math/bits.Len64 -/
def h127 : Hints := ⟨[], [(4, [(0, .lf (.int .u64)), (2, .lf (.int .i64))]), (7, [(0, .lf (.int .u64)), (2, .lf (.int .i64))]), (10, [(0, .lf (.int .u64)), (2, .lf (.int .i64))])], []⟩
def t127 (x0 : Int) (K : Value → HP) : HP :=
  jn (fun y1 : RsV [.lf (.int .u64), .lf (.int .i64)] =>
   jn (fun y2 : RsV [.lf (.int .u64), .lf (.int .i64)] =>
    jn (fun y3 : RsV [.lf (.int .u64), .lf (.int .i64)] =>
     ixn (IntKind.u8.wrap y3.1) (ByteArray.mk #[0, 1, 2, 2, 3, 3, 3, 3, 4, 4, 4, 4, 4, 4, 4, 4, 5, 5, 5, 5, 5, 5, 5, 5, 5, 5, 5, 5, 5, 5, 5, 5, 6, 6, 6, 6, 6, 6, 6, 6, 6, 6, 6, 6, 6, 6, 6, 6, 6, 6, 6, 6, 6, 6, 6, 6, 6, 6, 6, 6, 6, 6, 6, 6, 7, 7, 7, 7, 7, 7, 7, 7, 7, 7, 7, 7, 7, 7, 7, 7, 7, 7, 7, 7, 7, 7, 7, 7, 7, 7, 7, 7, 7, 7, 7, 7, 7, 7, 7, 7, 7, 7, 7, 7, 7, 7, 7, 7, 7, 7, 7, 7, 7, 7, 7, 7, 7, 7, 7, 7, 7, 7, 7, 7, 7, 7, 7, 7, 8, 8, 8, 8, 8, 8, 8, 8, 8, 8, 8, 8, 8, 8, 8, 8, 8, 8, 8, 8, 8, 8, 8, 8, 8, 8, 8, 8, 8, 8, 8, 8, 8, 8, 8, 8, 8, 8, 8, 8, 8, 8, 8, 8, 8, 8, 8, 8, 8, 8, 8, 8, 8, 8, 8, 8, 8, 8, 8, 8, 8, 8, 8, 8, 8, 8, 8, 8, 8, 8, 8, 8, 8, 8, 8, 8, 8, 8, 8, 8, 8, 8, 8, 8, 8, 8, 8, 8, 8, 8, 8, 8, 8, 8, 8, 8, 8, 8, 8, 8, 8, 8, 8, 8, 8, 8, 8, 8, 8, 8, 8, 8, 8, 8, 8, 8, 8, 8, 8, 8, 8, 8, 8, 8, 8, 8, 8, 8]).size <|
     K (.int .i64 (IntKind.i64.wrap (y3.2.1 + (IntKind.i64.wrap (byteAt (ByteArray.mk #[0, 1, 2, 2, 3, 3, 3, 3, 4, 4, 4, 4, 4, 4, 4, 4, 5, 5, 5, 5, 5, 5, 5, 5, 5, 5, 5, 5, 5, 5, 5, 5, 6, 6, 6, 6, 6, 6, 6, 6, 6, 6, 6, 6, 6, 6, 6, 6, 6, 6, 6, 6, 6, 6, 6, 6, 6, 6, 6, 6, 6, 6, 6, 6, 7, 7, 7, 7, 7, 7, 7, 7, 7, 7, 7, 7, 7, 7, 7, 7, 7, 7, 7, 7, 7, 7, 7, 7, 7, 7, 7, 7, 7, 7, 7, 7, 7, 7, 7, 7, 7, 7, 7, 7, 7, 7, 7, 7, 7, 7, 7, 7, 7, 7, 7, 7, 7, 7, 7, 7, 7, 7, 7, 7, 7, 7, 7, 7, 8, 8, 8, 8, 8, 8, 8, 8, 8, 8, 8, 8, 8, 8, 8, 8, 8, 8, 8, 8, 8, 8, 8, 8, 8, 8, 8, 8, 8, 8, 8, 8, 8, 8, 8, 8, 8, 8, 8, 8, 8, 8, 8, 8, 8, 8, 8, 8, 8, 8, 8, 8, 8, 8, 8, 8, 8, 8, 8, 8, 8, 8, 8, 8, 8, 8, 8, 8, 8, 8, 8, 8, 8, 8, 8, 8, 8, 8, 8, 8, 8, 8, 8, 8, 8, 8, 8, 8, 8, 8, 8, 8, 8, 8, 8, 8, 8, 8, 8, 8, 8, 8, 8, 8, 8, 8, 8, 8, 8, 8, 8, 8, 8, 8, 8, 8, 8, 8, 8, 8, 8, 8, 8, 8, 8, 8, 8, 8]) (IntKind.u8.wrap y3.1))))))) fun j3 =>
    ifB (decide ((y2.1 : Int) ≥ 256)) (
      req ((0 : Int) ≤ 8) <|
      j3 (Int.fdiv y2.1 (2 ^ (min (8 : Int).toNat IntKind.u64.bits)), IntKind.i64.wrap (y2.2.1 + 8), ())) (
      j3 (y2.1, y2.2.1, ()))) fun j2 =>
   ifB (decide ((y1.1 : Int) ≥ 65536)) (
     req ((0 : Int) ≤ 16) <|
     j2 (Int.fdiv y1.1 (2 ^ (min (16 : Int).toNat IntKind.u64.bits)), IntKind.i64.wrap (y1.2.1 + 16), ())) (
     j2 (y1.1, y1.2.1, ()))) fun j1 =>
  ifB (decide ((x0 : Int) ≥ 4294967296)) (
    req ((0 : Int) ≤ 32) <|
    j1 (Int.fdiv x0 (2 ^ (min (32 : Int).toNat IntKind.u64.bits)), 32, ())) (
    j1 (x0, 0, ()))
theorem e127 (x0 : Int) (K : Value → HP) : flatFn PP h127 Try.f127 [.int .u64 x0] K = t127 x0 K := by kernel_rfl

end Go.Proofs.Ytlabcgnegbdlfaa
set_option linter.unusedVariables false
set_option maxRecDepth 100000
namespace Go.Proofs.Ytlabcgnegbdlfaa
open Go.HL
/-- slices.siftDownOrdered[string] -/
def h132 : Hints := ⟨[(0, [(8, .lf (.int .i64))])], [(5, [(9, .lf (.int .i64))])], [(6, [0, 1, 2, 3, 4, 5, 6, 7, 8, 9, 10, 11, 12, 14, 15, 16, 17, 18, 13, 19, 20, 21, 22, 23]), (5, [0, 1, 2, 3, 4, 6, 7, 8, 9, 10, 5, 11, 12, 13]), (3, [0, 1, 2, 3, 4, 5, 6, 7, 8, 9, 11, 12, 13, 14, 15, 16, 10, 17, 18, 19])]⟩
def t132 (x0 : SlV) (x1 : Int) (x2 : Int) (x3 : Int) (K : Value → HP) : HP :=
  lp [.lf (.int .i64)] (x1, ()) fun z1 go1 =>   -- root
   ifB (decide ((IntKind.i64.wrap ((IntKind.i64.wrap (2 * z1.1)) + 1) : Int) ≥ x2)) (
    K (.tuple #[])) (
    jn (fun y1 : RsV [.lf (.int .i64)] =>
     nilc x0.a fun a3 =>
     ixn (IntKind.i64.wrap (x3 + z1.1)) x0.len <|
     nilc x0.a fun a4 =>
     ixn (IntKind.i64.wrap (x3 + y1.1)) x0.len <|
     ld (Addr.add a3 ((IntKind.i64.wrap (x3 + z1.1)).toNat * 1)) (.lf .str) fun v3 =>
     ld (Addr.add a4 ((IntKind.i64.wrap (x3 + y1.1)).toNat * 1)) (.lf .str) fun v4 =>
     cl PP 123 #[.string v3, .string v4] [.lf .bool] fun r2 =>
     ifB (!r2.1) (
      K (.tuple #[])) (
      nilc x0.a fun a5 =>
      ixn (IntKind.i64.wrap (x3 + y1.1)) x0.len <|
      nilc x0.a fun a6 =>
      ixn (IntKind.i64.wrap (x3 + z1.1)) x0.len <|
      ld (Addr.add a5 ((IntKind.i64.wrap (x3 + y1.1)).toNat * 1)) (.lf .str) fun v5 =>
      ld (Addr.add a6 ((IntKind.i64.wrap (x3 + z1.1)).toNat * 1)) (.lf .str) fun v6 =>
      nilc x0.a fun a7 =>
      ixn (IntKind.i64.wrap (x3 + z1.1)) x0.len <|
      st (Addr.add a7 ((IntKind.i64.wrap (x3 + z1.1)).toNat * 1)) [.string v5] <|
      nilc x0.a fun a8 =>
      ixn (IntKind.i64.wrap (x3 + y1.1)) x0.len <|
      st (Addr.add a8 ((IntKind.i64.wrap (x3 + y1.1)).toNat * 1)) [.string v6] <|
      go1 (y1.1, ()))) fun j1 =>
    ifB (decide ((IntKind.i64.wrap ((IntKind.i64.wrap ((IntKind.i64.wrap (2 * z1.1)) + 1)) + 1) : Int) < x2)) (
      nilc x0.a fun a1 =>
      ixn (IntKind.i64.wrap (x3 + (IntKind.i64.wrap ((IntKind.i64.wrap (2 * z1.1)) + 1)))) x0.len <|
      nilc x0.a fun a2 =>
      ixn (IntKind.i64.wrap ((IntKind.i64.wrap (x3 + (IntKind.i64.wrap ((IntKind.i64.wrap (2 * z1.1)) + 1)))) + 1)) x0.len <|
      ld (Addr.add a1 ((IntKind.i64.wrap (x3 + (IntKind.i64.wrap ((IntKind.i64.wrap (2 * z1.1)) + 1)))).toNat * 1)) (.lf .str) fun v1 =>
      ld (Addr.add a2 ((IntKind.i64.wrap ((IntKind.i64.wrap (x3 + (IntKind.i64.wrap ((IntKind.i64.wrap (2 * z1.1)) + 1)))) + 1)).toNat * 1)) (.lf .str) fun v2 =>
      cl PP 123 #[.string v1, .string v2] [.lf .bool] fun r1 =>
      ifB r1.1 (
       j1 (IntKind.i64.wrap ((IntKind.i64.wrap ((IntKind.i64.wrap (2 * z1.1)) + 1)) + 1), ())) (
       j1 (IntKind.i64.wrap ((IntKind.i64.wrap (2 * z1.1)) + 1), ()))) (
      j1 (IntKind.i64.wrap ((IntKind.i64.wrap (2 * z1.1)) + 1), ())))
theorem e132 (x0 : SlV) (x1 : Int) (x2 : Int) (x3 : Int) (K : Value → HP) : flatFn PP h132 Try.f132 [.slice x0.a x0.len x0.cap, .int .i64 x1, .int .i64 x2, .int .i64 x3] K = t132 x0 x1 x2 x3 K := by kernel_rfl

/-- slices.nextPowerOfTwo -/
def h133 : Hints := ⟨[], [], []⟩
def t133 (x0 : Int) (K : Value → HP) : HP :=
  cl PP 108 #[.int .u64 (IntKind.u64.wrap x0)] [.lf (.int .i64)] fun r1 =>
  req ((0 : Int) ≤ r1.1) <|
  K (.int .u64 (IntKind.u64.wrap (1 * 2 ^ (min (r1.1 : Int).toNat IntKind.u64.bits))))
theorem e133 (x0 : Int) (K : Value → HP) : flatFn PP h133 Try.f133 [.int .i64 x0] K = t133 x0 K := by kernel_rfl

/-- (*slices.xorshift).Next -/
def h134 : Hints := ⟨[], [], [(3, [0, 1, 3, 4, 2, 5, 6, 7, 8, 9]), (2, [0, 1, 3, 4, 2, 5, 6, 7, 8, 9]), (1, [0, 1, 3, 4, 2, 5, 6, 7, 8, 9])]⟩
def t134 (x0 : Option Addr) (K : Value → HP) : HP :=
  nilc x0 fun a1 =>
  nilc x0 fun a2 =>
  ld a1 (.lf (.int .u64)) fun v1 =>
  ld a2 (.lf (.int .u64)) fun v2 =>
  req ((0 : Int) ≤ 13) <|
  nilc x0 fun a3 =>
  st a3 [.int .u64 (bitI .xor .u64 v1 (IntKind.u64.wrap (v2 * 2 ^ (min (13 : Int).toNat IntKind.u64.bits))))] <|
  nilc x0 fun a4 =>
  nilc x0 fun a5 =>
  ld a4 (.lf (.int .u64)) fun v3 =>
  ld a5 (.lf (.int .u64)) fun v4 =>
  req ((0 : Int) ≤ 7) <|
  nilc x0 fun a6 =>
  st a6 [.int .u64 (bitI .xor .u64 v3 (Int.fdiv v4 (2 ^ (min (7 : Int).toNat IntKind.u64.bits))))] <|
  nilc x0 fun a7 =>
  nilc x0 fun a8 =>
  ld a7 (.lf (.int .u64)) fun v5 =>
  ld a8 (.lf (.int .u64)) fun v6 =>
  req ((0 : Int) ≤ 17) <|
  nilc x0 fun a9 =>
  st a9 [.int .u64 (bitI .xor .u64 v5 (IntKind.u64.wrap (v6 * 2 ^ (min (17 : Int).toNat IntKind.u64.bits))))] <|
  nilc x0 fun a10 =>
  ld a10 (.lf (.int .u64)) fun v7 =>
  K (.int .u64 v7)
theorem e134 (x0 : Option Addr) (K : Value → HP) : flatFn PP h134 Try.f134 [.pointer x0] K = t134 x0 K := by kernel_rfl

/-- slices.medianAdjacentOrdered[string] -/
def h135 : Hints := ⟨[], [], []⟩
def t135 (x0 : SlV) (x1 : Int) (x2 : Option Addr) (K : Value → HP) : HP :=
  cl PP 136 #[.slice x0.a x0.len x0.cap, .int .i64 (IntKind.i64.wrap (x1 - 1)), .int .i64 x1, .int .i64 (IntKind.i64.wrap (x1 + 1)), .pointer x2] [.lf (.int .i64)] fun r1 =>
  K (.int .i64 r1.1)
theorem e135 (x0 : SlV) (x1 : Int) (x2 : Option Addr) (K : Value → HP) : flatFn PP h135 Try.f135 [.slice x0.a x0.len x0.cap, .int .i64 x1, .pointer x2] K = t135 x0 x1 x2 K := by kernel_rfl

/-- slices.medianOrdered[string] -/
def h136 : Hints := ⟨[], [], []⟩
def t136 (x0 : SlV) (x1 : Int) (x2 : Int) (x3 : Int) (x4 : Option Addr) (K : Value → HP) : HP :=
  cl PP 139 #[.slice x0.a x0.len x0.cap, .int .i64 x1, .int .i64 x2, .pointer x4] [.lf (.int .i64), .lf (.int .i64)] fun r1 =>
  cl PP 139 #[.slice x0.a x0.len x0.cap, .int .i64 r1.2.1, .int .i64 x3, .pointer x4] [.lf (.int .i64), .lf (.int .i64)] fun r2 =>
  cl PP 139 #[.slice x0.a x0.len x0.cap, .int .i64 r1.1, .int .i64 r2.1, .pointer x4] [.lf (.int .i64), .lf (.int .i64)] fun r3 =>
  K (.int .i64 r3.2.1)
theorem e136 (x0 : SlV) (x1 : Int) (x2 : Int) (x3 : Int) (x4 : Option Addr) (K : Value → HP) : flatFn PP h136 Try.f136 [.slice x0.a x0.len x0.cap, .int .i64 x1, .int .i64 x2, .int .i64 x3, .pointer x4] K = t136 x0 x1 x2 x3 x4 K := by kernel_rfl

/-- cmp.isNaN[string] -/
def h137 : Hints := ⟨[], [], []⟩
def t137 (x0 : ByteArray) (K : Value → HP) : HP :=
  K (.bool (!(ByteArray.toList x0 == ByteArray.toList x0)))
theorem e137 (x0 : ByteArray) (K : Value → HP) : flatFn PP h137 Try.f137 [.string x0] K = t137 x0 K := by kernel_rfl

/-- slices.order2Ordered[string] -/
def h139 : Hints := ⟨[], [], [(1, [0, 1, 2, 4, 5, 6, 3, 7, 8])]⟩
def t139 (x0 : SlV) (x1 : Int) (x2 : Int) (x3 : Option Addr) (K : Value → HP) : HP :=
  nilc x0.a fun a1 =>
  ixn x2 x0.len <|
  nilc x0.a fun a2 =>
  ixn x1 x0.len <|
  ld (Addr.add a1 (x2.toNat * 1)) (.lf .str) fun v1 =>
  ld (Addr.add a2 (x1.toNat * 1)) (.lf .str) fun v2 =>
  cl PP 123 #[.string v1, .string v2] [.lf .bool] fun r1 =>
  ifB r1.1 (
   nilc x3 fun a3 =>
   ld a3 (.lf (.int .i64)) fun v3 =>
   nilc x3 fun a4 =>
   st a4 [.int .i64 (IntKind.i64.wrap (v3 + 1))] <|
   K (.tuple #[.int .i64 x2, .int .i64 x1])) (
   K (.tuple #[.int .i64 x1, .int .i64 x2]))
theorem e139 (x0 : SlV) (x1 : Int) (x2 : Int) (x3 : Option Addr) (K : Value → HP) : flatFn PP h139 Try.f139 [.slice x0.a x0.len x0.cap, .int .i64 x1, .int .i64 x2, .pointer x3] K = t139 x0 x1 x2 x3 K := by kernel_rfl

end Go.Proofs.Ytlabcgnegbdlfaa
set_option linter.unusedVariables false
set_option linter.unusedSimpArgs false
namespace Go.Proofs.Ytlabcgnegbdlfaa
open Go.HL

theorem own_empty {n : Nat} {e : TypeId} : Own ⟨some ⟨n, 0, none⟩, 0, 0⟩ 1 e [] [(n, Obj.cells #[] e)] := ⟨rfl, Nat.le_refl _, .inr ⟨n, 0, #[], (0, 0), rfl, rfl, by simp, .inl (Nat.le_refl _), fun i u hu => by simp at hu⟩⟩
theorem own_nil {sz : Nat} {e : TypeId} : Own ⟨none, 0, 0⟩ sz e [] [] := ⟨by simp, Nat.le_refl _, .inl ⟨rfl, rfl, rfl⟩⟩

end Go.Proofs.Ytlabcgnegbdlfaa
set_option linter.unusedVariables false
set_option maxRecDepth 100000
namespace Go.Proofs.Ytlabcgnegbdlfaa
open Go.HL
/-- depot/depotlaw32.PlainDoes -/
def s5 (x0 : SlV) (K : Value → HP) : HP :=
  cl PP 22 #[.slice x0.a x0.len x0.cap, .int .i64 300, .int .i64 300] [.lf .bool] fun r1 =>
  ifB r1.1 (
   cl PP 24 #[] [.lf .ptr] fun r3 =>
   nw (.cells #[.slice none 0 0] 60) fun n1 =>
   lp [.lf (.int .i64)] (0, ()) fun z1 go1 =>   -- i
    ifB (decide ((z1.1 : Int) < x0.len)) (
     elp x0.a x0.len z1.1 4 fun a1 =>
     ld a1 (.agg [.int .i64, .str, .str, .bool]) fun v1 =>
     jn (fun y1 : RsV [.lf .bool, .lf .bool] =>
      ifB (!(y1.1 == y1.2.1)) (
       K (.bool false)) (
       cl PP 36 #[.pointer r3.1] [.lf .sl] fun r14 =>
       cl PP 37 #[.pointer (some ⟨n1, 0, none⟩)] [.lf .sl] fun r15 =>
       cl PP 35 #[.slice r14.1.a r14.1.len r14.1.cap, .slice r15.1.a r15.1.len r15.1.cap] [.lf .bool] fun r16 =>
       ifB r16.1 (
        w64 (z1.1 + 1) fun i1 =>
        go1 (i1, ())) (
        K (.bool false)))) fun j1 =>
     ifB (decide ((v1.1 : Int) = 0)) (
       cl PP 25 #[.pointer r3.1, .string v1.2.1, .string v1.2.2.1] [] fun r4 =>
       cl PP 26 #[.pointer (some ⟨n1, 0, none⟩), .string v1.2.1, .string v1.2.2.1] [] fun r5 =>
       j1 (true, true, ())) (
       ifB (decide ((v1.1 : Int) = 1)) (
        cl PP 27 #[.pointer r3.1, .string v1.2.1] [] fun r6 =>
        cl PP 28 #[.pointer (some ⟨n1, 0, none⟩), .string v1.2.1] [] fun r7 =>
        j1 (true, true, ())) (
        ifB (decide ((v1.1 : Int) = 2)) (
         cl PP 29 #[.pointer r3.1] [] fun r8 =>
         cl PP 30 #[.pointer (some ⟨n1, 0, none⟩)] [] fun r9 =>
         j1 (true, true, ())) (
         ifB (decide ((v1.1 : Int) = 3)) (
          cl PP 31 #[.pointer r3.1, .string v1.2.1, .string v1.2.2.1, .bool v1.2.2.2.1] [.lf .bool] fun r10 =>
          cl PP 32 #[.pointer (some ⟨n1, 0, none⟩), .string v1.2.1, .string v1.2.2.1, .bool v1.2.2.2.1] [.lf .bool] fun r11 =>
          j1 (r10.1, r11.1, ())) (
          cl PP 33 #[.pointer r3.1, .string v1.2.1, .string v1.2.2.1, .bool v1.2.2.2.1] [.lf .bool] fun r12 =>
          cl PP 34 #[.pointer (some ⟨n1, 0, none⟩), .string v1.2.1, .string v1.2.2.1, .bool v1.2.2.2.1] [.lf .bool] fun r13 =>
          j1 (r12.1, r13.1, ())))))) (
     cl PP 23 #[] [.lf .bool] fun r17 =>
     K (.bool r17.1))) (
   cl PP 23 #[] [.lf .bool] fun r2 =>
   K (.bool r2.1))
theorem c5 (x0 : SlV) {K : Value → HP} {L : HList} (h : s5 x0 (HL.Ends K) L) : CallF PP 5 #[.slice x0.a x0.len x0.cap] L K := by
  refine CallF.of (args := [.slice x0.a x0.len x0.cap]) noNum mixed Try.func5 (e5 x0 _) (fr_run ?_ h)
  unfold s5 t5
  refine fr_cl fun r1 => ?_
  refine fr_ifNot ?_ ?_
  · refine fr_cl fun r2 => ?_
    exact fr_end
  · refine fr_cl fun r3 => ?_
    refine fr_nw fun n1 => ?_
    refine fr_lp0 fun go1' go1 hgo1 z1 => ?_
    refine fr_ifB ?_ ?_
    · refine fr_elpK fun a1 ha1 => ?_
      refine fr_ld fun v1 => ?_
      refine fr_nwL fun n2 => ?_
      refine fr_stI 0 0 rfl rfl rfl rfl ?_
      refine fr_jn0 (fun y1 => ?_) fun j1' j1 hj1 => ?_
      · refine fr_ifB ?_ ?_
        · exact fr_end
        · refine fr_cl fun r14 => ?_
          refine fr_cl fun r15 => ?_
          refine fr_cl fun r16 => ?_
          refine fr_ifNot ?_ ?_
          · exact fr_end
          · refine fr_w64 ?_
            exact fr_wk (hgo1 _) rfl
      · refine fr_ldI 0 0 rfl rfl rfl ?_
        refine fr_ifEq ?_ ?_
        · refine fr_ldI 0 1 rfl rfl rfl ?_
          refine fr_ldI 0 2 rfl rfl rfl ?_
          refine fr_cl fun r4 => ?_
          refine fr_ldI 0 1 rfl rfl rfl ?_
          refine fr_ldI 0 2 rfl rfl rfl ?_
          refine fr_cl fun r5 => ?_
          exact fr_wk (hj1 _) rfl
        · refine fr_ifEq ?_ ?_
          · refine fr_ldI 0 1 rfl rfl rfl ?_
            refine fr_cl fun r6 => ?_
            refine fr_ldI 0 1 rfl rfl rfl ?_
            refine fr_cl fun r7 => ?_
            exact fr_wk (hj1 _) rfl
          · refine fr_ifEq ?_ ?_
            · refine fr_cl fun r8 => ?_
              refine fr_cl fun r9 => ?_
              exact fr_wk (hj1 _) rfl
            · refine fr_ifEq ?_ ?_
              · refine fr_ldI 0 1 rfl rfl rfl ?_
                refine fr_ldI 0 2 rfl rfl rfl ?_
                refine fr_ldI 0 3 rfl rfl rfl ?_
                refine fr_ldI 0 1 rfl rfl rfl ?_
                refine fr_ldI 0 2 rfl rfl rfl ?_
                refine fr_ldI 0 3 rfl rfl rfl ?_
                refine fr_cl fun r10 => ?_
                refine fr_keepI 0 3 rfl rfl rfl ?_
                refine fr_keepI 0 2 rfl rfl rfl ?_
                refine fr_keepI 0 1 rfl rfl rfl ?_
                refine fr_cl fun r11 => ?_
                exact fr_wk (hj1 _) rfl
              · refine fr_ldI 0 1 rfl rfl rfl ?_
                refine fr_ldI 0 2 rfl rfl rfl ?_
                refine fr_ldI 0 3 rfl rfl rfl ?_
                refine fr_ldI 0 1 rfl rfl rfl ?_
                refine fr_ldI 0 2 rfl rfl rfl ?_
                refine fr_ldI 0 3 rfl rfl rfl ?_
                refine fr_cl fun r12 => ?_
                refine fr_keepI 0 3 rfl rfl rfl ?_
                refine fr_keepI 0 2 rfl rfl rfl ?_
                refine fr_keepI 0 1 rfl rfl rfl ?_
                refine fr_cl fun r13 => ?_
                exact fr_wk (hj1 _) rfl
    · refine fr_cl fun r17 => ?_
      exact fr_end

end Go.Proofs.Ytlabcgnegbdlfaa
set_option linter.unusedVariables false
set_option maxRecDepth 100000
namespace Go.Proofs.Ytlabcgnegbdlfaa
open Go.HL
/-- depot/depotref32.Few -/
def s22 (x0 : SlV) (x1 : Int) (x2 : Int) (K : Value → HP) : HP :=
  lp [.lf (.int .i64)] (0, ()) fun z1 go1 =>   -- i
   ifB (decide ((z1.1 : Int) < x0.len)) (
    ifB (decide ((z1.1 : Int) ≤ x1)) (
     elp x0.a x0.len z1.1 4 fun a1 =>
     ld (Addr.add a1 1) (.lf .str) fun v1 =>
     ifB (decide ((v1.size : Int) > x2)) (
      K (.bool false)) (
      ld (Addr.add a1 2) (.lf .str) fun v2 =>
      ifB (decide ((v2.size : Int) > x2)) (
       K (.bool false)) (
       w64 (z1.1 + 1) fun i1 =>
       go1 (i1, ())))) (
     K (.bool (decide ((x0.len : Int) ≤ x1))))) (
    K (.bool (decide ((x0.len : Int) ≤ x1))))
theorem c22 (x0 : SlV) (x1 : Int) (x2 : Int) {K : Value → HP} {L : HList} (h : s22 x0 x1 x2 (HL.Ends K) L) : CallF PP 22 #[.slice x0.a x0.len x0.cap, .int .i64 x1, .int .i64 x2] L K := by
  refine CallF.of (args := [.slice x0.a x0.len x0.cap, .int .i64 x1, .int .i64 x2]) noNum mixed Try.func22 (e22 x0 x1 x2 _) (fr_run ?_ h)
  unfold s22 t22
  refine fr_lp0 fun go1' go1 hgo1 z1 => ?_
  refine fr_ifB ?_ ?_
  · refine fr_ifB ?_ ?_
    · refine fr_elpK fun a1 ha1 => ?_
      refine fr_ld fun v1 => ?_
      refine fr_ifB ?_ ?_
      · exact fr_end
      · refine fr_elpE ha1 ?_
        refine fr_ld fun v2 => ?_
        refine fr_ifB ?_ ?_
        · exact fr_end
        · refine fr_w64 ?_
          exact fr_wk (hgo1 _) rfl
    · exact fr_end
  · exact fr_end

/-- depot/depotlaw32.plains -/
def s23 (K : Value → HP) : HP :=
  cl PP 24 #[] [.lf .ptr] fun r1 =>
  cl PP 25 #[.pointer r1.1, .string (ByteArray.mk #[97]), .string (ByteArray.mk #[49])] [] fun r2 =>
  cl PP 25 #[.pointer r1.1, .string (ByteArray.mk #[97]), .string (ByteArray.mk #[50])] [] fun r3 =>
  cl PP 31 #[.pointer r1.1, .string (ByteArray.mk #[97]), .string (ByteArray.mk #[50]), .bool true] [.lf .bool] fun r4 =>
  cl PP 31 #[.pointer r1.1, .string (ByteArray.mk #[97]), .string (ByteArray.mk #[49]), .bool true] [.lf .bool] fun r5 =>
  cl PP 33 #[.pointer r1.1, .string (ByteArray.mk #[97]), .string (ByteArray.mk #[49]), .bool true] [.lf .bool] fun r6 =>
  cl PP 31 #[.pointer r1.1, .string (ByteArray.mk #[97]), .string (ByteArray.mk #[49]), .bool true] [.lf .bool] fun r7 =>
  cl PP 25 #[.pointer r1.1, .string (ByteArray.mk #[97]), .string (ByteArray.mk #[50])] [] fun r8 =>
  cl PP 29 #[.pointer r1.1] [] fun r9 =>
  cl PP 33 #[.pointer r1.1, .string (ByteArray.mk #[97]), .string (ByteArray.mk #[49]), .bool true] [.lf .bool] fun r10 =>
  cl PP 25 #[.pointer r1.1, .string (ByteArray.mk #[66]), .string (ByteArray.mk #[120])] [] fun r11 =>
  cl PP 27 #[.pointer r1.1, .string (ByteArray.mk #[66])] [] fun r12 =>
  cl PP 25 #[.pointer none, .string (ByteArray.mk #[97]), .string (ByteArray.mk #[49])] [] fun r13 =>
  ifB r4.1 (
   ifB r5.1 (
    K (.bool false)) (
    ifB r6.1 (
     ifB r7.1 (
      ifB r10.1 (
       K (.bool false)) (
       cl PP 31 #[.pointer r1.1, .string (ByteArray.mk #[66]), .string (ByteArray.mk #[]), .bool false] [.lf .bool] fun r14 =>
       ifB r14.1 (
        cl PP 31 #[.pointer r1.1, .string (ByteArray.mk #[66]), .string (ByteArray.mk #[120]), .bool true] [.lf .bool] fun r15 =>
        ifB r15.1 (
         K (.bool false)) (
         cl PP 33 #[.pointer r1.1, .string (ByteArray.mk #[66]), .string (ByteArray.mk #[120]), .bool true] [.lf .bool] fun r16 =>
         ifB r16.1 (
          cl PP 36 #[.pointer r1.1] [.lf .sl] fun r17 =>
          nw (.cells #[.string (ByteArray.mk #[66]), .string (ByteArray.mk #[97])] 9) fun n1 =>
          cl PP 35 #[.slice r17.1.a r17.1.len r17.1.cap, .slice (some ⟨n1, 0, none⟩) 2 2] [.lf .bool] fun r18 =>
          ifB r18.1 (
           cl PP 31 #[.pointer none, .string (ByteArray.mk #[97]), .string (ByteArray.mk #[]), .bool false] [.lf .bool] fun r19 =>
           ifB r19.1 (
            cl PP 33 #[.pointer none, .string (ByteArray.mk #[97]), .string (ByteArray.mk #[49]), .bool true] [.lf .bool] fun r20 =>
            ifB r20.1 (
             K (.bool false)) (
             cl PP 36 #[.pointer none] [.lf .sl] fun r21 =>
             K (.bool ((r21.1.len : Int) == 0)))) (
            K (.bool false))) (
           K (.bool false))) (
          K (.bool false)))) (
        K (.bool false)))) (
      K (.bool false))) (
     K (.bool false)))) (
   K (.bool false))
theorem c23 {K : Value → HP} {L : HList} (h : s23 (HL.Ends K) L) : CallF PP 23 #[] L K := by
  refine CallF.of (args := []) noNum mixed Try.func23 (e23 _) (fr_run ?_ h)
  unfold s23 t23
  refine fr_cl fun r1 => ?_
  refine fr_cl fun r2 => ?_
  refine fr_cl fun r3 => ?_
  refine fr_cl fun r4 => ?_
  refine fr_cl fun r5 => ?_
  refine fr_cl fun r6 => ?_
  refine fr_cl fun r7 => ?_
  refine fr_cl fun r8 => ?_
  refine fr_cl fun r9 => ?_
  refine fr_cl fun r10 => ?_
  refine fr_cl fun r11 => ?_
  refine fr_cl fun r12 => ?_
  refine fr_cl fun r13 => ?_
  refine fr_ifB ?_ ?_
  · refine fr_ifNot ?_ ?_
    · refine fr_ifB ?_ ?_
      · refine fr_ifB ?_ ?_
        · refine fr_ifNot ?_ ?_
          · refine fr_cl fun r14 => ?_
            refine fr_ifB ?_ ?_
            · refine fr_cl fun r15 => ?_
              refine fr_ifNot ?_ ?_
              · refine fr_cl fun r16 => ?_
                refine fr_ifB ?_ ?_
                · refine fr_cl fun r17 => ?_
                  refine fr_nw fun n1 => ?_
                  refine fr_cl fun r18 => ?_
                  refine fr_ifB ?_ ?_
                  · refine fr_cl fun r19 => ?_
                    refine fr_ifB ?_ ?_
                    · refine fr_cl fun r20 => ?_
                      refine fr_ifNot ?_ ?_
                      · refine fr_cl fun r21 => ?_
                        exact fr_end
                      · exact fr_end
                    · exact fr_end
                  · exact fr_end
                · exact fr_end
              · exact fr_end
            · exact fr_end
          · exact fr_end
        · exact fr_end
      · exact fr_end
    · exact fr_end
  · exact fr_end

/-- depot/plain.New -/
def s24 (K : Value → HP) : HP :=
  nw (.map #[] 0) fun n1 =>
  nw (.cells #[.map (some n1)] 138) fun n2 =>
  K (.pointer (some ⟨n2, 0, none⟩))
theorem c24 {K : Value → HP} {L : HList} (h : s24 (HL.Ends K) L) : CallF PP 24 #[] L K := by
  refine CallF.of (args := []) noNum mixed Try.func24 (e24 _) (fr_run ?_ h)
  unfold s24 t24
  refine fr_nw fun n1 => ?_
  refine fr_nw fun n2 => ?_
  exact fr_end

/-- (*depot/plain.Plain).Put -/
def s25 (x0 : Option Addr) (x1 : ByteArray) (x2 : ByteArray) (K : Value → HP) : HP :=
  ifB (Option.isNone x0) (
   K (.tuple #[])) (
   cl PP 74 #[.pointer x0, .string x1] [.lf .ptr] fun r1 =>
   jn (fun y1 : RsV [.lf .ptr] =>
    nilc y1.1 fun a2 =>
    st a2 [.string x2, .bool true] <|
    ld (Addr.add a2 2) (.lf .map) fun v2 =>
    smU PP (Instr.mapUpdate 141 (.map v2) (.string x2) (.bool true)) <|
    K (.tuple #[])) fun j1 =>
   ifB (Option.isNone r1.1) (
     nw (.map #[] 0) fun n1 =>
     nw (.cells #[.string ByteArray.empty, .bool false, .map (some n1)] 145) fun n2 =>
     nilc x0 fun a1 =>
     ld a1 (.lf .map) fun v1 =>
     smU PP (Instr.mapUpdate 136 (.map v1) (.string x1) (.pointer (some ⟨n2, 0, none⟩))) <|
     j1 ((some ⟨n2, 0, none⟩), ())) (
     j1 (r1.1, ())))
theorem c25 (x0 : Option Addr) (x1 : ByteArray) (x2 : ByteArray) {K : Value → HP} {L : HList} (h : s25 x0 x1 x2 (HL.Ends K) L) : CallF PP 25 #[.pointer x0, .string x1, .string x2] L K := by
  refine CallF.of (args := [.pointer x0, .string x1, .string x2]) noNum mixed Try.func25 (e25 x0 x1 x2 _) (fr_run ?_ h)
  unfold s25 t25
  refine fr_ifB ?_ ?_
  · exact fr_end
  · refine fr_cl fun r1 => ?_
    refine fr_jn0 (fun y1 => ?_) fun j1' j1 hj1 => ?_
    · refine fr_nilcK fun a2 ha2 => ?_
      refine fr_st ?_
      refine fr_nilcE ha2 ?_
      refine fr_ld fun v2 => ?_
      refine fr_smU ?_
      exact fr_end
    · refine fr_ifB ?_ ?_
      · refine fr_nw fun n1 => ?_
        refine fr_nw fun n2 => ?_
        refine fr_nilcK fun a1 ha1 => ?_
        refine fr_ld fun v1 => ?_
        refine fr_smU ?_
        exact fr_wk (hj1 _) rfl
      · exact fr_wk (hj1 _) rfl

/-- (*depot/depotref32.Plain).Put -/
def s26 (x0 : Option Addr) (x1 : ByteArray) (x2 : ByteArray) (K : Value → HP) : HP :=
  cl PP 75 #[.pointer x0, .string x1] [.lf .ptr] fun r1 =>
  nilc r1.1 fun a1 =>
  st (Addr.add a1 1) [.bool true] <|
  st (Addr.add a1 2) [.string x2] <|
  ld (Addr.add a1 3) (.lf .sl) fun v1 =>
  apv PP 67 67 67 9 v1 1 [.string x2] fun s1 =>
  st (Addr.add a1 3) [.slice s1.a s1.len s1.cap] <|
  K (.tuple #[])
theorem c26 (x0 : Option Addr) (x1 : ByteArray) (x2 : ByteArray) {K : Value → HP} {L : HList} (h : s26 x0 x1 x2 (HL.Ends K) L) : CallF PP 26 #[.pointer x0, .string x1, .string x2] L K := by
  refine CallF.of (args := [.pointer x0, .string x1, .string x2]) noNum mixed Try.func26 (e26 x0 x1 x2 _) (fr_run ?_ h)
  unfold s26 t26
  refine fr_cl fun r1 => ?_
  refine fr_nilcK fun a1 ha1 => ?_
  refine fr_st ?_
  refine fr_nilcE ha1 ?_
  refine fr_st ?_
  refine fr_nilcE ha1 ?_
  refine fr_ld fun v1 => ?_
  refine fr_nwL fun n1 => ?_
  refine fr_apv (v := _) 0 rfl fun s1 => ?_
  refine fr_nilcE ha1 ?_
  refine fr_st ?_
  exact fr_end

/-- (*depot/plain.Plain).Delete -/
def s27 (x0 : Option Addr) (x1 : ByteArray) (K : Value → HP) : HP :=
  cl PP 74 #[.pointer x0, .string x1] [.lf .ptr] fun r1 =>
  ifB (Option.isNone r1.1) (
   K (.tuple #[])) (
   nilc r1.1 fun a1 =>
   st a1 [.string ByteArray.empty, .bool false] <|
   K (.tuple #[]))
theorem c27 (x0 : Option Addr) (x1 : ByteArray) {K : Value → HP} {L : HList} (h : s27 x0 x1 (HL.Ends K) L) : CallF PP 27 #[.pointer x0, .string x1] L K := by
  refine CallF.of (args := [.pointer x0, .string x1]) noNum mixed Try.func27 (e27 x0 x1 _) (fr_run ?_ h)
  unfold s27 t27
  refine fr_cl fun r1 => ?_
  refine fr_ifNot ?_ ?_
  · refine fr_nilcK fun a1 ha1 => ?_
    refine fr_st ?_
    exact fr_end
  · exact fr_end

/-- (*depot/depotref32.Plain).Delete -/
def s28 (x0 : Option Addr) (x1 : ByteArray) (K : Value → HP) : HP :=
  cl PP 76 #[.pointer x0, .string x1] [.lf .bool] fun r1 =>
  ifB r1.1 (
   cl PP 75 #[.pointer x0, .string x1] [.lf .ptr] fun r2 =>
   nilc r2.1 fun a1 =>
   st (Addr.add a1 1) [.bool false] <|
   st (Addr.add a1 2) [.string (ByteArray.mk #[])] <|
   K (.tuple #[])) (
   K (.tuple #[]))
theorem c28 (x0 : Option Addr) (x1 : ByteArray) {K : Value → HP} {L : HList} (h : s28 x0 x1 (HL.Ends K) L) : CallF PP 28 #[.pointer x0, .string x1] L K := by
  refine CallF.of (args := [.pointer x0, .string x1]) noNum mixed Try.func28 (e28 x0 x1 _) (fr_run ?_ h)
  unfold s28 t28
  refine fr_cl fun r1 => ?_
  refine fr_ifB ?_ ?_
  · refine fr_cl fun r2 => ?_
    refine fr_nilcK fun a1 ha1 => ?_
    refine fr_st ?_
    refine fr_nilcE ha1 ?_
    refine fr_st ?_
    exact fr_end
  · exact fr_end

/-- (*depot/plain.Plain).Flushed -/
def s29 (x0 : Option Addr) (K : Value → HP) : HP :=
  ifB (Option.isNone x0) (
   K (.tuple #[])) (
   cl PP 36 #[.pointer x0] [.lf .sl] fun r1 =>
   lp [.lf (.int .i64)] (0, ()) fun z1 go1 =>   -- 
    ifB (decide ((z1.1 : Int) < r1.1.len)) (
     elp r1.1.a r1.1.len z1.1 1 fun a1 =>
     ld a1 (.lf .str) fun v1 =>
     nilc x0 fun a2 =>
     ld a2 (.lf .map) fun v2 =>
     smR PP (Instr.lookup 136 (.map v2) (.string v1) false) [.lf .ptr] fun v3 =>
     cl PP 77 #[.pointer v3.1] [] fun r2 =>
     w64 (z1.1 + 1) fun i1 =>
     go1 (i1, ())) (
     K (.tuple #[])))
theorem c29 (x0 : Option Addr) {K : Value → HP} {L : HList} (h : s29 x0 (HL.Ends K) L) : CallF PP 29 #[.pointer x0] L K := by
  refine CallF.of (args := [.pointer x0]) noNum mixed Try.func29 (e29 x0 _) (fr_run ?_ h)
  unfold s29 t29
  refine fr_ifB ?_ ?_
  · exact fr_end
  · refine fr_cl fun r1 => ?_
    refine fr_lp0 fun go1' go1 hgo1 z1 => ?_
    refine fr_ifB ?_ ?_
    · refine fr_elpK fun a1 ha1 => ?_
      refine fr_ld fun v1 => ?_
      refine fr_nilcK fun a2 ha2 => ?_
      refine fr_ld fun v2 => ?_
      refine fr_smR fun v3 => ?_
      refine fr_cl fun r2 => ?_
      refine fr_w64 ?_
      exact fr_wk (hgo1 _) rfl
    · exact fr_end

/-- (*depot/depotref32.Plain).Flushed -/
def s30 (x0 : Option Addr) (K : Value → HP) : HP :=
  lp [.lf (.int .i64)] (0, ()) fun z1 go1 =>   -- i
   nilc x0 fun a1 =>
   ld a1 (.lf .sl) fun v1 =>
   ifB (decide ((z1.1 : Int) < v1.len)) (
    ld a1 (.lf .sl) fun v2 =>
    elp v2.a v2.len z1.1 4 fun a2 =>
    st (Addr.add a2 3) [.slice none 0 0] <|
    ld a1 (.lf .sl) fun v3 =>
    elp v3.a v3.len z1.1 4 fun a3 =>
    ld (Addr.add a3 1) (.lf .bool) fun v4 =>
    ifB v4 (
     ld a1 (.lf .sl) fun v5 =>
     ld a1 (.lf .sl) fun v6 =>
     elp v6.a v6.len z1.1 4 fun a4 =>
     ld (Addr.add a4 2) (.lf .str) fun v7 =>
     nw (.cells #[.string v7] 9) fun n1 =>
     elp v5.a v5.len z1.1 4 fun a5 =>
     st (Addr.add a5 3) [.slice (some ⟨n1, 0, none⟩) 1 1] <|
     w64 (z1.1 + 1) fun i1 =>
     go1 (i1, ())) (
     w64 (z1.1 + 1) fun i2 =>
     go1 (i2, ()))) (
    K (.tuple #[]))
theorem c30 (x0 : Option Addr) {K : Value → HP} {L : HList} (h : s30 x0 (HL.Ends K) L) : CallF PP 30 #[.pointer x0] L K := by
  refine CallF.of (args := [.pointer x0]) noNum mixed Try.func30 (e30 x0 _) (fr_run ?_ h)
  unfold s30 t30
  refine fr_lp0 fun go1' go1 hgo1 z1 => ?_
  refine fr_nilcK fun a1 ha1 => ?_
  refine fr_ld fun v1 => ?_
  refine fr_ifB ?_ ?_
  · refine fr_nilcE ha1 ?_
    refine fr_ld fun v2 => ?_
    refine fr_elpK fun a2 ha2 => ?_
    refine fr_st ?_
    refine fr_nilcE ha1 ?_
    refine fr_ld fun v3 => ?_
    refine fr_elpK fun a3 ha3 => ?_
    refine fr_ld fun v4 => ?_
    refine fr_ifB ?_ ?_
    · refine fr_nilcE ha1 ?_
      refine fr_nilcE ha1 ?_
      refine fr_ld fun v5 => ?_
      refine fr_ld fun v6 => ?_
      refine fr_elpK fun a4 ha4 => ?_
      refine fr_ld fun v7 => ?_
      refine fr_nw fun n1 => ?_
      refine fr_elpK fun a5 ha5 => ?_
      refine fr_st ?_
      refine fr_w64 ?_
      exact fr_wk (hgo1 _) rfl
    · refine fr_w64 ?_
      exact fr_wk (hgo1 _) rfl
  · exact fr_end

/-- (*depot/plain.Plain).May -/
def s31 (x0 : Option Addr) (x1 : ByteArray) (x2 : ByteArray) (x3 : Bool) (K : Value → HP) : HP :=
  cl PP 74 #[.pointer x0, .string x1] [.lf .ptr] fun r1 =>
  ifB x3 (
   ifB (Option.isNone r1.1) (
    K (.bool false)) (
    nilc r1.1 fun a1 =>
    ld a1 (.agg [.str, .bool]) fun v1 =>
    smP PP (binOp .eql 143 (.agg #[.string v1.1, .bool v1.2.1]) (.agg #[.string x2, .bool true])) (.lf .bool) fun v2 =>
    K (.bool v2))) (
   K (.bool true))
theorem c31 (x0 : Option Addr) (x1 : ByteArray) (x2 : ByteArray) (x3 : Bool) {K : Value → HP} {L : HList} (h : s31 x0 x1 x2 x3 (HL.Ends K) L) : CallF PP 31 #[.pointer x0, .string x1, .string x2, .bool x3] L K := by
  refine CallF.of (args := [.pointer x0, .string x1, .string x2, .bool x3]) noNum mixed Try.func31 (e31 x0 x1 x2 x3 _) (fr_run ?_ h)
  unfold s31 t31
  refine fr_cl fun r1 => ?_
  refine fr_ifNot ?_ ?_
  · exact fr_end
  · refine fr_ifNot ?_ ?_
    · refine fr_nilcK fun a1 ha1 => ?_
      refine fr_ld fun v1 => ?_
      refine fr_smP fun v2 => ?_
      exact fr_end
    · exact fr_end

/-- (*depot/depotref32.Plain).May -/
def s32 (x0 : Option Addr) (x1 : ByteArray) (x2 : ByteArray) (x3 : Bool) (K : Value → HP) : HP :=
  ifB x3 (
   lp [.lf (.int .i64)] (0, ()) fun z1 go1 =>   -- i
    nilc x0 fun a1 =>
    ld a1 (.lf .sl) fun v1 =>
    ifB (decide ((z1.1 : Int) < v1.len)) (
     ld a1 (.lf .sl) fun v2 =>
     elp v2.a v2.len z1.1 4 fun a2 =>
     ld a2 (.lf .str) fun v3 =>
     ifB (decide (v3 = x1)) (
      ld a1 (.lf .sl) fun v4 =>
      elp v4.a v4.len z1.1 4 fun a3 =>
      ld (Addr.add a3 1) (.lf .bool) fun v5 =>
      ifB v5 (
       ld a1 (.lf .sl) fun v6 =>
       elp v6.a v6.len z1.1 4 fun a4 =>
       ld (Addr.add a4 2) (.lf .str) fun v7 =>
       K (.bool (ByteArray.toList v7 == ByteArray.toList x2))) (
       K (.bool false))) (
      w64 (z1.1 + 1) fun i1 =>
      go1 (i1, ()))) (
     K (.bool false))) (
   K (.bool true))
theorem c32 (x0 : Option Addr) (x1 : ByteArray) (x2 : ByteArray) (x3 : Bool) {K : Value → HP} {L : HList} (h : s32 x0 x1 x2 x3 (HL.Ends K) L) : CallF PP 32 #[.pointer x0, .string x1, .string x2, .bool x3] L K := by
  refine CallF.of (args := [.pointer x0, .string x1, .string x2, .bool x3]) noNum mixed Try.func32 (e32 x0 x1 x2 x3 _) (fr_run ?_ h)
  unfold s32 t32
  refine fr_ifNot ?_ ?_
  · exact fr_end
  · refine fr_lp0 fun go1' go1 hgo1 z1 => ?_
    refine fr_nilcK fun a1 ha1 => ?_
    refine fr_ld fun v1 => ?_
    refine fr_ifB ?_ ?_
    · refine fr_nilcE ha1 ?_
      refine fr_ld fun v2 => ?_
      refine fr_elpK fun a2 ha2 => ?_
      refine fr_ld fun v3 => ?_
      refine fr_ifS ?_ ?_
      · refine fr_nilcE ha1 ?_
        refine fr_ld fun v4 => ?_
        refine fr_elpK fun a3 ha3 => ?_
        refine fr_ld fun v5 => ?_
        refine fr_ifB ?_ ?_
        · refine fr_nilcE ha1 ?_
          refine fr_ld fun v6 => ?_
          refine fr_elpK fun a4 ha4 => ?_
          refine fr_ld fun v7 => ?_
          exact fr_end
        · exact fr_end
      · refine fr_w64 ?_
        exact fr_wk (hgo1 _) rfl
    · exact fr_end

/-- (*depot/plain.Plain).Crashed -/
def s33 (x0 : Option Addr) (x1 : ByteArray) (x2 : ByteArray) (x3 : Bool) (K : Value → HP) : HP :=
  cl PP 74 #[.pointer x0, .string x1] [.lf .ptr] fun r1 =>
  ifB (Option.isNone r1.1) (
   K (.bool (!x3))) (
   ifB x3 (
    nilc r1.1 fun a2 =>
    ld (Addr.add a2 2) (.lf .map) fun v1 =>
    smR PP (Instr.lookup 141 (.map v1) (.string x2) false) [.lf .bool] fun v2 =>
    ifB v2.1 (
     st a2 [.string x2, .bool true] <|
     cl PP 77 #[.pointer r1.1] [] fun r2 =>
     K (.bool true)) (
     K (.bool false))) (
    nilc r1.1 fun a1 =>
    st a1 [.string ByteArray.empty, .bool false] <|
    K (.bool true)))
theorem c33 (x0 : Option Addr) (x1 : ByteArray) (x2 : ByteArray) (x3 : Bool) {K : Value → HP} {L : HList} (h : s33 x0 x1 x2 x3 (HL.Ends K) L) : CallF PP 33 #[.pointer x0, .string x1, .string x2, .bool x3] L K := by
  refine CallF.of (args := [.pointer x0, .string x1, .string x2, .bool x3]) noNum mixed Try.func33 (e33 x0 x1 x2 x3 _) (fr_run ?_ h)
  unfold s33 t33
  refine fr_cl fun r1 => ?_
  refine fr_ifB ?_ ?_
  · exact fr_end
  · refine fr_ifNot ?_ ?_
    · refine fr_nilcK fun a1 ha1 => ?_
      refine fr_st ?_
      exact fr_end
    · refine fr_nilcK fun a2 ha2 => ?_
      refine fr_ld fun v1 => ?_
      refine fr_smR fun v2 => ?_
      refine fr_ifNot ?_ ?_
      · exact fr_end
      · refine fr_nilcE ha2 ?_
        refine fr_st ?_
        refine fr_cl fun r2 => ?_
        exact fr_end

/-- (*depot/depotref32.Plain).Crashed -/
def s34 (x0 : Option Addr) (x1 : ByteArray) (x2 : ByteArray) (x3 : Bool) (K : Value → HP) : HP :=
  cl PP 76 #[.pointer x0, .string x1] [.lf .bool] fun r1 =>
  ifB r1.1 (
   cl PP 75 #[.pointer x0, .string x1] [.lf .ptr] fun r2 =>
   ifB x3 (
    lp [.lf (.int .i64)] (0, ()) fun z1 go1 =>   -- i
     nilc r2.1 fun a2 =>
     ld (Addr.add a2 3) (.lf .sl) fun v1 =>
     ifB (decide ((z1.1 : Int) < v1.len)) (
      ld (Addr.add a2 3) (.lf .sl) fun v2 =>
      elp v2.a v2.len z1.1 1 fun a3 =>
      ld a3 (.lf .str) fun v3 =>
      ifB (decide (v3 = x2)) (
       nw (.cells #[.string x2] 9) fun n1 =>
       st (Addr.add a2 1) [.bool true] <|
       st (Addr.add a2 2) [.string x2] <|
       st (Addr.add a2 3) [.slice (some ⟨n1, 0, none⟩) 1 1] <|
       K (.bool true)) (
       w64 (z1.1 + 1) fun i1 =>
       go1 (i1, ()))) (
      K (.bool false))) (
    nilc r2.1 fun a1 =>
    st (Addr.add a1 1) [.bool false] <|
    st (Addr.add a1 2) [.string (ByteArray.mk #[])] <|
    K (.bool true))) (
   K (.bool (!x3)))
theorem c34 (x0 : Option Addr) (x1 : ByteArray) (x2 : ByteArray) (x3 : Bool) {K : Value → HP} {L : HList} (h : s34 x0 x1 x2 x3 (HL.Ends K) L) : CallF PP 34 #[.pointer x0, .string x1, .string x2, .bool x3] L K := by
  refine CallF.of (args := [.pointer x0, .string x1, .string x2, .bool x3]) noNum mixed Try.func34 (e34 x0 x1 x2 x3 _) (fr_run ?_ h)
  unfold s34 t34
  refine fr_cl fun r1 => ?_
  refine fr_ifNot ?_ ?_
  · exact fr_end
  · refine fr_cl fun r2 => ?_
    refine fr_ifNot ?_ ?_
    · refine fr_nilcK fun a1 ha1 => ?_
      refine fr_st ?_
      refine fr_nilcE ha1 ?_
      refine fr_st ?_
      exact fr_end
    · refine fr_lp0 fun go1' go1 hgo1 z1 => ?_
      refine fr_nilcK fun a2 ha2 => ?_
      refine fr_ld fun v1 => ?_
      refine fr_ifB ?_ ?_
      · refine fr_nilcE ha2 ?_
        refine fr_ld fun v2 => ?_
        refine fr_elpK fun a3 ha3 => ?_
        refine fr_ld fun v3 => ?_
        refine fr_ifS ?_ ?_
        · refine fr_nw fun n1 => ?_
          refine fr_nilcE ha2 ?_
          refine fr_st ?_
          refine fr_nilcE ha2 ?_
          refine fr_st ?_
          refine fr_nilcE ha2 ?_
          refine fr_st ?_
          exact fr_end
        · refine fr_w64 ?_
          exact fr_wk (hgo1 _) rfl
      · exact fr_end

/-- depot/depotref06.Same -/
def s35 (x0 : SlV) (x1 : SlV) (K : Value → HP) : HP :=
  ifB (decide ((x0.len : Int) = x1.len)) (
   lp [.lf (.int .i64)] (0, ()) fun z1 go1 =>   -- i
    ifB (decide ((z1.1 : Int) < x0.len)) (
     elp x0.a x0.len z1.1 1 fun a1 =>
     elp x1.a x1.len z1.1 1 fun a2 =>
     ld a1 (.lf .str) fun v1 =>
     ld a2 (.lf .str) fun v2 =>
     ifB (decide (v1 = v2)) (
      w64 (z1.1 + 1) fun i1 =>
      go1 (i1, ())) (
      K (.bool false))) (
     K (.bool true))) (
   K (.bool false))
theorem c35 (x0 : SlV) (x1 : SlV) {K : Value → HP} {L : HList} (h : s35 x0 x1 (HL.Ends K) L) : CallF PP 35 #[.slice x0.a x0.len x0.cap, .slice x1.a x1.len x1.cap] L K := by
  refine CallF.of (args := [.slice x0.a x0.len x0.cap, .slice x1.a x1.len x1.cap]) noNum mixed Try.func35 (e35 x0 x1 _) (fr_run ?_ h)
  unfold s35 t35
  refine fr_ifNe ?_ ?_
  · exact fr_end
  · refine fr_lp0 fun go1' go1 hgo1 z1 => ?_
    refine fr_ifB ?_ ?_
    · refine fr_elpK fun a1 ha1 => ?_
      refine fr_elpK fun a2 ha2 => ?_
      refine fr_ld fun v1 => ?_
      refine fr_ld fun v2 => ?_
      refine fr_ifSn ?_ ?_
      · exact fr_end
      · refine fr_w64 ?_
        exact fr_wk (hgo1 _) rfl
    · exact fr_end

/-- (*depot/plain.Plain).Keys -/
def s36 (x0 : Option Addr) (K : Value → HP) : HP :=
  ifB (Option.isNone x0) (
   K (.slice none 0 0)) (
   nilc x0 fun a1 =>
   ld a1 (.lf .map) fun v1 =>
   smW PP (Instr.range 136 (.map v1)) [.lf .ptr] fun v2 =>
   lp [.lf .sl] (⟨none, 0, 0⟩, ()) fun z1 go1 =>   -- l
    smN PP (Instr.next (.pointer v2.1) false 0) none none (
     cl PP 78 #[.slice z1.1.a z1.1.len z1.1.cap] [] fun r1 =>
     K (.slice z1.1.a z1.1.len z1.1.cap)) fun v3 v4 =>
    smE PP (Instr.entry (.pointer v2.1)) (some (.lf .str)) none fun v5 v6 =>
    apv PP 67 67 67 9 z1.1 1 [.string v5] fun s1 =>
    go1 (s1, ()))
theorem c36 (x0 : Option Addr) {K : Value → HP} {L : HList} (h : s36 x0 (HL.Ends K) L) : CallF PP 36 #[.pointer x0] L K := by
  refine CallF.of (args := [.pointer x0]) noNum mixed Try.func36 (e36 x0 _) (fr_run ?_ h)
  unfold s36 t36
  refine fr_ifB ?_ ?_
  · exact fr_end
  · refine fr_nilcK fun a1 ha1 => ?_
    refine fr_ld fun v1 => ?_
    refine fr_smW fun v2 => ?_
    refine fr_lp0 fun go1' go1 hgo1 z1 => ?_
    refine fr_smN ?_ fun v3 v4 => ?_
    · refine fr_cl fun r1 => ?_
      exact fr_end
    · refine fr_smE fun v5 v6 => ?_
      refine fr_nwL fun n1 => ?_
      refine fr_apv (v := _) 0 rfl fun s1 => ?_
      exact fr_wk (hgo1 _) rfl

/-- (*depot/depotref32.Plain).Keys -/
def s37 (x0 : Option Addr) (K : Value → HP) : HP :=
  lp [.lf .sl, .lf (.int .i64)] (⟨none, 0, 0⟩, 0, ()) fun z1 go1 =>   -- out, i
   nilc x0 fun a1 =>
   ld a1 (.lf .sl) fun v1 =>
   ifB (decide ((z1.2.1 : Int) < v1.len)) (
    lp [.lf (.int .i64)] (0, ()) fun z2 go2 =>   -- at
     ifB (decide ((z2.1 : Int) < z1.1.len)) (
      elp z1.1.a z1.1.len z2.1 1 fun a2 =>
      ld a2 (.lf .str) fun v2 =>
      ld a1 (.lf .sl) fun v3 =>
      elp v3.a v3.len z1.2.1 4 fun a3 =>
      ld a3 (.lf .str) fun v4 =>
      cl PP 79 #[.string v2, .string v4] [.lf .bool] fun r1 =>
      ifB r1.1 (
       w64 (z2.1 + 1) fun i1 =>
       go2 (i1, ())) (
       nw (.cells #[] 9) fun n1 =>
       slc z1.1 0 z2.1 z1.1.cap 1 fun s1 =>
       smW PP (Builtin.append_ #[67, 67] 67 #[.slice (some ⟨n1, 0, none⟩) 0 0, .slice s1.a s1.len s1.cap]) [.lf .sl] fun v5 =>
       slc z1.1 z2.1 z1.1.len z1.1.cap 1 fun s2 =>
       ld a1 (.lf .sl) fun v6 =>
       elp v6.a v6.len z1.2.1 4 fun a4 =>
       ld a4 (.lf .str) fun v7 =>
       apv PP 67 67 67 9 v5.1 1 [.string v7] fun s3 =>
       smW PP (Builtin.append_ #[67, 67] 67 #[.slice s3.a s3.len s3.cap, .slice s2.a s2.len s2.cap]) [.lf .sl] fun v8 =>
       w64 (z1.2.1 + 1) fun i2 =>
       go1 (v8.1, i2, ()))) (
      nw (.cells #[] 9) fun n3 =>
      slc z1.1 0 z2.1 z1.1.cap 1 fun s4 =>
      smW PP (Builtin.append_ #[67, 67] 67 #[.slice (some ⟨n3, 0, none⟩) 0 0, .slice s4.a s4.len s4.cap]) [.lf .sl] fun v9 =>
      slc z1.1 z2.1 z1.1.len z1.1.cap 1 fun s5 =>
      ld a1 (.lf .sl) fun v10 =>
      elp v10.a v10.len z1.2.1 4 fun a5 =>
      ld a5 (.lf .str) fun v11 =>
      apv PP 67 67 67 9 v9.1 1 [.string v11] fun s6 =>
      smW PP (Builtin.append_ #[67, 67] 67 #[.slice s6.a s6.len s6.cap, .slice s5.a s5.len s5.cap]) [.lf .sl] fun v12 =>
      w64 (z1.2.1 + 1) fun i3 =>
      go1 (v12.1, i3, ()))) (
    K (.slice z1.1.a z1.1.len z1.1.cap))
theorem c37 (x0 : Option Addr) {K : Value → HP} {L : HList} (h : s37 x0 (HL.Ends K) L) : CallF PP 37 #[.pointer x0] L K := by
  refine CallF.of (args := [.pointer x0]) noNum mixed Try.func37 (e37 x0 _) (fr_run ?_ h)
  unfold s37 t37
  refine fr_lp0 fun go1' go1 hgo1 z1 => ?_
  refine fr_nilcK fun a1 ha1 => ?_
  refine fr_ld fun v1 => ?_
  refine fr_ifB ?_ ?_
  · refine fr_lp0 fun go2' go2 hgo2 z2 => ?_
    refine fr_ifB ?_ ?_
    · refine fr_elpK fun a2 ha2 => ?_
      refine fr_nilcE ha1 ?_
      refine fr_ld fun v2 => ?_
      refine fr_ld fun v3 => ?_
      refine fr_elpK fun a3 ha3 => ?_
      refine fr_ld fun v4 => ?_
      refine fr_cl fun r1 => ?_
      refine fr_ifB ?_ ?_
      · refine fr_w64 ?_
        exact fr_wk (hgo2 _) rfl
      · refine fr_nw fun n1 => ?_
        refine fr_slc fun s1 => ?_
        refine fr_smW fun v5 => ?_
        refine fr_nilcE ha1 ?_
        refine fr_slc fun s2 => ?_
        refine fr_ld fun v6 => ?_
        refine fr_elpK fun a4 ha4 => ?_
        refine fr_ld fun v7 => ?_
        refine fr_nwL fun n2 => ?_
        refine fr_apv (v := _) 0 rfl fun s3 => ?_
        refine fr_smW fun v8 => ?_
        refine fr_w64 ?_
        exact fr_wk (hgo1 _) rfl
    · refine fr_nw fun n3 => ?_
      refine fr_slc fun s4 => ?_
      refine fr_smW fun v9 => ?_
      refine fr_nilcE ha1 ?_
      refine fr_slc fun s5 => ?_
      refine fr_ld fun v10 => ?_
      refine fr_elpK fun a5 ha5 => ?_
      refine fr_ld fun v11 => ?_
      refine fr_nwL fun n4 => ?_
      refine fr_apv (v := _) 0 rfl fun s6 => ?_
      refine fr_smW fun v12 => ?_
      refine fr_w64 ?_
      exact fr_wk (hgo1 _) rfl
  · exact fr_end

end Go.Proofs.Ytlabcgnegbdlfaa
set_option linter.unusedVariables false
set_option maxRecDepth 100000
namespace Go.Proofs.Ytlabcgnegbdlfaa
open Go.HL
end Go.Proofs.Ytlabcgnegbdlfaa
set_option linter.unusedVariables false
set_option maxRecDepth 100000
namespace Go.Proofs.Ytlabcgnegbdlfaa
open Go.HL
/-- (*depot/plain.Plain).find -/
def s74 (x0 : Option Addr) (x1 : ByteArray) (K : Value → HP) : HP :=
  ifB (Option.isNone x0) (
   K (.pointer none)) (
   nilc x0 fun a1 =>
   ld a1 (.lf .map) fun v1 =>
   smR PP (Instr.lookup 136 (.map v1) (.string x1) false) [.lf .ptr] fun v2 =>
   K (.pointer v2.1))
theorem c74 (x0 : Option Addr) (x1 : ByteArray) {K : Value → HP} {L : HList} (h : s74 x0 x1 (HL.Ends K) L) : CallF PP 74 #[.pointer x0, .string x1] L K := by
  refine CallF.of (args := [.pointer x0, .string x1]) noNum mixed Try.func74 (e74 x0 x1 _) (fr_run ?_ h)
  unfold s74 t74
  refine fr_ifB ?_ ?_
  · exact fr_end
  · refine fr_nilcK fun a1 ha1 => ?_
    refine fr_ld fun v1 => ?_
    refine fr_smR fun v2 => ?_
    exact fr_end

/-- (*depot/depotref32.Plain).at -/
def s75 (x0 : Option Addr) (x1 : ByteArray) (K : Value → HP) : HP :=
  lp [.lf (.int .i64)] (0, ()) fun z1 go1 =>   -- i
   nilc x0 fun a1 =>
   ld a1 (.lf .sl) fun v1 =>
   ifB (decide ((z1.1 : Int) < v1.len)) (
    ld a1 (.lf .sl) fun v2 =>
    elp v2.a v2.len z1.1 4 fun a2 =>
    ld a2 (.lf .str) fun v3 =>
    ifB (decide (v3 = x1)) (
     ld a1 (.lf .sl) fun v4 =>
     elp v4.a v4.len z1.1 4 fun a3 =>
     K (.pointer (some a3))) (
     w64 (z1.1 + 1) fun i1 =>
     go1 (i1, ()))) (
    ld a1 (.lf .sl) fun v5 =>
    apv PP 58 58 58 149 v5 1 [.string x1, .bool false, .string ByteArray.empty, .slice none 0 0] fun s1 =>
    st a1 [.slice s1.a s1.len s1.cap] <|
    ld a1 (.lf .sl) fun v6 =>
    ld a1 (.lf .sl) fun v7 =>
    w64 (v7.len - 1) fun i2 =>
    elp v6.a v6.len i2 4 fun a4 =>
    K (.pointer (some a4)))
theorem c75 (x0 : Option Addr) (x1 : ByteArray) {K : Value → HP} {L : HList} (h : s75 x0 x1 (HL.Ends K) L) : CallF PP 75 #[.pointer x0, .string x1] L K := by
  refine CallF.of (args := [.pointer x0, .string x1]) noNum mixed Try.func75 (e75 x0 x1 _) (fr_run ?_ h)
  unfold s75 t75
  refine fr_lp0 fun go1' go1 hgo1 z1 => ?_
  refine fr_nilcK fun a1 ha1 => ?_
  refine fr_ld fun v1 => ?_
  refine fr_ifB ?_ ?_
  · refine fr_nilcE ha1 ?_
    refine fr_ld fun v2 => ?_
    refine fr_elpK fun a2 ha2 => ?_
    refine fr_ld fun v3 => ?_
    refine fr_ifS ?_ ?_
    · refine fr_nilcE ha1 ?_
      refine fr_ld fun v4 => ?_
      refine fr_elpK fun a3 ha3 => ?_
      exact fr_end
    · refine fr_w64 ?_
      exact fr_wk (hgo1 _) rfl
  · refine fr_nilcE ha1 ?_
    refine fr_ld fun v5 => ?_
    refine fr_nwL fun n1 => ?_
    refine fr_apv (v := _) 0 rfl fun s1 => ?_
    refine fr_nilcE ha1 ?_
    refine fr_st ?_
    refine fr_nilcE ha1 ?_
    refine fr_nilcE ha1 ?_
    refine fr_ld fun v6 => ?_
    refine fr_ld fun v7 => ?_
    refine fr_w64 ?_
    refine fr_elpK fun a4 ha4 => ?_
    exact fr_end

/-- (*depot/depotref32.Plain).known -/
def s76 (x0 : Option Addr) (x1 : ByteArray) (K : Value → HP) : HP :=
  lp [.lf (.int .i64)] (0, ()) fun z1 go1 =>   -- i
   nilc x0 fun a1 =>
   ld a1 (.lf .sl) fun v1 =>
   ifB (decide ((z1.1 : Int) < v1.len)) (
    ld a1 (.lf .sl) fun v2 =>
    elp v2.a v2.len z1.1 4 fun a2 =>
    ld a2 (.lf .str) fun v3 =>
    ifB (decide (v3 = x1)) (
     K (.bool true)) (
     w64 (z1.1 + 1) fun i1 =>
     go1 (i1, ()))) (
    K (.bool false))
theorem c76 (x0 : Option Addr) (x1 : ByteArray) {K : Value → HP} {L : HList} (h : s76 x0 x1 (HL.Ends K) L) : CallF PP 76 #[.pointer x0, .string x1] L K := by
  refine CallF.of (args := [.pointer x0, .string x1]) noNum mixed Try.func76 (e76 x0 x1 _) (fr_run ?_ h)
  unfold s76 t76
  refine fr_lp0 fun go1' go1 hgo1 z1 => ?_
  refine fr_nilcK fun a1 ha1 => ?_
  refine fr_ld fun v1 => ?_
  refine fr_ifB ?_ ?_
  · refine fr_nilcE ha1 ?_
    refine fr_ld fun v2 => ?_
    refine fr_elpK fun a2 ha2 => ?_
    refine fr_ld fun v3 => ?_
    refine fr_ifS ?_ ?_
    · exact fr_end
    · refine fr_w64 ?_
      exact fr_wk (hgo1 _) rfl
  · exact fr_end

/-- (*depot/plain.known).settle -/
def s77 (x0 : Option Addr) (K : Value → HP) : HP :=
  nilc x0 fun a1 =>
  ld (Addr.add a1 2) (.lf .map) fun v1 =>
  smW PP (Builtin.clear_ #[141] 0 #[.map v1]) [] fun v2 =>
  ld (Addr.add a1 1) (.lf .bool) fun v3 =>
  ifB v3 (
   ld (Addr.add a1 2) (.lf .map) fun v4 =>
   ld a1 (.lf .str) fun v5 =>
   smU PP (Instr.mapUpdate 141 (.map v4) (.string v5) (.bool true)) <|
   K (.tuple #[])) (
   K (.tuple #[]))
theorem c77 (x0 : Option Addr) {K : Value → HP} {L : HList} (h : s77 x0 (HL.Ends K) L) : CallF PP 77 #[.pointer x0] L K := by
  refine CallF.of (args := [.pointer x0]) noNum mixed Try.func77 (e77 x0 _) (fr_run ?_ h)
  unfold s77 t77
  refine fr_nilcK fun a1 ha1 => ?_
  refine fr_ld fun v1 => ?_
  refine fr_smW fun v2 => ?_
  refine fr_nilcE ha1 ?_
  refine fr_ld fun v3 => ?_
  refine fr_ifB ?_ ?_
  · refine fr_nilcE ha1 ?_
    refine fr_nilcE ha1 ?_
    refine fr_ld fun v4 => ?_
    refine fr_ld fun v5 => ?_
    refine fr_smU ?_
    exact fr_end
  · exact fr_end

/-- slices.Sort[[]string,string] -/
def s78 (x0 : SlV) (K : Value → HP) : HP :=
  cl PP 108 #[.int .u64 (IntKind.u64.wrap x0.len)] [.lf (.int .i64)] fun r1 =>
  cl PP 107 #[.slice x0.a x0.len x0.cap, .int .i64 0, .int .i64 x0.len, .int .i64 r1.1] [] fun r2 =>
  K (.tuple #[])
theorem c78 (x0 : SlV) {K : Value → HP} {L : HList} (h : s78 x0 (HL.Ends K) L) : CallF PP 78 #[.slice x0.a x0.len x0.cap] L K := by
  refine CallF.of (args := [.slice x0.a x0.len x0.cap]) noNum mixed Try.func78 (e78 x0 _) (fr_run ?_ h)
  unfold s78 t78
  refine fr_cl fun r1 => ?_
  refine fr_cl fun r2 => ?_
  exact fr_end

/-- depot/depotref32.before -/
def s79 (x0 : ByteArray) (x1 : ByteArray) (K : Value → HP) : HP :=
  lp [.lf (.int .i64)] (0, ()) fun z1 go1 =>   -- i
   ifB (decide ((z1.1 : Int) < x0.size)) (
    ifB (decide ((z1.1 : Int) < x1.size)) (
     ixn z1.1 x0.size <|
     ixn z1.1 x1.size <|
     ifB (decide ((byteAt x0 z1.1 : Int) = (byteAt x1 z1.1))) (
      w64 (z1.1 + 1) fun i1 =>
      go1 (i1, ())) (
      ixn z1.1 x0.size <|
      ixn z1.1 x1.size <|
      K (.bool (decide ((byteAt x0 z1.1 : Int) < (byteAt x1 z1.1)))))) (
     K (.bool (decide ((x0.size : Int) < x1.size))))) (
    K (.bool (decide ((x0.size : Int) < x1.size))))
theorem c79 (x0 : ByteArray) (x1 : ByteArray) {K : Value → HP} {L : HList} (h : s79 x0 x1 (HL.Ends K) L) : CallF PP 79 #[.string x0, .string x1] L K := by
  refine CallF.of (args := [.string x0, .string x1]) noNum mixed Try.func79 (e79 x0 x1 _) (fr_run ?_ h)
  unfold s79 t79
  refine fr_lp0 fun go1' go1 hgo1 z1 => ?_
  refine fr_ifB ?_ ?_
  · refine fr_ifB ?_ ?_
    · refine fr_ixn ?_
      refine fr_ixn ?_
      refine fr_ifNe ?_ ?_
      · refine fr_ixn ?_
        refine fr_ixn ?_
        exact fr_end
      · refine fr_w64 ?_
        exact fr_wk (hgo1 _) rfl
    · exact fr_end
  · exact fr_end

/-- slices.pdqsortOrdered[string] -/
def s107 (x0 : SlV) (x1 : Int) (x2 : Int) (x3 : Int) (K : Value → HP) : HP :=
  lp [.lf (.int .i64), .lf (.int .i64), .lf (.int .i64), .lf .bool, .lf .bool] (x1, x2, x3, true, true, ()) fun z1 go1 =>   -- a, b, limit, wasBalanced, wasPartitioned
   w64 (z1.2.1 - z1.1) fun i1 =>
   ifB (decide ((i1 : Int) ≤ 12)) (
    cl PP 117 #[.slice x0.a x0.len x0.cap, .int .i64 z1.1, .int .i64 z1.2.1] [] fun r1 =>
    K (.tuple #[])) (
    ifB (decide ((z1.2.2.1 : Int) = 0)) (
     cl PP 118 #[.slice x0.a x0.len x0.cap, .int .i64 z1.1, .int .i64 z1.2.1] [] fun r2 =>
     K (.tuple #[])) (
     jn (fun y1 : RsV [.lf (.int .i64)] =>
      cl PP 120 #[.slice x0.a x0.len x0.cap, .int .i64 z1.1, .int .i64 z1.2.1] [.lf (.int .i64), .lf (.int .i64)] fun r4 =>
      jn (fun y2 : RsV [.lf (.int .i64), .lf (.int .i64)] =>
       jn (fun y3 : RsV [] =>
        jn (fun y4 : RsV [.lf (.int .i64)] =>
         cl PP 125 #[.slice x0.a x0.len x0.cap, .int .i64 y4.1, .int .i64 z1.2.1, .int .i64 y2.1] [.lf (.int .i64), .lf .bool] fun r9 =>
         w64 (r9.1 - y4.1) fun i7 =>
         w64 (z1.2.1 - r9.1) fun i8 =>
         w64 (Int.tdiv i1 8) fun i9 =>
         ifB (decide ((i7 : Int) < i8)) (
          cl PP 107 #[.slice x0.a x0.len x0.cap, .int .i64 y4.1, .int .i64 r9.1, .int .i64 y1.1] [] fun r10 =>
          w64 (r9.1 + 1) fun i10 =>
          go1 (i10, z1.2.1, y1.1, decide ((i7 : Int) ≥ i9), r9.2.1, ())) (
          w64 (r9.1 + 1) fun i11 =>
          cl PP 107 #[.slice x0.a x0.len x0.cap, .int .i64 i11, .int .i64 z1.2.1, .int .i64 y1.1] [] fun r11 =>
          go1 (y4.1, r9.1, y1.1, decide ((i8 : Int) ≥ i9), r9.2.1, ()))) fun j4 =>
        ifB (decide ((z1.1 : Int) > 0)) (
          w64 (z1.1 - 1) fun i6 =>
          elp x0.a x0.len i6 1 fun a1 =>
          elp x0.a x0.len y2.1 1 fun a2 =>
          ld a1 (.lf .str) fun v1 =>
          ld a2 (.lf .str) fun v2 =>
          cl PP 123 #[.string v1, .string v2] [.lf .bool] fun r7 =>
          ifB r7.1 (
           j4 (z1.1, ())) (
           cl PP 124 #[.slice x0.a x0.len x0.cap, .int .i64 z1.1, .int .i64 z1.2.1, .int .i64 y2.1] [.lf (.int .i64)] fun r8 =>
           go1 (r8.1, z1.2.1, y1.1, z1.2.2.2.1, z1.2.2.2.2.1, ()))) (
          j4 (z1.1, ()))) fun j3 =>
       ifB z1.2.2.2.1 (
         ifB z1.2.2.2.2.1 (
          ifB (decide ((y2.2.1 : Int) = 1)) (
           cl PP 122 #[.slice x0.a x0.len x0.cap, .int .i64 z1.1, .int .i64 z1.2.1] [.lf .bool] fun r6 =>
           ifB r6.1 (
            K (.tuple #[])) (
            j3 (()))) (
           j3 (()))) (
          j3 (()))) (
         j3 (()))) fun j2 =>
      ifB (decide ((r4.2.1 : Int) = 2)) (
        cl PP 121 #[.slice x0.a x0.len x0.cap, .int .i64 z1.1, .int .i64 z1.2.1] [] fun r5 =>
        w64 (z1.2.1 - 1) fun i3 =>
        w64 (r4.1 - z1.1) fun i4 =>
        w64 (i3 - i4) fun i5 =>
        j2 (i5, 1, ())) (
        j2 (r4.1, r4.2.1, ()))) fun j1 =>
     ifB z1.2.2.2.1 (
       j1 (z1.2.2.1, ())) (
       cl PP 119 #[.slice x0.a x0.len x0.cap, .int .i64 z1.1, .int .i64 z1.2.1] [] fun r3 =>
       w64 (z1.2.2.1 - 1) fun i2 =>
       j1 (i2, ()))))
theorem c107 (x0 : SlV) (x1 : Int) (x2 : Int) (x3 : Int) {K : Value → HP} {L : HList} (h : s107 x0 x1 x2 x3 (HL.Ends K) L) : CallF PP 107 #[.slice x0.a x0.len x0.cap, .int .i64 x1, .int .i64 x2, .int .i64 x3] L K := by
  refine CallF.of (args := [.slice x0.a x0.len x0.cap, .int .i64 x1, .int .i64 x2, .int .i64 x3]) noNum mixed Try.func107 (e107 x0 x1 x2 x3 _) (fr_run ?_ h)
  unfold s107 t107
  refine fr_lp0 fun go1' go1 hgo1 z1 => ?_
  refine fr_w64 ?_
  refine fr_ifB ?_ ?_
  · refine fr_cl fun r1 => ?_
    exact fr_end
  · refine fr_ifEq ?_ ?_
    · refine fr_cl fun r2 => ?_
      exact fr_end
    · refine fr_jn0 (fun y1 => ?_) fun j1' j1 hj1 => ?_
      · refine fr_cl fun r4 => ?_
        refine fr_jn0 (fun y2 => ?_) fun j2' j2 hj2 => ?_
        · refine fr_jn0 (fun y3 => ?_) fun j3' j3 hj3 => ?_
          · refine fr_jn0 (fun y4 => ?_) fun j4' j4 hj4 => ?_
            · refine fr_cl fun r9 => ?_
              refine fr_w64 ?_
              refine fr_w64 ?_
              refine fr_reqT (by decide) ?_
              refine fr_w64 ?_
              refine fr_ifB ?_ ?_
              · refine fr_cl fun r10 => ?_
                refine fr_w64 ?_
                exact fr_wk (hgo1 _) rfl
              · refine fr_w64 ?_
                refine fr_cl fun r11 => ?_
                exact fr_wk (hgo1 _) rfl
            · refine fr_ifB ?_ ?_
              · refine fr_w64 ?_
                refine fr_elpK fun a1 ha1 => ?_
                refine fr_elpK fun a2 ha2 => ?_
                refine fr_ld fun v1 => ?_
                refine fr_ld fun v2 => ?_
                refine fr_cl fun r7 => ?_
                refine fr_ifNot ?_ ?_
                · refine fr_cl fun r8 => ?_
                  exact fr_wk (hgo1 _) rfl
                · exact fr_wk (hj4 _) rfl
              · exact fr_wk (hj4 _) rfl
          · refine fr_ifB ?_ ?_
            · refine fr_ifB ?_ ?_
              · refine fr_ifEq ?_ ?_
                · refine fr_cl fun r6 => ?_
                  refine fr_ifB ?_ ?_
                  · exact fr_end
                  · exact fr_wk (hj3 _) rfl
                · exact fr_wk (hj3 _) rfl
              · exact fr_wk (hj3 _) rfl
            · exact fr_wk (hj3 _) rfl
        · refine fr_ifEq ?_ ?_
          · refine fr_cl fun r5 => ?_
            refine fr_w64 ?_
            refine fr_w64 ?_
            refine fr_w64 ?_
            exact fr_wk (hj2 _) rfl
          · exact fr_wk (hj2 _) rfl
      · refine fr_ifNot ?_ ?_
        · refine fr_cl fun r3 => ?_
          refine fr_w64 ?_
          exact fr_wk (hj1 _) rfl
        · exact fr_wk (hj1 _) rfl

/-- math/bits.Len -/
def s108 (x0 : Int) (K : Value → HP) : HP :=
  cl PP 127 #[.int .u64 x0] [.lf (.int .i64)] fun r1 =>
  K (.int .i64 r1.1)
theorem c108 (x0 : Int) {K : Value → HP} {L : HList} (h : s108 x0 (HL.Ends K) L) : CallF PP 108 #[.int .u64 x0] L K := by
  refine CallF.of (args := [.int .u64 x0]) noNum mixed Try.func108 (e108 x0 _) (fr_run ?_ h)
  unfold s108 t108
  refine fr_cl fun r1 => ?_
  exact fr_end

end Go.Proofs.Ytlabcgnegbdlfaa
set_option linter.unusedVariables false
set_option maxRecDepth 100000
namespace Go.Proofs.Ytlabcgnegbdlfaa
open Go.HL
/-- slices.insertionSortOrdered[string] -/
def s117 (x0 : SlV) (x1 : Int) (x2 : Int) (K : Value → HP) : HP :=
  w64 (x1 + 1) fun i1 =>
  lp [.lf (.int .i64)] (i1, ()) fun z1 go1 =>   -- i
   ifB (decide ((z1.1 : Int) < x2)) (
    lp [.lf (.int .i64)] (z1.1, ()) fun z2 go2 =>   -- j
     jn (fun y1 : RsV [] =>
      w64 (z2.1 - 1) fun i5 =>
      w64 (z2.1 - 1) fun i6 =>
      elp x0.a x0.len i6 1 fun a3 =>
      elp x0.a x0.len z2.1 1 fun a4 =>
      ld a3 (.lf .str) fun v3 =>
      ld a4 (.lf .str) fun v4 =>
      st a4 [.string v3] <|
      elp x0.a x0.len i5 1 fun a5 =>
      st a5 [.string v4] <|
      w64 (z2.1 - 1) fun i7 =>
      go2 (i7, ())) fun j1 =>
     ifB (decide ((z2.1 : Int) > x1)) (
       elp x0.a x0.len z2.1 1 fun a1 =>
       w64 (z2.1 - 1) fun i2 =>
       elp x0.a x0.len i2 1 fun a2 =>
       ld a1 (.lf .str) fun v1 =>
       ld a2 (.lf .str) fun v2 =>
       cl PP 123 #[.string v1, .string v2] [.lf .bool] fun r1 =>
       ifB r1.1 (
        j1 (())) (
        w64 (z1.1 + 1) fun i3 =>
        go1 (i3, ()))) (
       w64 (z1.1 + 1) fun i4 =>
       go1 (i4, ()))) (
    K (.tuple #[]))
theorem c117 (x0 : SlV) (x1 : Int) (x2 : Int) {K : Value → HP} {L : HList} (h : s117 x0 x1 x2 (HL.Ends K) L) : CallF PP 117 #[.slice x0.a x0.len x0.cap, .int .i64 x1, .int .i64 x2] L K := by
  refine CallF.of (args := [.slice x0.a x0.len x0.cap, .int .i64 x1, .int .i64 x2]) noNum mixed Try.func117 (e117 x0 x1 x2 _) (fr_run ?_ h)
  unfold s117 t117
  refine fr_w64 ?_
  refine fr_lp0 fun go1' go1 hgo1 z1 => ?_
  refine fr_ifB ?_ ?_
  · refine fr_lp0 fun go2' go2 hgo2 z2 => ?_
    refine fr_jn0 (fun y1 => ?_) fun j1' j1 hj1 => ?_
    · refine fr_w64 ?_
      refine fr_w64 ?_
      refine fr_elpK fun a3 ha3 => ?_
      refine fr_elpK fun a4 ha4 => ?_
      refine fr_ld fun v3 => ?_
      refine fr_ld fun v4 => ?_
      refine fr_elpE ha4 ?_
      refine fr_st ?_
      refine fr_elpK fun a5 ha5 => ?_
      refine fr_st ?_
      refine fr_w64 ?_
      exact fr_wk (hgo2 _) rfl
    · refine fr_ifB ?_ ?_
      · refine fr_elpK fun a1 ha1 => ?_
        refine fr_w64 ?_
        refine fr_elpK fun a2 ha2 => ?_
        refine fr_ld fun v1 => ?_
        refine fr_ld fun v2 => ?_
        refine fr_cl fun r1 => ?_
        refine fr_ifB ?_ ?_
        · exact fr_wk (hj1 _) rfl
        · refine fr_w64 ?_
          exact fr_wk (hgo1 _) rfl
      · refine fr_w64 ?_
        exact fr_wk (hgo1 _) rfl
  · exact fr_end

/-- slices.heapSortOrdered[string] -/
def s118 (x0 : SlV) (x1 : Int) (x2 : Int) (K : Value → HP) : HP :=
  w64 (x2 - x1) fun i1 =>
  w64 (i1 - 1) fun i2 =>
  w64 (Int.tdiv i2 2) fun i3 =>
  lp [.lf (.int .i64)] (i3, ()) fun z1 go1 =>   -- i
   ifB (decide ((z1.1 : Int) ≥ 0)) (
    cl PP 132 #[.slice x0.a x0.len x0.cap, .int .i64 z1.1, .int .i64 i1, .int .i64 x1] [] fun r1 =>
    w64 (z1.1 - 1) fun i4 =>
    go1 (i4, ())) (
    w64 (i1 - 1) fun i5 =>
    lp [.lf (.int .i64)] (i5, ()) fun z2 go2 =>   -- i
     ifB (decide ((z2.1 : Int) ≥ 0)) (
      w64 (x1 + z2.1) fun i6 =>
      w64 (x1 + z2.1) fun i7 =>
      elp x0.a x0.len i7 1 fun a1 =>
      elp x0.a x0.len x1 1 fun a2 =>
      ld a1 (.lf .str) fun v1 =>
      ld a2 (.lf .str) fun v2 =>
      st a2 [.string v1] <|
      elp x0.a x0.len i6 1 fun a3 =>
      st a3 [.string v2] <|
      cl PP 132 #[.slice x0.a x0.len x0.cap, .int .i64 0, .int .i64 z2.1, .int .i64 x1] [] fun r2 =>
      w64 (z2.1 - 1) fun i8 =>
      go2 (i8, ())) (
      K (.tuple #[])))
theorem c118 (x0 : SlV) (x1 : Int) (x2 : Int) {K : Value → HP} {L : HList} (h : s118 x0 x1 x2 (HL.Ends K) L) : CallF PP 118 #[.slice x0.a x0.len x0.cap, .int .i64 x1, .int .i64 x2] L K := by
  refine CallF.of (args := [.slice x0.a x0.len x0.cap, .int .i64 x1, .int .i64 x2]) noNum mixed Try.func118 (e118 x0 x1 x2 _) (fr_run ?_ h)
  unfold s118 t118
  refine fr_w64 ?_
  refine fr_w64 ?_
  refine fr_reqT (by decide) ?_
  refine fr_w64 ?_
  refine fr_lp0 fun go1' go1 hgo1 z1 => ?_
  refine fr_ifB ?_ ?_
  · refine fr_cl fun r1 => ?_
    refine fr_w64 ?_
    exact fr_wk (hgo1 _) rfl
  · refine fr_w64 ?_
    refine fr_lp0 fun go2' go2 hgo2 z2 => ?_
    refine fr_ifB ?_ ?_
    · refine fr_w64 ?_
      refine fr_w64 ?_
      refine fr_elpK fun a1 ha1 => ?_
      refine fr_elpK fun a2 ha2 => ?_
      refine fr_ld fun v1 => ?_
      refine fr_ld fun v2 => ?_
      refine fr_elpE ha2 ?_
      refine fr_st ?_
      refine fr_elpK fun a3 ha3 => ?_
      refine fr_st ?_
      refine fr_cl fun r2 => ?_
      refine fr_w64 ?_
      exact fr_wk (hgo2 _) rfl
    · exact fr_end

/-- slices.breakPatternsOrdered[string] -/
def s119 (x0 : SlV) (x1 : Int) (x2 : Int) (K : Value → HP) : HP :=
  w64 (x2 - x1) fun i1 =>
  ifB (decide ((i1 : Int) ≥ 8)) (
   nw (.cells #[.int .u64 0] 214) fun n1 =>
   st ⟨n1, 0, none⟩ [.int .u64 (IntKind.u64.wrap i1)] <|
   cl PP 133 #[.int .i64 i1] [.lf (.int .u64)] fun r1 =>
   w64 (Int.tdiv i1 4) fun i2 =>
   w64 (i2 * 2) fun i3 =>
   w64 (x1 + i3) fun i4 =>
   w64 (i4 - 1) fun i5 =>
   lp [.lf (.int .i64)] (i5, ()) fun z1 go1 =>   -- idx
    w64 (Int.tdiv i1 4) fun i6 =>
    w64 (i6 * 2) fun i7 =>
    w64 (x1 + i7) fun i8 =>
    w64 (i8 + 1) fun i9 =>
    ifB (decide ((z1.1 : Int) ≤ i9)) (
     cl PP 134 #[.pointer (some ⟨n1, 0, none⟩)] [.lf (.int .u64)] fun r2 =>
     w64 (bitI .and .u64 r2.1 (IntKind.u64.wrap (r1.1 - 1))) fun i10 =>
     jn (fun y1 : RsV [.lf (.int .i64)] =>
      w64 (x1 + y1.1) fun i12 =>
      w64 (x1 + y1.1) fun i13 =>
      elp x0.a x0.len i13 1 fun a1 =>
      elp x0.a x0.len z1.1 1 fun a2 =>
      ld a1 (.lf .str) fun v1 =>
      ld a2 (.lf .str) fun v2 =>
      st a2 [.string v1] <|
      elp x0.a x0.len i12 1 fun a3 =>
      st a3 [.string v2] <|
      w64 (z1.1 + 1) fun i14 =>
      go1 (i14, ())) fun j1 =>
     ifB (decide ((i10 : Int) ≥ i1)) (
       w64 (i10 - i1) fun i11 =>
       j1 (i11, ())) (
       j1 (i10, ()))) (
     K (.tuple #[]))) (
   K (.tuple #[]))
theorem c119 (x0 : SlV) (x1 : Int) (x2 : Int) {K : Value → HP} {L : HList} (h : s119 x0 x1 x2 (HL.Ends K) L) : CallF PP 119 #[.slice x0.a x0.len x0.cap, .int .i64 x1, .int .i64 x2] L K := by
  refine CallF.of (args := [.slice x0.a x0.len x0.cap, .int .i64 x1, .int .i64 x2]) noNum mixed Try.func119 (e119 x0 x1 x2 _) (fr_run ?_ h)
  unfold s119 t119
  refine fr_w64 ?_
  refine fr_ifB ?_ ?_
  · refine fr_nw fun n1 => ?_
    refine fr_st ?_
    refine fr_cl fun r1 => ?_
    refine fr_reqT (by decide) ?_
    refine fr_w64 ?_
    refine fr_w64 ?_
    refine fr_w64 ?_
    refine fr_w64 ?_
    refine fr_lp0 fun go1' go1 hgo1 z1 => ?_
    refine fr_reqT (by decide) ?_
    refine fr_w64 ?_
    refine fr_w64 ?_
    refine fr_w64 ?_
    refine fr_w64 ?_
    refine fr_ifB ?_ ?_
    · refine fr_cl fun r2 => ?_
      refine fr_w64 ?_
      refine fr_jn0 (fun y1 => ?_) fun j1' j1 hj1 => ?_
      · refine fr_w64 ?_
        refine fr_w64 ?_
        refine fr_elpK fun a1 ha1 => ?_
        refine fr_elpK fun a2 ha2 => ?_
        refine fr_ld fun v1 => ?_
        refine fr_ld fun v2 => ?_
        refine fr_elpE ha2 ?_
        refine fr_st ?_
        refine fr_elpK fun a3 ha3 => ?_
        refine fr_st ?_
        refine fr_w64 ?_
        exact fr_wk (hgo1 _) rfl
      · refine fr_ifB ?_ ?_
        · refine fr_w64 ?_
          exact fr_wk (hj1 _) rfl
        · exact fr_wk (hj1 _) rfl
    · exact fr_end
  · exact fr_end

/-- slices.choosePivotOrdered[string] -/
def s120 (x0 : SlV) (x1 : Int) (x2 : Int) (K : Value → HP) : HP :=
  w64 (x2 - x1) fun i1 =>
  nw (.cells #[.int .i64 0] 3) fun n1 =>
  w64 (Int.tdiv i1 4) fun i2 =>
  w64 (i2 * 1) fun i3 =>
  w64 (x1 + i3) fun i4 =>
  w64 (Int.tdiv i1 4) fun i5 =>
  w64 (i5 * 2) fun i6 =>
  w64 (x1 + i6) fun i7 =>
  w64 (Int.tdiv i1 4) fun i8 =>
  w64 (i8 * 3) fun i9 =>
  w64 (x1 + i9) fun i10 =>
  jn (fun y1 : RsV [.lf (.int .i64)] =>
   ld ⟨n1, 0, none⟩ (.lf (.int .i64)) fun v1 =>
   ifB (decide ((v1 : Int) = 0)) (
    K (.tuple #[.int .i64 y1.1, .int .i64 1])) (
    ifB (decide ((v1 : Int) = 12)) (
     K (.tuple #[.int .i64 y1.1, .int .i64 2])) (
     K (.tuple #[.int .i64 y1.1, .int .i64 0])))) fun j1 =>
  ifB (decide ((i1 : Int) ≥ 8)) (
    jn (fun y2 : RsV [.lf (.int .i64), .lf (.int .i64), .lf (.int .i64)] =>
     cl PP 136 #[.slice x0.a x0.len x0.cap, .int .i64 y2.1, .int .i64 y2.2.1, .int .i64 y2.2.2.1, .pointer (some ⟨n1, 0, none⟩)] [.lf (.int .i64)] fun r4 =>
     j1 (r4.1, ())) fun j2 =>
    ifB (decide ((i1 : Int) ≥ 50)) (
      cl PP 135 #[.slice x0.a x0.len x0.cap, .int .i64 i4, .pointer (some ⟨n1, 0, none⟩)] [.lf (.int .i64)] fun r1 =>
      cl PP 135 #[.slice x0.a x0.len x0.cap, .int .i64 i7, .pointer (some ⟨n1, 0, none⟩)] [.lf (.int .i64)] fun r2 =>
      cl PP 135 #[.slice x0.a x0.len x0.cap, .int .i64 i10, .pointer (some ⟨n1, 0, none⟩)] [.lf (.int .i64)] fun r3 =>
      j2 (r1.1, r2.1, r3.1, ())) (
      j2 (i4, i7, i10, ()))) (
    j1 (i7, ()))
theorem c120 (x0 : SlV) (x1 : Int) (x2 : Int) {K : Value → HP} {L : HList} (h : s120 x0 x1 x2 (HL.Ends K) L) : CallF PP 120 #[.slice x0.a x0.len x0.cap, .int .i64 x1, .int .i64 x2] L K := by
  refine CallF.of (args := [.slice x0.a x0.len x0.cap, .int .i64 x1, .int .i64 x2]) noNum mixed Try.func120 (e120 x0 x1 x2 _) (fr_run ?_ h)
  unfold s120 t120
  refine fr_w64 ?_
  refine fr_nw fun n1 => ?_
  refine fr_reqT (by decide) ?_
  refine fr_w64 ?_
  refine fr_w64 ?_
  refine fr_w64 ?_
  refine fr_reqT (by decide) ?_
  refine fr_w64 ?_
  refine fr_w64 ?_
  refine fr_w64 ?_
  refine fr_reqT (by decide) ?_
  refine fr_w64 ?_
  refine fr_w64 ?_
  refine fr_w64 ?_
  refine fr_jn0 (fun y1 => ?_) fun j1' j1 hj1 => ?_
  · refine fr_ld fun v1 => ?_
    refine fr_ifEq ?_ ?_
    · exact fr_end
    · refine fr_ifEq ?_ ?_
      · exact fr_end
      · exact fr_end
  · refine fr_ifB ?_ ?_
    · refine fr_jn0 (fun y2 => ?_) fun j2' j2 hj2 => ?_
      · refine fr_cl fun r4 => ?_
        exact fr_wk (hj1 _) rfl
      · refine fr_ifB ?_ ?_
        · refine fr_cl fun r1 => ?_
          refine fr_cl fun r2 => ?_
          refine fr_cl fun r3 => ?_
          exact fr_wk (hj2 _) rfl
        · exact fr_wk (hj2 _) rfl
    · exact fr_wk (hj1 _) rfl

/-- slices.reverseRangeOrdered[string] -/
def s121 (x0 : SlV) (x1 : Int) (x2 : Int) (K : Value → HP) : HP :=
  w64 (x2 - 1) fun i1 =>
  lp [.lf (.int .i64), .lf (.int .i64)] (x1, i1, ()) fun z1 go1 =>   -- i, j
   ifB (decide ((z1.1 : Int) < z1.2.1)) (
    elp x0.a x0.len z1.2.1 1 fun a1 =>
    elp x0.a x0.len z1.1 1 fun a2 =>
    ld a1 (.lf .str) fun v1 =>
    ld a2 (.lf .str) fun v2 =>
    st a2 [.string v1] <|
    st a1 [.string v2] <|
    w64 (z1.1 + 1) fun i2 =>
    w64 (z1.2.1 - 1) fun i3 =>
    go1 (i2, i3, ())) (
    K (.tuple #[]))
theorem c121 (x0 : SlV) (x1 : Int) (x2 : Int) {K : Value → HP} {L : HList} (h : s121 x0 x1 x2 (HL.Ends K) L) : CallF PP 121 #[.slice x0.a x0.len x0.cap, .int .i64 x1, .int .i64 x2] L K := by
  refine CallF.of (args := [.slice x0.a x0.len x0.cap, .int .i64 x1, .int .i64 x2]) noNum mixed Try.func121 (e121 x0 x1 x2 _) (fr_run ?_ h)
  unfold s121 t121
  refine fr_w64 ?_
  refine fr_lp0 fun go1' go1 hgo1 z1 => ?_
  refine fr_ifB ?_ ?_
  · refine fr_elpK fun a1 ha1 => ?_
    refine fr_elpK fun a2 ha2 => ?_
    refine fr_ld fun v1 => ?_
    refine fr_ld fun v2 => ?_
    refine fr_elpE ha2 ?_
    refine fr_st ?_
    refine fr_elpE ha1 ?_
    refine fr_st ?_
    refine fr_w64 ?_
    refine fr_w64 ?_
    exact fr_wk (hgo1 _) rfl
  · exact fr_end

/-- slices.partialInsertionSortOrdered[string] -/
def s122 (x0 : SlV) (x1 : Int) (x2 : Int) (K : Value → HP) : HP :=
  w64 (x1 + 1) fun i1 =>
  lp [.lf (.int .i64), .lf (.int .i64)] (i1, 0, ()) fun z1 go1 =>   -- i, j
   ifB (decide ((z1.2.1 : Int) < 5)) (
    jn (fun y1 : RsV [.lf (.int .i64)] =>
     ifB (decide ((y1.1 : Int) = x2)) (
      K (.bool true)) (
      w64 (x2 - x1) fun i4 =>
      ifB (decide ((i4 : Int) < 50)) (
       K (.bool false)) (
       w64 (y1.1 - 1) fun i5 =>
       w64 (y1.1 - 1) fun i6 =>
       elp x0.a x0.len i6 1 fun a3 =>
       elp x0.a x0.len y1.1 1 fun a4 =>
       ld a3 (.lf .str) fun v3 =>
       ld a4 (.lf .str) fun v4 =>
       st a4 [.string v3] <|
       elp x0.a x0.len i5 1 fun a5 =>
       st a5 [.string v4] <|
       jn (fun y2 : RsV [] =>
        w64 (x2 - y1.1) fun i13 =>
        ifB (decide ((i13 : Int) ≥ 2)) (
         w64 (y1.1 + 1) fun i14 =>
         lp [.lf (.int .i64)] (i14, ()) fun z4 go4 =>   -- j
          ifB (decide ((z4.1 : Int) < x2)) (
           elp x0.a x0.len z4.1 1 fun a10 =>
           w64 (z4.1 - 1) fun i15 =>
           elp x0.a x0.len i15 1 fun a11 =>
           ld a10 (.lf .str) fun v9 =>
           ld a11 (.lf .str) fun v10 =>
           cl PP 123 #[.string v9, .string v10] [.lf .bool] fun r3 =>
           ifB r3.1 (
            w64 (z4.1 - 1) fun i17 =>
            w64 (z4.1 - 1) fun i18 =>
            elp x0.a x0.len i18 1 fun a12 =>
            ld a12 (.lf .str) fun v11 =>
            ld a10 (.lf .str) fun v12 =>
            st a10 [.string v11] <|
            elp x0.a x0.len i17 1 fun a13 =>
            st a13 [.string v12] <|
            w64 (z4.1 + 1) fun i19 =>
            go4 (i19, ())) (
            w64 (z1.2.1 + 1) fun i16 =>
            go1 (y1.1, i16, ()))) (
           w64 (z1.2.1 + 1) fun i20 =>
           go1 (y1.1, i20, ()))) (
         w64 (z1.2.1 + 1) fun i21 =>
         go1 (y1.1, i21, ()))) fun j2 =>
       w64 (y1.1 - x1) fun i7 =>
        ifB (decide ((i7 : Int) ≥ 2)) (
         w64 (y1.1 - 1) fun i8 =>
         lp [.lf (.int .i64)] (i8, ()) fun z3 go3 =>   -- j
          ifB (decide ((z3.1 : Int) ≥ 1)) (
           elp x0.a x0.len z3.1 1 fun a6 =>
           w64 (z3.1 - 1) fun i9 =>
           elp x0.a x0.len i9 1 fun a7 =>
           ld a6 (.lf .str) fun v5 =>
           ld a7 (.lf .str) fun v6 =>
           cl PP 123 #[.string v5, .string v6] [.lf .bool] fun r2 =>
           ifB r2.1 (
            w64 (z3.1 - 1) fun i10 =>
            w64 (z3.1 - 1) fun i11 =>
            elp x0.a x0.len i11 1 fun a8 =>
            ld a8 (.lf .str) fun v7 =>
            ld a6 (.lf .str) fun v8 =>
            st a6 [.string v7] <|
            elp x0.a x0.len i10 1 fun a9 =>
            st a9 [.string v8] <|
            w64 (z3.1 - 1) fun i12 =>
            go3 (i12, ())) (
            j2 (()))) (
           j2 (()))) (
         j2 (()))))) fun j1 =>
    lp [.lf (.int .i64)] (z1.1, ()) fun z2 go2 =>   -- i
      ifB (decide ((z2.1 : Int) < x2)) (
       elp x0.a x0.len z2.1 1 fun a1 =>
       w64 (z2.1 - 1) fun i2 =>
       elp x0.a x0.len i2 1 fun a2 =>
       ld a1 (.lf .str) fun v1 =>
       ld a2 (.lf .str) fun v2 =>
       cl PP 123 #[.string v1, .string v2] [.lf .bool] fun r1 =>
       ifB r1.1 (
        j1 (z2.1, ())) (
        w64 (z2.1 + 1) fun i3 =>
        go2 (i3, ()))) (
       j1 (z2.1, ()))) (
    K (.bool false))
theorem c122 (x0 : SlV) (x1 : Int) (x2 : Int) {K : Value → HP} {L : HList} (h : s122 x0 x1 x2 (HL.Ends K) L) : CallF PP 122 #[.slice x0.a x0.len x0.cap, .int .i64 x1, .int .i64 x2] L K := by
  refine CallF.of (args := [.slice x0.a x0.len x0.cap, .int .i64 x1, .int .i64 x2]) noNum mixed Try.func122 (e122 x0 x1 x2 _) (fr_run ?_ h)
  unfold s122 t122
  refine fr_w64 ?_
  refine fr_lp0 fun go1' go1 hgo1 z1 => ?_
  refine fr_ifB ?_ ?_
  · refine fr_jn0 (fun y1 => ?_) fun j1' j1 hj1 => ?_
    · refine fr_ifEq ?_ ?_
      · exact fr_end
      · refine fr_w64 ?_
        refine fr_ifB ?_ ?_
        · exact fr_end
        · refine fr_w64 ?_
          refine fr_w64 ?_
          refine fr_elpK fun a3 ha3 => ?_
          refine fr_elpK fun a4 ha4 => ?_
          refine fr_ld fun v3 => ?_
          refine fr_ld fun v4 => ?_
          refine fr_elpE ha4 ?_
          refine fr_st ?_
          refine fr_elpK fun a5 ha5 => ?_
          refine fr_st ?_
          refine fr_jn0 (fun y2 => ?_) fun j2' j2 hj2 => ?_
          · refine fr_w64 ?_
            refine fr_ifB ?_ ?_
            · refine fr_w64 ?_
              refine fr_lp0 fun go4' go4 hgo4 z4 => ?_
              refine fr_ifB ?_ ?_
              · refine fr_elpK fun a10 ha10 => ?_
                refine fr_w64 ?_
                refine fr_elpK fun a11 ha11 => ?_
                refine fr_ld fun v9 => ?_
                refine fr_ld fun v10 => ?_
                refine fr_cl fun r3 => ?_
                refine fr_ifNot ?_ ?_
                · refine fr_w64 ?_
                  exact fr_wk (hgo1 _) rfl
                · refine fr_w64 ?_
                  refine fr_w64 ?_
                  refine fr_elpK fun a12 ha12 => ?_
                  refine fr_elpE ha10 ?_
                  refine fr_ld fun v11 => ?_
                  refine fr_ld fun v12 => ?_
                  refine fr_elpE ha10 ?_
                  refine fr_st ?_
                  refine fr_elpK fun a13 ha13 => ?_
                  refine fr_st ?_
                  refine fr_w64 ?_
                  exact fr_wk (hgo4 _) rfl
              · refine fr_w64 ?_
                exact fr_wk (hgo1 _) rfl
            · refine fr_w64 ?_
              exact fr_wk (hgo1 _) rfl
          · refine fr_w64 ?_
            refine fr_ifB ?_ ?_
            · refine fr_w64 ?_
              refine fr_lp0 fun go3' go3 hgo3 z3 => ?_
              refine fr_ifB ?_ ?_
              · refine fr_elpK fun a6 ha6 => ?_
                refine fr_w64 ?_
                refine fr_elpK fun a7 ha7 => ?_
                refine fr_ld fun v5 => ?_
                refine fr_ld fun v6 => ?_
                refine fr_cl fun r2 => ?_
                refine fr_ifNot ?_ ?_
                · exact fr_wk (hj2 _) rfl
                · refine fr_w64 ?_
                  refine fr_w64 ?_
                  refine fr_elpK fun a8 ha8 => ?_
                  refine fr_elpE ha6 ?_
                  refine fr_ld fun v7 => ?_
                  refine fr_ld fun v8 => ?_
                  refine fr_elpE ha6 ?_
                  refine fr_st ?_
                  refine fr_elpK fun a9 ha9 => ?_
                  refine fr_st ?_
                  refine fr_w64 ?_
                  exact fr_wk (hgo3 _) rfl
              · exact fr_wk (hj2 _) rfl
            · exact fr_wk (hj2 _) rfl
    · refine fr_lp0 fun go2' go2 hgo2 z2 => ?_
      refine fr_ifB ?_ ?_
      · refine fr_elpK fun a1 ha1 => ?_
        refine fr_w64 ?_
        refine fr_elpK fun a2 ha2 => ?_
        refine fr_ld fun v1 => ?_
        refine fr_ld fun v2 => ?_
        refine fr_cl fun r1 => ?_
        refine fr_ifNot ?_ ?_
        · refine fr_w64 ?_
          exact fr_wk (hgo2 _) rfl
        · exact fr_wk (hj1 _) rfl
      · exact fr_wk (hj1 _) rfl
  · exact fr_end

/-- cmp.Less[string] -/
def s123 (x0 : ByteArray) (x1 : ByteArray) (K : Value → HP) : HP :=
  cl PP 137 #[.string x0] [.lf .bool] fun r1 =>
  ifB r1.1 (
   cl PP 137 #[.string x1] [.lf .bool] fun r2 =>
   ifB r2.1 (
    K (.bool (Op.bytesLess (ByteArray.toList x0) (ByteArray.toList x1)))) (
    K (.bool true))) (
   K (.bool (Op.bytesLess (ByteArray.toList x0) (ByteArray.toList x1))))
theorem c123 (x0 : ByteArray) (x1 : ByteArray) {K : Value → HP} {L : HList} (h : s123 x0 x1 (HL.Ends K) L) : CallF PP 123 #[.string x0, .string x1] L K := by
  refine CallF.of (args := [.string x0, .string x1]) noNum mixed Try.func123 (e123 x0 x1 _) (fr_run ?_ h)
  unfold s123 t123
  refine fr_cl fun r1 => ?_
  refine fr_ifB ?_ ?_
  · refine fr_cl fun r2 => ?_
    refine fr_ifNot ?_ ?_
    · exact fr_end
    · exact fr_end
  · exact fr_end

/-- slices.partitionOrdered[string] -/
def s125 (x0 : SlV) (x1 : Int) (x2 : Int) (x3 : Int) (K : Value → HP) : HP :=
  elp x0.a x0.len x3 1 fun a1 =>
  elp x0.a x0.len x1 1 fun a2 =>
  ld a1 (.lf .str) fun v1 =>
  ld a2 (.lf .str) fun v2 =>
  st a2 [.string v1] <|
  st a1 [.string v2] <|
  w64 (x1 + 1) fun i1 =>
  w64 (x2 - 1) fun i2 =>
  lp [.lf (.int .i64)] (i1, ()) fun z1 go1 =>   -- i
   ifB (decide ((z1.1 : Int) ≤ i2)) (
    elp x0.a x0.len z1.1 1 fun a3 =>
    ld a3 (.lf .str) fun v3 =>
    ld a2 (.lf .str) fun v4 =>
    cl PP 123 #[.string v3, .string v4] [.lf .bool] fun r1 =>
    ifB r1.1 (
     w64 (z1.1 + 1) fun i3 =>
     go1 (i3, ())) (
     jn (fun y1 : RsV [.lf (.int .i64)] =>
      ifB (decide ((z1.1 : Int) > y1.1)) (
       elp x0.a x0.len y1.1 1 fun a5 =>
       ld a2 (.lf .str) fun v7 =>
       ld a5 (.lf .str) fun v8 =>
       st a5 [.string v7] <|
       st a2 [.string v8] <|
       K (.tuple #[.int .i64 y1.1, .bool true])) (
       elp x0.a x0.len y1.1 1 fun a6 =>
       ld a6 (.lf .str) fun v9 =>
       ld a3 (.lf .str) fun v10 =>
       st a3 [.string v9] <|
       st a6 [.string v10] <|
       w64 (z1.1 + 1) fun i5 =>
       w64 (y1.1 - 1) fun i6 =>
       jn (fun y2 : RsV [.lf (.int .i64)] =>
        elp x0.a x0.len y2.1 1 fun a13 =>
        ld a2 (.lf .str) fun v21 =>
        ld a13 (.lf .str) fun v22 =>
        st a13 [.string v21] <|
        st a2 [.string v22] <|
        K (.tuple #[.int .i64 y2.1, .bool false])) fun j2 =>
       lp [.lf (.int .i64), .lf (.int .i64)] (i5, i6, ()) fun z3 go3 =>   -- i, j
         lp [.lf (.int .i64)] (z3.1, ()) fun z4 go4 =>   -- i
          ifB (decide ((z4.1 : Int) ≤ z3.2.1)) (
           elp x0.a x0.len z4.1 1 fun a7 =>
           ld a7 (.lf .str) fun v11 =>
           ld a2 (.lf .str) fun v12 =>
           cl PP 123 #[.string v11, .string v12] [.lf .bool] fun r3 =>
           ifB r3.1 (
            w64 (z4.1 + 1) fun i7 =>
            go4 (i7, ())) (
            jn (fun y3 : RsV [.lf (.int .i64)] =>
             ifB (decide ((z4.1 : Int) > y3.1)) (
              j2 (y3.1, ())) (
              elp x0.a x0.len y3.1 1 fun a9 =>
              ld a9 (.lf .str) fun v15 =>
              ld a7 (.lf .str) fun v16 =>
              st a7 [.string v15] <|
              st a9 [.string v16] <|
              w64 (z4.1 + 1) fun i9 =>
              w64 (y3.1 - 1) fun i10 =>
              go3 (i9, i10, ()))) fun j3 =>
            lp [.lf (.int .i64)] (z3.2.1, ()) fun z5 go5 =>   -- j
              ifB (decide ((z4.1 : Int) ≤ z5.1)) (
               elp x0.a x0.len z5.1 1 fun a8 =>
               ld a8 (.lf .str) fun v13 =>
               ld a2 (.lf .str) fun v14 =>
               cl PP 123 #[.string v13, .string v14] [.lf .bool] fun r4 =>
               ifB r4.1 (
                j3 (z5.1, ())) (
                w64 (z5.1 - 1) fun i8 =>
                go5 (i8, ()))) (
               j3 (z5.1, ())))) (
           jn (fun y4 : RsV [.lf (.int .i64)] =>
            ifB (decide ((z4.1 : Int) > y4.1)) (
             j2 (y4.1, ())) (
             elp x0.a x0.len y4.1 1 fun a11 =>
             elp x0.a x0.len z4.1 1 fun a12 =>
             ld a11 (.lf .str) fun v19 =>
             ld a12 (.lf .str) fun v20 =>
             st a12 [.string v19] <|
             st a11 [.string v20] <|
             w64 (z4.1 + 1) fun i12 =>
             w64 (y4.1 - 1) fun i13 =>
             go3 (i12, i13, ()))) fun j4 =>
           lp [.lf (.int .i64)] (z3.2.1, ()) fun z6 go6 =>   -- j
             ifB (decide ((z4.1 : Int) ≤ z6.1)) (
              elp x0.a x0.len z6.1 1 fun a10 =>
              ld a10 (.lf .str) fun v17 =>
              ld a2 (.lf .str) fun v18 =>
              cl PP 123 #[.string v17, .string v18] [.lf .bool] fun r5 =>
              ifB r5.1 (
               j4 (z6.1, ())) (
               w64 (z6.1 - 1) fun i11 =>
               go6 (i11, ()))) (
              j4 (z6.1, ()))))) fun j1 =>
     lp [.lf (.int .i64)] (i2, ()) fun z2 go2 =>   -- j
       ifB (decide ((z1.1 : Int) ≤ z2.1)) (
        elp x0.a x0.len z2.1 1 fun a4 =>
        ld a4 (.lf .str) fun v5 =>
        ld a2 (.lf .str) fun v6 =>
        cl PP 123 #[.string v5, .string v6] [.lf .bool] fun r2 =>
        ifB r2.1 (
         j1 (z2.1, ())) (
         w64 (z2.1 - 1) fun i4 =>
         go2 (i4, ()))) (
        j1 (z2.1, ())))) (
    jn (fun y5 : RsV [.lf (.int .i64)] =>
     ifB (decide ((z1.1 : Int) > y5.1)) (
      elp x0.a x0.len y5.1 1 fun a15 =>
      ld a2 (.lf .str) fun v25 =>
      ld a15 (.lf .str) fun v26 =>
      st a15 [.string v25] <|
      st a2 [.string v26] <|
      K (.tuple #[.int .i64 y5.1, .bool true])) (
      elp x0.a x0.len y5.1 1 fun a16 =>
      elp x0.a x0.len z1.1 1 fun a17 =>
      ld a16 (.lf .str) fun v27 =>
      ld a17 (.lf .str) fun v28 =>
      st a17 [.string v27] <|
      st a16 [.string v28] <|
      w64 (z1.1 + 1) fun i15 =>
      w64 (y5.1 - 1) fun i16 =>
      jn (fun y6 : RsV [.lf (.int .i64)] =>
       elp x0.a x0.len y6.1 1 fun a24 =>
       ld a2 (.lf .str) fun v39 =>
       ld a24 (.lf .str) fun v40 =>
       st a24 [.string v39] <|
       st a2 [.string v40] <|
       K (.tuple #[.int .i64 y6.1, .bool false])) fun j6 =>
      lp [.lf (.int .i64), .lf (.int .i64)] (i15, i16, ()) fun z8 go8 =>   -- i, j
        lp [.lf (.int .i64)] (z8.1, ()) fun z9 go9 =>   -- i
         ifB (decide ((z9.1 : Int) ≤ z8.2.1)) (
          elp x0.a x0.len z9.1 1 fun a18 =>
          ld a18 (.lf .str) fun v29 =>
          ld a2 (.lf .str) fun v30 =>
          cl PP 123 #[.string v29, .string v30] [.lf .bool] fun r7 =>
          ifB r7.1 (
           w64 (z9.1 + 1) fun i17 =>
           go9 (i17, ())) (
           jn (fun y7 : RsV [.lf (.int .i64)] =>
            ifB (decide ((z9.1 : Int) > y7.1)) (
             j6 (y7.1, ())) (
             elp x0.a x0.len y7.1 1 fun a20 =>
             ld a20 (.lf .str) fun v33 =>
             ld a18 (.lf .str) fun v34 =>
             st a18 [.string v33] <|
             st a20 [.string v34] <|
             w64 (z9.1 + 1) fun i19 =>
             w64 (y7.1 - 1) fun i20 =>
             go8 (i19, i20, ()))) fun j7 =>
           lp [.lf (.int .i64)] (z8.2.1, ()) fun z10 go10 =>   -- j
             ifB (decide ((z9.1 : Int) ≤ z10.1)) (
              elp x0.a x0.len z10.1 1 fun a19 =>
              ld a19 (.lf .str) fun v31 =>
              ld a2 (.lf .str) fun v32 =>
              cl PP 123 #[.string v31, .string v32] [.lf .bool] fun r8 =>
              ifB r8.1 (
               j7 (z10.1, ())) (
               w64 (z10.1 - 1) fun i18 =>
               go10 (i18, ()))) (
              j7 (z10.1, ())))) (
          jn (fun y8 : RsV [.lf (.int .i64)] =>
           ifB (decide ((z9.1 : Int) > y8.1)) (
            j6 (y8.1, ())) (
            elp x0.a x0.len y8.1 1 fun a22 =>
            elp x0.a x0.len z9.1 1 fun a23 =>
            ld a22 (.lf .str) fun v37 =>
            ld a23 (.lf .str) fun v38 =>
            st a23 [.string v37] <|
            st a22 [.string v38] <|
            w64 (z9.1 + 1) fun i22 =>
            w64 (y8.1 - 1) fun i23 =>
            go8 (i22, i23, ()))) fun j8 =>
          lp [.lf (.int .i64)] (z8.2.1, ()) fun z11 go11 =>   -- j
            ifB (decide ((z9.1 : Int) ≤ z11.1)) (
             elp x0.a x0.len z11.1 1 fun a21 =>
             ld a21 (.lf .str) fun v35 =>
             ld a2 (.lf .str) fun v36 =>
             cl PP 123 #[.string v35, .string v36] [.lf .bool] fun r9 =>
             ifB r9.1 (
              j8 (z11.1, ())) (
              w64 (z11.1 - 1) fun i21 =>
              go11 (i21, ()))) (
             j8 (z11.1, ()))))) fun j5 =>
    lp [.lf (.int .i64)] (i2, ()) fun z7 go7 =>   -- j
      ifB (decide ((z1.1 : Int) ≤ z7.1)) (
       elp x0.a x0.len z7.1 1 fun a14 =>
       ld a14 (.lf .str) fun v23 =>
       ld a2 (.lf .str) fun v24 =>
       cl PP 123 #[.string v23, .string v24] [.lf .bool] fun r6 =>
       ifB r6.1 (
        j5 (z7.1, ())) (
        w64 (z7.1 - 1) fun i14 =>
        go7 (i14, ()))) (
       j5 (z7.1, ())))
theorem c125 (x0 : SlV) (x1 : Int) (x2 : Int) (x3 : Int) {K : Value → HP} {L : HList} (h : s125 x0 x1 x2 x3 (HL.Ends K) L) : CallF PP 125 #[.slice x0.a x0.len x0.cap, .int .i64 x1, .int .i64 x2, .int .i64 x3] L K := by
  refine CallF.of (args := [.slice x0.a x0.len x0.cap, .int .i64 x1, .int .i64 x2, .int .i64 x3]) noNum mixed Try.func125 (e125 x0 x1 x2 x3 _) (fr_run ?_ h)
  unfold s125 t125
  refine fr_elpK fun a1 ha1 => ?_
  refine fr_elpK fun a2 ha2 => ?_
  refine fr_ld fun v1 => ?_
  refine fr_ld fun v2 => ?_
  refine fr_elpE ha2 ?_
  refine fr_st ?_
  refine fr_elpE ha1 ?_
  refine fr_st ?_
  refine fr_w64 ?_
  refine fr_w64 ?_
  refine fr_lp0 fun go1' go1 hgo1 z1 => ?_
  refine fr_ifB ?_ ?_
  · refine fr_elpK fun a3 ha3 => ?_
    refine fr_elpE ha2 ?_
    refine fr_ld fun v3 => ?_
    refine fr_ld fun v4 => ?_
    refine fr_cl fun r1 => ?_
    refine fr_ifB ?_ ?_
    · refine fr_w64 ?_
      exact fr_wk (hgo1 _) rfl
    · refine fr_jn0 (fun y1 => ?_) fun j1' j1 hj1 => ?_
      · refine fr_ifB ?_ ?_
        · refine fr_elpE ha2 ?_
          refine fr_elpK fun a5 ha5 => ?_
          refine fr_ld fun v7 => ?_
          refine fr_ld fun v8 => ?_
          refine fr_elpE ha5 ?_
          refine fr_st ?_
          refine fr_elpE ha2 ?_
          refine fr_st ?_
          exact fr_end
        · refine fr_elpK fun a6 ha6 => ?_
          refine fr_elpE ha3 ?_
          refine fr_ld fun v9 => ?_
          refine fr_ld fun v10 => ?_
          refine fr_elpE ha3 ?_
          refine fr_st ?_
          refine fr_elpE ha6 ?_
          refine fr_st ?_
          refine fr_w64 ?_
          refine fr_w64 ?_
          refine fr_jn0 (fun y2 => ?_) fun j2' j2 hj2 => ?_
          · refine fr_elpE ha2 ?_
            refine fr_elpK fun a13 ha13 => ?_
            refine fr_ld fun v21 => ?_
            refine fr_ld fun v22 => ?_
            refine fr_elpE ha13 ?_
            refine fr_st ?_
            refine fr_elpE ha2 ?_
            refine fr_st ?_
            exact fr_end
          · refine fr_lp0 fun go3' go3 hgo3 z3 => ?_
            refine fr_lp0 fun go4' go4 hgo4 z4 => ?_
            refine fr_ifB ?_ ?_
            · refine fr_elpK fun a7 ha7 => ?_
              refine fr_elpE ha2 ?_
              refine fr_ld fun v11 => ?_
              refine fr_ld fun v12 => ?_
              refine fr_cl fun r3 => ?_
              refine fr_ifB ?_ ?_
              · refine fr_w64 ?_
                exact fr_wk (hgo4 _) rfl
              · refine fr_jn0 (fun y3 => ?_) fun j3' j3 hj3 => ?_
                · refine fr_ifB ?_ ?_
                  · exact fr_wk (hj2 _) rfl
                  · refine fr_elpK fun a9 ha9 => ?_
                    refine fr_elpE ha7 ?_
                    refine fr_ld fun v15 => ?_
                    refine fr_ld fun v16 => ?_
                    refine fr_elpE ha7 ?_
                    refine fr_st ?_
                    refine fr_elpE ha9 ?_
                    refine fr_st ?_
                    refine fr_w64 ?_
                    refine fr_w64 ?_
                    exact fr_wk (hgo3 _) rfl
                · refine fr_lp0 fun go5' go5 hgo5 z5 => ?_
                  refine fr_ifB ?_ ?_
                  · refine fr_elpK fun a8 ha8 => ?_
                    refine fr_elpE ha2 ?_
                    refine fr_ld fun v13 => ?_
                    refine fr_ld fun v14 => ?_
                    refine fr_cl fun r4 => ?_
                    refine fr_ifNot ?_ ?_
                    · refine fr_w64 ?_
                      exact fr_wk (hgo5 _) rfl
                    · exact fr_wk (hj3 _) rfl
                  · exact fr_wk (hj3 _) rfl
            · refine fr_jn0 (fun y4 => ?_) fun j4' j4 hj4 => ?_
              · refine fr_ifB ?_ ?_
                · exact fr_wk (hj2 _) rfl
                · refine fr_elpK fun a11 ha11 => ?_
                  refine fr_elpK fun a12 ha12 => ?_
                  refine fr_ld fun v19 => ?_
                  refine fr_ld fun v20 => ?_
                  refine fr_elpE ha12 ?_
                  refine fr_st ?_
                  refine fr_elpE ha11 ?_
                  refine fr_st ?_
                  refine fr_w64 ?_
                  refine fr_w64 ?_
                  exact fr_wk (hgo3 _) rfl
              · refine fr_lp0 fun go6' go6 hgo6 z6 => ?_
                refine fr_ifB ?_ ?_
                · refine fr_elpK fun a10 ha10 => ?_
                  refine fr_elpE ha2 ?_
                  refine fr_ld fun v17 => ?_
                  refine fr_ld fun v18 => ?_
                  refine fr_cl fun r5 => ?_
                  refine fr_ifNot ?_ ?_
                  · refine fr_w64 ?_
                    exact fr_wk (hgo6 _) rfl
                  · exact fr_wk (hj4 _) rfl
                · exact fr_wk (hj4 _) rfl
      · refine fr_lp0 fun go2' go2 hgo2 z2 => ?_
        refine fr_ifB ?_ ?_
        · refine fr_elpK fun a4 ha4 => ?_
          refine fr_elpE ha2 ?_
          refine fr_ld fun v5 => ?_
          refine fr_ld fun v6 => ?_
          refine fr_cl fun r2 => ?_
          refine fr_ifNot ?_ ?_
          · refine fr_w64 ?_
            exact fr_wk (hgo2 _) rfl
          · exact fr_wk (hj1 _) rfl
        · exact fr_wk (hj1 _) rfl
  · refine fr_jn0 (fun y5 => ?_) fun j5' j5 hj5 => ?_
    · refine fr_ifB ?_ ?_
      · refine fr_elpE ha2 ?_
        refine fr_elpK fun a15 ha15 => ?_
        refine fr_ld fun v25 => ?_
        refine fr_ld fun v26 => ?_
        refine fr_elpE ha15 ?_
        refine fr_st ?_
        refine fr_elpE ha2 ?_
        refine fr_st ?_
        exact fr_end
      · refine fr_elpK fun a16 ha16 => ?_
        refine fr_elpK fun a17 ha17 => ?_
        refine fr_ld fun v27 => ?_
        refine fr_ld fun v28 => ?_
        refine fr_elpE ha17 ?_
        refine fr_st ?_
        refine fr_elpE ha16 ?_
        refine fr_st ?_
        refine fr_w64 ?_
        refine fr_w64 ?_
        refine fr_jn0 (fun y6 => ?_) fun j6' j6 hj6 => ?_
        · refine fr_elpE ha2 ?_
          refine fr_elpK fun a24 ha24 => ?_
          refine fr_ld fun v39 => ?_
          refine fr_ld fun v40 => ?_
          refine fr_elpE ha24 ?_
          refine fr_st ?_
          refine fr_elpE ha2 ?_
          refine fr_st ?_
          exact fr_end
        · refine fr_lp0 fun go8' go8 hgo8 z8 => ?_
          refine fr_lp0 fun go9' go9 hgo9 z9 => ?_
          refine fr_ifB ?_ ?_
          · refine fr_elpK fun a18 ha18 => ?_
            refine fr_elpE ha2 ?_
            refine fr_ld fun v29 => ?_
            refine fr_ld fun v30 => ?_
            refine fr_cl fun r7 => ?_
            refine fr_ifB ?_ ?_
            · refine fr_w64 ?_
              exact fr_wk (hgo9 _) rfl
            · refine fr_jn0 (fun y7 => ?_) fun j7' j7 hj7 => ?_
              · refine fr_ifB ?_ ?_
                · exact fr_wk (hj6 _) rfl
                · refine fr_elpK fun a20 ha20 => ?_
                  refine fr_elpE ha18 ?_
                  refine fr_ld fun v33 => ?_
                  refine fr_ld fun v34 => ?_
                  refine fr_elpE ha18 ?_
                  refine fr_st ?_
                  refine fr_elpE ha20 ?_
                  refine fr_st ?_
                  refine fr_w64 ?_
                  refine fr_w64 ?_
                  exact fr_wk (hgo8 _) rfl
              · refine fr_lp0 fun go10' go10 hgo10 z10 => ?_
                refine fr_ifB ?_ ?_
                · refine fr_elpK fun a19 ha19 => ?_
                  refine fr_elpE ha2 ?_
                  refine fr_ld fun v31 => ?_
                  refine fr_ld fun v32 => ?_
                  refine fr_cl fun r8 => ?_
                  refine fr_ifNot ?_ ?_
                  · refine fr_w64 ?_
                    exact fr_wk (hgo10 _) rfl
                  · exact fr_wk (hj7 _) rfl
                · exact fr_wk (hj7 _) rfl
          · refine fr_jn0 (fun y8 => ?_) fun j8' j8 hj8 => ?_
            · refine fr_ifB ?_ ?_
              · exact fr_wk (hj6 _) rfl
              · refine fr_elpK fun a22 ha22 => ?_
                refine fr_elpK fun a23 ha23 => ?_
                refine fr_ld fun v37 => ?_
                refine fr_ld fun v38 => ?_
                refine fr_elpE ha23 ?_
                refine fr_st ?_
                refine fr_elpE ha22 ?_
                refine fr_st ?_
                refine fr_w64 ?_
                refine fr_w64 ?_
                exact fr_wk (hgo8 _) rfl
            · refine fr_lp0 fun go11' go11 hgo11 z11 => ?_
              refine fr_ifB ?_ ?_
              · refine fr_elpK fun a21 ha21 => ?_
                refine fr_elpE ha2 ?_
                refine fr_ld fun v35 => ?_
                refine fr_ld fun v36 => ?_
                refine fr_cl fun r9 => ?_
                refine fr_ifNot ?_ ?_
                · refine fr_w64 ?_
                  exact fr_wk (hgo11 _) rfl
                · exact fr_wk (hj8 _) rfl
              · exact fr_wk (hj8 _) rfl
    · refine fr_lp0 fun go7' go7 hgo7 z7 => ?_
      refine fr_ifB ?_ ?_
      · refine fr_elpK fun a14 ha14 => ?_
        refine fr_elpE ha2 ?_
        refine fr_ld fun v23 => ?_
        refine fr_ld fun v24 => ?_
        refine fr_cl fun r6 => ?_
        refine fr_ifNot ?_ ?_
        · refine fr_w64 ?_
          exact fr_wk (hgo7 _) rfl
        · exact fr_wk (hj5 _) rfl
      · exact fr_wk (hj5 _) rfl

end Go.Proofs.Ytlabcgnegbdlfaa
set_option linter.unusedVariables false
set_option maxRecDepth 100000
namespace Go.Proofs.Ytlabcgnegbdlfaa
open Go.HL
/-- math/bits.Len64 -/
def s127 (x0 : Int) (K : Value → HP) : HP :=
  jn (fun y1 : RsV [.lf (.int .u64), .lf (.int .i64)] =>
   jn (fun y2 : RsV [.lf (.int .u64), .lf (.int .i64)] =>
    jn (fun y3 : RsV [.lf (.int .u64), .lf (.int .i64)] =>
     ixn (IntKind.u8.wrap y3.1) (ByteArray.mk #[0, 1, 2, 2, 3, 3, 3, 3, 4, 4, 4, 4, 4, 4, 4, 4, 5, 5, 5, 5, 5, 5, 5, 5, 5, 5, 5, 5, 5, 5, 5, 5, 6, 6, 6, 6, 6, 6, 6, 6, 6, 6, 6, 6, 6, 6, 6, 6, 6, 6, 6, 6, 6, 6, 6, 6, 6, 6, 6, 6, 6, 6, 6, 6, 7, 7, 7, 7, 7, 7, 7, 7, 7, 7, 7, 7, 7, 7, 7, 7, 7, 7, 7, 7, 7, 7, 7, 7, 7, 7, 7, 7, 7, 7, 7, 7, 7, 7, 7, 7, 7, 7, 7, 7, 7, 7, 7, 7, 7, 7, 7, 7, 7, 7, 7, 7, 7, 7, 7, 7, 7, 7, 7, 7, 7, 7, 7, 7, 8, 8, 8, 8, 8, 8, 8, 8, 8, 8, 8, 8, 8, 8, 8, 8, 8, 8, 8, 8, 8, 8, 8, 8, 8, 8, 8, 8, 8, 8, 8, 8, 8, 8, 8, 8, 8, 8, 8, 8, 8, 8, 8, 8, 8, 8, 8, 8, 8, 8, 8, 8, 8, 8, 8, 8, 8, 8, 8, 8, 8, 8, 8, 8, 8, 8, 8, 8, 8, 8, 8, 8, 8, 8, 8, 8, 8, 8, 8, 8, 8, 8, 8, 8, 8, 8, 8, 8, 8, 8, 8, 8, 8, 8, 8, 8, 8, 8, 8, 8, 8, 8, 8, 8, 8, 8, 8, 8, 8, 8, 8, 8, 8, 8, 8, 8, 8, 8, 8, 8, 8, 8, 8, 8, 8, 8, 8, 8]).size <|
     w64 (byteAt (ByteArray.mk #[0, 1, 2, 2, 3, 3, 3, 3, 4, 4, 4, 4, 4, 4, 4, 4, 5, 5, 5, 5, 5, 5, 5, 5, 5, 5, 5, 5, 5, 5, 5, 5, 6, 6, 6, 6, 6, 6, 6, 6, 6, 6, 6, 6, 6, 6, 6, 6, 6, 6, 6, 6, 6, 6, 6, 6, 6, 6, 6, 6, 6, 6, 6, 6, 7, 7, 7, 7, 7, 7, 7, 7, 7, 7, 7, 7, 7, 7, 7, 7, 7, 7, 7, 7, 7, 7, 7, 7, 7, 7, 7, 7, 7, 7, 7, 7, 7, 7, 7, 7, 7, 7, 7, 7, 7, 7, 7, 7, 7, 7, 7, 7, 7, 7, 7, 7, 7, 7, 7, 7, 7, 7, 7, 7, 7, 7, 7, 7, 8, 8, 8, 8, 8, 8, 8, 8, 8, 8, 8, 8, 8, 8, 8, 8, 8, 8, 8, 8, 8, 8, 8, 8, 8, 8, 8, 8, 8, 8, 8, 8, 8, 8, 8, 8, 8, 8, 8, 8, 8, 8, 8, 8, 8, 8, 8, 8, 8, 8, 8, 8, 8, 8, 8, 8, 8, 8, 8, 8, 8, 8, 8, 8, 8, 8, 8, 8, 8, 8, 8, 8, 8, 8, 8, 8, 8, 8, 8, 8, 8, 8, 8, 8, 8, 8, 8, 8, 8, 8, 8, 8, 8, 8, 8, 8, 8, 8, 8, 8, 8, 8, 8, 8, 8, 8, 8, 8, 8, 8, 8, 8, 8, 8, 8, 8, 8, 8, 8, 8, 8, 8, 8, 8, 8, 8, 8, 8]) (IntKind.u8.wrap y3.1)) fun i3 =>
     w64 (y3.2.1 + i3) fun i4 =>
     K (.int .i64 i4)) fun j3 =>
    ifB (decide ((y2.1 : Int) ≥ 256)) (
      w64 (y2.2.1 + 8) fun i2 =>
      j3 (Int.fdiv y2.1 (2 ^ (min (8 : Int).toNat IntKind.u64.bits)), i2, ())) (
      j3 (y2.1, y2.2.1, ()))) fun j2 =>
   ifB (decide ((y1.1 : Int) ≥ 65536)) (
     w64 (y1.2.1 + 16) fun i1 =>
     j2 (Int.fdiv y1.1 (2 ^ (min (16 : Int).toNat IntKind.u64.bits)), i1, ())) (
     j2 (y1.1, y1.2.1, ()))) fun j1 =>
  ifB (decide ((x0 : Int) ≥ 4294967296)) (
    j1 (Int.fdiv x0 (2 ^ (min (32 : Int).toNat IntKind.u64.bits)), 32, ())) (
    j1 (x0, 0, ()))
theorem c127 (x0 : Int) {K : Value → HP} {L : HList} (h : s127 x0 (HL.Ends K) L) : CallF PP 127 #[.int .u64 x0] L K := by
  refine CallF.of (args := [.int .u64 x0]) noNum mixed Try.func127 (e127 x0 _) (fr_run ?_ h)
  unfold s127 t127
  refine fr_jn0 (fun y1 => ?_) fun j1' j1 hj1 => ?_
  · refine fr_jn0 (fun y2 => ?_) fun j2' j2 hj2 => ?_
    · refine fr_jn0 (fun y3 => ?_) fun j3' j3 hj3 => ?_
      · refine fr_ixn ?_
        refine fr_w64 ?_
        refine fr_w64 ?_
        exact fr_end
      · refine fr_ifB ?_ ?_
        · refine fr_reqT (by decide) ?_
          refine fr_w64 ?_
          exact fr_wk (hj3 _) rfl
        · exact fr_wk (hj3 _) rfl
    · refine fr_ifB ?_ ?_
      · refine fr_reqT (by decide) ?_
        refine fr_w64 ?_
        exact fr_wk (hj2 _) rfl
      · exact fr_wk (hj2 _) rfl
  · refine fr_ifB ?_ ?_
    · refine fr_reqT (by decide) ?_
      exact fr_wk (hj1 _) rfl
    · exact fr_wk (hj1 _) rfl

/-- slices.siftDownOrdered[string] -/
def s132 (x0 : SlV) (x1 : Int) (x2 : Int) (x3 : Int) (K : Value → HP) : HP :=
  lp [.lf (.int .i64)] (x1, ()) fun z1 go1 =>   -- root
   w64 (2 * z1.1) fun i1 =>
   w64 (i1 + 1) fun i2 =>
   ifB (decide ((i2 : Int) ≥ x2)) (
    K (.tuple #[])) (
    jn (fun y1 : RsV [.lf (.int .i64)] =>
     w64 (x3 + z1.1) fun i8 =>
     elp x0.a x0.len i8 1 fun a3 =>
     w64 (x3 + y1.1) fun i9 =>
     elp x0.a x0.len i9 1 fun a4 =>
     ld a3 (.lf .str) fun v3 =>
     ld a4 (.lf .str) fun v4 =>
     cl PP 123 #[.string v3, .string v4] [.lf .bool] fun r2 =>
     ifB r2.1 (
      w64 (x3 + z1.1) fun i10 =>
      w64 (x3 + y1.1) fun i11 =>
      w64 (x3 + y1.1) fun i12 =>
      elp x0.a x0.len i12 1 fun a5 =>
      w64 (x3 + z1.1) fun i13 =>
      elp x0.a x0.len i13 1 fun a6 =>
      ld a5 (.lf .str) fun v5 =>
      ld a6 (.lf .str) fun v6 =>
      elp x0.a x0.len i10 1 fun a7 =>
      st a7 [.string v5] <|
      elp x0.a x0.len i11 1 fun a8 =>
      st a8 [.string v6] <|
      go1 (y1.1, ())) (
      K (.tuple #[]))) fun j1 =>
    w64 (i2 + 1) fun i3 =>
     ifB (decide ((i3 : Int) < x2)) (
      w64 (x3 + i2) fun i4 =>
      elp x0.a x0.len i4 1 fun a1 =>
      w64 (x3 + i2) fun i5 =>
      w64 (i5 + 1) fun i6 =>
      elp x0.a x0.len i6 1 fun a2 =>
      ld a1 (.lf .str) fun v1 =>
      ld a2 (.lf .str) fun v2 =>
      cl PP 123 #[.string v1, .string v2] [.lf .bool] fun r1 =>
      ifB r1.1 (
       w64 (i2 + 1) fun i7 =>
       j1 (i7, ())) (
       j1 (i2, ()))) (
      j1 (i2, ())))
theorem c132 (x0 : SlV) (x1 : Int) (x2 : Int) (x3 : Int) {K : Value → HP} {L : HList} (h : s132 x0 x1 x2 x3 (HL.Ends K) L) : CallF PP 132 #[.slice x0.a x0.len x0.cap, .int .i64 x1, .int .i64 x2, .int .i64 x3] L K := by
  refine CallF.of (args := [.slice x0.a x0.len x0.cap, .int .i64 x1, .int .i64 x2, .int .i64 x3]) noNum mixed Try.func132 (e132 x0 x1 x2 x3 _) (fr_run ?_ h)
  unfold s132 t132
  refine fr_lp0 fun go1' go1 hgo1 z1 => ?_
  refine fr_w64 ?_
  refine fr_w64 ?_
  refine fr_ifB ?_ ?_
  · exact fr_end
  · refine fr_jn0 (fun y1 => ?_) fun j1' j1 hj1 => ?_
    · refine fr_w64 ?_
      refine fr_elpK fun a3 ha3 => ?_
      refine fr_w64 ?_
      refine fr_elpK fun a4 ha4 => ?_
      refine fr_ld fun v3 => ?_
      refine fr_ld fun v4 => ?_
      refine fr_cl fun r2 => ?_
      refine fr_ifNot ?_ ?_
      · exact fr_end
      · refine fr_w64 ?_
        refine fr_w64 ?_
        refine fr_w64 ?_
        refine fr_elpK fun a5 ha5 => ?_
        refine fr_w64 ?_
        refine fr_elpK fun a6 ha6 => ?_
        refine fr_ld fun v5 => ?_
        refine fr_ld fun v6 => ?_
        refine fr_elpK fun a7 ha7 => ?_
        refine fr_st ?_
        refine fr_elpK fun a8 ha8 => ?_
        refine fr_st ?_
        exact fr_wk (hgo1 _) rfl
    · refine fr_w64 ?_
      refine fr_ifB ?_ ?_
      · refine fr_w64 ?_
        refine fr_elpK fun a1 ha1 => ?_
        refine fr_w64 ?_
        refine fr_w64 ?_
        refine fr_elpK fun a2 ha2 => ?_
        refine fr_ld fun v1 => ?_
        refine fr_ld fun v2 => ?_
        refine fr_cl fun r1 => ?_
        refine fr_ifB ?_ ?_
        · refine fr_w64 ?_
          exact fr_wk (hj1 _) rfl
        · exact fr_wk (hj1 _) rfl
      · exact fr_wk (hj1 _) rfl

/-- slices.nextPowerOfTwo -/
def s133 (x0 : Int) (K : Value → HP) : HP :=
  cl PP 108 #[.int .u64 (IntKind.u64.wrap x0)] [.lf (.int .i64)] fun r1 =>
  req ((0 : Int) ≤ r1.1) <|
  K (.int .u64 (IntKind.u64.wrap (1 * 2 ^ (min (r1.1 : Int).toNat IntKind.u64.bits))))
theorem c133 (x0 : Int) {K : Value → HP} {L : HList} (h : s133 x0 (HL.Ends K) L) : CallF PP 133 #[.int .i64 x0] L K := by
  refine CallF.of (args := [.int .i64 x0]) noNum mixed Try.func133 (e133 x0 _) (fr_run ?_ h)
  unfold s133 t133
  refine fr_cl fun r1 => ?_
  refine fr_req ?_
  exact fr_end

/-- (*slices.xorshift).Next -/
def s134 (x0 : Option Addr) (K : Value → HP) : HP :=
  nilc x0 fun a1 =>
  ld a1 (.lf (.int .u64)) fun v1 =>
  ld a1 (.lf (.int .u64)) fun v2 =>
  st a1 [.int .u64 (bitI .xor .u64 v1 (IntKind.u64.wrap (v2 * 2 ^ (min (13 : Int).toNat IntKind.u64.bits))))] <|
  ld a1 (.lf (.int .u64)) fun v3 =>
  ld a1 (.lf (.int .u64)) fun v4 =>
  st a1 [.int .u64 (bitI .xor .u64 v3 (Int.fdiv v4 (2 ^ (min (7 : Int).toNat IntKind.u64.bits))))] <|
  ld a1 (.lf (.int .u64)) fun v5 =>
  ld a1 (.lf (.int .u64)) fun v6 =>
  st a1 [.int .u64 (bitI .xor .u64 v5 (IntKind.u64.wrap (v6 * 2 ^ (min (17 : Int).toNat IntKind.u64.bits))))] <|
  ld a1 (.lf (.int .u64)) fun v7 =>
  K (.int .u64 v7)
theorem c134 (x0 : Option Addr) {K : Value → HP} {L : HList} (h : s134 x0 (HL.Ends K) L) : CallF PP 134 #[.pointer x0] L K := by
  refine CallF.of (args := [.pointer x0]) noNum mixed Try.func134 (e134 x0 _) (fr_run ?_ h)
  unfold s134 t134
  refine fr_nilcK fun a1 ha1 => ?_
  refine fr_nilcE ha1 ?_
  refine fr_ld fun v1 => ?_
  refine fr_ld fun v2 => ?_
  refine fr_reqT (by decide) ?_
  refine fr_nilcE ha1 ?_
  refine fr_st ?_
  refine fr_nilcE ha1 ?_
  refine fr_nilcE ha1 ?_
  refine fr_ld fun v3 => ?_
  refine fr_ld fun v4 => ?_
  refine fr_reqT (by decide) ?_
  refine fr_nilcE ha1 ?_
  refine fr_st ?_
  refine fr_nilcE ha1 ?_
  refine fr_nilcE ha1 ?_
  refine fr_ld fun v5 => ?_
  refine fr_ld fun v6 => ?_
  refine fr_reqT (by decide) ?_
  refine fr_nilcE ha1 ?_
  refine fr_st ?_
  refine fr_nilcE ha1 ?_
  refine fr_ld fun v7 => ?_
  exact fr_end

/-- slices.medianAdjacentOrdered[string] -/
def s135 (x0 : SlV) (x1 : Int) (x2 : Option Addr) (K : Value → HP) : HP :=
  w64 (x1 - 1) fun i1 =>
  w64 (x1 + 1) fun i2 =>
  cl PP 136 #[.slice x0.a x0.len x0.cap, .int .i64 i1, .int .i64 x1, .int .i64 i2, .pointer x2] [.lf (.int .i64)] fun r1 =>
  K (.int .i64 r1.1)
theorem c135 (x0 : SlV) (x1 : Int) (x2 : Option Addr) {K : Value → HP} {L : HList} (h : s135 x0 x1 x2 (HL.Ends K) L) : CallF PP 135 #[.slice x0.a x0.len x0.cap, .int .i64 x1, .pointer x2] L K := by
  refine CallF.of (args := [.slice x0.a x0.len x0.cap, .int .i64 x1, .pointer x2]) noNum mixed Try.func135 (e135 x0 x1 x2 _) (fr_run ?_ h)
  unfold s135 t135
  refine fr_w64 ?_
  refine fr_w64 ?_
  refine fr_cl fun r1 => ?_
  exact fr_end

/-- slices.medianOrdered[string] -/
def s136 (x0 : SlV) (x1 : Int) (x2 : Int) (x3 : Int) (x4 : Option Addr) (K : Value → HP) : HP :=
  cl PP 139 #[.slice x0.a x0.len x0.cap, .int .i64 x1, .int .i64 x2, .pointer x4] [.lf (.int .i64), .lf (.int .i64)] fun r1 =>
  cl PP 139 #[.slice x0.a x0.len x0.cap, .int .i64 r1.2.1, .int .i64 x3, .pointer x4] [.lf (.int .i64), .lf (.int .i64)] fun r2 =>
  cl PP 139 #[.slice x0.a x0.len x0.cap, .int .i64 r1.1, .int .i64 r2.1, .pointer x4] [.lf (.int .i64), .lf (.int .i64)] fun r3 =>
  K (.int .i64 r3.2.1)
theorem c136 (x0 : SlV) (x1 : Int) (x2 : Int) (x3 : Int) (x4 : Option Addr) {K : Value → HP} {L : HList} (h : s136 x0 x1 x2 x3 x4 (HL.Ends K) L) : CallF PP 136 #[.slice x0.a x0.len x0.cap, .int .i64 x1, .int .i64 x2, .int .i64 x3, .pointer x4] L K := by
  refine CallF.of (args := [.slice x0.a x0.len x0.cap, .int .i64 x1, .int .i64 x2, .int .i64 x3, .pointer x4]) noNum mixed Try.func136 (e136 x0 x1 x2 x3 x4 _) (fr_run ?_ h)
  unfold s136 t136
  refine fr_cl fun r1 => ?_
  refine fr_cl fun r2 => ?_
  refine fr_cl fun r3 => ?_
  exact fr_end

/-- cmp.isNaN[string] -/
def s137 (x0 : ByteArray) (K : Value → HP) : HP :=
  K (.bool (!(ByteArray.toList x0 == ByteArray.toList x0)))
theorem c137 (x0 : ByteArray) {K : Value → HP} {L : HList} (h : s137 x0 (HL.Ends K) L) : CallF PP 137 #[.string x0] L K := by
  refine CallF.of (args := [.string x0]) noNum mixed Try.func137 (e137 x0 _) (fr_run ?_ h)
  unfold s137 t137
  exact fr_end

/-- slices.order2Ordered[string] -/
def s139 (x0 : SlV) (x1 : Int) (x2 : Int) (x3 : Option Addr) (K : Value → HP) : HP :=
  elp x0.a x0.len x2 1 fun a1 =>
  elp x0.a x0.len x1 1 fun a2 =>
  ld a1 (.lf .str) fun v1 =>
  ld a2 (.lf .str) fun v2 =>
  cl PP 123 #[.string v1, .string v2] [.lf .bool] fun r1 =>
  ifB r1.1 (
   nilc x3 fun a3 =>
   ld a3 (.lf (.int .i64)) fun v3 =>
   w64 (v3 + 1) fun i1 =>
   st a3 [.int .i64 i1] <|
   K (.tuple #[.int .i64 x2, .int .i64 x1])) (
   K (.tuple #[.int .i64 x1, .int .i64 x2]))
theorem c139 (x0 : SlV) (x1 : Int) (x2 : Int) (x3 : Option Addr) {K : Value → HP} {L : HList} (h : s139 x0 x1 x2 x3 (HL.Ends K) L) : CallF PP 139 #[.slice x0.a x0.len x0.cap, .int .i64 x1, .int .i64 x2, .pointer x3] L K := by
  refine CallF.of (args := [.slice x0.a x0.len x0.cap, .int .i64 x1, .int .i64 x2, .pointer x3]) noNum mixed Try.func139 (e139 x0 x1 x2 x3 _) (fr_run ?_ h)
  unfold s139 t139
  refine fr_elpK fun a1 ha1 => ?_
  refine fr_elpK fun a2 ha2 => ?_
  refine fr_ld fun v1 => ?_
  refine fr_ld fun v2 => ?_
  refine fr_cl fun r1 => ?_
  refine fr_ifB ?_ ?_
  · refine fr_nilcK fun a3 ha3 => ?_
    refine fr_ld fun v3 => ?_
    refine fr_w64 ?_
    refine fr_nilcE ha3 ?_
    refine fr_st ?_
    exact fr_end
  · exact fr_end

end Go.Proofs.Ytlabcgnegbdlfaa
set_option linter.unusedVariables false
set_option linter.unusedSimpArgs false
namespace Go.Proofs.Ytlabcgnegbdlfaa
open Go.HL

def strE (s : ByteArray) : List Value := [.string s]
theorem strE_len (s : ByteArray) : (strE s).length = 1 := rfl
theorem strE_plain (l : BL) : (l.flatMap strE).all plainV = true := by
  induction l with
  | nil => rfl
  | cons a r ih => rw [List.flatMap_cons, List.all_append, ih]; rfl
abbrev SO (v : SlV) (l : BL) (seg : HList) : Prop := Own v 1 9 (l.flatMap strE) seg
theorem SO.len {v : SlV} {l : BL} {seg : HList} (o : SO v l seg) : v.len = l.length := (Own.sl o).els_len strE_len (by decide)
theorem SO.ld {v : SlV} {l : BL} {seg L : HList} (o : SO v l seg) (hs : ∀ p ∈ seg, p ∈ L) {b : Addr} (hb : v.a = some b) {n : Nat} (hn : n < l.length) : LdAt (Addr.add b (n * 1)) [.string (ga l n)] L := by
  obtain ⟨a, ha, hl⟩ := (Own.sl o).el strE_len (by decide) hn
  rw [hb] at ha
  obtain rfl := Option.some.inj ha
  rw [ga_get hn]
  exact hl.mono hs
theorem elp_s {v : SlV} {l : BL} {seg L : HList} (o : SO v l seg) {i : Int} {n : Nat} (hi : i = n) (hn : n < l.length) {k : Addr → HP} (hk : ∀ b, v.a = some b → k (Addr.add b (n * 1)) L) : elp v.a v.len i 1 k L := by
  subst hi
  obtain ⟨a, ha, hl⟩ := (Own.sl o).el strE_len (by decide) hn
  refine nilc_of ha (ixn_of (by omega) (by have := o.len; omega) ?_)
  rw [Int.toNat_natCast]
  exact hk a ha
theorem SO.st {v : SlV} {l : BL} {seg L Y : HList} (o : SO v l seg) {b : Addr} (hb : v.a = some b) {n : Nat} (hn : n < l.length) (x : ByteArray) (hL : L.Perm (seg ++ Y)) {k : HP} (hk : ∀ seg' L', L'.Perm (seg' ++ Y) → SO v (l.set n x) seg' → k L') : st (Addr.add b (n * 1)) [.string x] k L :=
  st_own strE_len (by decide) o hb hn x hL hk
/-- Two stores that swap. -/
theorem st_sw {v : SlV} {l : BL} {seg L Y : HList} (o : SO v l seg) {b b' : Addr} (hb : v.a = some b) (hb' : v.a = some b') {i j : Nat} (hi : i < l.length) (hj : j < l.length) (hL : L.Perm (seg ++ Y)) {k : HP}
    (hk : ∀ seg' L', L'.Perm (seg' ++ Y) → SO v (sw l i j) seg' → k L') : HL.st (Addr.add b (j * 1)) [.string (ga l i)] (HL.st (Addr.add b' (i * 1)) [.string (ga l j)] k) L := by
  refine o.st hb hj _ hL fun sg1 L1 hL1 o1 => ?_
  refine o1.st hb' (by simpa using hi) _ hL1 fun sg2 L2 hL2 o2 => ?_
  rw [sw_comm hi hj] at o2
  exact hk sg2 L2 hL2 o2
theorem st_sw2 {v : SlV} {l : BL} {seg L Y : HList} (o : SO v l seg) {b b' : Addr} (hb : v.a = some b) (hb' : v.a = some b') {i j : Nat} (hi : i < l.length) (hj : j < l.length) (hL : L.Perm (seg ++ Y)) {k : HP}
    (hk : ∀ seg' L', L'.Perm (seg' ++ Y) → SO v (sw l i j) seg' → k L') : HL.st (Addr.add b (i * 1)) [.string (ga l j)] (HL.st (Addr.add b' (j * 1)) [.string (ga l i)] k) L := by
  refine o.st hb hi _ hL fun sg1 L1 hL1 o1 => ?_
  refine o1.st hb' (by simpa using hj) _ hL1 fun sg2 L2 hL2 o2 => ?_
  exact hk sg2 L2 hL2 o2
/-- What a function that sorts a part leaves. -/
def SK (a b : Nat) (v : SlV) (l : BL) (R : HList) (Q : BL → Value → Prop) (r : Value) (L' : HList) : Prop := ∃ l' seg', L' = seg' ++ R ∧ SO v l' seg' ∧ Sg a b l l' ∧ Q l' r
theorem SK.mk {a b : Nat} {v : SlV} {l l' : BL} {R seg L' : HList} {Q : BL → Value → Prop} {r : Value} (hp : L'.Perm (seg ++ R)) (o : SO v l' seg) (s : Sg a b l l') (q : Q l' r) : HL.Ends (SK a b v l R Q) r L' := .drop (A := seg ++ R) (J := []) ⟨l', seg, rfl, o, s, q⟩ (by simpa using hp)
theorem isnan_rd (L : HList) (x : ByteArray) : Reads PP 137 #[.string x] L (.bool false) := by
  unfold Reads
  refine c137 x ?_
  unfold s137
  exact .of ⟨by simp, rfl⟩
theorem less_rd (L : HList) (x y : ByteArray) : Reads PP 123 #[.string x, .string y] L (.bool (lt x y)) := by
  unfold Reads
  refine c123 x y ?_
  unfold s123
  refine cl_rd (isnan_rd L x) (false, ()) rfl (ifF rfl (.of ⟨?_, rfl⟩))
  rw [ba_toList, ba_toList]; rfl
theorem ins_cl (v : SlV) (l : BL) (seg R : HList) (o : SO v l seg) (a b : Nat) (hab : a ≤ b) (hb : b ≤ l.length) (hl : l.length ≤ 1000000) :
    CallF PP 117 #[.slice v.a v.len v.cap, .int .i64 a, .int .i64 b] (seg ++ R) (SK a b v l R fun l' r => r = .tuple #[] ∧ Srt l' a b) := by
  refine c117 v a b ?_
  unfold s117
  refine w64_of (by omega) ?_
  refine lp_of (fun z' z L' => ∃ (i : Nat) (l1 : BL) (sg : HList), z = ((i : Int), ()) ∧ z' = b + 1 - i ∧ a < i ∧ i ≤ max (a + 1) b ∧ Sg a b l l1 ∧ Srt l1 a i ∧ L'.Perm (sg ++ R) ∧ SO v l1 sg) (b + 1 - (a + 1))
    ⟨a + 1, l, seg, rfl, rfl, by omega, by omega, Sg.refl _ _ _, Srt.nil _ (by omega), List.Perm.refl _, o⟩ ?_
  rintro z' z L1 ⟨i, l1, sg, rfl, rfl, hi1, hi2, hs, hsrt, hp, o1⟩
  dsimp only
  have hl1 := hs.len
  refine ifb_of (fun (hlt : (i : Int) < b) => ?_) (fun (hge : ¬ (i : Int) < b) => SK.mk hp o1 hs ⟨rfl, hsrt.sub (by omega) (by omega)⟩)
  have hib : i < b := by omega
  have next : ∀ (l2 : BL) (sg' L' : HList), L'.Perm (sg' ++ R) → SO v l2 sg' → Sg a b l l2 → Srt l2 a (i + 1) →
      ∃ k', k' < b + 1 - i ∧ ∃ (i' : Nat) (l1 : BL) (sg : HList), ((((i : Int) + 1 : Int), ()) : RsV [.lf (.int .i64)]) = ((i' : Int), ()) ∧ k' = b + 1 - i' ∧ a < i' ∧ i' ≤ max (a + 1) b ∧ Sg a b l l1 ∧ Srt l1 a i' ∧ L'.Perm (sg ++ R) ∧ SO v l1 sg :=
    fun l2 sg' L' h1 h2 h3 h4 => ⟨b + 1 - (i + 1), by omega, i + 1, l2, sg', rfl, rfl, by omega, by omega, h3, h4, h1, h2⟩
  refine lp_of (fun z' z L' => ∃ (j : Nat) (l2 : BL) (sg : HList), z = ((j : Int), ()) ∧ z' = j + 1 ∧ a ≤ j ∧ j ≤ i ∧ Sg a b l l2 ∧ (∀ p q, a ≤ p → p < q → q ≤ i → q ≠ j → le (ga l2 p) (ga l2 q)) ∧ L'.Perm (sg ++ R) ∧ SO v l2 sg) (i + 1)
    ⟨i, l1, sg, rfl, rfl, by omega, by omega, hs, fun p q h1 h2 h3 h4 => hsrt p q h1 h2 (by omega), hp, o1⟩ ?_
  rintro z' z L2 ⟨j, l2, sg2, rfl, rfl, hj1, hj2, hs2, hP, hp2, o2⟩
  dsimp only
  have hl2 := hs2.len
  refine jn_of (fun _ L' => L' = L2 ∧ a < j ∧ lt (ga l2 j) (ga l2 (j - 1)) = true) ?_ ?_
  · rintro _ _ ⟨rfl, haj, hlt2⟩
    refine w64_of (by omega) (w64_of (by omega) ?_)
    refine elp_s o2 (n := j - 1) (by omega) (by omega) fun b1 hb1 => elp_s o2 (n := j) rfl (by omega) fun b2 hb2 => ?_
    refine ld_of (ga l2 (j - 1)) (o2.ld (psub0 hp2) hb1 (by omega)) (ld_of (ga l2 j) (o2.ld (psub0 hp2) hb2 (by omega)) ?_)
    refine o2.st hb2 (by omega) _ hp2 fun sg3 L3 hp3 o3 => ?_
    refine elp_s o3 (n := j - 1) (by omega) (by simp; omega) fun b3 hb3 => ?_
    refine o3.st hb3 (by simp; omega) _ hp3 fun sg4 L4 hp4 o4 => ?_
    rw [sw_comm (i := j - 1) (j := j) (by omega) (by omega)] at o4
    have hg := sw_ga (l := l2) (i := j - 1) (j := j) (by omega) (by omega)
    refine w64_of (by omega) ⟨j - 1 + 1, by omega, j - 1, sw l2 (j - 1) j, sg4, by rw [show ((j - 1 : Nat) : Int) = (j : Int) - 1 by omega], rfl, by omega, by omega, hs2.trans (Sg.swap (by omega) (by omega) (by omega) (by omega) (by omega) (by omega)), fun p q h1 h2 h3 h4 => ?_, hp4, o4⟩
    rw [hg p, hg q]
    have e0 := hP (j - 1) q
    have e1 := hP j q
    have e2 := hP p (j - 1)
    have e3 := hP p q
    by_cases q1 : q = j
    · rw [if_pos q1]
      by_cases p1 : p = j - 1
      · rw [if_neg (by omega), if_pos p1]; exact le_of_lt hlt2
      · rw [if_neg (by omega), if_neg p1]; exact e2 h1 (by omega) (by omega) (by omega)
    · rw [if_neg q1, if_neg h4]
      by_cases p1 : p = j
      · rw [if_pos p1]; exact e0 (by omega) (by omega) h3 q1
      · rw [if_neg p1]
        by_cases p2 : p = j - 1
        · rw [if_pos p2]; exact e1 (by omega) (by omega) h3 q1
        · rw [if_neg p2]; exact e3 h1 h2 h3 q1
  · intro jj hjj
    refine ifb_of (fun (haj : (j : Int) > a) => ?_) (fun (haj : ¬ (j : Int) > a) => w64_of (by omega) (next l2 sg2 L2 hp2 o2 hs2 fun p q h1 h2 h3 => hP p q h1 h2 (by omega) (by omega)))
    refine elp_s o2 (n := j) rfl (by omega) fun b1 hb1 => w64_of (by omega) (elp_s o2 (n := j - 1) (by omega) (by omega) fun b2 hb2 => ?_)
    refine ld_of (ga l2 j) (o2.ld (psub0 hp2) hb1 (by omega)) (ld_of (ga l2 (j - 1)) (o2.ld (psub0 hp2) hb2 (by omega)) ?_)
    refine cl_rd (less_rd L2 _ _) (lt (ga l2 j) (ga l2 (j - 1)), ()) rfl (ifB_of (fun h => hjj _ _ ⟨rfl, by omega, h⟩) (fun h => w64_of (by omega) (next l2 sg2 L2 hp2 o2 hs2 fun p q h1 h2 h3 => ?_)))
    by_cases q1 : q = j
    · subst q1
      by_cases p1 : p = q - 1
      · subst p1; exact h
      · exact le_trans (hP p (q - 1) h1 (by omega) (by omega) (by omega)) h
    · exact hP p q h1 h2 (by omega) q1
theorem rev_cl (v : SlV) (l : BL) (seg R : HList) (o : SO v l seg) (a b : Nat) (hab : a < b) (hb : b ≤ l.length) (hl : l.length ≤ 1000000) :
    CallF PP 121 #[.slice v.a v.len v.cap, .int .i64 a, .int .i64 b] (seg ++ R) (SK a b v l R fun l' r => r = .tuple #[]) := by
  refine c121 v a b ?_
  unfold s121
  refine w64_of (by omega) ?_
  refine lp_of (fun z' z L' => ∃ (i j : Nat) (l1 : BL) (sg : HList), z = ((i : Int), (j : Int), ()) ∧ z' = b - i ∧ a ≤ i ∧ i ≤ b ∧ j < b ∧ Sg a b l l1 ∧ L'.Perm (sg ++ R) ∧ SO v l1 sg) (b - a)
    ⟨a, b - 1, l, seg, by rw [show ((b - 1 : Nat) : Int) = (b : Int) - 1 by omega], rfl, by omega, by omega, by omega, Sg.refl _ _ _, List.Perm.refl _, o⟩ ?_
  rintro z' z L1 ⟨i, j, l1, sg, rfl, rfl, hi1, hi2, hj, hs, hp, o1⟩
  dsimp only
  have hl1 := hs.len
  refine ifb_of (fun (hlt : (i : Int) < j) => ?_) (fun (hge : ¬ (i : Int) < j) => SK.mk hp o1 hs rfl)
  refine elp_s o1 (n := j) rfl (by omega) fun b1 hb1 => elp_s o1 (n := i) rfl (by omega) fun b2 hb2 => ?_
  refine ld_of (ga l1 j) (o1.ld (psub0 hp) hb1 (by omega)) (ld_of (ga l1 i) (o1.ld (psub0 hp) hb2 (by omega)) ?_)
  refine st_sw2 o1 hb2 hb1 (by omega) (by omega) hp fun sg2 L2 hp2 o2 => ?_
  exact w64_of (by omega) (w64_of (by omega) ⟨b - (i + 1), by omega, i + 1, j - 1, sw l1 i j, sg2, by rw [show ((j - 1 : Nat) : Int) = (j : Int) - 1 by omega]; rfl, rfl, by omega, by omega, by omega, hs.trans (Sg.swap (by omega) (by omega) (by omega) (by omega) (by omega) (by omega)), hp2, o2⟩)
def cntO (n : Nat) (c : Int) : Nat × Obj := (n, Obj.cells #[.int .i64 c] 3)
theorem order2_cl (v : SlV) (l : BL) (seg R : HList) (o : SO v l seg) (hs : ∀ p ∈ seg, p ∈ R) (n : Nat) (c : Int) (hc : 0 ≤ c ∧ c ≤ 1000) (i j : Nat) (hi : i < l.length) (hj : j < l.length) :
    CallF PP 139 #[.slice v.a v.len v.cap, .int .i64 i, .int .i64 j, .pointer (some ⟨n, 0, none⟩)] (cntO n c :: R) fun r L' => ∃ (i' j' : Nat) (c' : Int), r = .tuple #[.int .i64 i', .int .i64 j'] ∧ L' = cntO n c' :: R ∧ (i' = i ∧ j' = j ∨ i' = j ∧ j' = i) ∧ 0 ≤ c' ∧ c' ≤ c + 1 := by
  refine c139 v i j (some ⟨n, 0, none⟩) ?_
  unfold s139
  refine elp_s o (n := j) rfl hj fun b1 hb1 => elp_s o (n := i) rfl hi fun b2 hb2 => ?_
  refine ld_of (ga l j) (o.ld (fun p hp => List.mem_cons_of_mem _ (hs p hp)) hb1 hj) (ld_of (ga l i) (o.ld (fun p hp => List.mem_cons_of_mem _ (hs p hp)) hb2 hi) ?_)
  refine cl_rd (less_rd _ _ _) (lt (ga l j) (ga l i), ()) rfl (ifB_of (fun h => ?_) (fun h => .of ⟨i, j, c, rfl, rfl, .inl ⟨rfl, rfl⟩, by omega, by omega⟩))
  refine nilc_of rfl (ld_of c (ldB List.mem_cons_self rfl) (w64_of (by omega) ?_))
  refine st_of (n := n) (off := 0) (c := #[.int .i64 c]) (T := 3) (fz := (0, 0)) [] R rfl rfl (by simp) (.inl (Nat.le_refl _)) #[.int .i64 (c + 1)] rfl ?_
  exact .of ⟨j, i, c + 1, rfl, rfl, .inr ⟨rfl, rfl⟩, by omega, by omega⟩
theorem median_cl (v : SlV) (l : BL) (seg R : HList) (o : SO v l seg) (hs : ∀ p ∈ seg, p ∈ R) (n : Nat) (c : Int) (hc : 0 ≤ c ∧ c ≤ 900) (i j k : Nat) (hi : i < l.length) (hj : j < l.length) (hk : k < l.length) :
    CallF PP 136 #[.slice v.a v.len v.cap, .int .i64 i, .int .i64 j, .int .i64 k, .pointer (some ⟨n, 0, none⟩)] (cntO n c :: R) fun r L' => ∃ (q : Nat) (c' : Int), r = .int .i64 q ∧ L' = cntO n c' :: R ∧ (q = i ∨ q = j ∨ q = k) ∧ 0 ≤ c' ∧ c' ≤ c + 3 := by
  refine c136 v i j k (some ⟨n, 0, none⟩) ?_
  unfold s136
  refine cl_of (order2_cl v l seg R o hs n c (by omega) i j hi hj) ?_
  rintro _ _ - ⟨i1, j1, c1, rfl, rfl, h1, h1c, h1d⟩
  refine ⟨(i1, j1, ()), rfl, cl_of (order2_cl v l seg R o hs n c1 (by omega) j1 k (by omega) hk) ?_⟩
  rintro _ _ - ⟨i2, j2, c2, rfl, rfl, h2, h2c, h2d⟩
  refine ⟨(i2, j2, ()), rfl, cl_of (order2_cl v l seg R o hs n c2 (by omega) i1 i2 (by omega) (by omega)) ?_⟩
  rintro _ _ - ⟨i3, j3, c3, rfl, rfl, h3, h3c, h3d⟩
  exact ⟨(i3, j3, ()), rfl, .of ⟨j3, c3, rfl, rfl, by omega, by omega, by omega⟩⟩
theorem medadj_cl (v : SlV) (l : BL) (seg R : HList) (o : SO v l seg) (hs : ∀ p ∈ seg, p ∈ R) (n : Nat) (c : Int) (hc : 0 ≤ c ∧ c ≤ 900) (i : Nat) (hi0 : 0 < i) (hi : i + 1 < l.length) (hl : l.length ≤ 1000000) :
    CallF PP 135 #[.slice v.a v.len v.cap, .int .i64 i, .pointer (some ⟨n, 0, none⟩)] (cntO n c :: R) fun r L' => ∃ (q : Nat) (c' : Int), r = .int .i64 q ∧ L' = cntO n c' :: R ∧ i ≤ q + 1 ∧ q ≤ i + 1 ∧ 0 ≤ c' ∧ c' ≤ c + 3 := by
  refine c135 v i (some ⟨n, 0, none⟩) ?_
  unfold s135
  refine w64_of (by omega) (w64_of (by omega) ?_)
  have h := median_cl v l seg R o hs n c hc (i - 1) i (i + 1) (by omega) (by omega) hi
  rw [show ((i - 1 : Nat) : Int) = (i : Int) - 1 by omega, show ((i + 1 : Nat) : Int) = (i : Int) + 1 by omega] at h
  refine cl_of h ?_
  rintro _ _ - ⟨q, c', rfl, rfl, h1, h2, h3⟩
  exact ⟨(q, ()), rfl, .of ⟨q, c', rfl, rfl, by omega, by omega, h2, h3⟩⟩
theorem pivot_cl (v : SlV) (l : BL) (seg R : HList) (o : SO v l seg) (hs : ∀ p ∈ seg, p ∈ R) (a b : Nat) (hab : a + 12 < b) (hb : b ≤ l.length) (hl : l.length ≤ 1000000) :
    CallF PP 120 #[.slice v.a v.len v.cap, .int .i64 a, .int .i64 b] R fun r L' => ∃ (q : Nat) (h : Int), r = .tuple #[.int .i64 q, .int .i64 h] ∧ L' = R ∧ a ≤ q ∧ q < b := by
  refine c120 v a b ?_
  unfold s120
  have hd : Int.tdiv ((b : Int) - a) 4 = ((b - a) / 4 : Nat) := by
    rw [show (b : Int) - a = ((b - a : Nat) : Int) by omega]
    rfl
  refine w64_of (by omega) (nw_of fun n _ => ?_)
  generalize hq : (b - a) / 4 = q at hd
  have hq1 : 3 ≤ q ∧ 4 * q ≤ b - a := by omega
  rw [hd]
  refine w64_of (by omega) (w64_of (by omega) (w64_of (by omega) (w64_of (by omega) (w64_of (by omega) (w64_of (by omega) (w64_of (by omega) (w64_of (by omega) (w64_of (by omega) ?_))))))))
  refine jn_of (fun y L' => ∃ (k : Nat) (c : Int), y = ((k : Int), ()) ∧ L' = cntO n c :: R ∧ a ≤ k ∧ k < b) ?_ ?_
  · rintro _ _ ⟨k, c, rfl, rfl, h1, h2⟩
    have fin : ∀ h : Int, HL.Ends (fun r L' => ∃ (q : Nat) (h : Int), r = .tuple #[.int .i64 q, .int .i64 h] ∧ L' = R ∧ a ≤ q ∧ q < b) (.tuple #[.int .i64 k, .int .i64 h]) (cntO n c :: R) := fun h => .drop (A := R) (J := [cntO n c]) ⟨k, h, rfl, rfl, h1, h2⟩ (pc fun z => by simp only [cnt_a, cnt_c, cnt_n]; omega)
    refine ld_of c (ldB List.mem_cons_self rfl) (ifb_of (fun _ => fin 1) (fun _ => ifb_of (fun _ => fin 2) (fun _ => fin 0)))
  · intro j1 hj1
    refine ifP (by omega) ?_
    refine jn_of (fun y L' => ∃ (x y' z : Nat) (c : Int), y = ((x : Int), (y' : Int), (z : Int), ()) ∧ L' = cntO n c :: R ∧ (a ≤ x ∧ x < b) ∧ (a ≤ y' ∧ y' < b) ∧ (a ≤ z ∧ z < b) ∧ 0 ≤ c ∧ c ≤ 100) ?_ ?_
    · rintro _ _ ⟨x, y', z, c, rfl, rfl, h1, h2, h3, h4, h5⟩
      refine cl_of (median_cl v l seg R o hs n c (by omega) x y' z (by omega) (by omega) (by omega)) ?_
      rintro _ _ - ⟨k, c', rfl, rfl, h6, -, -⟩
      exact ⟨(k, ()), rfl, hj1 _ _ ⟨k, c', rfl, rfl, by omega, by omega⟩⟩
    · intro j2 hj2
      have e1 : (a : Int) + (q : Int) * 1 = ((a + q : Nat) : Int) := by omega
      have e2 : (a : Int) + (q : Int) * 2 = ((a + 2 * q : Nat) : Int) := by omega
      have e3 : (a : Int) + (q : Int) * 3 = ((a + 3 * q : Nat) : Int) := by omega
      rw [e1, e2, e3]
      refine ifb_of (fun (h50 : (b : Int) - a ≥ 50) => ?_) (fun _ => hj2 _ _ ⟨a + q, a + 2 * q, a + 3 * q, 0, rfl, rfl, by omega, by omega, by omega, by omega, by omega⟩)
      refine cl_of (medadj_cl v l seg R o hs n 0 (by omega) (a + q) (by omega) (by omega) hl) ?_
      rintro _ _ - ⟨k1, c1, rfl, rfl, h1, h2, h3, h4⟩
      refine ⟨(k1, ()), rfl, cl_of (medadj_cl v l seg R o hs n c1 (by omega) (a + 2 * q) (by omega) (by omega) hl) ?_⟩
      rintro _ _ - ⟨k2, c2, rfl, rfl, h5, h6, h7, h8⟩
      refine ⟨(k2, ()), rfl, cl_of (medadj_cl v l seg R o hs n c2 (by omega) (a + 3 * q) (by omega) (by omega) hl) ?_⟩
      rintro _ _ - ⟨k3, c3, rfl, rfl, h9, h10, h11, h12⟩
      exact ⟨(k3, ()), rfl, hj2 _ _ ⟨k1, k2, k3, c3, rfl, rfl, by omega, by omega, by omega, by omega, by omega⟩⟩
end Go.Proofs.Ytlabcgnegbdlfaa
set_option linter.unusedVariables false
set_option linter.unusedSimpArgs false
namespace Go.Proofs.Ytlabcgnegbdlfaa
open Go.HL

def HeapX (l : BL) (f lo hi r : Nat) : Prop := ∀ i c, lo ≤ i → (c = 2 * i + 1 ∨ c = 2 * i + 2) → c < hi → i ≠ r → le (ga l (f + c)) (ga l (f + i))
def Heap (l : BL) (f lo hi : Nat) : Prop := ∀ i c, lo ≤ i → (c = 2 * i + 1 ∨ c = 2 * i + 2) → c < hi → le (ga l (f + c)) (ga l (f + i))
def HeapP (l : BL) (f lo hi r : Nat) : Prop := ∀ p c, lo ≤ p → (r = 2 * p + 1 ∨ r = 2 * p + 2) → (c = 2 * r + 1 ∨ c = 2 * r + 2) → c < hi → le (ga l (f + c)) (ga l (f + p))
theorem heap_step {l : BL} {f lo hi r ch : Nat} (hx : HeapX l f lo hi r) (hp : HeapP l f lo hi r) (hr : lo ≤ r) (hc : ch = 2 * r + 1 ∨ ch = 2 * r + 2) (hch : ch < hi) (hl : f + hi ≤ l.length)
    (ho : ∀ c, (c = 2 * r + 1 ∨ c = 2 * r + 2) → c < hi → le (ga l (f + c)) (ga l (f + ch))) (hlt : lt (ga l (f + r)) (ga l (f + ch)) = true) :
    HeapX (sw l (f + r) (f + ch)) f lo hi ch ∧ HeapP (sw l (f + r) (f + ch)) f lo hi ch := by
  have hg := sw_ga (l := l) (i := f + r) (j := f + ch) (by omega) (by omega)
  constructor
  · intro i c h1 h2 h3 h4
    rw [hg, hg]
    by_cases e1 : i = r
    · subst e1
      rw [if_neg (show ¬ f + i = f + ch by omega), if_pos rfl]
      by_cases e2 : c = ch
      · subst e2; rw [if_pos rfl]; exact le_of_lt hlt
      · rw [if_neg (by omega), if_neg (by omega)]; exact ho c h2 h3
    · rw [if_neg (show ¬ f + i = f + ch by omega), if_neg (show ¬ f + i = f + r by omega), if_neg (show ¬ f + c = f + ch by omega)]
      by_cases e2 : c = r
      · subst e2; rw [if_pos rfl]; exact hp i ch h1 h2 hc hch
      · rw [if_neg (by omega)]; exact hx i c h1 h2 h3 e1
  · intro p c h1 h2 h3 h4
    have hpr : p = r := by omega
    subst hpr
    rw [hg, hg, if_neg (show ¬ f + c = f + ch by omega), if_neg (show ¬ f + c = f + p by omega), if_neg (show ¬ f + p = f + ch by omega), if_pos rfl]
    exact hx ch c (by omega) h3 h4 (by omega)
theorem sift_cl (v : SlV) (l : BL) (seg R : HList) (o : SO v l seg) (lo hi f : Nat) (hl : f + hi ≤ l.length) (hbig : l.length ≤ 1000000) (hlo : lo ≤ hi) (hx : HeapX l f lo hi lo) :
    CallF PP 132 #[.slice v.a v.len v.cap, .int .i64 lo, .int .i64 hi, .int .i64 f] (seg ++ R) (SK (f + lo) (f + hi) v l R fun l' r => r = .tuple #[] ∧ Heap l' f lo hi) := by
  refine c132 v lo hi f ?_
  unfold s132
  refine lp_of (fun z' z L' => ∃ (r : Nat) (l1 : BL) (sg : HList), z = ((r : Int), ()) ∧ z' = hi + 1 - r ∧ lo ≤ r ∧ r ≤ hi ∧ Sg (f + lo) (f + hi) l l1 ∧ HeapX l1 f lo hi r ∧ HeapP l1 f lo hi r ∧ L'.Perm (sg ++ R) ∧ SO v l1 sg) (hi + 1 - lo)
    ⟨lo, l, seg, rfl, rfl, by omega, hlo, Sg.refl _ _ _, hx, fun p c h1 h2 => by omega, List.Perm.refl _, o⟩ ?_
  rintro z' z L1 ⟨r, l1, sg, rfl, rfl, hr1, hr2, hs, hx1, hp1, hp, o1⟩
  dsimp only
  have hl1 := hs.len
  refine w64_of (by omega) (w64_of (by omega) ?_)
  refine ifb_of (fun (hge : (2 * (r : Int) + 1) ≥ hi) => SK.mk hp o1 hs ⟨rfl, fun i c h1 h2 h3 => ?_⟩) (fun (hlt : ¬ (2 * (r : Int) + 1) ≥ hi) => ?_)
  · by_cases e : i = r
    · omega
    · exact hx1 i c h1 h2 h3 e
  refine jn_of (fun y L' => ∃ ch : Nat, y = ((ch : Int), ()) ∧ L' = L1 ∧ (ch = 2 * r + 1 ∨ ch = 2 * r + 2) ∧ ch < hi ∧ ∀ c, (c = 2 * r + 1 ∨ c = 2 * r + 2) → c < hi → le (ga l1 (f + c)) (ga l1 (f + ch))) ?_ ?_
  · rintro _ L' ⟨ch, rfl, hL', hc, hch, ho⟩
    rw [hL']
    dsimp only
    refine w64_of (by omega) (elp_s o1 (n := f + r) (by omega) (by omega) fun b1 hb1 => w64_of (by omega) (elp_s o1 (n := f + ch) (by omega) (by omega) fun b2 hb2 => ?_))
    refine ld_of (ga l1 (f + r)) (o1.ld (psub0 hp) hb1 (by omega)) (ld_of (ga l1 (f + ch)) (o1.ld (psub0 hp) hb2 (by omega)) ?_)
    refine cl_rd (less_rd L1 _ _) (lt (ga l1 (f + r)) (ga l1 (f + ch)), ()) rfl (ifB_of (fun h => ?_) (fun h => SK.mk hp o1 hs ⟨rfl, fun i c h1 h2 h3 => ?_⟩))
    · refine w64_of (by omega) (w64_of (by omega) (w64_of (by omega) (elp_s o1 (n := f + ch) (by omega) (by omega) fun b3 hb3 => w64_of (by omega) (elp_s o1 (n := f + r) (by omega) (by omega) fun b4 hb4 => ?_))))
      refine ld_of (ga l1 (f + ch)) (o1.ld (psub0 hp) hb3 (by omega)) (ld_of (ga l1 (f + r)) (o1.ld (psub0 hp) hb4 (by omega)) ?_)
      refine elp_s o1 (n := f + r) (by omega) (by omega) fun b5 hb5 => ?_
      refine o1.st hb5 (by omega) _ hp fun sg2 L2 hp2 o2 => ?_
      refine elp_s o2 (n := f + ch) (by omega) (by simp; omega) fun b6 hb6 => ?_
      refine o2.st hb6 (by simp; omega) _ hp2 fun sg3 L3 hp3 o3 => ?_
      obtain ⟨g1, g2⟩ := heap_step hx1 hp1 hr1 hc hch (by omega) ho h
      exact ⟨hi + 1 - ch, by omega, ch, sw l1 (f + r) (f + ch), sg3, rfl, rfl, by omega, by omega, hs.trans (Sg.swap (by omega) (by omega) (by omega) (by omega) (by omega) (by omega)), g1, g2, hp3, o3⟩
    · by_cases e : i = r
      · subst e; exact le_trans (ho c h2 h3) h
      · exact hx1 i c h1 h2 h3 e
  · intro j1 hj1
    refine w64_of (by omega) (ifb_of (fun (h2 : (2 * (r : Int) + 1 + 1) < hi) => ?_) (fun (h2 : ¬ (2 * (r : Int) + 1 + 1) < hi) => hj1 _ _ ⟨2 * r + 1, by rw [show ((2 * r + 1 : Nat) : Int) = 2 * (r : Int) + 1 by omega], rfl, .inl rfl, by omega, fun c hc hc2 => ?_⟩))
    · refine w64_of (by omega) (elp_s o1 (n := f + (2 * r + 1)) (by omega) (by omega) fun b1 hb1 => w64_of (by omega) (w64_of (by omega) (elp_s o1 (n := f + (2 * r + 2)) (by omega) (by omega) fun b2 hb2 => ?_)))
      refine ld_of (ga l1 (f + (2 * r + 1))) (o1.ld (psub0 hp) hb1 (by omega)) (ld_of (ga l1 (f + (2 * r + 2))) (o1.ld (psub0 hp) hb2 (by omega)) ?_)
      refine cl_rd (less_rd L1 _ _) (lt (ga l1 (f + (2 * r + 1))) (ga l1 (f + (2 * r + 2))), ()) rfl (ifB_of (fun h => w64_of (by omega) (hj1 _ _ ⟨2 * r + 2, by rw [show ((2 * r + 2 : Nat) : Int) = 2 * (r : Int) + 1 + 1 by omega], rfl, .inr rfl, by omega, fun c hc hc2 => ?_⟩)) (fun h => hj1 _ _ ⟨2 * r + 1, by rw [show ((2 * r + 1 : Nat) : Int) = 2 * (r : Int) + 1 by omega], rfl, .inl rfl, by omega, fun c hc hc2 => ?_⟩))
      · rcases hc with rfl | rfl
        · exact le_of_lt h
        · exact le_refl _
      · rcases hc with rfl | rfl
        · exact le_refl _
        · exact h
    · obtain rfl : c = 2 * r + 1 := by omega
      exact le_refl _
theorem heap_max {l : BL} {f n : Nat} (h : Heap l f 0 n) : ∀ k, k < n → le (ga l (f + k)) (ga l f) := by
  intro k
  induction k using Nat.strongRecOn with
  | _ k ih =>
    intro hk
    rcases Nat.eq_zero_or_pos k with rfl | h0
    · exact le_refl _
    · exact le_trans (h ((k - 1) / 2) k (Nat.zero_le _) (by omega) hk) (ih ((k - 1) / 2) (by omega) (by omega))
theorem heap_cl (v : SlV) (l : BL) (seg R : HList) (o : SO v l seg) (a b : Nat) (hab : a < b) (hb : b ≤ l.length) (hl : l.length ≤ 1000000) :
    CallF PP 118 #[.slice v.a v.len v.cap, .int .i64 a, .int .i64 b] (seg ++ R) (SK a b v l R fun l' r => r = .tuple #[] ∧ Srt l' a b) := by
  refine c118 v a b ?_
  unfold s118
  obtain ⟨hi, hhi⟩ : ∃ hi : Nat, hi = b - a := ⟨_, rfl⟩
  have e0 : (b : Int) - a = hi := by omega
  have hd : Int.tdiv ((hi : Int) - 1) 2 = ((hi - 1) / 2 : Nat) := by
    rw [show (hi : Int) - 1 = ((hi - 1 : Nat) : Int) by omega]; rfl
  refine w64_of (by omega) ?_
  rw [e0]
  refine w64_of (by omega) ?_
  rw [hd]
  refine w64_of (by omega) ?_
  refine lp_of (fun z' z L' => ∃ (n : Nat) (l1 : BL) (sg : HList), z = ((n : Int) - 1, ()) ∧ z' = n ∧ n ≤ (hi - 1) / 2 + 1 ∧ Sg a b l l1 ∧ Heap l1 a n hi ∧ L'.Perm (sg ++ R) ∧ SO v l1 sg) ((hi - 1) / 2 + 1)
    ⟨(hi - 1) / 2 + 1, l, seg, by rw [show (((hi - 1) / 2 + 1 : Nat) : Int) - 1 = ((hi - 1) / 2 : Nat) by omega], rfl, by omega, Sg.refl _ _ _, fun i c h1 h2 h3 => by omega, List.Perm.refl _, o⟩ ?_
  rintro n z L1 ⟨n', l1, sg, rfl, rfl, hn, hs, hh, hp, o1⟩
  dsimp only
  have hl1 := hs.len
  refine ifb_of (fun (hge : ((n : Int) - 1) ≥ 0) => ?_) (fun (hlt : ¬ ((n : Int) - 1) ≥ 0) => ?_)
  · have hc := sift_cl v l1 sg R o1 (n - 1) hi a (by omega) (by omega) (by omega) (fun i c h1 h2 h3 h4 => hh i c (by omega) h2 h3)
    rw [show ((n - 1 : Nat) : Int) = (n : Int) - 1 by omega] at hc
    refine cl_of (CallF.perm hp.symm hc) ?_
    rintro _ _ - ⟨l2, sg2, rfl, o2, hs2, rfl, hh2⟩
    exact ⟨(), rfl, w64_of (by omega) ⟨n - 1, by omega, n - 1, l2, sg2, by rw [show ((n - 1 : Nat) : Int) = (n : Int) - 1 by omega], rfl, by omega, hs.trans (hs2.wide (by omega) (by omega)), hh2, List.Perm.refl _, o2⟩⟩
  · obtain rfl : n = 0 := by omega
    refine w64_of (by omega) ?_
    refine lp_of (fun z' z L' => ∃ (n : Nat) (l1 : BL) (sg : HList), z = ((n : Int) - 1, ()) ∧ z' = n ∧ n ≤ hi ∧ Sg a b l l1 ∧ Heap l1 a 0 n ∧ Srt l1 (a + n) b ∧ (∀ p q, a ≤ p → p < a + n → a + n ≤ q → q < b → le (ga l1 p) (ga l1 q)) ∧ L'.Perm (sg ++ R) ∧ SO v l1 sg) hi
      ⟨hi, l1, sg, rfl, rfl, by omega, hs, hh, Srt.nil _ (by omega), fun p q h1 h2 h3 h4 => by omega, hp, o1⟩ ?_
    clear hs hh hp o1 hl1 hn hlt
    rintro n z L2 ⟨n', l2, sg2, rfl, rfl, hn, hs, hh, hsrt, hle, hp, o2⟩
    dsimp only
    have hl2 := hs.len
    refine ifb_of (fun (hge : ((n : Int) - 1) ≥ 0) => ?_) (fun (hlt : ¬ ((n : Int) - 1) ≥ 0) => ?_)
    · have hmax := heap_max hh
      obtain ⟨i, rfl⟩ : ∃ i, n = i + 1 := ⟨n - 1, by omega⟩
      refine w64_of (by omega) (w64_of (by omega) ?_)
      refine elp_s o2 (n := a + i) (by omega) (by omega) fun b1 hb1 => elp_s o2 (n := a) rfl (by omega) fun b2 hb2 => ?_
      refine ld_of (ga l2 (a + i)) (o2.ld (psub0 hp) hb1 (by omega)) (ld_of (ga l2 a) (o2.ld (psub0 hp) hb2 (by omega)) ?_)
      refine o2.st hb2 (by omega) _ hp fun sg3 L3 hp3 o3 => ?_
      refine elp_s o3 (n := a + i) (by omega) (by simp; omega) fun b3 hb3 => ?_
      refine o3.st hb3 (by simp; omega) _ hp3 fun sg4 L4 hp4 o4 => ?_
      have hsw : (l2.set a (ga l2 (a + i))).set (a + i) (ga l2 a) = sw l2 a (a + i) := rfl
      rw [hsw] at o4
      have hg := sw_ga (l := l2) (i := a) (j := a + i) (by omega) (by omega)
      have hsS : Sg a b l2 (sw l2 a (a + i)) := Sg.swap (by omega) (by omega) (by omega) (by omega) (by omega) (by omega)
      have hl4 := hsS.len
      have hc := sift_cl v (sw l2 a (a + i)) sg4 R o4 0 i a (by omega) (by omega) (by omega) (fun p c h1 h2 h3 h4 => by
        rw [hg, hg, if_neg (by omega), if_neg (by omega), if_neg (by omega), if_neg (by omega)]
        exact hh p c h1 h2 (by omega))
      rw [show ((i : Nat) : Int) = ((i + 1 : Nat) : Int) - 1 by omega] at hc
      refine cl_of (CallF.perm hp4.symm hc) ?_
      rintro _ _ - ⟨l5, sg5, rfl, o5, hs5, rfl, hh5⟩
      rw [Nat.add_zero] at hs5
      have hq : ∀ q, a + i ≤ q → q < b → ga l5 q = if q = a + i then ga l2 a else ga l2 q := fun q h1 h2 => by
        rw [hs5.out q (.inr h1), hg]
        by_cases e : q = a + i
        · rw [if_pos e, if_pos e]
        · rw [if_neg e, if_neg e, if_neg (by omega)]
      have hin : ∀ q, a + i ≤ q → q < b → ∀ k, a ≤ k → k < a + i → le (ga l5 k) (ga l5 q) := fun q h1 h2 => by
        refine hs5.all (by omega) (P := fun x => le x (ga l5 q)) fun k h3 h4 => ?_
        rw [hq q h1 h2, hg k, if_neg (by omega)]
        by_cases e : q = a + i
        · rw [if_pos e]
          by_cases e2 : k = a
          · rw [if_pos e2]; exact hmax i (by omega)
          · rw [if_neg e2]
            have := hmax (k - a) (by omega)
            rwa [show a + (k - a) = k by omega] at this
        · rw [if_neg e]
          by_cases e2 : k = a
          · rw [if_pos e2]; exact hle (a + i) q (by omega) (by omega) (by omega) h2
          · rw [if_neg e2]; exact hle k q h3 (by omega) (by omega) h2
      refine ⟨(), rfl, w64_of (by omega) ⟨i, by omega, i, l5, sg5, by rw [show ((i + 1 : Nat) : Int) - 1 = (i : Int) by omega], rfl, by omega, hs.trans (hsS.trans (hs5.wide (by omega) (by omega))), hh5, fun p q h1 h2 h3 => ?_, fun p q h1 h2 h3 h4 => hin q h3 h4 p h1 h2, List.Perm.refl _, o5⟩⟩
      rw [hq p h1 (by omega), hq q (by omega) h3, if_neg (show ¬ q = a + i by omega)]
      by_cases e : p = a + i
      · rw [if_pos e]; exact hle a q (by omega) (by omega) (by omega) h3
      · rw [if_neg e]; exact hsrt p q (by omega) h2 h3
    · obtain rfl : n = 0 := by omega
      exact SK.mk hp o2 hs ⟨rfl, hsrt⟩
end Go.Proofs.Ytlabcgnegbdlfaa
