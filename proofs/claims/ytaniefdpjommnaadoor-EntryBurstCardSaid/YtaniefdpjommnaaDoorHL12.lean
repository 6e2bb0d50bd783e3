/-
  It is proved that a function's printed nodes are sound: what they show holds of the call. There are no further conditions than those that each theorem names.
-/
import Derived.Test.YtaniefdpjommnaaDoorHL11
set_option linter.unusedVariables false
set_option linter.unusedSimpArgs false
namespace Go.HL
section
variable {P : Program} {n : Nat}

def Mod (S : List Nat) (a a' : Act) : Prop := ∀ t, t ∉ S → a'.tmps[t]? = a.tmps[t]?
theorem Mod.refl (S : List Nat) (a : Act) : Mod S a a := fun _ _ => rfl
theorem Mod.trans {S : List Nat} {a b c : Act} (h : Mod S a b) (k : Mod S b c) : Mod S a c := fun t ht => (k t ht).trans (h t ht)
theorem Mod.mono {S S' : List Nat} {a b : Act} (hs : ∀ t ∈ S, t ∈ S') (h : Mod S a b) : Mod S' a b := fun t ht => h t fun hm => ht (hs t hm)

theorem look_cons (s : Nat) (v : Value) (r : Env) (t : Nat) : look ((s, v) :: r) t = if s = t then some v else look r t := by
  simp only [look]
  cases h : Nat.beq s t with
  | true => rw [if_pos (Nat.eq_of_beq_eq_true h)]
  | false => rw [if_neg (Nat.ne_of_beq_eq_false h)]

theorem Agree.cons {env : Env} {a : Act} (h : Agree n env a) {t : Nat} {v : Value} (hv : a.tmps[t]? = some v) : Agree n ((t, v) :: env) a := by
  refine ⟨h.size, h.defers, fun s u hs => ?_⟩
  rw [look_cons] at hs
  split at hs
  · rename_i e; subst e; rw [hv]; exact hs
  · exact h.at' s u hs

theorem Agree.put {env : Env} {a : Act} (h : Agree n env a) {d : Nat} (hd : d < n) (v : Value) : Agree n ((d, v) :: env) (a.put (some d) v) := by
  refine ⟨by simpa [Act.put] using h.size, h.defers, fun t u ht => ?_⟩
  rw [look_cons] at ht
  split at ht
  · rename_i e; subst e
    obtain rfl := Option.some.inj ht
    simp [Act.put, h.size, hd]
  · rename_i e
    simp only [Act.put, Array.getElem?_setIfInBounds_ne e]
    exact h.at' t u ht

theorem putE_spec {env : Env} {dst : Option Tmp} {v : Value} {k : Env → HP} {L : HList} {a : Act} (hag : Agree n env a) (h : putE n env dst v k L) : ∃ env', Agree n env' (a.put dst v) ∧ k env' L := by
  cases dst with
  | none => exact ⟨env, hag, h⟩
  | some d =>
    simp only [putE] at h
    have hq := hp_eq h; clear h; obtain ⟨M, hM, h⟩ := hq
    split at hM <;> subst hM
    · rename_i hd
      exact ⟨_, hag.put (Nat.le_of_ble_eq_true hd) v, h⟩
    · exact False.elim h

theorem Mod.put {S : List Nat} {a0 a : Act} (h : Mod S a0 a) {dst : Option Tmp} (hd : ∀ d, dst = some d → d ∈ S) (v : Value) : Mod S a0 (a.put dst v) := by
  intro t ht
  cases dst with
  | none => exact h t ht
  | some d =>
    have hne : d ≠ t := fun e => ht (e ▸ hd d rfl)
    simp only [Act.put, Array.getElem?_setIfInBounds_ne hne]
    exact h t ht

def PendRel (P : Program) (Tf : List (Nat × HP)) (Ts : Pend) : Prop := ∀ q ∈ Ts, ∃ p ∈ Tf, p.1 = q.1 ∧ ∀ L', p.2 L' → RdS P q.2.1 L' q.2.2

theorem flatOps_sound (hN : NoNum P) {ops : Array Oper} {anc : Nat → Nat → Bool} {drawn : Bool} {cls : Nat → Cls} (hcls : ∀ i o, ops[i]? = some o → cls i = clsOf P o)
    (hanc : drawn = false → ∀ x i, anc x i = true) {a0 : Act} {K : Env → HP} : ∀ (l : List Nat) (env : Env) (Tf : List (Nat × HP)) (Ts : Pend) (a : Act) (L : HList),
    Agree n env a → (drawn = true → PendRel P Tf Ts) → Mod (dsts ops) a0 a → flatOps P n ops anc drawn l env Tf K L →
    runC P ops anc cls (fun a' L' => Mod (dsts ops) a0 a' ∧ ∃ env', Agree n env' a' ∧ K env' L') l a Ts L := by
  intro l
  induction l with
  | nil => exact fun env Tf Ts a L hag _ hmod h => ⟨L, List.Perm.refl _, hmod, env, hag, h⟩
  | cons i r ih =>
    intro env Tf Ts a L hag hp hmod h
    simp only [flatOps] at h
    simp only [runC]
    cases ho : ops[i]? with
    | none => simp only [ho] at h; exact False.elim h
    | some o =>
      simp only [ho] at h ⊢
      have hdst : ∀ d, o.dst = some d → d ∈ dsts ops := by
        intro d hd
        have : o ∈ ops.toList := by simpa using Array.mem_of_getElem? ho
        exact List.mem_filterMap.2 ⟨o, this, hd⟩
      rw [hcls i o ho]
      -- carried out
      have run : ∀ env, Agree n env a → Wanted ops o a = true → flatOp P o env (keeps ((Tf.filter fun q => !anc q.1 i).map (·.2))) (fun v φs =>
          putE n env o.dst v fun env' => flatOps P n ops anc drawn r env' (pendN drawn i φs Tf) K) L →
          stepC P ops anc (clsOf P o) i o (runC P ops anc cls (fun a' L' => Mod (dsts ops) a0 a' ∧ ∃ env', Agree n env' a' ∧ K env' L') r) a Ts L := by
        intro env hag hw h
        have h1 := flatOp_sound hN hag h
        have next : ∀ (a' : Act) (v : Value) (φs : List HP) (Ts' : Pend) (L' : HList), a' = a.put o.dst v → (drawn = true → PendRel P (φs.map (i, ·) ++ Tf) Ts') →
            putE n env o.dst v (fun env' => flatOps P n ops anc drawn r env' (pendN drawn i φs Tf) K) L' →
            runC P ops anc cls (fun a' L' => Mod (dsts ops) a0 a' ∧ ∃ env', Agree n env' a' ∧ K env' L') r a' Ts' L' := by
          rintro a' v φs Ts' L' rfl hp' hk
          obtain ⟨env', hag', hk⟩ := putE_spec hag hk
          refine ih env' _ Ts' _ L' hag' (fun hd => ?_) (hmod.put hdst v) hk
          have := hp' hd
          rw [hd]
          exact this
        unfold OpOk at h1
        cases hc : clsOf P o with
        | P =>
          rw [hc] at h1
          obtain ⟨v, hr, hk⟩ := h1
          exact ⟨v, .inl ⟨hw, hr⟩, next _ v [] Ts L rfl (fun hd => by simpa using hp hd) hk⟩
        | R =>
          rw [hc] at h1
          obtain ⟨v, φ, hr, hφ, hk⟩ := h1
          refine .inr ⟨hw, v, hr, next _ v [φ] _ L rfl (fun hd q hq => ?_) hk⟩
          rcases List.mem_cons.1 hq with rfl | hq
          · exact ⟨(i, φ), by simp, rfl, hφ⟩
          · obtain ⟨p, hp1, hp2⟩ := hp hd q hq
            exact ⟨p, by simp [hp1], hp2⟩
        | A =>
          rw [hc] at h1
          obtain ⟨hal, hk⟩ := h1
          exact .inr ⟨hw, hal, fun m ob v hg hs => next _ v [] Ts _ rfl (fun hd => by simpa using hp hd) (hk m ob v hg hs)⟩
        | W =>
          rw [hc] at h1
          refine .inr ⟨hw, OpF.mono h1 fun a' L' _ ⟨v, ha', hφ, hk⟩ => ⟨fun q hq hqa => ?_, next a' v [] Ts L' ha' (fun hd => by simpa using hp hd) hk⟩⟩
          cases hd : drawn with
          | false => rw [hanc hd] at hqa; cases hqa
          | true =>
            obtain ⟨p, hp1, hp2, hp3⟩ := hp hd q hq
            refine hp3 L' (hφ _ (List.mem_map.2 ⟨p, List.mem_filter.2 ⟨hp1, ?_⟩, rfl⟩))
            rw [hp2, hqa]; rfl
      have skip : ∀ env, Agree n env a → Wanted ops o a = false → putE n env o.dst undef (fun env' => flatOps P n ops anc drawn r env' Tf K) L →
          stepC P ops anc (clsOf P o) i o (runC P ops anc cls (fun a' L' => Mod (dsts ops) a0 a' ∧ ∃ env', Agree n env' a' ∧ K env' L') r) a Ts L := by
        intro env hag hw h
        obtain ⟨env', hag', hk⟩ := putE_spec hag h
        have hS : stepS ops o (runC P ops anc cls (fun a' L' => Mod (dsts ops) a0 a' ∧ ∃ env', Agree n env' a' ∧ K env' L') r) a Ts L :=
          ⟨hw, ih env' Tf Ts _ L hag' hp (hmod.put hdst undef) hk⟩
        cases clsOf P o
        · exact hS.toP
        · exact .inl hS
        · exact .inl hS
        · exact .inl hS
      cases hg : o.guard with
      | none =>
        rw [hg] at h
        refine run env hag ?_ h
        unfold Wanted Region.wanted
        rw [hg]
      | some p =>
        obtain ⟨j, want⟩ := p
        rw [hg] at h
        simp only at h
        cases hoj : ops[j]? with
        | none => simp only [hoj] at h; exact False.elim h
        | some oj =>
          simp only [hoj] at h
          cases hd : oj.dst with
          | none => simp only [hd] at h; exact False.elim h
          | some d =>
            simp only [hd] at h
            have hq := hp_eq h; clear h; obtain ⟨M, hM, h⟩ := hq
            split at hM <;> subst hM
            · rename_i t hl
              have ht := hag.at' d _ hl
              have hwant : Wanted ops o a = (t == want) := by
                unfold Wanted Region.wanted
                rw [hg]
                simp [yielded, hoj, hd, ht]
              rcases ifB_spec h with ⟨rfl, h⟩ | ⟨rfl, h⟩
              · have hag' := hag.cons ht
                cases want
                · exact skip _ hag' hwant h
                · exact run _ hag' hwant h
              · have hag' := hag.cons ht
                cases want
                · exact run _ hag' hwant h
                · exact skip _ hag' hwant h
            · rename_i vs hl
              have ht := hag.at' d _ hl
              refine skip _ hag ?_ h
              unfold Wanted Region.wanted
              rw [hg]
              simp [yielded, hoj, hd, ht]
            · exact False.elim h

/-! shapes there and back -/
theorem Lf.of_spec : ∀ {l : Lf} {v : Value} {x : LfV l}, l.of v = some x → l.val x = v := by
  intro l v x h
  cases l <;> cases v <;> simp only [Lf.of] at h <;> first | (cases h; done) | skip
  · rename_i k k' m
    split at h
    · rename_i hk
      obtain rfl := kindEq_spec hk
      obtain rfl := Option.some.inj h
      rfl
    · cases h
  all_goals (obtain rfl := Option.some.inj h; rfl)
theorem lfOfs_spec : ∀ {ls : List Lf} {vs : List Value} {x : LfVs ls}, lfOfs ls vs = some x → lfVals ls x = vs
  | [], [], _, _ => rfl
  | [], _ :: _, _, h => by cases h
  | _ :: _, [], _, h => by cases h
  | l :: r, v :: vs, x, h => by
    simp only [lfOfs] at h
    split at h
    · rename_i y z hy hz
      obtain rfl := Option.some.inj h
      simp [lfVals, Lf.of_spec hy, lfOfs_spec hz]
    · cases h
theorem Sh.of_spec {s : Sh} {v : Value} {x : ShV s} (h : s.of v = some x) : s.val x = v := by
  cases s with
  | lf l => exact Lf.of_spec h
  | agg ls =>
    cases v <;> simp only [Sh.of] at h <;> first | (cases h; done) | skip
    rename_i cs
    simp [Sh.val, lfOfs_spec h]

theorem look_append (A B : Env) (t : Nat) : look (A ++ B) t = match look A t with | some v => some v | none => look B t := by
  induction A with
  | nil => rfl
  | cons p r ih =>
    obtain ⟨s, v⟩ := p
    rw [List.cons_append, look_cons, look_cons]
    split
    · rfl
    · exact ih
theorem memN_spec (l : List Nat) (t : Nat) : memN l t = true ↔ t ∈ l := by
  induction l with
  | nil => simp [memN]
  | cons x r ih =>
    simp only [memN]
    cases h : Nat.beq x t with
    | true => have := Nat.eq_of_beq_eq_true h; subst this; simp
    | false => have := Nat.ne_of_beq_eq_false h; simp [ih, Ne.symm this]
theorem look_cut (mods : List Nat) (env : Env) (t : Nat) {v : Value} (h : look (cutEnv mods env) t = some v) : look env t = some v ∧ t ∉ mods := by
  induction env with
  | nil => cases h
  | cons p r ih =>
    obtain ⟨s, u⟩ := p
    simp only [cutEnv] at h
    cases hm : memN mods s with
    | true =>
      rw [hm] at h
      obtain ⟨h1, h2⟩ := ih h
      refine ⟨?_, h2⟩
      rw [look_cons, if_neg]
      · exact h1
      · rintro rfl; exact h2 ((memN_spec _ _).1 hm)
    | false =>
      rw [hm] at h
      simp only at h
      rw [look_cons] at h
      split at h
      · rename_i e; subst e
        refine ⟨by rw [look_cons, if_pos rfl]; exact h, fun hin => ?_⟩
        rw [(memN_spec _ _).2 hin] at hm; cases hm
      · rename_i e
        obtain ⟨h1, h2⟩ := ih h
        exact ⟨by rw [look_cons, if_neg e]; exact h1, h2⟩
theorem toEnv_spec {env' : Env} {a : Act} (hag : Agree n env' a) : ∀ (cs : List (Nat × Sh)) {x : RsV (cs.map (·.2))}, ofEnv env' cs = some x → ∀ t v, look (toEnv cs x) t = some v → a.tmps[t]? = some v
  | [], _, _, t, v, h => by cases h
  | (s, sh) :: r, x, hx, t, v, h => by
    simp only [ofEnv] at hx
    split at hx
    · rename_i y z hy hz
      obtain rfl := Option.some.inj hx
      simp only [toEnv] at h
      rw [look_cons] at h
      split at h
      · rename_i e; subst e
        obtain rfl := Option.some.inj h
        split at hy
        · rename_i u hu
          rw [Sh.of_spec hy]
          exact hag.at' _ _ hu
        · cases hy
      · exact toEnv_spec hag r hz t v h
    · cases hx
theorem Agree.carry {env env' : Env} {a a' : Act} {mods : List Nat} (hag : Agree n env a) (hag' : Agree n env' a') (hmod : Mod mods a a') {cs : List (Nat × Sh)} {x : RsV (cs.map (·.2))} (hx : ofEnv env' cs = some x) :
    Agree n (toEnv cs x ++ cutEnv mods env) a' := by
  refine ⟨hag'.size, hag'.defers, fun t v h => ?_⟩
  rw [look_append] at h
  cases ht : look (toEnv cs x) t with
  | some u => rw [ht] at h; obtain rfl := Option.some.inj h; exact toEnv_spec hag' cs hx t _ ht
  | none =>
    rw [ht] at h
    obtain ⟨h1, h2⟩ := look_cut mods env t h
    rw [hmod t h2]
    exact hag.at' t v h1

def PostF (n : Nat) (Kn : Env → HP) (Kx : Nat → Env → HP) (Kr : Env → HP) : Exit → Act → HP
  | .normal, a, L => ∃ env, Agree n env a ∧ Kn env L
  | .exit id, a, L => ∃ env, Agree n env a ∧ Kx id env L
  | .ret, a, L => ∃ env, Agree n env a ∧ Kr env L
  | _, _, _ => False

theorem flat_sound (hN : NoNum P) (hm : P.follows .mixedOrders = true) (H : Hints) : ∀ (c : Code) (b : Nat) (Kn : Env → HP) (Kx : Nat → Env → HP) (Kr : Env → HP) (env : Env) (a : Act) (L : HList),
    Agree n env a → flat P H n c b Kn Kx Kr env L → CodeF P c (fun e a' L' => Mod (modsOf c) a a' ∧ PostF n Kn Kx Kr e a' L') a L := by
  intro c
  induction c with
  | skip => exact fun b Kn Kx Kr env a L hag h => CodeF.skip ⟨.refl _ _, env, hag, h⟩
  | region id ops draw =>
    intro b Kn Kx Kr env a L hag h
    cases draw with
    | false =>
      simp only [flat] at h
      refine CodeF.region (fun i => match ops[i]? with | some o => clsOf P o | none => .P) ?_
      exact flatOps_sound hN (drawn := false) (fun i o ho => by simp only [ho]) (fun _ _ _ => rfl) _ env [] [] a L hag (by intro h; cases h) (.refl _ _) h
    | true =>
      simp only [flat] at h
      cases hpl : findH H.plans id with
      | none => rw [hpl] at h; exact False.elim h
      | some π =>
        rw [hpl] at h
        have hq := hp_eq h; clear h; obtain ⟨M, hM, h⟩ := hq
        simp only at hM
        split at hM <;> subst hM
        · rename_i hok
          refine CodeF.region_any hm _ π hok ?_
          exact flatOps_sound hN (drawn := true) (fun i o ho => by simp only [ho]) (by intro h; cases h) _ env [] [] a L hag (fun _ q hq => by cases hq) (.refl _ _) h
        · exact False.elim h
  | seq x y ihx ihy =>
    intro b Kn Kx Kr env a L hag h
    simp only [flat] at h
    refine CodeF.seq ?_
    have rest : ∀ {e : Exit} {a' : Act} {L' : HList}, e ≠ .normal → Mod (modsOf x) a a' → PostF n Kn Kx Kr e a' L' → Mod (modsOf (x.seq y)) a a' ∧ PostF n Kn Kx Kr e a' L' :=
      fun _ hmod hp => ⟨hmod.mono fun t ht => List.mem_append_left _ ht, hp⟩
    cases hj : joinH H.joins y with
    | none =>
      rw [hj] at h
      refine (ihx b _ Kx Kr env a L hag h).mono fun e a' L' ⟨hmod, hp⟩ => ?_
      cases e with
      | normal =>
        obtain ⟨env', hag', hk⟩ := hp
        exact (ihy b Kn Kx Kr env' a' L' hag' hk).mono fun e2 a2 L2 ⟨hmod2, hp2⟩ =>
          ⟨(hmod.mono fun t ht => List.mem_append_left _ ht).trans (hmod2.mono fun t ht => List.mem_append_right _ ht), hp2⟩
      | exit id => exact rest (by intro h; cases h) hmod hp
      | ret => exact rest (by intro h; cases h) hmod hp
      | goto l => exact hp.elim
      | panic c => exact hp.elim
      | outgrown => exact hp.elim
    | some cs =>
      rw [hj] at h
      refine (ihx b _ Kx Kr env a L hag h).mono fun e a' L' ⟨hmod, hp⟩ => ?_
      cases e with
      | normal =>
        obtain ⟨env', hag', hk⟩ := hp
        have hq := hp_eq hk; clear hk; obtain ⟨M, hM, hk⟩ := hq
        split at hM <;> subst hM
        · rename_i v hv
          exact (ihy b Kn Kx Kr _ a' L' (hag.carry hag' hmod hv) hk).mono fun e2 a2 L2 ⟨hmod2, hp2⟩ =>
            ⟨(hmod.mono fun t ht => List.mem_append_left _ ht).trans (hmod2.mono fun t ht => List.mem_append_right _ ht), hp2⟩
        · exact False.elim hk
      | exit id => exact rest (by intro h; cases h) hmod hp
      | ret => exact rest (by intro h; cases h) hmod hp
      | goto l => exact hp.elim
      | panic c => exact hp.elim
      | outgrown => exact hp.elim
  | cond c x y ihx ihy =>
    intro b Kn Kx Kr env a L hag h
    simp only [flat] at h
    have hq := hp_eq h; clear h; obtain ⟨M, hM, h⟩ := hq
    split at hM <;> subst hM
    · rename_i t hc
      have he := hag.ev hc
      have hag' : ∀ {t' : Bool}, t = t' → Agree n (substB env c t') a := by
        rintro t' rfl
        cases c with
        | tmp d =>
          refine hag.cons ?_
          exact hag.at' d _ hc
        | _ => exact hag
      refine CodeF.cond he ?_
      rcases ifB_spec h with ⟨rfl, h⟩ | ⟨rfl, h⟩
      · exact (ihx b Kn Kx Kr _ a L (hag' rfl) h).mono fun e a' L' ⟨hmod, hp⟩ => ⟨hmod.mono fun t ht => List.mem_append_left _ ht, hp⟩
      · exact (ihy b Kn Kx Kr _ a L (hag' rfl) h).mono fun e a' L' ⟨hmod, hp⟩ => ⟨hmod.mono fun t ht => List.mem_append_right _ ht, hp⟩
    · exact False.elim h
  | block id c ih =>
    intro b Kn Kx Kr env a L hag h
    simp only [flat] at h
    refine CodeF.block ((ih id _ _ Kr env a L hag h).mono fun e a' L' ⟨hmod, hp⟩ => ?_)
    cases e with
    | normal => exact ⟨hmod, hp⟩
    | exit id' =>
      obtain ⟨env', hag', hk⟩ := hp
      simp only [blockF]
      cases hb : Nat.beq id' id with
      | true =>
        rw [hb] at hk
        rw [if_pos (Nat.eq_of_beq_eq_true hb)]
        exact ⟨hmod, env', hag', hk⟩
      | false =>
        rw [hb] at hk
        rw [if_neg (Nat.ne_of_beq_eq_false hb)]
        exact ⟨hmod, env', hag', hk⟩
    | ret => exact ⟨hmod, hp⟩
    | goto l => exact hp.elim
    | panic c => exact hp.elim
    | outgrown => exact hp.elim
  | loop c ih =>
    intro b Kn Kx Kr env a L hag h
    simp only [flat] at h
    cases hl : findH H.loops b with
    | none => rw [hl] at h; exact False.elim h
    | some cs =>
      rw [hl] at h
      simp only at h
      cases hx0 : ofEnv env cs with
      | none => rw [hx0] at h; exact False.elim h
      | some x0 =>
        rw [hx0] at h
        obtain ⟨I, ⟨k0, hI0⟩, hround⟩ := h
        refine CodeF.loop (fun k a' L' => ∃ x, Agree n (toEnv cs x ++ cutEnv (modsOf c) env) a' ∧ Mod (modsOf c) a a' ∧ I k x L') (k := k0) ⟨x0, hag.carry hag (.refl _ _) hx0, .refl _ _, hI0⟩ ?_
        rintro k a' L' ⟨x, hag', hmod, hI⟩
        refine (ih b _ Kx Kr _ a' L' hag' (hround k x L' hI)).mono fun e a2 L2 ⟨hmod2, hp⟩ => ?_
        cases e with
        | normal =>
          obtain ⟨env2, hag2, hk⟩ := hp
          have hq := hp_eq hk; clear hk; obtain ⟨M, hM, hk⟩ := hq
          split at hM <;> subst hM
          · rename_i x' hx'
            obtain ⟨k', hk', hI'⟩ := hk
            exact ⟨k', hk', x', hag.carry hag2 (hmod.trans hmod2) hx', hmod.trans hmod2, hI'⟩
          · exact False.elim hk
        | exit id => exact ⟨hmod.trans hmod2, hp⟩
        | ret => exact ⟨hmod.trans hmod2, hp⟩
        | goto l => exact hp.elim
        | panic c => exact hp.elim
        | outgrown => exact hp.elim
  | exit id => exact fun b Kn Kx Kr env a L hag h => CodeF.exit ⟨.refl _ _, env, hag, h⟩
  | ret => exact fun b Kn Kx Kr env a L hag h => CodeF.ret ⟨.refl _ _, env, hag, h⟩
  | rangeFunc f ps x y _ _ => exact fun b Kn Kx Kr env a L hag h => by simp only [flat] at h; exact False.elim h
  | scope c _ => exact fun b Kn Kx Kr env a L hag h => by simp only [flat] at h; exact False.elim h
  | label l => exact fun b Kn Kx Kr env a L hag h => by simp only [flat] at h; exact False.elim h
  | goto l => exact fun b Kn Kx Kr env a L hag h => by simp only [flat] at h; exact False.elim h
  | refuse w => exact fun b Kn Kx Kr env a L hag h => by simp only [flat] at h; exact False.elim h

theorem look_zipE : ∀ (vs : List Value) (i t : Nat) (v : Value), look (zipE i vs) t = some v → i ≤ t ∧ vs[t - i]? = some v
  | [], _, _, _, h => by cases h
  | u :: r, i, t, v, h => by
    simp only [zipE] at h
    rw [look_cons] at h
    split at h
    · rename_i e; subst e; exact ⟨Nat.le_refl _, by simpa using h⟩
    · rename_i e
      obtain ⟨h1, h2⟩ := look_zipE r (i + 1) t v h
      refine ⟨by omega, ?_⟩
      rw [show t - i = (t - (i + 1)) + 1 by omega, List.getElem?_cons_succ]
      exact h2

theorem resF_spec {env : Env} {a : Act} (hag : Agree n env a) {E : World} {F L : HList} {w : World} (hw : Hold E w (L ++ F)) : ∀ {rs : List ResultVar} {K : List Value → HP}, resF P env rs K L →
    ∃ vs, (rs.mapM (m := Sem) fun | .tmp t => pure (a.tmps.getD t undef) | .cell x t => do loadVar t (← asAddr (a.tmps.getD x undef))).run P w = .ok vs w ∧ K vs L
  | [], K, h => ⟨[], rfl, h⟩
  | .tmp t :: r, K, h => by
    simp only [resF] at h
    cases hv : look env t with
    | none => rw [hv] at h; exact False.elim h
    | some v =>
      rw [hv] at h
      obtain ⟨vs, hr, hk⟩ := resF_spec hag hw h
      have := hag.at' t v hv
      refine ⟨v :: vs, ?_, hk⟩
      simp only [List.mapM_cons, Sem.run_bind, Sem.run_pure, Result.andThen_ok, hr]
      simp [this]
  | .cell t ty :: r, K, h => by
    simp only [resF] at h
    have hq := hp_eq h; clear h; obtain ⟨M, hM, h⟩ := hq
    split at hM <;> subst hM
    · rename_i p sh h1 h2
      obtain ⟨ad, rfl, x, hl, hk⟩ := nilc_spec h
      obtain ⟨vs, hr, hk⟩ := resF_spec hag hw hk
      have h3 := hag.at' t _ h1
      refine ⟨sh.val x :: vs, ?_, hk⟩
      have h4 : (a.tmps.getD t undef) = .pointer (some ad) := by simp [h3]
      have h5 : (asAddr (a.tmps.getD t undef)).run P w = .ok ad w := by rw [h4]; rfl
      simp only [List.mapM_cons, Sem.run_bind, h5, Sem.run_pure, Result.andThen_ok, loadVar_spec h2 x (hl.cells hw), hr]
    · exact False.elim h

/-- **A FUNCTION's CONTRACT, OUT OF ITS NODES.** -/
theorem flatFn_sound (hN : NoNum P) (hm : P.follows .mixedOrders = true) (H : Hints) {f : FuncId} {fn : Func} (hf : P.funcs[f]? = some fn) {args : Array Value} {K : Value → HP} {L : HList}
    (h : flatFn P H fn args.toList K L) : CallF P f args L fun v L' => K v L' := by
  intro E F w hw
  unfold flatFn at h
  cases hb : fn.body with
  | none => simp only [hb] at h; exact False.elim h
  | some c =>
    cases hle : Nat.ble args.toList.length fn.ntmps with
    | false => simp only [hb, hle] at h; exact False.elim h
    | true =>
      simp only [hb, hle] at h
      have hlen : args.size ≤ fn.ntmps := by simpa using Nat.le_of_ble_eq_true hle
      refine calls_of_wp hf hb ?_
      have hag : Agree fn.ntmps (zipE 0 args.toList) { tmps := args ++ Array.replicate (fn.ntmps - args.size) undef, defers := [] } := by
        refine ⟨by simp; omega, rfl, fun t v ht => ?_⟩
        obtain ⟨_, h1⟩ := look_zipE _ _ _ _ ht
        simp only [Nat.sub_zero] at h1
        have hlt : t < args.size := by simpa using (List.getElem?_eq_some_iff.1 h1).1
        rw [Array.getElem?_append_left hlt]
        simpa using h1
      refine wp_mono (flat_sound hN hm H c 0 _ _ _ _ _ L hag h E F w hw) fun e a' w' ⟨L', hw', _, hp⟩ => ?_
      have fin : (∃ env, Agree fn.ntmps env a' ∧ resF P env fn.results.toList (fun vs => K (oneOrTuple vs)) L') → a'.defers = [] ∧ ∃ v, (results fn a'.tmps).run P w' = .ok v w' ∧ ∃ v' L', Ending.returned v = .returned v' ∧ Hold E w' (L' ++ F) ∧ K v' L' := by
        rintro ⟨env, hag', hk⟩
        refine ⟨hag'.defers, ?_⟩
        obtain ⟨vs, hvs, hk⟩ := resF_spec hag' hw' hk
        have hres : (results fn a'.tmps).run P w' = .ok (if h : vs.toArray.size = 1 then vs.toArray[0] else .tuple vs.toArray) w' := by
          have h1 : (fn.results.mapM (m := Sem) fun | .tmp t => pure (a'.tmps.getD t undef) | .cell x t => do loadVar t (← asAddr (a'.tmps.getD x undef))).run P w' = .ok vs.toArray w' := by
            rw [Array.mapM_eq_mapM_toList, Sem.run_map, hvs]
            rfl
          unfold results
          rw [Sem.run_bind]
          refine Eq.trans (congrArg (fun r => Result.andThen r _) h1) ?_
          rfl
        match vs, hres, hk with
        | [], hres, hk => exact ⟨_, hres, _, L', rfl, hw', hk⟩
        | [v], hres, hk => exact ⟨_, hres, _, L', rfl, hw', hk⟩
        | v1 :: v2 :: r, hres, hk => exact ⟨_, hres, _, L', by simp [oneOrTuple], hw', hk⟩
      cases e with
      | normal => exact fin hp
      | ret => exact fin hp
      | exit id => obtain ⟨_, _, hf⟩ := hp; exact hf.elim
      | goto l => exact hp.elim
      | panic c => exact hp.elim
      | outgrown => exact hp.elim

theorem call_of_flat (hN : NoNum P) (hm : P.follows .mixedOrders = true) {H : Hints} {f : FuncId} {fn : Func} (hf : P.funcs[f]? = some fn) {args : List Value} {K : Value → HP} {N : HP} {L : HList}
    (he : flatFn P H fn args (fun v L => ∃ L' J, L.Perm (L' ++ J) ∧ K v L') = N) (h : N L) : CallF P f args.toArray L K := by
  subst he
  intro E F w hw
  refine Calls.mono (flatFn_sound (args := args.toArray) (K := fun v L => ∃ L' J, L.Perm (L' ++ J) ∧ K v L') hN hm H hf (by simpa using h) E F w hw) fun e w' ⟨v, L1, hv, hw1, L', J, hp, hK⟩ => ⟨v, L', hv, ?_, hK⟩
  have h1 : Hold E w' ((L' ++ F) ++ J) := hw1.perm (by
    refine (hp.append_right F).trans ?_
    simp only [List.append_assoc]
    exact List.perm_append_comm.append_left L')
  exact h1.left
end
end Go.HL
