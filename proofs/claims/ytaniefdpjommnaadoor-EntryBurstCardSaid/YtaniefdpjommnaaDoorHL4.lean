/-
  It is proved that a region's code has what its plan has. There are no further conditions than those that each theorem names.
-/
import Derived.Test.YtaniefdpjommnaaDoorHL3
set_option linter.unusedVariables false
namespace Go.HL
section
variable {P : Program} {ops : Array Oper} {anc : Nat → Nat → Bool}

/-- 'x' may change places with 'i'. -/
def mayPass (ops : Array Oper) (anc : Nat → Nat → Bool) (cls : Nat → Cls) (x i : Nat) : Bool :=
  match ops[x]?, ops[i]? with
  | some ox, some oi => allowed (cls x) (cls i) && ox.apart ops oi
  | _, _ => false

theorem runC.bubble {cls : Nat → Cls} {Q : Act → HP} (hns : Region.noSelect ops = true) {i : Nat} {B : List Nat} : ∀ (A : List Nat) (a : Act) (T : Pend) (L : HList),
    (∀ x ∈ A, mayPass ops anc cls x i = true ∧ anc x i = false) → Sat L → runC P ops anc cls Q (A ++ i :: B) a T L → runC P ops anc cls Q (i :: (A ++ B)) a T L
  | [], _, _, _, _, _, h => h
  | x :: A, a, T, L, hp, hs, h => by
    obtain ⟨hx, hax⟩ := hp x List.mem_cons_self
    unfold mayPass at hx
    cases hox : ops[x]? with
    | none => simp [hox] at hx
    | some ox =>
      cases hoi : ops[i]? with
      | none => simp [hox, hoi] at hx
      | some oi =>
        simp only [hox, hoi, Bool.and_eq_true] at hx
        simp only [List.cons_append, runC, hox, hoi] at h ⊢
        refine stepC.swap hx.1 hx.2 (fun cs b => Region.noSelect_spec hns x ox cs b hox) (fun cs b => Region.noSelect_spec hns i oi cs b hoi) hax (runC.kperm _) (runC.ktmono _) hs ?_
        refine stepC.mono hs (fun a' v T L _ hs h => ?_) h
        have := runC.bubble hns A a' T L (fun y hy => hp y (List.mem_cons_of_mem _ hy)) hs h
        simpa only [runC, hoi] using this

theorem stepC.wp {c : Cls} {i : Nat} {o : Oper} (ho : ops[i]? = some o) {K : KT} {a : Act} {T : Pend} {L : HList} (h : stepC P ops anc c i o K a T L)
    {E : World} {F : HList} {w : World} (hw : Hold E w (L ++ F)) {Q : Exit → Act → World → Prop} {next : Act → World → Prop} (hn : ∀ a' T' L' w', Hold E w' (L' ++ F) → K a' T' L' → next a' w') :
    wpOp P ops Q i next a w := by
  have hP : stepP P ops o K a T L → wpOp P ops Q i next a w := fun ⟨v, hy, hk⟩ => hy.wpOp ho (hn _ _ _ _ hw hk)
  have hS : stepS ops o K a T L → wpOp P ops Q i next a w := fun h => hP h.toP
  have wanted : ∀ {o : Oper}, ops[i]? = some o → Wanted ops o a = true → o.wp P a w next Q → wpOp P ops Q i next a w := by
    intro o ho hw h
    unfold wpOp
    simp only [ho]
    unfold Wanted at hw
    simp only [hw, if_true]
    exact .inl h
  cases c
  · exact hP h
  · refine h.elim hS fun ⟨hwd, v, hr, hk⟩ => wanted ho hwd ?_
    unfold Oper.wp
    rw [hr E F w hw]
    exact hn _ _ _ _ hw hk
  · refine h.elim hS fun ⟨hwd, hal, hk⟩ => wanted ho hwd ?_
    obtain ⟨ob, v, d, hr⟩ := hal w
    unfold Oper.wp
    rw [hr]
    have hw' : Hold E { w with heap := w.heap.push ob, drawn := d } (((w.heap.size, ob) :: L) ++ F) := (hw.push ob).drew d
    exact hn _ _ _ _ hw' (hk _ ob v ⟨w, d, rfl, hr⟩ ⟨E, F, _, hw'⟩)
  · refine h.elim hS fun ⟨hwd, hk⟩ => wanted ho hwd ?_
    exact wp_monoQ (hk E F w next hw fun a' w' L' hw' ⟨_, hk'⟩ => hn _ _ _ _ hw' hk')

/-! the ancestors -/
def maskOf (acc : List Nat) (o : Oper) : Nat :=
  o.after.toList.foldl (fun s e => if Region.binds .any e then s ||| 2 ^ e.on ||| acc.getD e.on 0 else s) 0
def ancMasks : List Oper → List Nat → List Nat
  | [], acc => acc
  | o :: r, acc => ancMasks r (acc ++ [maskOf acc o])
def ancOf (M : List Nat) (x i : Nat) : Bool := (M.getD i 0).testBit x

theorem maskOf_spec (acc : List Nat) (o : Oper) (x : Nat) (h : (maskOf acc o).testBit x = true) : ∃ e ∈ o.after, Region.binds .any e = true ∧ (e.on = x ∨ (acc.getD e.on 0).testBit x = true) := by
  unfold maskOf at h
  have key : ∀ (l : List Edge) (s : Nat), (l.foldl (fun s e => if Region.binds .any e then s ||| 2 ^ e.on ||| acc.getD e.on 0 else s) s).testBit x = true →
      s.testBit x = true ∨ ∃ e ∈ l, Region.binds .any e = true ∧ (e.on = x ∨ (acc.getD e.on 0).testBit x = true) := by
    intro l
    induction l with
    | nil => exact fun s h => .inl h
    | cons e l ih =>
      intro s h
      rw [List.foldl_cons] at h
      rcases ih _ h with h | ⟨e', he', h⟩
      · split at h
        · rename_i hb
          simp only [Nat.testBit_or, Bool.or_eq_true, Nat.testBit_two_pow, decide_eq_true_eq] at h
          rcases h with (h | h) | h
          · exact .inl h
          · exact .inr ⟨e, List.mem_cons_self, hb, .inl h⟩
          · exact .inr ⟨e, List.mem_cons_self, hb, .inr h⟩
        · exact .inl h
      · exact .inr ⟨e', List.mem_cons_of_mem _ he', h⟩
  rcases key _ 0 h with h | ⟨e, he, h⟩
  · simp at h
  · exact ⟨e, by simpa using he, h⟩

theorem ancMasks_spec : ∀ (l : List Oper) (acc : List Nat) (j : Nat), (ancMasks l acc).getD j 0 = if j < acc.length then acc.getD j 0 else
      match l[j - acc.length]? with
      | some o => maskOf ((ancMasks l acc).take j) o
      | none => 0
  | [], acc, j => by
    simp only [ancMasks]
    split
    · rfl
    · rename_i h
      simp [List.getD_eq_getElem?_getD, List.getElem?_eq_none (Nat.le_of_not_lt h)]
  | o :: r, acc, j => by
    simp only [ancMasks]
    rw [ancMasks_spec r (acc ++ [maskOf acc o]) j]
    have htake : (ancMasks r (acc ++ [maskOf acc o])).take (acc.length) = acc := by
      have : ∀ (l : List Oper) (acc : List Nat), ∃ t, ancMasks l acc = acc ++ t := by
        intro l
        induction l with
        | nil => exact fun acc => ⟨[], by simp [ancMasks]⟩
        | cons o r ih =>
          intro acc
          obtain ⟨t, ht⟩ := ih (acc ++ [maskOf acc o])
          exact ⟨maskOf acc o :: t, by rw [ancMasks, ht]; simp⟩
      obtain ⟨t, ht⟩ := this r (acc ++ [maskOf acc o])
      rw [ht]
      simp
    by_cases h1 : j < acc.length
    · rw [if_pos (by simp; omega), if_pos h1]
      simp [List.getD_eq_getElem?_getD, List.getElem?_append_left h1]
    · rw [if_neg h1]
      by_cases h2 : j = acc.length
      · subst h2
        rw [if_pos (by simp)]
        simp [htake]
      · rw [if_neg (by simp; omega)]
        have : j - acc.length = (j - (acc ++ [maskOf acc o]).length) + 1 := by simp; omega
        rw [this, List.getElem?_cons_succ]

theorem anc_closed {listed : Array Bool} (down : ∀ (j : Nat) (o : Oper), listed.getD j false = true → ops[j]? = some o → ∀ e ∈ o.after, Region.binds .any e = true → listed.getD e.on false = true) :
    ∀ (j : Nat) (o : Oper), ops[j]? = some o → (∀ e ∈ o.after, Region.binds .any e = true → listed.getD e.on false = true) → ∀ x, ancOf (ancMasks ops.toList []) x j = true → listed.getD x false = true := by
  intro j
  induction j using Nat.strongRecOn with
  | _ j ih =>
    intro o ho hall x hx
    unfold ancOf at hx
    rw [ancMasks_spec] at hx
    simp only [List.length_nil, Nat.not_lt_zero, if_false, Nat.sub_zero] at hx
    have hol : ops.toList[j]? = some o := by simpa using ho
    rw [hol] at hx
    obtain ⟨e, he, hb, h⟩ := maskOf_spec _ _ _ hx
    have hle := hall e he hb
    rcases h with rfl | h
    · exact hle
    · by_cases hlt : e.on < j
      · have hM : ((ancMasks ops.toList []).take j).getD e.on 0 = (ancMasks ops.toList []).getD e.on 0 := by
          simp [List.getD_eq_getElem?_getD, hlt]
        rw [hM] at h
        cases hoe : ops[e.on]? with
        | none =>
          rw [ancMasks_spec] at h
          have : ops.toList[e.on]? = none := by simpa using hoe
          simp [this] at h
        | some oe => exact ih e.on hlt oe hoe (down e.on oe hle hoe) x h
      · have : ((ancMasks ops.toList []).take j).getD e.on 0 = 0 := by
          rw [List.getD_eq_getElem?_getD, List.getElem?_take, if_neg hlt]; rfl
        rw [this] at h
        simp at h

/-! the check of an order -/
def pairs (ops : Array Oper) (anc : Nat → Nat → Bool) (cls : Nat → Cls) : List Nat → Bool
  | [] => true
  | x :: r => (match ops[x]? with
      | none => false
      | some ox => ox.after.all fun e => !Region.binds .any e || (decide (e.on < ops.size) && !(e.on == x) && !r.contains e.on)) &&
    r.all (fun i => !(i == x) && (anc x i || mayPass ops anc cls x i)) && pairs ops anc cls r
def okPlan (ops : Array Oper) (anc : Nat → Nat → Bool) (cls : Nat → Cls) (π : List Nat) : Bool :=
  Region.noSelect ops && (List.range ops.size).all π.contains && pairs ops anc cls π

theorem region_go {cls : Nat → Cls} {Q : Act → HP} {Qw : Exit → Act → World → Prop} {E : World} {F : HList} (hns : Region.noSelect ops = true)
    (hQ : ∀ a L w, Hold E w (L ++ F) → Q a L → Qw .normal a w) : ∀ (k : Nat) (rem : List Nat) (listed : Array Bool) (a : Act) (T : Pend) (L : HList) (w : World),
    rem.length = k → listed.size = ops.size → (∀ j, j < ops.size → (j ∈ rem ↔ listed.getD j true = false)) → rem.Nodup → pairs ops (ancOf (ancMasks ops.toList [])) cls rem = true →
    (∀ (j : Nat) (o : Oper), listed.getD j false = true → ops[j]? = some o → ∀ e ∈ o.after, Region.binds .any e = true → listed.getD e.on false = true) →
    Hold E w (L ++ F) → runC P ops (ancOf (ancMasks ops.toList [])) cls Q rem a T L → wpAny P .any ops Qw k listed a w := by
  have unl : ∀ (listed : Array Bool) (j : Nat), listed.getD j true = false → listed.getD j false = false := by
    intro listed j h
    rcases Nat.lt_or_ge j listed.size with h' | h'
    · simpa [h'] using h
    · simp [Array.getElem?_eq_none h'] at h
  intro k
  induction k with
  | zero =>
    intro rem listed a T L w hk hsz hrem _ _ _ hw h
    have : rem = [] := List.length_eq_zero_iff.1 hk
    subst this
    obtain ⟨L', p, hq⟩ := h
    refine ⟨?_, hQ a L' w (hw.perm (p.append_right F)) hq⟩
    refine List.eq_nil_iff_forall_not_mem.2 fun j hj => ?_
    obtain ⟨hun, o, ho, _⟩ := mem_ready.1 hj
    have hlt : j < ops.size := (Array.getElem?_eq_some_iff.1 ho).1
    exact absurd ((hrem j hlt).2 hun) (by simp)
  | succ k ih =>
    intro rem listed a T L w hk hsz hrem hnd hpairs down hw h
    have listed_of : ∀ j, j < ops.size → j ∉ rem → listed.getD j false = true := by
      intro j hlt hj
      have h1 : listed.getD j true ≠ false := fun e => hj ((hrem j hlt).2 e)
      have hl : j < listed.size := by omega
      simpa [hl] using h1
    refine ⟨fun hnil => ?_, fun i hi => ?_⟩
    · -- the first that is left may come up
      exfalso
      cases rem with
      | nil => simp at hk
      | cons x r =>
        simp only [pairs, Bool.and_eq_true] at hpairs
        obtain ⟨⟨hx, _⟩, _⟩ := hpairs
        cases hox : ops[x]? with
        | none => simp [hox] at hx
        | some ox =>
          simp only [hox, Array.all_eq_true_iff_forall_mem, Bool.or_eq_true, Bool.and_eq_true, decide_eq_true_eq, Bool.not_eq_true'] at hx
          have hlt : x < ops.size := (Array.getElem?_eq_some_iff.1 hox).1
          have : x ∈ Region.ready .any ops listed := mem_ready.2 ⟨(hrem x hlt).1 List.mem_cons_self, ox, hox, fun e he hb => by
            rcases hx e he with h | ⟨⟨h1, h2⟩, h3⟩
            · rw [hb] at h; cases h
            · refine listed_of e.on h1 fun hm => ?_
              rcases List.mem_cons.1 hm with hm | hm
              · simp [hm] at h2
              · simp [hm] at h3⟩
          rw [hnil] at this
          cases this
    · obtain ⟨hun, oi, hoi, hall⟩ := mem_ready.1 hi
      have hlt : i < ops.size := (Array.getElem?_eq_some_iff.1 hoi).1
      have hir : i ∈ rem := (hrem i hlt).2 hun
      obtain ⟨A, B, rfl⟩ := List.append_of_mem hir
      -- those ahead of it may be passed
      have hpass : ∀ x ∈ A, mayPass ops (ancOf (ancMasks ops.toList [])) cls x i = true ∧ ancOf (ancMasks ops.toList []) x i = false := by
        intro x hx
        have hna : ancOf (ancMasks ops.toList []) x i = false := by
          cases hb : ancOf (ancMasks ops.toList []) x i with
          | false => rfl
          | true =>
            have := anc_closed down i oi hoi hall x hb
            have hxr : x ∈ A ++ i :: B := List.mem_append_left _ hx
            by_cases hxl : x < ops.size
            · have h2 := (hrem x hxl).1 hxr
              rw [unl _ _ h2] at this
              cases this
            · have : x ≥ listed.size := by omega
              simp [Array.getElem?_eq_none this] at *
        refine ⟨?_, hna⟩
        have : ∀ (A : List Nat), pairs ops (ancOf (ancMasks ops.toList [])) cls (A ++ i :: B) = true → x ∈ A → ancOf (ancMasks ops.toList []) x i = true ∨ mayPass ops (ancOf (ancMasks ops.toList [])) cls x i = true := by
          intro A
          induction A with
          | nil => intro _ h; cases h
          | cons y A ihA =>
            intro hp hx
            simp only [List.cons_append, pairs, Bool.and_eq_true, List.all_eq_true, Bool.or_eq_true] at hp
            rcases List.mem_cons.1 hx with rfl | hx
            · exact (hp.1.2 i (by simp)).2
            · exact ihA hp.2 hx
        exact (this A hpairs hx).resolve_left (by rw [hna]; decide)
      have hb := runC.bubble hns A a T L hpass ⟨E, F, w, hw⟩ h
      simp only [runC, hoi] at hb
      refine stepC.wp hoi hb hw fun a' T' L' w' hw' hk' => ?_
      have hnd' : (A ++ B).Nodup ∧ i ∉ A ++ B := by
        rw [List.nodup_append, List.nodup_cons] at hnd
        refine ⟨by rw [List.nodup_append]; exact ⟨hnd.1, hnd.2.1.2, fun a ha b hb => hnd.2.2 a ha b (List.mem_cons_of_mem _ hb)⟩, fun hm => ?_⟩
        rcases List.mem_append.1 hm with hm | hm
        · exact hnd.2.2 i hm i List.mem_cons_self rfl
        · exact hnd.2.1.1 hm
      refine ih (A ++ B) (listed.setIfInBounds i true) a' T' L' w' (by simp at hk ⊢; omega) (by simp [hsz]) (fun j hj => ?_) hnd'.1 ?_ ?_ hw' hk'
      · by_cases hji : j = i
        · subst hji
          have : j < listed.size := by omega
          simp only [Array.getD_eq_getD_getElem?, Array.getElem?_setIfInBounds_self_of_lt this, Option.getD_some, Bool.true_eq_false, iff_false]
          exact hnd'.2
        · rw [getD_set_ne true (Ne.symm hji), ← hrem j hj]
          simp [hji]
      · have : ∀ (A : List Nat), pairs ops (ancOf (ancMasks ops.toList [])) cls (A ++ i :: B) = true → pairs ops (ancOf (ancMasks ops.toList [])) cls (A ++ B) = true := by
          intro A
          induction A with
          | nil =>
            intro h
            simp only [List.nil_append, pairs, Bool.and_eq_true] at h ⊢
            exact h.2
          | cons y A ihA =>
            intro hp
            simp only [List.cons_append, pairs, Bool.and_eq_true, List.all_eq_true] at hp ⊢
            refine ⟨⟨?_, fun z hz => hp.1.2 z (by
              rcases List.mem_append.1 hz with hz | hz
              · exact List.mem_append_left _ hz
              · exact List.mem_append_right _ (List.mem_cons_of_mem _ hz))⟩, ihA hp.2⟩
            cases hoy : ops[y]? with
            | none => simp [hoy] at hp
            | some oy =>
              have h1 := hp.1.1
              simp only [hoy, Array.all_eq_true_iff_forall_mem, Bool.or_eq_true, Bool.and_eq_true, Bool.not_eq_true'] at h1 ⊢
              intro e he
              refine (h1 e he).imp id fun h => ⟨h.1, ?_⟩
              have := h.2
              simp at this ⊢
              exact ⟨this.1, this.2.2⟩
        exact this A hpairs
      · intro j o hj hoj e he hbd
        by_cases hji : j = i
        · subst hji
          rw [hoi] at hoj
          obtain rfl := Option.some.inj hoj
          exact getD_set_true (hall e he hbd)
        · exact getD_set_true (down j o (by rw [getD_set_ne false (Ne.symm hji)] at hj; exact hj) hoj e he hbd)

theorem pairs_nodup {cls : Nat → Cls} : ∀ {l : List Nat}, pairs ops anc cls l = true → l.Nodup
  | [], _ => List.nodup_nil
  | x :: r, h => by
    simp only [pairs, Bool.and_eq_true, List.all_eq_true] at h
    refine List.nodup_cons.2 ⟨fun hm => ?_, pairs_nodup h.2⟩
    have := (h.1.2 x hm).1
    simp at this

/-- **A REGION THAT DRAWS ITS ORDER**: one order that may stand for all. -/
theorem CodeF.region_any {id : Nat} (hm : P.follows .mixedOrders = true) (cls : Nat → Cls) (π : List Nat) (hok : okPlan ops (ancOf (ancMasks ops.toList [])) cls π = true)
    {Q : Exit → Act → HP} {a : Act} {L : HList} (h : runC P ops (ancOf (ancMasks ops.toList [])) cls (fun a L => Q .normal a L) π a [] L) : CodeF P (.region id ops true) Q a L := by
  intro E F w hw
  simp only [okPlan, Bool.and_eq_true, List.all_eq_true, List.mem_range, List.contains_iff_mem] at hok
  obtain ⟨⟨hns, hall⟩, hp⟩ := hok
  refine wp_region_any hm ?_
  have hlen : π.length = ops.size := by
    have hnd := pairs_nodup hp
    have hlt : ∀ x ∈ π, x < ops.size := by
      intro x hx
      have : ∀ (l : List Nat), pairs ops (ancOf (ancMasks ops.toList [])) cls l = true → x ∈ l → x < ops.size := by
        intro l
        induction l with
        | nil => intro _ h; cases h
        | cons y r ih =>
          intro hp hx
          simp only [pairs, Bool.and_eq_true] at hp
          rcases List.mem_cons.1 hx with rfl | hx
          · cases ho : ops[x]? with
            | none => simp [ho] at hp
            | some o => exact (Array.getElem?_eq_some_iff.1 ho).1
          · exact ih hp.2 hx
      exact this π hp hx
    have h1 : π.Perm (List.range ops.size) := by
      refine (List.perm_ext_iff_of_nodup hnd List.nodup_range).2 fun j => ⟨fun hj => List.mem_range.2 (hlt j hj), fun hj => hall j (List.mem_range.1 hj)⟩
    simpa using h1.length_eq
  rw [← hlen]
  refine region_go (Qw := fun e a' w' => ∃ L', Hold E w' (L' ++ F) ∧ Q e a' L') hns (fun a L w hw hq => ⟨L, hw, hq⟩) π.length π _ a [] L _ rfl (by simp [hlen]) (fun j hj => ?_) (pairs_nodup hp) hp ?_ (hw.drew _) h
  · have : j < π.length := by omega
    simp [this, hall j hj]
  · intro j o hj
    exfalso
    by_cases h : j < π.length <;> simp [h] at hj

/-- **A REGION WHOSE ORDER IS FIXED.** -/
theorem CodeF.region {id : Nat} (cls : Nat → Cls) {Q : Exit → Act → HP} {a : Act} {L : HList} (h : runC P ops (fun _ _ => true) cls (fun a L => Q .normal a L) (List.range ops.size) a [] L) : CodeF P (.region id ops false) Q a L := by
  intro E F w hw
  refine wp_region ?_
  have : ∀ (l : List Nat) (a : Act) (T : Pend) (L : HList) (w : World), Hold E w (L ++ F) → runC P ops (fun _ _ => true) cls (fun a L => Q .normal a L) l a T L →
      wpOps P ops (fun e a' w' => ∃ L', Hold E w' (L' ++ F) ∧ Q e a' L') l a w := by
    intro l
    induction l with
    | nil => exact fun a T L w hw ⟨L', p, hq⟩ => ⟨L', hw.perm (p.append_right F), hq⟩
    | cons i r ih =>
      intro a T L w hw h
      rw [wpOps_cons]
      simp only [runC] at h
      cases ho : ops[i]? with
      | none => simp [ho] at h
      | some o =>
        simp only [ho] at h
        exact stepC.wp ho h hw fun a' T' L' w' hw' hk => ih a' T' L' w' hw' hk
  exact this _ a [] L w hw h
end
end Go.HL
