/-
  It is proved that the steps of a region whose orders are left open commute where they touch different things. There are no further conditions than those that each theorem names.
-/
import Derived.Test.YtaniefdpjommnaaDoorHL1
set_option linter.unusedVariables false
namespace Go.HL

/-! ### 4. A region that draws its order: one order stands for all -/
inductive Cls where | P | R | A | W
  deriving DecidableEq

def RdS (P : Program) (s : Sem Next) (L : HList) (v : Value) : Prop := ∀ E F w, Hold E w (L ++ F) → s.run P w = .ok (.value v) w
abbrev Pend := List (Nat × Sem Next × Value)
abbrev KT := Act → Pend → HP

def AlG (P : Program) (s : Sem Next) (n : Nat) (ob : Obj) (v : Value) : Prop :=
  ∃ (w : World) (d : Nat), w.heap.size = n ∧ s.run P w = .ok (.value v) { w with heap := w.heap.push ob, drawn := d }
def AlAll (P : Program) (s : Sem Next) : Prop := ∀ w : World, ∃ ob v d, s.run P w = .ok (.value v) { w with heap := w.heap.push ob, drawn := d }

section
variable {P : Program} {ops : Array Oper} {anc : Nat → Nat → Bool}

theorem RdS.mono {s : Sem Next} {L R : HList} {v : Value} (h : RdS P s L v) : RdS P s (R ++ L) v := fun E F w hw =>
  h E (R ++ F) w (hw.perm (by rw [List.append_assoc]; exact (List.perm_append_comm_assoc R L F)))
theorem RdS.perm {s : Sem Next} {L L' : HList} {v : Value} (p : L.Perm L') (h : RdS P s L v) : RdS P s L' v :=
  fun E F w hw => h E F w (hw.perm (p.symm.append_right F))

theorem Sat.perm {L L' : HList} (p : L.Perm L') (h : Sat L) : Sat L' := by
  obtain ⟨E, F, w, hw⟩ := h
  exact ⟨E, F, w, hw.perm (p.append_right F)⟩

def Wanted (ops : Array Oper) (o : Oper) (a : Act) : Bool := Region.wanted o (yielded ops a.tmps)

def stepP (P : Program) (ops : Array Oper) (o : Oper) (K : KT) : KT := fun a T L => ∃ v, Yields P ops o v a ∧ K (a.put o.dst v) T L
def stepR (P : Program) (ops : Array Oper) (i : Nat) (o : Oper) (K : KT) : KT := fun a T L =>
  Wanted ops o a = true ∧ ∃ v, RdS P (execOp a.eval o) L v ∧ K (a.put o.dst v) ((i, execOp a.eval o, v) :: T) L
def stepA (P : Program) (ops : Array Oper) (o : Oper) (K : KT) : KT := fun a T L =>
  Wanted ops o a = true ∧ AlAll P (execOp a.eval o) ∧ ∀ n ob v, AlG P (execOp a.eval o) n ob v → Sat ((n, ob) :: L) → K (a.put o.dst v) T ((n, ob) :: L)
def Obl (P : Program) (anc : Nat → Nat → Bool) (i : Nat) (T : Pend) : HP := fun L' => ∀ q ∈ T, anc q.1 i = false → RdS P q.2.1 L' q.2.2
def stepW (P : Program) (ops : Array Oper) (anc : Nat → Nat → Bool) (i : Nat) (o : Oper) (K : KT) : KT := fun a T L =>
  Wanted ops o a = true ∧ OpF P o a L fun a' L' => Obl P anc i T L' ∧ K a' T L'

def stepS (ops : Array Oper) (o : Oper) (K : KT) : KT := fun a T L => Wanted ops o a = false ∧ K (a.put o.dst undef) T L

def stepC (P : Program) (ops : Array Oper) (anc : Nat → Nat → Bool) (c : Cls) (i : Nat) (o : Oper) (K : KT) : KT := fun a T L =>
  match c with
  | .P => stepP P ops o K a T L
  | .R => stepS ops o K a T L ∨ stepR P ops i o K a T L
  | .A => stepS ops o K a T L ∨ stepA P ops o K a T L
  | .W => stepS ops o K a T L ∨ stepW P ops anc i o K a T L

def runC (P : Program) (ops : Array Oper) (anc : Nat → Nat → Bool) (cls : Nat → Cls) (Q : Act → HP) : List Nat → KT
  | [] => fun a _ L => ∃ L', L.Perm L' ∧ Q a L'
  | i :: r => fun a T L => match ops[i]? with
    | some o => stepC P ops anc (cls i) i o (runC P ops anc cls Q r) a T L
    | none => False

def KPerm (K : KT) : Prop := ∀ a T L L', L.Perm L' → K a T L → K a T L'
def KTMono (K : KT) : Prop := ∀ a (T T' : Pend) L, (∀ q ∈ T', q ∈ T) → K a T L → K a T' L

theorem Obl.perm {i : Nat} {T : Pend} {L L' : HList} (p : L.Perm L') (h : Obl P anc i T L) : Obl P anc i T L' := fun q hq ha => (h q hq ha).perm p
theorem Obl.sub {i : Nat} {T T' : Pend} {L : HList} (hs : ∀ q ∈ T', q ∈ T) (h : Obl P anc i T L) : Obl P anc i T' L := fun q hq ha => h q (hs q hq) ha
theorem Obl.cons {i : Nat} {T : Pend} {p : Nat × Obj} {L : HList} (h : Obl P anc i T L) : Obl P anc i T (p :: L) := fun q hq ha => RdS.mono (R := [p]) (h q hq ha)

theorem stepP.mono {o : Oper} {K K' : KT} {a : Act} {T : Pend} {L : HList} (hs : Sat L) (hk : ∀ v T L, Sat L → K (a.put o.dst v) T L → K' (a.put o.dst v) T L) (h : stepP P ops o K a T L) : stepP P ops o K' a T L := by
  obtain ⟨v, hy, hK⟩ := h; exact ⟨v, hy, hk _ _ _ hs hK⟩
theorem stepS.mono {o : Oper} {K K' : KT} {a : Act} {T : Pend} {L : HList} (hs : Sat L) (hk : ∀ v T L, Sat L → K (a.put o.dst v) T L → K' (a.put o.dst v) T L) (h : stepS ops o K a T L) : stepS ops o K' a T L :=
  ⟨h.1, hk _ _ _ hs h.2⟩
theorem stepS.toP {o : Oper} {K : KT} {a : Act} {T : Pend} {L : HList} (h : stepS ops o K a T L) : stepP P ops o K a T L := ⟨undef, .inr ⟨h.1, rfl⟩, h.2⟩
theorem stepP.toS {o : Oper} {K : KT} {a : Act} {T : Pend} {L : HList} (hw : Wanted ops o a = false) (h : stepP P ops o K a T L) : stepS ops o K a T L := by
  obtain ⟨v, hy, hK⟩ := h
  rcases hy with ⟨h1, _⟩ | ⟨_, rfl⟩
  · unfold Wanted at hw; rw [hw] at h1; cases h1
  · exact ⟨hw, hK⟩
theorem stepR.mono {i : Nat} {o : Oper} {K K' : KT} {a : Act} {T : Pend} {L : HList} (hs : Sat L) (hk : ∀ v T L, Sat L → K (a.put o.dst v) T L → K' (a.put o.dst v) T L) (h : stepR P ops i o K a T L) : stepR P ops i o K' a T L := by
  obtain ⟨hw, v, hy, hK⟩ := h; exact ⟨hw, v, hy, hk _ _ _ hs hK⟩
theorem stepA.mono {o : Oper} {K K' : KT} {a : Act} {T : Pend} {L : HList} (hk : ∀ v T L, Sat L → K (a.put o.dst v) T L → K' (a.put o.dst v) T L) (h : stepA P ops o K a T L) : stepA P ops o K' a T L := by
  obtain ⟨hw, hal, hK⟩ := h; exact ⟨hw, hal, fun n ob v hg hs => hk _ _ _ hs (hK n ob v hg hs)⟩

theorem wp_tmps {o : Oper} {K : Act → World → Prop} {a : Act} {w : World} (h : o.wp P a w K noQ) : o.wp P a w (fun a' w' => (∃ u, a'.tmps = (a.put o.dst u).tmps) ∧ K a' w') noQ := by
  unfold Oper.wp at *
  generalize (execOp a.eval o).run P w = r at *
  cases r with
  | ok n w' =>
    cases n <;> simp only [Oper.upon] at h ⊢
    case value u => exact ⟨⟨u, rfl⟩, h⟩
    case skip => exact ⟨⟨undef, rfl⟩, h⟩
    case defer d => exact ⟨⟨undef, by cases o.dst <;> rfl⟩, h⟩
    case enter f args =>
      refine Calls.mono h fun e w'' he => ?_
      cases e with
      | returned u => exact ⟨⟨u, rfl⟩, he⟩
      | panicked c => exact he
      | outgrown => obtain ⟨_, _, hf⟩ := he; exact hf.elim
    case row row args => exact Rows.mono h fun u w'' he => ⟨⟨u, rfl⟩, he⟩
  | halt x w' => cases x <;> simp only [Oper.upon] at h ⊢ <;> exact h
theorem OpF.tmps {o : Oper} {a : Act} {L : HList} {K : Act → HP} (h : OpF P o a L K) : OpF P o a L fun a' L' => (∃ u, a'.tmps = (a.put o.dst u).tmps) ∧ K a' L' := by
  intro E F w next hw hn
  have h1 := wp_tmps (h E F w (fun a' w' => ∃ L', Hold E w' (L' ++ F) ∧ K a' L') hw fun a' w' L' hw' hk => ⟨L', hw', hk⟩)
  exact Oper.wp_mono (fun a' w' ⟨ht, L', hw', hk⟩ => hn a' w' L' hw' ⟨ht, hk⟩) h1

/-- What a step's rest may be weakened by: it stands where the operation has filled its own temporary, and no other. -/
theorem stepW.mono {i : Nat} {o : Oper} {K K' : KT} {a : Act} {T : Pend} {L : HList} (hk : ∀ a' v T L, a'.tmps = (a.put o.dst v).tmps → Sat L → K a' T L → K' a' T L) (h : stepW P ops anc i o K a T L) : stepW P ops anc i o K' a T L := by
  obtain ⟨hw, hK⟩ := h; exact ⟨hw, hK.tmps.mono fun a' L' hs ⟨⟨u, hu⟩, ho, hk'⟩ => ⟨ho, hk _ _ _ _ hu hs hk'⟩⟩
theorem stepC.mono {c : Cls} {i : Nat} {o : Oper} {K K' : KT} {a : Act} {T : Pend} {L : HList} (hs : Sat L) (hk : ∀ a' v T L, a'.tmps = (a.put o.dst v).tmps → Sat L → K a' T L → K' a' T L) (h : stepC P ops anc c i o K a T L) : stepC P ops anc c i o K' a T L := by
  have hk' : ∀ v T L, Sat L → K (a.put o.dst v) T L → K' (a.put o.dst v) T L := fun v T L => hk _ v T L rfl
  cases c
  · exact stepP.mono hs hk' h
  · exact h.imp (stepS.mono hs hk') (stepR.mono hs hk')
  · exact h.imp (stepS.mono hs hk') (stepA.mono hk')
  · exact h.imp (stepS.mono hs hk') (stepW.mono hk)

theorem stepC.kperm {c : Cls} {i : Nat} {o : Oper} {K : KT} (hK : KPerm K) : KPerm (stepC P ops anc c i o K) := by
  intro a T L L' p h
  have hS : stepS ops o K a T L → stepS ops o K a T L' := fun ⟨hw, h⟩ => ⟨hw, hK _ _ _ _ p h⟩
  cases c
  · obtain ⟨v, hy, h⟩ := h; exact ⟨v, hy, hK _ _ _ _ p h⟩
  · exact h.imp hS fun ⟨hw, v, hy, h⟩ => ⟨hw, v, hy.perm p, hK _ _ _ _ p h⟩
  · exact h.imp hS fun ⟨hw, hal, h⟩ => ⟨hw, hal, fun n ob v hg hs => hK _ _ _ _ (p.cons _) (h n ob v hg (hs.perm (p.symm.cons _)))⟩
  · exact h.imp hS fun ⟨hw, h⟩ => ⟨hw, h.perm p⟩

theorem stepC.ktmono {c : Cls} {i : Nat} {o : Oper} {K : KT} (hK : KTMono K) : KTMono (stepC P ops anc c i o K) := by
  intro a T T' L hs h
  have hS : stepS ops o K a T L → stepS ops o K a T' L := fun ⟨hw, h⟩ => ⟨hw, hK _ _ _ _ hs h⟩
  cases c
  · obtain ⟨v, hy, h⟩ := h; exact ⟨v, hy, hK _ _ _ _ hs h⟩
  · exact h.imp hS fun ⟨hw, v, hy, h⟩ => ⟨hw, v, hy, hK _ _ _ _ (fun q hq => by
      rcases List.mem_cons.1 hq with rfl | hq
      · exact List.mem_cons_self
      · exact List.mem_cons_of_mem _ (hs q hq)) h⟩
  · exact h.imp hS fun ⟨hw, hal, h⟩ => ⟨hw, hal, fun n ob v hg hsat => hK _ _ _ _ hs (h n ob v hg hsat)⟩
  · exact h.imp hS fun ⟨hw, h⟩ => ⟨hw, h.mono fun a' L' _ ⟨ho, hk⟩ => ⟨ho.sub hs, hK _ _ _ _ hs hk⟩⟩

theorem runC.kperm {cls : Nat → Cls} {Q : Act → HP} (l : List Nat) : KPerm (runC P ops anc cls Q l) := by
  induction l with
  | nil => exact fun a T L L' p ⟨L1, p1, h⟩ => ⟨L1, p.symm.trans p1, h⟩
  | cons i r ih =>
    intro a T L L' p h
    simp only [runC] at h ⊢
    cases ho : ops[i]? with
    | none => simp [ho] at h
    | some o => simp only [ho] at h ⊢; exact stepC.kperm ih a T L L' p h
theorem runC.ktmono {cls : Nat → Cls} {Q : Act → HP} (l : List Nat) : KTMono (runC P ops anc cls Q l) := by
  induction l with
  | nil => exact fun a T T' L _ h => h
  | cons i r ih =>
    intro a T T' L hs h
    simp only [runC] at h ⊢
    cases ho : ops[i]? with
    | none => simp [ho] at h
    | some o => simp only [ho] at h ⊢; exact stepC.ktmono ih a T T' L hs h

/-! what an operation apart does not see -/
theorem exec_apart {x o : Oper} (hap : x.apart ops o = true) (hs : ∀ cs b, o.op ≠ .select cs b) (a : Act) (v : Value) : execOp (a.put x.dst v).eval o = execOp a.eval o :=
  execOp_put o hs a x.dst v (Oper.apart_spec hap).1
theorem wanted_apart {x o : Oper} (hap : x.apart ops o = true) (a : Act) (v : Value) : Wanted ops o (a.put x.dst v) = Wanted ops o a :=
  wanted_put o a x.dst v (Oper.apart_spec hap).1
theorem exec_apart' {x o : Oper} (hap : x.apart ops o = true) (hs : ∀ cs b, x.op ≠ .select cs b) (a : Act) (v : Value) : execOp (a.put o.dst v).eval x = execOp a.eval x :=
  execOp_put x hs a o.dst v (Oper.apart_spec hap).2.2
theorem wanted_apart' {x o : Oper} (hap : x.apart ops o = true) (a : Act) (v : Value) : Wanted ops x (a.put o.dst v) = Wanted ops x a :=
  wanted_put x a o.dst v (Oper.apart_spec hap).2.2
theorem put_apart {x o : Oper} (hap : x.apart ops o = true) (a : Act) (v u : Value) : (a.put x.dst v).put o.dst u = (a.put o.dst u).put x.dst v :=
  Act.put_comm a v u (Oper.apart_spec hap).2.1
theorem eval_tmps {a a' : Act} (h : a'.tmps = a.tmps) : a'.eval = a.eval := by
  funext x; cases x <;> simp [Act.eval, h]
theorem yields_unique {o : Oper} {u v : Value} {a : Act} (h : Yields P ops o u a) (k : Yields P ops o v a) : u = v := by
  rcases h with ⟨hw, h⟩ | ⟨hw, rfl⟩ <;> rcases k with ⟨kw, k⟩ | ⟨kw, rfl⟩
  · have h1 := h default; have k1 := k default; rw [h1] at k1; injection k1 with e; injection e
  · rw [hw] at kw; cases kw
  · rw [hw] at kw; cases kw
  · rfl
theorem yields_of {o : Oper} {v : Value} {a a' : Act} (h : Yields P ops o v a) (he : execOp a'.eval o = execOp a.eval o) (hw : Wanted ops o a' = Wanted ops o a) : Yields P ops o v a' :=
  h.of_same he hw

/-- The other way round: 'o' behind a value of 'x' is as 'o' ahead of it. -/
theorem wp_put_rev {x o : Oper} {v : Value} (hap : x.apart ops o = true) (hs : ∀ cs b, o.op ≠ .select cs b) {K : Act → World → Prop} {a : Act} {w : World}
    (h : o.wp P a w (fun a' w' => K (a'.put x.dst v) w') noQ) : o.wp P (a.put x.dst v) w K noQ := by
  obtain ⟨h1, h2, h3⟩ := Oper.apart_spec hap
  unfold Oper.wp at *
  rw [execOp_put o hs a x.dst v h1]
  generalize (execOp a.eval o).run P w = r at *
  cases r with
  | ok n w' =>
    cases n <;> simp only [Oper.upon] at h ⊢
    case value u => rw [Act.put_comm a v u h2]; exact h
    case skip => rw [Act.put_comm a v undef h2]; exact h
    case defer d =>
      rw [Act.put_defers, Act.put_comm _ v undef h2]
      exact h
    case enter f args =>
      refine Calls.mono h fun e w'' he => ?_
      cases e with
      | returned u => simp only at he ⊢; rw [Act.put_comm a v u h2]; exact he
      | panicked c => exact he
      | outgrown => obtain ⟨_, _, hf⟩ := he; exact hf.elim
    case row row args => exact Rows.mono h fun u w'' he => by rw [Act.put_comm a v u h2]; exact he
  | halt x w' => cases x <;> simp only [Oper.upon] at h ⊢ <;> exact h

theorem OpF.put {x o : Oper} {v : Value} (hap : x.apart ops o = true) (hs : ∀ cs b, o.op ≠ .select cs b) {a : Act} {L : HList} {K : Act → HP}
    (h : OpF P o (a.put x.dst v) L K) : OpF P o a L fun a' L' => (∃ u, a'.tmps = (a.put o.dst u).tmps) ∧ K (a'.put x.dst v) L' := by
  intro E F w next hw hn
  have h1 := wp_put hap hs (h E F w (fun a' w' => ∃ L', Hold E w' (L' ++ F) ∧ K a' L') hw fun a' w' L' hw' hk => ⟨L', hw', hk⟩)
  exact Oper.wp_mono (fun a' w' ⟨ht, L', hw', hk⟩ => hn a' w' L' hw' ⟨ht, hk⟩) h1
theorem OpF.put_rev {x o : Oper} {v : Value} (hap : x.apart ops o = true) (hs : ∀ cs b, o.op ≠ .select cs b) {a : Act} {L : HList} {K : Act → HP}
    (h : OpF P o a L fun a' L' => K (a'.put x.dst v) L') : OpF P o (a.put x.dst v) L K :=
  fun E F w next hw hn => wp_put_rev hap hs (h E F w (fun a' w' => next (a'.put x.dst v) w') hw fun a' w' L' hw' hk => hn _ w' L' hw' hk)

end
end Go.HL
