/-
  It is proved that worlds that hold a list of objects can be reasoned of piece by piece (the weakest-precondition rules of code and calls, with the frame laid in). There are no further conditions than those that each theorem names.
-/
import Derived.Orders
import Derived.LoopN
import Derived.Below
import Derived.KernelRfl
set_option linter.unusedVariables false
namespace Go.HL

/-! ### 1. A piece of memory as a list of blocks -/
abbrev HList := List (Nat × Obj)
abbrev HP := HList → Prop

/-- The world 'w' has the blocks 'L', and else is as 'E' where no block is meant. -/
structure Hold (E w : World) (L : HList) : Prop where
  nd : (L.map Prod.fst).Nodup
  blk : ∀ p, p ∈ L → w.heap[p.1]? = some p.2
  os : w.os = E.os
  tape : w.tape = E.tape
  output : w.output = E.output

def Sat (L : HList) : Prop := ∃ E F w, Hold E w (L ++ F)

theorem Hold.perm {E w : World} {L L' : HList} (h : Hold E w L) (p : L.Perm L') : Hold E w L' :=
  ⟨(p.map Prod.fst).nodup_iff.1 h.nd, fun q hq => h.blk q (p.mem_iff.2 hq), h.os, h.tape, h.output⟩

theorem Hold.left {E w : World} {A B : HList} (h : Hold E w (A ++ B)) : Hold E w A := by
  refine ⟨?_, fun q hq => h.blk q (List.mem_append_left _ hq), h.os, h.tape, h.output⟩
  have := h.nd
  rw [List.map_append, List.nodup_append] at this
  exact this.1

theorem Hold.drew {E w : World} {L : HList} (h : Hold E w L) (d : Nat) : Hold E { w with drawn := d } L := ⟨h.nd, h.blk, h.os, h.tape, h.output⟩

theorem Hold.lt {E w : World} {L : HList} (h : Hold E w L) {p : Nat × Obj} (hp : p ∈ L) : p.1 < w.heap.size :=
  (Array.getElem?_eq_some_iff.1 (h.blk p hp)).1

theorem Hold.push {E w : World} {L : HList} (h : Hold E w L) (o : Obj) : Hold E { w with heap := w.heap.push o } ((w.heap.size, o) :: L) := by
  refine ⟨?_, ?_, h.os, h.tape, h.output⟩
  · rw [List.map_cons, List.nodup_cons]
    refine ⟨fun hm => ?_, h.nd⟩
    obtain ⟨q, hq, he⟩ := List.mem_map.1 hm
    have := h.lt hq
    simp at he
    omega
  · intro p hp
    rcases List.mem_cons.1 hp with rfl | hp
    · simp
    · have := h.lt hp
      simp only [Array.getElem?_push]
      rw [if_neg (by omega)]
      exact h.blk p hp

theorem Hold.put {E w : World} {A B : HList} {b : Nat} {o : Obj} (h : Hold E w (A ++ (b, o) :: B)) (o' : Obj) :
    Hold E { w with heap := w.heap.setIfInBounds b o' } (A ++ (b, o') :: B) := by
  have hb : b < w.heap.size := h.lt (p := (b, o)) (by simp)
  have hnd := h.nd
  refine ⟨by simpa using hnd, ?_, h.os, h.tape, h.output⟩
  rw [List.map_append, List.map_cons, List.nodup_append, List.nodup_cons] at hnd
  intro p hp
  by_cases hpb : p.1 = b
  · have : p = (b, o') := by
      rcases List.mem_append.1 hp with hp | hp
      · exact absurd hpb (hnd.2.2 p.1 (List.mem_map.2 ⟨p, hp, rfl⟩) b (by simp))
      · rcases List.mem_cons.1 hp with hp | hp
        · exact hp
        · exact absurd (List.mem_map.2 ⟨p, hp, hpb⟩) hnd.2.1.1
    subst this
    simp [hb]
  · have hne : b ≠ p.1 := fun e => hpb e.symm
    simp only [Array.getElem?_setIfInBounds_ne hne]
    refine h.blk p ?_
    rcases List.mem_append.1 hp with hp | hp
    · exact List.mem_append_left _ hp
    · rcases List.mem_cons.1 hp with rfl | hp
      · exact absurd rfl hpb
      · exact List.mem_append_right _ (List.mem_cons_of_mem _ hp)

/-! ### 2. What an operation, a piece of code and a call do to a piece of memory, whatever lies beside it -/
def noQ : Exit → Act → World → Prop := fun _ _ _ => False

def OpF (P : Program) (o : Oper) (a : Act) (L : HList) (K : Act → HP) : Prop :=
  ∀ E F w next, Hold E w (L ++ F) → (∀ a' w' L', Hold E w' (L' ++ F) → K a' L' → next a' w') → o.wp P a w next noQ

def CodeF (P : Program) (c : Code) (Q : Exit → Act → HP) (a : Act) (L : HList) : Prop :=
  ∀ E F w, Hold E w (L ++ F) → c.wp P (fun e a' w' => ∃ L', Hold E w' (L' ++ F) ∧ Q e a' L') a w

def CallF (P : Program) (f : FuncId) (args : Array Value) (L : HList) (K : Value → HP) : Prop :=
  ∀ E F w, Hold E w (L ++ F) → Calls P f args w fun e w' => ∃ v L', e = .returned v ∧ Hold E w' (L' ++ F) ∧ K v L'

section
variable {P : Program}

theorem wp_monoQ {o : Oper} {a : Act} {w : World} {K : Act → World → Prop} {Q : Exit → Act → World → Prop} (h : o.wp P a w K noQ) : o.wp P a w K Q := by
  unfold Oper.wp at *
  generalize (execOp a.eval o).run P w = r at *
  cases r with
  | ok n w' =>
    cases n <;> simp only [Oper.upon] at h ⊢ <;>
      first
        | exact h
        | (refine Calls.mono h fun e w'' he => ?_
           cases e
           · exact he
           · exact he.elim
           · obtain ⟨_, _, hf⟩ := he; exact hf.elim)
  | halt x w' => cases x <;> simp only [Oper.upon] at h ⊢ <;> exact h.elim

theorem wp_some {o : Oper} {a : Act} {w : World} {K : Act → World → Prop} (h : o.wp P a w K noQ) : ∃ a' w', K a' w' := by
  unfold Oper.wp at h
  generalize (execOp a.eval o).run P w = r at h
  cases r with
  | ok n w' =>
    cases n <;> simp only [Oper.upon] at h <;>
      first
        | exact ⟨_, _, h⟩
        | (obtain ⟨e, w'', fr, he, _⟩ := h []
           cases e
           · exact ⟨_, _, he⟩
           · exact he.elim
           · obtain ⟨_, _, hf⟩ := he; exact hf.elim)
        | (obtain ⟨v, w'', he, _⟩ := h default []
           exact ⟨_, _, he⟩)
  | halt x w' => cases x <;> simp only [Oper.upon] at h <;> exact h.elim

/-- An operation apart from 'x': the value of 'x' may be laid before or behind it. -/
theorem wp_put {ops : Array Oper} {x o : Oper} {v : Value} (hap : x.apart ops o = true) (hs : ∀ cs b, o.op ≠ .select cs b) {K : Act → World → Prop} {a : Act} {w : World}
    (h : o.wp P (a.put x.dst v) w K noQ) : o.wp P a w (fun a' w' => (∃ u, a'.tmps = (a.put o.dst u).tmps) ∧ K (a'.put x.dst v) w') noQ := by
  obtain ⟨h1, h2, h3⟩ := Oper.apart_spec hap
  unfold Oper.wp at *
  rw [execOp_put o hs a x.dst v h1] at h
  generalize (execOp a.eval o).run P w = r at *
  cases r with
  | ok n w' =>
    cases n <;> simp only [Oper.upon] at h ⊢
    case value u => exact ⟨⟨u, rfl⟩, by rw [← Act.put_comm a v u h2]; exact h⟩
    case skip => exact ⟨⟨undef, rfl⟩, by rw [← Act.put_comm a v undef h2]; exact h⟩
    case defer d =>
      refine ⟨⟨undef, ?_⟩, ?_⟩
      · cases o.dst <;> rfl
      · rw [← Act.put_comm _ v undef h2, ← Act.put_defers]
        exact h
    case enter f args =>
      refine Calls.mono h fun e w'' he => ?_
      cases e with
      | returned u => exact ⟨⟨u, rfl⟩, by rw [← Act.put_comm a v u h2]; exact he⟩
      | panicked c => exact he
      | outgrown => obtain ⟨_, _, hf⟩ := he; exact hf.elim
    case row row args => exact Rows.mono h fun u w'' he => ⟨⟨u, rfl⟩, by rw [← Act.put_comm a v u h2]; exact he⟩
  | halt x w' => cases x <;> simp only [Oper.upon] at h ⊢ <;> exact h

theorem OpF.mono {o : Oper} {a : Act} {L : HList} {K K' : Act → HP} (h : OpF P o a L K) (hk : ∀ a' L', Sat L' → K a' L' → K' a' L') : OpF P o a L K' :=
  fun E F w next hw hn => h E F w next hw fun a' w' L' hw' hK => hn a' w' L' hw' (hk a' L' ⟨E, F, w', hw'⟩ hK)

theorem OpF.perm {o : Oper} {a : Act} {L L' : HList} {K : Act → HP} (p : L.Perm L') (h : OpF P o a L K) : OpF P o a L' K :=
  fun E F w next hw hn => h E F w next (hw.perm (p.symm.append_right F)) hn

theorem OpF.frame {o : Oper} {a : Act} {L R : HList} {K : Act → HP} (h : OpF P o a L K) : OpF P o a (L ++ R) fun a' L' => ∃ L1, L' = L1 ++ R ∧ K a' L1 :=
  fun E F w next hw hn => h E (R ++ F) w next (by rw [← List.append_assoc]; exact hw)
    fun a' w' L' hw' hK => hn a' w' (L' ++ R) (by rw [List.append_assoc]; exact hw') ⟨L', rfl, hK⟩

theorem OpF.some {o : Oper} {a : Act} {L : HList} {K : Act → HP} (hs : Sat L) (h : OpF P o a L K) : ∃ a' L', K a' L' := by
  obtain ⟨E, F, w, hw⟩ := hs
  obtain ⟨a', w', L', hK⟩ := wp_some (h E F w (fun a' w' => ∃ L', K a' L') hw fun a' w' L' _ hK => ⟨L', hK⟩)
  exact ⟨a', L', hK⟩

theorem CodeF.mono {c : Code} {a : Act} {L : HList} {Q Q' : Exit → Act → HP} (h : CodeF P c Q a L) (hq : ∀ e a' L', Q e a' L' → Q' e a' L') : CodeF P c Q' a L :=
  fun E F w hw => wp_mono (h E F w hw) fun e a' w' ⟨L', hw', hQ⟩ => ⟨L', hw', hq _ _ _ hQ⟩

theorem CallF.mono {f : FuncId} {args : Array Value} {L : HList} {K K' : Value → HP} (h : CallF P f args L K) (hk : ∀ v L', Sat L' → K v L' → K' v L') : CallF P f args L K' :=
  fun E F w hw => Calls.mono (h E F w hw) fun e w' ⟨v, L', he, hw', hK⟩ => ⟨v, L', he, hw', hk v L' ⟨E, F, w', hw'⟩ hK⟩

theorem CallF.perm {f : FuncId} {args : Array Value} {L L' : HList} {K : Value → HP} (p : L.Perm L') (h : CallF P f args L K) : CallF P f args L' K :=
  fun E F w hw => h E F w (hw.perm (p.symm.append_right F))

theorem CallF.frame {f : FuncId} {args : Array Value} {L R : HList} {K : Value → HP} (h : CallF P f args L K) : CallF P f args (L ++ R) fun v L' => ∃ L1, L' = L1 ++ R ∧ K v L1 :=
  fun E F w hw => Calls.mono (h E (R ++ F) w (by rw [← List.append_assoc]; exact hw)) fun e w' ⟨v, L', he, hw', hK⟩ =>
    ⟨v, L' ++ R, he, by rw [List.append_assoc]; exact hw', L', rfl, hK⟩

/-! ### 3. The rules of the code -/
def thenF (next : Act → HP) (Q : Exit → Act → HP) : Exit → Act → HP
  | .normal, a, L => next a L
  | e, a, L => Q e a L

theorem CodeF.seq {x y : Code} {Q : Exit → Act → HP} {a : Act} {L : HList} (h : CodeF P x (thenF (CodeF P y Q) Q) a L) : CodeF P (x.seq y) Q a L :=
  fun E F w hw => wp_seq (wp_mono (h E F w hw) fun e a' w' ⟨L', hw', hQ⟩ => by
    cases e with
    | normal => exact hQ E F w' hw'
    | exit id => exact ⟨L', hw', hQ⟩
    | goto l => exact ⟨L', hw', hQ⟩
    | ret => exact ⟨L', hw', hQ⟩
    | panic c => exact ⟨L', hw', hQ⟩
    | outgrown => exact ⟨L', hw', hQ⟩)

theorem CodeF.skip {Q : Exit → Act → HP} {a : Act} {L : HList} (h : Q .normal a L) : CodeF P .skip Q a L := fun _ _ _ hw => wp_skip ⟨L, hw, h⟩
theorem CodeF.exit {id : Nat} {Q : Exit → Act → HP} {a : Act} {L : HList} (h : Q (.exit id) a L) : CodeF P (.exit id) Q a L := fun _ _ _ hw => wp_exit ⟨L, hw, h⟩
theorem CodeF.ret {Q : Exit → Act → HP} {a : Act} {L : HList} (h : Q .ret a L) : CodeF P .ret Q a L := fun _ _ _ hw => wp_ret ⟨L, hw, h⟩
theorem CodeF.cond {c : Operand} {x y : Code} {t : Bool} {Q : Exit → Act → HP} {a : Act} {L : HList} (hc : a.eval c = .bool t) (h : CodeF P (if t then x else y) Q a L) :
    CodeF P (.cond c x y) Q a L := fun E F w hw => wp_cond hc (h E F w hw)

def blockF (id : Nat) (Q : Exit → Act → HP) : Exit → Act → HP
  | .exit id', a, L => if id' = id then Q .normal a L else Q (.exit id') a L
  | e, a, L => Q e a L

theorem CodeF.block {id : Nat} {c : Code} {Q : Exit → Act → HP} {a : Act} {L : HList} (h : CodeF P c (blockF id Q) a L) : CodeF P (.block id c) Q a L :=
  fun E F w hw => wp_block (wp_mono (h E F w hw) fun e a' w' ⟨L', hw', hQ⟩ => by
    cases e with
    | exit id' =>
      simp only [blockF] at hQ
      simp only [Exit.inBlock]
      split
      · rename_i e; subst e; simp only [if_true] at hQ; exact ⟨L', hw', hQ⟩
      · rename_i e; rw [if_neg e] at hQ; exact ⟨L', hw', hQ⟩
    | normal => exact ⟨L', hw', hQ⟩
    | goto l => exact ⟨L', hw', hQ⟩
    | ret => exact ⟨L', hw', hQ⟩
    | panic c => exact ⟨L', hw', hQ⟩
    | outgrown => exact ⟨L', hw', hQ⟩)

theorem CodeF.loop {c : Code} {Q : Exit → Act → HP} (I : Nat → Act → HP) {k : Nat} {a : Act} {L : HList} (h0 : I k a L)
    (round : ∀ k a L, I k a L → CodeF P c (thenF (fun a' L' => ∃ k', k' < k ∧ I k' a' L') Q) a L) : CodeF P (.loop c) Q a L := by
  intro E F w hw
  refine wp_loop_rounds (k + 1) ?_
  have key : ∀ n k a L w, k < n → I k a L → Hold E w (L ++ F) → Code.rounds P c (fun e a' w' => ∃ L', Hold E w' (L' ++ F) ∧ Q e a' L') n a w := by
    intro n
    induction n with
    | zero => intro k a L w hk; omega
    | succ n ih =>
      intro k a L w hk hI hw
      rw [rounds_succ]
      refine wp_mono (round k a L hI E F w hw) fun e a' w' ⟨L', hw', hQ⟩ => ?_
      cases e with
      | normal =>
        obtain ⟨k', hk', hI'⟩ := hQ
        exact ih k' a' L' w' (by omega) hI' hw'
      | exit id => exact ⟨L', hw', hQ⟩
      | goto l => exact ⟨L', hw', hQ⟩
      | ret => exact ⟨L', hw', hQ⟩
      | panic c => exact ⟨L', hw', hQ⟩
      | outgrown => exact ⟨L', hw', hQ⟩
  exact key (k + 1) k a L w (by omega) h0 hw
end
end Go.HL
