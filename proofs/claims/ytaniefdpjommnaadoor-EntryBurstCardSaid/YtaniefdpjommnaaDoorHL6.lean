/-
  It is proved that reading values as shapes is sound. There are no further conditions than those that each theorem names.
-/
import Derived.Test.YtaniefdpjommnaaDoorHL5
import Derived.Laws.Cells
set_option linter.unusedVariables false
set_option linter.unusedSimpArgs false
namespace Go.HL

structure Agree (n : Nat) (env : Env) (a : Act) : Prop where
  size : a.tmps.size = n
  defers : a.defers = []
  at' : ∀ t v, look env t = some v → a.tmps[t]? = some v

def NoNum (P : Program) : Prop := P.funcs.all (fun fn => !(fn.name == "runtime.NumGoroutine")) = true

section
variable {P : Program} {n : Nat} {env : Env} {a : Act} (hag : Agree n env a)
include hag
theorem Agree.ev {x : Operand} {v : Value} (h : evL env x = some v) : a.eval x = v := by
  cases x with
  | tmp t =>
    have := hag.at' t v h
    simp [Act.eval, this]
  | const v => simpa [evL, Act.eval] using h
  | global g => simpa [evL, Act.eval] using h
  | func f => simpa [evL, Act.eval] using h
theorem Agree.evs : ∀ {xs : List Operand} {vs : List Value}, evLs env xs = some vs → xs.map a.eval = vs
  | [], vs, h => by simp [evLs] at h; simp [h]
  | x :: r, vs, h => by
    simp only [evLs] at h
    split at h
    · rename_i v vs' hv hvs
      obtain rfl := Option.some.inj h
      simp [hag.ev hv, Agree.evs hvs]
    · cases h
theorem Agree.evps : ∀ {xs : List (Nat × Operand)} {vs : List (Nat × Value)}, evPs env xs = some vs → xs.map (fun (i, x) => (i, a.eval x)) = vs
  | [], vs, h => by simp [evPs] at h; simp [h]
  | (i, x) :: r, vs, h => by
    simp only [evPs] at h
    split at h
    · rename_i v vs' hv hvs
      obtain rfl := Option.some.inj h
      simp [hag.ev hv, Agree.evps hvs]
    · cases h
theorem Agree.eva {xs : Array Operand} {vs : Array Value} (h : evA env xs = some vs) : xs.map a.eval = vs := by
  unfold evA at h
  split at h
  · rename_i l hl
    obtain rfl := Option.some.inj h
    rw [← hag.evs hl]
    exact Array.ext' (by simp)
  · cases h
theorem Agree.evpa {xs : Array (Nat × Operand)} {vs : List (Nat × Value)} (h : evPs env xs.toList = some vs) : (xs.map fun (i, x) => (i, a.eval x)).toList = vs := by
  rw [← hag.evps h]; simp
theorem Agree.evo {x : Option Operand} {v : Option Value} (h : evO env x = some v) : x.map a.eval = v := by
  cases x with
  | none => simpa [evO] using h
  | some x =>
    simp only [evO] at h
    split at h
    · rename_i v' hv; obtain rfl := Option.some.inj h; simp [hag.ev hv]
    · cases h
end

def OpOk (P : Program) (c : Cls) (o : Oper) (a : Act) (L : HList) (φs : List HP) (k : Value → List HP → HP) : Prop :=
  match c with
  | .P => ∃ v, (∀ w, (execOp a.eval o).run P w = .ok (.value v) w) ∧ k v [] L
  | .R => ∃ v φ, RdS P (execOp a.eval o) L v ∧ (∀ L', φ L' → RdS P (execOp a.eval o) L' v) ∧ k v [φ] L
  | .A => AlAll P (execOp a.eval o) ∧ ∀ n ob v, AlG P (execOp a.eval o) n ob v → Sat ((n, ob) :: L) → k v [] ((n, ob) :: L)
  | .W => OpF P o a L fun a' L' => ∃ v, a' = a.put o.dst v ∧ (∀ φ ∈ φs, φ L') ∧ k v [] L'

theorem keeps_spec {φs : List HP} {k : HP} {L : HList} (h : keeps φs k L) : (∀ φ ∈ φs, φ L) ∧ k L := by
  induction φs with
  | nil => exact ⟨by simp, h⟩
  | cons φ r ih =>
    obtain ⟨h1, h2⟩ := h
    obtain ⟨h3, h4⟩ := ih h2
    refine ⟨fun ψ hψ => ?_, h4⟩
    rcases List.mem_cons.1 hψ with rfl | hψ
    · exact h1
    · exact h3 ψ hψ
theorem nilc_spec {p : Option Addr} {k : Addr → HP} {L : HList} (h : nilc p k L) : ∃ a, p = some a ∧ k a L := by
  cases p with
  | none => exact h.elim
  | some a => exact ⟨a, rfl, h⟩
theorem ifB_spec {t : Bool} {A B : HP} {L : HList} (h : ifB t A B L) : (t = true ∧ A L) ∨ (t = false ∧ B L) := by
  cases t
  · exact .inr ⟨rfl, h⟩
  · exact .inl ⟨rfl, h⟩
theorem kindEq_spec {k k' : IntKind} (h : kindEq k k' = true) : k = k' := by cases k <;> cases k' <;> first | rfl | cases h
theorem sizeOfT_spec {P : Program} {t : TypeId} {n : Nat} (h : sizeOfT P t = some n) (w : World) : (sizeOf t).run P w = .ok n w := by
  unfold sizeOfT at h
  split at h
  · rename_i i hi; obtain rfl := Option.some.inj h; simp [sizeOf, typeInfo, hi]
  · cases h
theorem zeroOf_spec {P : Program} {t : TypeId} {z : Value} (h : zeroOf P t = some z) (w : World) : (zeroValue t).run P w = .ok z w := by
  unfold zeroOf at h
  split at h
  · rename_i i hi; simp [zeroValue, typeInfo, hi, h]
  · cases h
theorem run_und {P : Program} {t : TypeId} {d : TypeDesc} (h : P.underlying t = some d) (w : World) : (underlying t).run P w = .ok d w := run_underlying h w
def aggD : TypeDesc → Bool | .struct _ | .array _ _ => true | _ => false
theorem run_agg {P : Program} {t : TypeId} {d : TypeDesc} (h : P.underlying t = some d) (w : World) : (isAgg t).run P w = .ok (aggD d) w := by
  simp only [isAgg, Sem.run_bind, run_underlying h, Result.andThen_ok]
  cases d <;> rfl

/-! the cells -/
theorem Hold.cell {E w : World} {L : HList} (h : Hold E w L) {b : Nat} {c : Array Value} {T : TypeId} {fz : Nat × Nat} (hm : (b, Obj.cells c T fz) ∈ L) (i : Nat) : w.cell? ⟨b, i, none⟩ = c[i]? := by
  have := h.blk _ hm
  simp only at this
  simp [World.cell?, this]
theorem addr_add {ad : Addr} (hs : ad.spot = none) (i : Nat) : ad.add i = ⟨ad.block, ad.off + i, none⟩ := by
  obtain ⟨b, o, s⟩ := ad
  simp only at hs
  subst hs
  unfold Addr.add
  split
  · rename_i h; subst h; rfl
  · rfl
theorem LdAt.cells {E w : World} {L F : HList} (h : Hold E w (L ++ F)) {ad : Addr} {vs : List Value} (hl : LdAt ad vs L) : ∀ i v, vs[i]? = some v → w.cell? (ad.add i) = some v := by
  obtain ⟨c, T, fz, hm, hs, hc⟩ := hl
  intro i v hv
  rw [addr_add hs, h.cell (List.mem_append_left _ hm)]
  exact hc i v hv

theorem lfVals_length : ∀ (ls : List Lf) (x : LfVs ls), (lfVals ls x).length = ls.length
  | [], _ => rfl
  | l :: r, x => by simp [lfVals, lfVals_length r]

theorem shOf_spec {P : Program} {t : TypeId} {sh : Sh} (h : shOf P t = some sh) : ∃ d n, P.underlying t = some d ∧ sizeOfT P t = some n ∧
    ((∃ ls, sh = .agg ls ∧ ls.length = n ∧ aggD d = true) ∨
     (∃ l, sh = .lf l ∧ n = 1 ∧ aggD d = false)) := by
  unfold shOf at h
  split at h
  · rename_i ls n d hl hn hd
    refine ⟨d, n, hd, hn, ?_⟩
    split at h
    · rename_i fs hb
      obtain rfl := Option.some.inj h
      exact .inl ⟨ls, rfl, Nat.eq_of_beq_eq_true hb, rfl⟩
    · rename_i k e hb
      obtain rfl := Option.some.inj h
      exact .inl ⟨ls, rfl, Nat.eq_of_beq_eq_true hb, rfl⟩
    · rename_i hb hns hna
      split at h
      · rename_i l
        obtain rfl := Option.some.inj h
        refine .inr ⟨l, rfl, (Nat.eq_of_beq_eq_true hb).symm, ?_⟩
        unfold aggD
        split
        · exact (hns _ rfl).elim
        · exact (hna _ _ rfl).elim
        · rfl
      · cases h
    · cases h
  · cases h

theorem loadVar_spec {P : Program} {t : TypeId} {sh : Sh} (h : shOf P t = some sh) (x : ShV sh) {ad : Addr} {w : World} (hc : ∀ i v, (sh.vals x)[i]? = some v → w.cell? (ad.add i) = some v) :
    (loadVar t ad).run P w = .ok (sh.val x) w := by
  obtain ⟨d, n, hd, hn, h⟩ := shOf_spec h
  unfold loadVar
  rcases h with ⟨ls, rfl, rfl, hb⟩ | ⟨l, rfl, rfl, hb⟩
  · simp only [Sem.run_bind, run_agg hd, Result.andThen_ok, hb, if_true, sizeOfT_spec hn]
    have := run_loadCells_list (P := P) w ad (lfVals ls x) hc
    rw [lfVals_length] at this
    simp [this, Sh.val]
  · simp only [Sem.run_bind, run_agg hd, Result.andThen_ok, hb, Bool.false_eq_true, if_false]
    have := hc 0 (l.val x) rfl
    simp only [Addr.add, if_true] at this
    simp [this, Sh.val]

theorem plainV_one {v : Value} (h : plainV v = true) : v.oneCell' = true := by cases v <;> first | rfl | cases h

theorem setCell_heap {w : World} {b i : Nat} {v : Value} {c : Array Value} {T : TypeId} {fz : Nat × Nat} (h : w.heap[b]? = some (.cells c T fz)) :
    w.setCell ⟨b, i, none⟩ v = { w with heap := w.heap.setIfInBounds b (.cells (c.setIfInBounds i v) T fz) } := by
  unfold World.setCell
  congr 1
  apply Array.ext_getElem?
  intro j
  rw [Array.getElem?_modify]
  obtain ⟨hb, hg⟩ := Array.getElem?_eq_some_iff.1 h
  by_cases hj : b = j
  · subst hj
    simp [hb, hg]
  · rw [if_neg hj, Array.getElem?_setIfInBounds_ne hj]

theorem run_storeCells {P : Program} {E : World} {F : HList} {A B : HList} {b : Nat} {T : TypeId} {fz : Nat × Nat} : ∀ (vs : List Value) (c : Array Value) (o i : Nat) (w : World),
    vs.all plainV = true → Hold E w ((A ++ (b, Obj.cells c T fz) :: B) ++ F) → o + i + vs.length ≤ c.size → (∀ j, j < vs.length → ¬ (fz.1 ≤ o + i + j ∧ o + i + j < fz.2)) →
    ∃ w', (storeCells ⟨b, o, none⟩ vs i).run P w = .ok () w' ∧ Hold E w' ((A ++ (b, Obj.cells (wr c (o + i) vs) T fz) :: B) ++ F)
  | [], c, o, i, w, _, hw, _, _ => ⟨w, rfl, hw⟩
  | v :: r, c, o, i, w, hp, hw, hsz, hfz => by
    simp only [List.all_cons, Bool.and_eq_true] at hp
    simp only [List.length_cons] at hsz
    have hm : (b, Obj.cells c T fz) ∈ (A ++ (b, Obj.cells c T fz) :: B) ++ F := by simp
    have hblk := hw.blk _ hm
    simp only at hblk
    have hcell : w.cell? ⟨b, o + i, none⟩ = some c[o + i] := by
      rw [hw.cell hm]
      simp [show o + i < c.size by omega]
    have hfr : w.frozen? ⟨b, o + i, none⟩ = false := by
      have := hfz 0 (by simp)
      obtain ⟨lo, hi⟩ := fz
      simp only [World.frozen?, hblk]
      simp only [Nat.add_zero] at this
      rw [Bool.and_eq_false_iff, decide_eq_false_iff_not, decide_eq_false_iff_not]
      omega
    have hw1 : Hold E (w.setCell ⟨b, o + i, none⟩ v) ((A ++ (b, Obj.cells (c.setIfInBounds (o + i) v) T fz) :: B) ++ F) := by
      rw [setCell_heap hblk]
      have hw0 : Hold E w (A ++ (b, Obj.cells c T fz) :: (B ++ F)) := by simpa using hw
      have := hw0.put (.cells (c.setIfInBounds (o + i) v) T fz)
      simpa using this
    obtain ⟨w', hr, hw'⟩ := run_storeCells r (c.setIfInBounds (o + i) v) o (i + 1) _ hp.2 hw1 (by simp; omega) (fun j hj => by
      have := hfz (j + 1) (by simp; omega)
      rw [show o + (i + 1) + j = o + i + (j + 1) by omega]; exact this)
    refine ⟨w', ?_, ?_⟩
    · simp only [storeCells, Sem.run_bind]
      rw [addr_add rfl, run_store P w _ v _ (plainV_one hp.1), hcell]
      simp only [hfr, Bool.false_eq_true, if_false, Result.andThen_ok]
      exact hr
    · simp only [wr]
      rw [show o + i + 1 = o + (i + 1) by omega]
      exact hw'
end Go.HL
