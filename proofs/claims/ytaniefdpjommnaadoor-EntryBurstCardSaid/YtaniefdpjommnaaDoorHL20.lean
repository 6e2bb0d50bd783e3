/-
  It is proved what looking up, putting in, taking out and counting do to a map that is known piece by piece. There are no further conditions than those that each theorem names.
-/
import Derived.Test.YtaniefdpjommnaaDoorHL19
set_option linter.unusedVariables false
set_option linter.unusedSimpArgs false
set_option linter.unusedSectionVars false
namespace Go.HL
section
variable {P : Program} {L : HList} {κ : Type} [DecidableEq κ]

/-- Keys of one kind. -/
structure KeyT (P : Program) (kt : TypeId) (kv : κ → Value) : Prop where
  und : ∃ d, P.underlying kt = some d ∧ ∀ a b, Instr.sameNow d (kv a) (kv b) = some (decide (a = b))
  chk : ∀ e k w, (Instr.checkKey e 10000 kt (kv k)).run P w = .ok () w
  bits : ∀ a, Instr.sameBits 10000 (kv a) (kv a) = true
theorem run_getO {w : World} {r : Nat} {es : Array MapEntry} {c : Nat} (h : w.heap[r]? = some (.map es c)) : (getObj r).run P w = .ok (.map es c) w := by simp [getObj, Sem.run, h]
theorem run_setO {w : World} {r : Nat} {es : Array MapEntry} {c : Nat} (o : Obj) (h : w.heap[r]? = some (.map es c)) : (setObj r o).run P w = .ok () { w with heap := w.heap.setIfInBounds r o } := by simp [setObj, Sem.run, h]
theorem ba_beq (a b : ByteArray) : (a == b) = decide (a = b) := by
  cases a with | mk x => cases b with | mk y =>
    show (x == y) = decide (ByteArray.mk x = ByteArray.mk y)
    by_cases h : x = y
    · subst h; simp
    · rw [beq_eq_false_iff_ne.2 h, decide_eq_false (by simpa using h)]
theorem chk_plain {kt : TypeId} {v : Value} (hu : P.underlying kt = some .string ∨ ∃ k, P.underlying kt = some (.int k)) (e : Bool) (n : Nat) (w : World) : (Instr.checkKey e (n + 1) kt v).run P w = .ok () w := by
  rcases hu with hu | ⟨k, hu⟩ <;> simp only [Instr.checkKey, Sem.run_bind, run_und hu, Result.andThen_ok, Sem.run_pure]
theorem keyStr {kt : TypeId} (hu : P.underlying kt = some .string) : KeyT P kt Value.string := by
  refine ⟨⟨_, hu, fun a b => ?_⟩, fun e k w => chk_plain (.inl hu) e 9999 w, fun a => ?_⟩
  · show some (a == b) = _
    rw [ba_beq]
  · show (a == a) = true
    rw [ba_beq]; simp
theorem keyInt {kt : TypeId} {ik : IntKind} (hu : P.underlying kt = some (.int ik)) : KeyT P kt (Value.int ik) := by
  refine ⟨⟨_, hu, fun a b => ?_⟩, fun e k w => chk_plain (.inr ⟨_, hu⟩) e 9999 w, fun a => ?_⟩
  · show (if ik = ik then some (a == b) else none) = _
    rw [if_pos rfl]
    congr 1
  · show (ik == ik && a == a) = true
    simp

/-- What a map's entries are. -/
def Mp (kv : κ → Value) (es : Array MapEntry) (m : List (κ × Value)) : Prop := es.toList.map (fun e => (e.key, e.val)) = m.map fun p => (kv p.1, p.2)
theorem Mp.size {kv : κ → Value} {es : Array MapEntry} {m : List (κ × Value)} (h : Mp kv es m) : es.size = m.length := by
  have := congrArg List.length h
  simpa using this
def mget (m : List (κ × Value)) (k : κ) : Option Value := (m.find? fun p => decide (k = p.1)).map Prod.snd
def midx (m : List (κ × Value)) (k : κ) (i : Nat) : Option (Nat × Value) :=
  match m with
  | [] => none
  | p :: r => if k = p.1 then some (i, p.2) else midx r k (i + 1)
theorem midx_get : ∀ (m : List (κ × Value)) (k : κ) (i : Nat), (midx m k i).map Prod.snd = mget m k
  | [], k, i => rfl
  | p :: r, k, i => by
    unfold midx mget
    by_cases h : k = p.1
    · rw [if_pos h, List.find?_cons_of_pos (by simpa using h)]; rfl
    · rw [if_neg h, List.find?_cons_of_neg (by simpa using h)]; exact midx_get r k (i + 1)
theorem findNow_midx {kv : κ → Value} {d : TypeDesc} (hs : ∀ a b, Instr.sameNow d (kv a) (kv b) = some (decide (a = b))) (k : κ) : ∀ (es : List MapEntry) (m : List (κ × Value)) (i : Nat), es.map (fun e => (e.key, e.val)) = m.map (fun p => (kv p.1, p.2)) →
    Instr.findNow d (kv k) es i = some (midx m k i)
  | [], [], i, _ => rfl
  | [], p :: r, i, h => by simp at h
  | e :: es, [], i, h => by simp at h
  | e :: es, p :: r, i, h => by
    simp only [List.map_cons, List.cons.injEq, Prod.mk.injEq] at h
    unfold Instr.findNow midx
    rw [h.1.1, hs, h.1.2]
    by_cases hk : k = p.1
    · simp [hk]
    · simp only [hk, decide_false, if_false]
      exact findNow_midx hs k es r (i + 1) h.2
theorem run_findKey {kt : TypeId} {kv : κ → Value} (K : KeyT P kt kv) {es : Array MapEntry} {m : List (κ × Value)} (h : Mp kv es m) (k : κ) (w : World) : (Instr.findKey kt (kv k) es.toList).run P w = .ok (midx m k 0) w := by
  obtain ⟨d, hu, hs⟩ := K.und
  simp only [Instr.findKey, Sem.run_bind, run_und hu, Result.andThen_ok, findNow_midx hs k es.toList m 0 h, Sem.run_pure]

/-- A map's type. -/
structure MapT (P : Program) (t kt et : TypeId) (kv : κ → Value) (z : Value) : Prop where
  und : P.underlying t = some (.map kt et)
  key : KeyT P kt kv
  zero : ∃ i, P.info? et = some i ∧ i.zero = some z
theorem mapT_of {t kt et : TypeId} {kv : κ → Value} {z : Value} (hu : P.underlying t = some (.map kt et)) (hk : KeyT P kt kv) (hz : ((P.info? et).bind fun i => i.zero) = some z) : MapT P t kt et kv z := by
  refine ⟨hu, hk, ?_⟩
  cases hi : P.info? et with
  | none => rw [hi] at hz; cases hz
  | some i => exact ⟨i, rfl, by rw [hi] at hz; exact hz⟩
theorem lookup_rd {t kt et : TypeId} {kv : κ → Value} {z : Value} (hT : MapT P t kt et kv z) {r : Nat} {es : Array MapEntry} {clock : Nat} {m : List (κ × Value)} (hm : (r, Obj.map es clock) ∈ L) (h : Mp kv es m) (k : κ) :
    RdV P (Instr.lookup t (.map (some r)) (kv k) false) ((mget m k).getD z) L := by
  intro E F w hw
  have hb : w.heap[r]? = some (Obj.map es clock) := hw.blk _ (List.mem_append_left F hm)
  obtain ⟨i, hi, hz⟩ := hT.zero
  rw [← midx_get m k 0]
  simp only [Instr.lookup, Sem.run_bind, run_und hT.und, Result.andThen_ok, run_getO hb, Sem.run_pure, hT.key.chk, run_findKey hT.key h]
  cases midx m k 0 with
  | none => simp [zeroValue, typeInfo, hi, hz]
  | some p => simp
theorem lookup2_rd {t kt et : TypeId} {kv : κ → Value} {z : Value} (hT : MapT P t kt et kv z) {r : Nat} {es : Array MapEntry} {clock : Nat} {m : List (κ × Value)} (hm : (r, Obj.map es clock) ∈ L) (h : Mp kv es m) (k : κ) :
    RdV P (Instr.lookup t (.map (some r)) (kv k) true) (.tuple #[(mget m k).getD z, .bool (mget m k).isSome]) L := by
  intro E F w hw
  have hb : w.heap[r]? = some (Obj.map es clock) := hw.blk _ (List.mem_append_left F hm)
  obtain ⟨i, hi, hz⟩ := hT.zero
  rw [← midx_get m k 0]
  simp only [Instr.lookup, Sem.run_bind, run_und hT.und, Result.andThen_ok, run_getO hb, Sem.run_pure, hT.key.chk, run_findKey hT.key h]
  cases midx m k 0 with
  | none => simp [zeroValue, typeInfo, hi, hz]
  | some p => simp
theorem mlen_rd {t ty kt et : TypeId} (hu : P.underlying t = some (.map kt et)) {r : Nat} {es : Array MapEntry} {clock : Nat} (hm : (r, Obj.map es clock) ∈ L) : RdV P (Builtin.len_ #[t] ty #[.map (some r)]) (.int .i64 es.size) L := by
  intro E F w hw
  have hb : w.heap[r]? = some (Obj.map es clock) := hw.blk _ (List.mem_append_left F hm)
  simp only [Builtin.len_, List.getElem?_toArray, List.getElem?_cons_zero, Sem.run_bind, run_und hu, Result.andThen_ok, run_getO hb, Sem.run_pure, goInt]

def mput (m : List (κ × Value)) (k : κ) (v : Value) : List (κ × Value) :=
  match m with
  | [] => [(k, v)]
  | p :: r => if k = p.1 then (k, v) :: r else p :: mput r k v
def mdel (m : List (κ × Value)) (k : κ) : List (κ × Value) :=
  match m with
  | [] => []
  | p :: r => if k = p.1 then r else p :: mdel r k
theorem put_entries {kv : κ → Value} (k : κ) (v : Value) : ∀ (es : List MapEntry) (m : List (κ × Value)) (j : Nat), es.map (fun e => (e.key, e.val)) = m.map (fun p => (kv p.1, p.2)) →
    (midx m k j = none → mput m k v = m ++ [(k, v)]) ∧ (∀ i u, midx m k j = some (i, u) → j ≤ i ∧ i - j < es.length ∧ (es[i - j]?).map (·.key) = some (kv k) ∧ (es.modify (i - j) fun e => { e with key := kv k, val := v }).map (fun e => (e.key, e.val)) = (mput m k v).map fun p => (kv p.1, p.2))
  | [], [], j, _ => ⟨fun _ => rfl, fun i u h => by simp [midx] at h⟩
  | [], p :: r, j, h => by simp at h
  | e :: es, [], j, h => by simp at h
  | e :: es, p :: r, j, h => by
    have h0 := h
    simp only [List.map_cons, List.cons.injEq, Prod.mk.injEq] at h
    obtain ⟨i1, i2⟩ := put_entries k v es r (j + 1) h.2
    unfold midx mput
    by_cases hk : k = p.1
    · rw [if_pos hk, if_pos hk]
      refine ⟨fun h => (by cases h), fun i u hi => ?_⟩
      simp only [Option.some.injEq, Prod.mk.injEq] at hi
      obtain ⟨rfl, rfl⟩ := hi
      refine ⟨Nat.le_refl _, by simp, by simp [h.1.1, hk], ?_⟩
      simp [h.2]
    · rw [if_neg hk, if_neg hk]
      refine ⟨fun h => by rw [i1 h]; rfl, fun i u hi => ?_⟩
      obtain ⟨a1, a2, a3, a4⟩ := i2 i u hi
      have e1 : i - j = (i - (j + 1)) + 1 := by omega
      rw [e1]
      refine ⟨by omega, by simp only [List.length_cons]; omega, by simpa using a3, ?_⟩
      simp only [List.modify_succ_cons, List.map_cons, h.1.1, h.1.2, a4]
theorem update_of {t kt et : TypeId} {kv : κ → Value} {z : Value} (hT : MapT P t kt et kv z) {r : Nat} {es : Array MapEntry} {clock : Nat} {m : List (κ × Value)} (A B : HList) (hL : L = A ++ (r, Obj.map es clock) :: B) (h : Mp kv es m) (k : κ) (v : Value) {K : HP}
    (hk : ∀ es' clock', Mp kv es' (mput m k v) → K (A ++ (r, Obj.map es' clock') :: B)) : smU P (Instr.mapUpdate t (.map (some r)) (kv k) v) K L := by
  subst hL
  intro E F w hw
  have hb : w.heap[r]? = some (Obj.map es clock) := hw.blk (r, Obj.map es clock) (by simp)
  have hw0 : Hold E w (A ++ (r, Obj.map es clock) :: (B ++ F)) := by simpa using hw
  obtain ⟨i1, i2⟩ := put_entries (kv := kv) k v es.toList m 0 h
  cases hf : midx m k 0 with
  | none =>
    refine ⟨{ w with heap := w.heap.setIfInBounds r (Obj.map (es.push { key := kv k, val := v, born := clock }) (clock + 1)) }, A ++ (r, Obj.map (es.push { key := kv k, val := v, born := clock }) (clock + 1)) :: B, ?_, ?_, hk _ _ ?_⟩
    · simp only [Instr.mapUpdate, Sem.run_bind, run_und hT.und, Result.andThen_ok, run_getO hb, hT.key.chk, run_findKey hT.key h, hf]
      exact run_setO _ hb
    · simpa using hw0.put (Obj.map (es.push { key := kv k, val := v, born := clock }) (clock + 1))
    · unfold Mp at h ⊢
      rw [i1 hf, Array.toList_push, List.map_append, List.map_append, h]
      rfl
  | some p =>
    obtain ⟨i, u⟩ := p
    obtain ⟨a1, a2, a3, a4⟩ := i2 i u hf
    rw [Nat.sub_zero] at a2 a3 a4
    have hkey : ((es[i]?).map (·.key)).getD (kv k) = kv k := by
      rw [Array.getElem?_toList] at a3
      rw [a3]; rfl
    refine ⟨{ w with heap := w.heap.setIfInBounds r (Obj.map (es.modify i fun e => { e with key := kv k, val := v }) clock) }, A ++ (r, Obj.map (es.modify i fun e => { e with key := kv k, val := v }) clock) :: B, ?_, ?_, hk _ _ ?_⟩
    · simp only [Instr.mapUpdate, Sem.run_bind, run_und hT.und, Result.andThen_ok, run_getO hb, hT.key.chk, run_findKey hT.key h, hf, hkey, Instr.keyThatStays, hT.key.bits, if_true, Sem.run_pure]
      exact run_setO _ hb
    · simpa using hw0.put (Obj.map (es.modify i fun e => { e with key := kv k, val := v }) clock)
    · unfold Mp
      rw [Array.toList_modify]
      exact a4
theorem del_entries {kv : κ → Value} (k : κ) : ∀ (es : List MapEntry) (m : List (κ × Value)) (j : Nat), es.map (fun e => (e.key, e.val)) = m.map (fun p => (kv p.1, p.2)) →
    (midx m k j = none → mdel m k = m) ∧ (∀ i u, midx m k j = some (i, u) → j ≤ i ∧ (es.eraseIdx (i - j)).map (fun e => (e.key, e.val)) = (mdel m k).map fun p => (kv p.1, p.2))
  | [], [], j, _ => ⟨fun _ => rfl, fun i u h => by simp [midx] at h⟩
  | [], p :: r, j, h => by simp at h
  | e :: es, [], j, h => by simp at h
  | e :: es, p :: r, j, h => by
    simp only [List.map_cons, List.cons.injEq, Prod.mk.injEq] at h
    obtain ⟨i1, i2⟩ := del_entries k es r (j + 1) h.2
    unfold midx mdel
    by_cases hk : k = p.1
    · rw [if_pos hk, if_pos hk]
      refine ⟨fun h => (by cases h), fun i u hi => ?_⟩
      simp only [Option.some.injEq, Prod.mk.injEq] at hi
      obtain ⟨rfl, rfl⟩ := hi
      exact ⟨Nat.le_refl _, by simpa using h.2⟩
    · rw [if_neg hk, if_neg hk]
      refine ⟨fun h => by rw [i1 h], fun i u hi => ?_⟩
      obtain ⟨a1, a4⟩ := i2 i u hi
      have e1 : i - j = (i - (j + 1)) + 1 := by omega
      rw [e1]
      refine ⟨by omega, ?_⟩
      simp only [List.eraseIdx_cons_succ, List.map_cons, h.1.1, h.1.2, a4]
theorem delete_of {t t2 ty kt et : TypeId} {kv : κ → Value} {z : Value} (hT : MapT P t kt et kv z) {r : Nat} {es : Array MapEntry} {clock : Nat} {m : List (κ × Value)} (A B : HList) (hL : L = A ++ (r, Obj.map es clock) :: B) (h : Mp kv es m) (k : κ) {K : RsV [] → HP}
    (hk : ∀ es' clock', Mp kv es' (mdel m k) → K () (A ++ (r, Obj.map es' clock') :: B)) : smW P (Builtin.delete_ #[t, t2] ty #[.map (some r), kv k]) [] K L := by
  subst hL
  intro E F w hw
  have hb : w.heap[r]? = some (Obj.map es clock) := hw.blk (r, Obj.map es clock) (by simp)
  have hw0 : Hold E w (A ++ (r, Obj.map es clock) :: (B ++ F)) := by simpa using hw
  obtain ⟨i1, i2⟩ := del_entries (kv := kv) k es.toList m 0 h
  have key : ∀ (o : Obj), (match midx m k 0 with | some (i, _) => setObj r (.map (es.eraseIdxIfInBounds i) clock) | none => setObj r (.map es clock)).run P w = .ok () { w with heap := w.heap.setIfInBounds r o } →
      (Builtin.delete_ #[t, t2] ty #[.map (some r), kv k]).run P w = .ok (.tuple #[]) { w with heap := w.heap.setIfInBounds r o } := by
    intro o ho
    simp only [Builtin.delete_, List.getElem?_toArray, List.getElem?_cons_zero, List.getElem?_cons_succ, Sem.run_bind, run_und hT.und, Result.andThen_ok, run_getO hb, hT.key.chk, run_findKey hT.key h]
    cases hf : midx m k 0 with
    | none =>
      rw [hf] at ho
      simp only [Sem.run_bind]
      rw [ho]
      rfl
    | some p =>
      rw [hf] at ho
      simp only [Sem.run_bind]
      rw [ho]
      rfl
  cases hf : midx m k 0 with
  | none =>
    refine ⟨_, _, A ++ (r, Obj.map es clock) :: B, key (.map es clock) (by rw [hf]; exact run_setO _ hb), ?_, (), rfl, hk _ _ ?_⟩
    · simpa using hw0.put (Obj.map es clock)
    · rw [i1 hf]; exact h
  | some p =>
    obtain ⟨i, u⟩ := p
    obtain ⟨a1, a4⟩ := i2 i u hf
    rw [Nat.sub_zero] at a4
    refine ⟨_, _, A ++ (r, Obj.map (es.eraseIdxIfInBounds i) clock) :: B, key (.map (es.eraseIdxIfInBounds i) clock) (by rw [hf]; exact run_setO _ hb), ?_, (), rfl, hk _ _ ?_⟩
    · simpa using hw0.put (Obj.map (es.eraseIdxIfInBounds i) clock)
    · unfold Mp
      have e : (es.eraseIdxIfInBounds i).toList = es.toList.eraseIdx i := by
        unfold Array.eraseIdxIfInBounds
        split
        · simp
        · rename_i hge
          rw [List.eraseIdx_of_length_le (by simpa using hge)]
      rw [e]; exact a4
/-- A call, with what it leaves in an order of one's own. -/
theorem cl_pm {f : FuncId} {args : Array Value} {rs : List Sh} {k : RsV rs → HP} {K : Value → HP} {A R : HList} (h : CallF P f args A K) (hp : L.Perm (A ++ R))
    (hk : ∀ v A', K v A' → ∃ L'', (A' ++ R).Perm L'' ∧ ∃ r, v = rsVal rs r ∧ k r L'') : cl P f args rs k L := by
  intro E F w hw
  refine Calls.mono (CallF.frame (R := R) h E F w (hw.perm (hp.append_right F))) ?_
  rintro e w' ⟨v, L', he, hw', A', rfl, hK⟩
  obtain ⟨L'', hp2, hk2⟩ := hk v A' hK
  exact ⟨v, L'', he, hw'.perm (hp2.append_right F), hk2⟩
theorem cl_rpm {f : FuncId} {args : Array Value} {rs : List Sh} {k : RsV rs → HP} {A R : HList} {v : Value} (h : Reads P f args A v) (hp : L.Perm (A ++ R)) (r : RsV rs) (hr : v = rsVal rs r) (hk : k r L) : cl P f args rs k L :=
  cl_pm h hp (by rintro _ _ ⟨rfl, rfl⟩; exact ⟨L, hp.symm, r, hr, hk⟩)
end
/-! ### pieces of a slice's elements -/
theorem flat_drop {α : Type} {enc : α → List Value} {sz : Nat} (hsz : ∀ x, (enc x).length = sz) : ∀ (l : List α) (i : Nat), (l.flatMap enc).drop (i * sz) = (l.drop i).flatMap enc
  | [], i => by simp
  | e :: r, 0 => by simp
  | e :: r, i + 1 => by
    rw [List.flatMap_cons, Nat.succ_mul, Nat.add_comm, ← List.drop_drop, List.drop_left' (hsz e), flat_drop hsz r i]
    rfl
theorem flat_take {α : Type} {enc : α → List Value} {sz : Nat} (hsz : ∀ x, (enc x).length = sz) : ∀ (l : List α) (i : Nat), (l.flatMap enc).take (i * sz) = (l.take i).flatMap enc
  | [], i => by simp
  | e :: r, 0 => by simp
  | e :: r, i + 1 => by
    have h1 : (enc e).take ((i + 1) * sz) = enc e := List.take_of_length_le (by rw [hsz, Nat.succ_mul]; omega)
    have h2 : (i + 1) * sz - (enc e).length = i * sz := by rw [hsz, Nat.succ_mul]; omega
    rw [List.flatMap_cons, List.take_append, h1, h2, flat_take hsz r i]
    rfl
theorem flat_slc {α : Type} {enc : α → List Value} {sz : Nat} (hsz : ∀ x, (enc x).length = sz) (l : List α) (i j : Nat) : ((l.flatMap enc).drop (i * sz)).take ((j - i) * sz) = ((l.drop i).take (j - i)).flatMap enc := by
  rw [flat_drop hsz, flat_take hsz]
/-! ### texts -/
theorem ba_loop (b : ByteArray) : ∀ (n i : Nat) (r : List UInt8), b.size - i = n → ByteArray.toList.loop b i r = r.reverse ++ b.data.toList.drop i := by
  intro n
  induction n with
  | zero =>
    intro i r h
    unfold ByteArray.toList.loop
    rw [if_neg (by omega), List.drop_of_length_le (by rw [Array.length_toList]; show b.size ≤ i; omega)]
    simp
  | succ n ih =>
    intro i r h
    unfold ByteArray.toList.loop
    have hi : i < b.size := by omega
    rw [if_pos hi, ih (i + 1) _ (by omega)]
    have hi2 : i < b.data.toList.length := by rw [Array.length_toList]; exact hi
    rw [List.drop_eq_getElem_cons hi2]
    simp [ByteArray.get!, hi]
theorem ba_toList (b : ByteArray) : b.toList = b.data.toList := by
  unfold ByteArray.toList
  rw [ba_loop b _ 0 [] rfl]; simp
theorem str_beq (a b : ByteArray) : (a.toList == b.toList) = decide (a = b) := by
  rw [ba_toList, ba_toList]
  by_cases h : a = b
  · subst h; simp
  · rw [decide_eq_false h, beq_eq_false_iff_ne]
    intro he
    apply h
    cases a with | mk x => cases b with | mk y =>
      have : x = y := Array.toList_inj.1 he
      rw [this]
end Go.HL
