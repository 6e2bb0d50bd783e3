/-
  It is proved what the functions that the law StoreNil reaches compute, part 1. There are no further conditions than those that each theorem names.
-/
import Derived.Test.YtbaoieipijmakaaGreatDoorMStoreNil0
import Derived.Laws.StructEq
import Derived.ChangeKeysEq
import Derived.Test.YtbaoieipijmakaaGreatDoorProg
import Derived.KernelRfl
set_option linter.unusedVariables false
set_option linter.unusedSimpArgs false
set_option linter.unusedSectionVars false
namespace Go.HL
section
variable {P : Program} {L : A4} {κ : Type} [DecidableEq κ]
theorem Ad5 {w : World} {r : Nat} {es : Array MapEntry} {c : Nat} (h : w.heap[r]? = some (.map es c)) : (getObj r).run P w = .ok (.map es c) w := by simp [getObj, Sem.run, h]
theorem Ao5 {w : World} {r : Nat} {es : Array MapEntry} {c : Nat} (o : Obj) (h : w.heap[r]? = some (.map es c)) : (setObj r o).run P w = .ok () { w with heap := w.heap.setIfInBounds r o } := by simp [setObj, Sem.run, h]
theorem Ct6 (a b : ByteArray) : (a == b) = decide (a = b) := by
 cases a with | mk x => cases b with | mk y =>
  show (x == y) = decide (ByteArray.mk x = ByteArray.mk y)
  by_cases h : x = y
  ·subst h; simp
  ·rw [beq_eq_false_iff_ne.2 h, decide_eq_false (by simpa using h)]
theorem Bd9 {kt : TypeId} {v : Value} (hu : P.underlying kt = some .string \/ ∃ k, P.underlying kt = some (.int k)) (e : Bool) (n : Nat) (w : World) : (Instr.checkKey e (n + 1) kt v).run P w = .ok () w := by
 rcases hu with hu | ⟨k, hu⟩ <;> simp only [Instr.checkKey, Sem.run_bind, D5 hu, Result.andThen_ok, Sem.run_pure]
def Mp (kv : κ -> Value) (es : Array MapEntry) (m : List (κ × Value)) : Prop := es.toList.map (fun e => (e.key, e.val)) = m.map fun p => (kv p.1, p.2)
theorem Mp.size {kv : κ -> Value} {es : Array MapEntry} {m : List (κ × Value)} (h : Mp kv es m) : es.size = m.length := by
 have := congrArg List.length h
 simpa using this
def As8 (m : List (κ × Value)) (k : κ) : Option Value := (m.find? fun p => decide (k = p.1)).map Prod.snd
def Ak8 (m : List (κ × Value)) (k : κ) (i : Nat) : Option (Nat × Value) :=
 match m with
 | [] => none
 | p :: r => if k = p.1 then some (i, p.2) else Ak8 r k (i + 1)
theorem A25 : ∀ (m : List (κ × Value)) (k : κ) (i : Nat), (Ak8 m k i).map Prod.snd = As8 m k
 | [], k, i => rfl
 | p :: r, k, i => by
  unfold Ak8 As8
  by_cases h : k = p.1
  ·rw [if_pos h, List.find?_cons_of_pos (by simpa using h)]; rfl
  ·rw [if_neg h, List.find?_cons_of_neg (by simpa using h)]; exact A25 r k (i + 1)
theorem Am5 {kv : κ -> Value} {d : TypeDesc} (hs : ∀ a b, Instr.sameNow d (kv a) (kv b) = some (decide (a = b))) (k : κ) : ∀ (es : List MapEntry) (m : List (κ × Value)) (i : Nat), es.map (fun e => (e.key, e.val)) = m.map (fun p => (kv p.1, p.2)) ->
  Instr.findNow d (kv k) es i = some (Ak8 m k i)
 | [], [], i, _ => rfl
 | [], p :: r, i, h => by simp at h
 | e :: es, [], i, h => by simp at h
 | e :: es, p :: r, i, h => by
  simp only [List.map_cons, List.cons.injEq, Prod.mk.injEq] at h
  unfold Instr.findNow Ak8
  rw [h.1.1, hs, h.1.2]
  by_cases hk : k = p.1
  ·simp [hk]
  ·simp only [hk, decide_false, if_false]
   exact Am5 hs k es r (i + 1) h.2
structure KeyT (P : Program) (kt : TypeId) (kv : κ -> Value) : Prop where
 fnd : ∀ (k : κ) (es : List MapEntry) (m : List (κ × Value)) (w : World), es.map (fun e => (e.key, e.val)) = m.map (fun p => (kv p.1, p.2)) -> (Instr.findKey kt (kv k) es).run P w = .ok (Ak8 m k 0) w
 chk : ∀ e k w, (Instr.checkKey e 10000 kt (kv k)).run P w = .ok () w
 bits : ∀ a, Instr.sameBits 10000 (kv a) (kv a) = true
theorem B80 {kt : TypeId} {kv : κ -> Value} {d : TypeDesc} (hu : P.underlying kt = some d) (hs : ∀ a b, Instr.sameNow d (kv a) (kv b) = some (decide (a = b))) (k : κ) (es : List MapEntry) (m : List (κ × Value)) (w : World) (h : es.map (fun e => (e.key, e.val)) = m.map (fun p => (kv p.1, p.2))) : (Instr.findKey kt (kv k) es).run P w = .ok (Ak8 m k 0) w := by
 simp only [Instr.findKey, Sem.run_bind, D5 hu, Result.andThen_ok, Am5 hs k es m 0 h, Sem.run_pure]
theorem Cr7 {kt : TypeId} (hu : P.underlying kt = some .string) : KeyT P kt Value.string := by
 refine ⟨B80 hu fun a b => ?_, fun e k w => Bd9 (.inl hu) e 9999 w, fun a => ?_⟩
 ·show some (a == b) = _
  rw [Ct6]
 ·show (a == a) = true
  rw [Ct6]; simp
theorem keyInt {kt : TypeId} {ik : IntKind} (hu : P.underlying kt = some (.int ik)) : KeyT P kt (Value.int ik) := by
 refine ⟨B80 hu fun a b => ?_, fun e k w => Bd9 (.inr ⟨_, hu⟩) e 9999 w, fun a => ?_⟩
 ·show (if ik = ik then some (a == b) else none) = _
  rw [if_pos rfl]
  congr 1
 ·show (ik == ik && a == a) = true
  simp
theorem U7 {kt : TypeId} {kv : κ -> Value} (K : KeyT P kt kv) {es : Array MapEntry} {m : List (κ × Value)} (h : Mp kv es m) (k : κ) (w : World) : (Instr.findKey kt (kv k) es.toList).run P w = .ok (Ak8 m k 0) w := K.fnd k es.toList m w h
structure Cc2 (P : Program) (t kt et : TypeId) (kv : κ -> Value) (z : Value) : Prop where
 und : P.underlying t = some (.map kt et)
 key : KeyT P kt kv
 zero : ∃ i, P.info? et = some i /\ i.zero = some z
theorem A30 {t kt et : TypeId} {kv : κ -> Value} {z : Value} (hu : P.underlying t = some (.map kt et)) (hk : KeyT P kt kv) (hz : ((P.info? et).bind fun i => i.zero) = some z) : Cc2 P t kt et kv z := by
 refine ⟨hu, hk, ?_⟩
 cases hi : P.info? et with
 | none => rw [hi] at hz; cases hz
 | some i => exact ⟨i, rfl, by rw [hi] at hz; exact hz⟩
theorem Ai2 {t kt et : TypeId} {kv : κ -> Value} {z : Value} (hT : Cc2 P t kt et kv z) {r : Nat} {es : Array MapEntry} {clock : Nat} {m : List (κ × Value)} (hm : (r, Obj.map es clock) ∈ L) (h : Mp kv es m) (k : κ) :
  RdV P (Instr.lookup t (.map (some r)) (kv k) false) ((As8 m k).getD z) L := by
 intro E F w hw
 have hb : w.heap[r]? = some (Obj.map es clock) := hw.blk _ (List.mem_append_left F hm)
 obtain ⟨i, hi, hz⟩ := hT.zero
 rw [<- A25 m k 0]
 simp only [Instr.lookup, Sem.run_bind, D5 hT.und, Result.andThen_ok, Ad5 hb, Sem.run_pure, hT.key.chk, U7 hT.key h]
 cases Ak8 m k 0 with
 | none => simp [zeroValue, typeInfo, hi, hz]
 | some p => simp
theorem Bu5 {t kt et : TypeId} {kv : κ -> Value} {z : Value} (hT : Cc2 P t kt et kv z) {r : Nat} {es : Array MapEntry} {clock : Nat} {m : List (κ × Value)} (hm : (r, Obj.map es clock) ∈ L) (h : Mp kv es m) (k : κ) :
  RdV P (Instr.lookup t (.map (some r)) (kv k) true) (.tuple #[(As8 m k).getD z, .bool (As8 m k).isSome]) L := by
 intro E F w hw
 have hb : w.heap[r]? = some (Obj.map es clock) := hw.blk _ (List.mem_append_left F hm)
 obtain ⟨i, hi, hz⟩ := hT.zero
 rw [<- A25 m k 0]
 simp only [Instr.lookup, Sem.run_bind, D5 hT.und, Result.andThen_ok, Ad5 hb, Sem.run_pure, hT.key.chk, U7 hT.key h]
 cases Ak8 m k 0 with
 | none => simp [zeroValue, typeInfo, hi, hz]
 | some p => simp
theorem Cz9 {t ty kt et : TypeId} (hu : P.underlying t = some (.map kt et)) {r : Nat} {es : Array MapEntry} {clock : Nat} (hm : (r, Obj.map es clock) ∈ L) : RdV P (Builtin.len_ #[t] ty #[.map (some r)]) (.int .i64 es.size) L := by
 intro E F w hw
 have hb : w.heap[r]? = some (Obj.map es clock) := hw.blk _ (List.mem_append_left F hm)
 simp only [Builtin.len_, List.getElem?_toArray, List.getElem?_cons_zero, Sem.run_bind, D5 hu, Result.andThen_ok, Ad5 hb, Sem.run_pure, goInt]
def Aw3 (m : List (κ × Value)) (k : κ) (v : Value) : List (κ × Value) :=
 match m with
 | [] => [(k, v)]
 | p :: r => if k = p.1 then (k, v) :: r else p :: Aw3 r k v
def A62 (m : List (κ × Value)) (k : κ) : List (κ × Value) :=
 match m with
 | [] => []
 | p :: r => if k = p.1 then r else p :: A62 r k
theorem Ar9 {kv : κ -> Value} (k : κ) (v : Value) : ∀ (es : List MapEntry) (m : List (κ × Value)) (j : Nat), es.map (fun e => (e.key, e.val)) = m.map (fun p => (kv p.1, p.2)) ->
  (Ak8 m k j = none -> Aw3 m k v = m ++ [(k, v)]) /\ (∀ i u, Ak8 m k j = some (i, u) -> j <= i /\ i - j < es.length /\ (es[i - j]?).map (·.key) = some (kv k) /\ (es.modify (i - j) fun e => { e with key := kv k, val := v }).map (fun e => (e.key, e.val)) = (Aw3 m k v).map fun p => (kv p.1, p.2))
 | [], [], j, _ => ⟨fun _ => rfl, fun i u h => by simp [Ak8] at h⟩
 | [], p :: r, j, h => by simp at h
 | e :: es, [], j, h => by simp at h
 | e :: es, p :: r, j, h => by
  have h0 := h
  simp only [List.map_cons, List.cons.injEq, Prod.mk.injEq] at h
  obtain ⟨i1, i2⟩ := Ar9 k v es r (j + 1) h.2
  unfold Ak8 Aw3
  by_cases hk : k = p.1
  ·rw [if_pos hk, if_pos hk]
   refine ⟨fun h => (by cases h), fun i u hi => ?_⟩
   simp only [Option.some.injEq, Prod.mk.injEq] at hi
   obtain ⟨rfl, rfl⟩ := hi
   refine ⟨Nat.le_refl _, by simp, by simp [h.1.1, hk], ?_⟩
   simp [h.2]
  ·rw [if_neg hk, if_neg hk]
   refine ⟨fun h => by rw [i1 h]; rfl, fun i u hi => ?_⟩
   obtain ⟨a1, a2, a3, a4⟩ := i2 i u hi
   have e1 : i - j = (i - (j + 1)) + 1 := by omega
   rw [e1]
   refine ⟨by omega, by simp only [List.length_cons]; omega, by simpa using a3, ?_⟩
   simp only [List.modify_succ_cons, List.map_cons, h.1.1, h.1.2, a4]
theorem A67 {t kt et : TypeId} {kv : κ -> Value} {z : Value} (hT : Cc2 P t kt et kv z) {r : Nat} {es : Array MapEntry} {clock : Nat} {m : List (κ × Value)} (A B : A4) (hL : L = A ++ (r, Obj.map es clock) :: B) (h : Mp kv es m) (k : κ) (v : Value) {K : HP}
  (hk : ∀ es' clock', Mp kv es' (Aw3 m k v) -> K (A ++ (r, Obj.map es' clock') :: B)) : smU P (Instr.mapUpdate t (.map (some r)) (kv k) v) K L := by
 subst hL
 intro E F w hw
 have hb : w.heap[r]? = some (Obj.map es clock) := hw.blk (r, Obj.map es clock) (by simp)
 have hw0 : P3 E w (A ++ (r, Obj.map es clock) :: (B ++ F)) := by simpa using hw
 obtain ⟨i1, i2⟩ := Ar9 (kv := kv) k v es.toList m 0 h
 cases hf : Ak8 m k 0 with
 | none =>
  refine ⟨{ w with heap := w.heap.setIfInBounds r (Obj.map (es.push { key := kv k, val := v, born := clock }) (clock + 1)) }, A ++ (r, Obj.map (es.push { key := kv k, val := v, born := clock }) (clock + 1)) :: B, ?_, ?_, hk _ _ ?_⟩
  ·simp only [Instr.mapUpdate, Sem.run_bind, D5 hT.und, Result.andThen_ok, Ad5 hb, hT.key.chk, U7 hT.key h, hf]
   exact Ao5 _ hb
  ·simpa using hw0.put (Obj.map (es.push { key := kv k, val := v, born := clock }) (clock + 1))
  ·unfold Mp at h ⊢
   rw [i1 hf, Array.toList_push, List.map_append, List.map_append, h]
   rfl
 | some p =>
  obtain ⟨i, u⟩ := p
  obtain ⟨a1, a2, a3, a4⟩ := i2 i u hf
  rw [Nat.sub_zero] at a2 a3 a4
  have hkey : ((es[i]?).map (·.key)).getD (kv k) = kv k := by
   rw [Array.getElem?_toList] at a3
   rw [a3]; rfl
  refine ⟨{ w with heap := w.heap.setIfInBounds r (Obj.map (es.modify i fun e => { e with key := kv k, val := v }) clock) }, A ++ (r, Obj.map (es.modify i fun e => { e with key := kv k, val := v }) clock) :: B, ?_, ?_, hk _ _ ?_⟩
  ·simp only [Instr.mapUpdate, Sem.run_bind, D5 hT.und, Result.andThen_ok, Ad5 hb, hT.key.chk, U7 hT.key h, hf, hkey, Instr.keyThatStays, hT.key.bits, if_true, Sem.run_pure]
   exact Ao5 _ hb
  ·simpa using hw0.put (Obj.map (es.modify i fun e => { e with key := kv k, val := v }) clock)
  ·unfold Mp
   rw [Array.toList_modify]
   exact a4
theorem Au9 {kv : κ -> Value} (k : κ) : ∀ (es : List MapEntry) (m : List (κ × Value)) (j : Nat), es.map (fun e => (e.key, e.val)) = m.map (fun p => (kv p.1, p.2)) ->
  (Ak8 m k j = none -> A62 m k = m) /\ (∀ i u, Ak8 m k j = some (i, u) -> j <= i /\ (es.eraseIdx (i - j)).map (fun e => (e.key, e.val)) = (A62 m k).map fun p => (kv p.1, p.2))
 | [], [], j, _ => ⟨fun _ => rfl, fun i u h => by simp [Ak8] at h⟩
 | [], p :: r, j, h => by simp at h
 | e :: es, [], j, h => by simp at h
 | e :: es, p :: r, j, h => by
  simp only [List.map_cons, List.cons.injEq, Prod.mk.injEq] at h
  obtain ⟨i1, i2⟩ := Au9 k es r (j + 1) h.2
  unfold Ak8 A62
  by_cases hk : k = p.1
  ·rw [if_pos hk, if_pos hk]
   refine ⟨fun h => (by cases h), fun i u hi => ?_⟩
   simp only [Option.some.injEq, Prod.mk.injEq] at hi
   obtain ⟨rfl, rfl⟩ := hi
   exact ⟨Nat.le_refl _, by simpa using h.2⟩
  ·rw [if_neg hk, if_neg hk]
   refine ⟨fun h => by rw [i1 h], fun i u hi => ?_⟩
   obtain ⟨a1, a4⟩ := i2 i u hi
   have e1 : i - j = (i - (j + 1)) + 1 := by omega
   rw [e1]
   refine ⟨by omega, ?_⟩
   simp only [List.eraseIdx_cons_succ, List.map_cons, h.1.1, h.1.2, a4]
theorem Bd6 {t t2 ty kt et : TypeId} {kv : κ -> Value} {z : Value} (hT : Cc2 P t kt et kv z) {r : Nat} {es : Array MapEntry} {clock : Nat} {m : List (κ × Value)} (A B : A4) (hL : L = A ++ (r, Obj.map es clock) :: B) (h : Mp kv es m) (k : κ) {K : RsV [] -> HP}
  (hk : ∀ es' clock', Mp kv es' (A62 m k) -> K () (A ++ (r, Obj.map es' clock') :: B)) : smW P (Builtin.delete_ #[t, t2] ty #[.map (some r), kv k]) [] K L := by
 subst hL
 intro E F w hw
 have hb : w.heap[r]? = some (Obj.map es clock) := hw.blk (r, Obj.map es clock) (by simp)
 have hw0 : P3 E w (A ++ (r, Obj.map es clock) :: (B ++ F)) := by simpa using hw
 obtain ⟨i1, i2⟩ := Au9 (kv := kv) k es.toList m 0 h
 have key : ∀ (o : Obj), (match Ak8 m k 0 with | some (i, _) => setObj r (.map (es.eraseIdxIfInBounds i) clock) | none => setObj r (.map es clock)).run P w = .ok () { w with heap := w.heap.setIfInBounds r o } ->
   (Builtin.delete_ #[t, t2] ty #[.map (some r), kv k]).run P w = .ok (.tuple #[]) { w with heap := w.heap.setIfInBounds r o } := by
  intro o ho
  simp only [Builtin.delete_, List.getElem?_toArray, List.getElem?_cons_zero, List.getElem?_cons_succ, Sem.run_bind, D5 hT.und, Result.andThen_ok, Ad5 hb, hT.key.chk, U7 hT.key h]
  cases hf : Ak8 m k 0 with
  | none =>
   rw [hf] at ho
   simp only [Sem.run_bind]
   rw [ho]
   rfl
  | some p =>
   rw [hf] at ho
   simp only [Sem.run_bind]
   rw [ho]
   rfl
 cases hf : Ak8 m k 0 with
 | none =>
  refine ⟨_, _, A ++ (r, Obj.map es clock) :: B, key (.map es clock) (by rw [hf]; exact Ao5 _ hb), ?_, (), rfl, hk _ _ ?_⟩
  ·simpa using hw0.put (Obj.map es clock)
  ·rw [i1 hf]; exact h
 | some p =>
  obtain ⟨i, u⟩ := p
  obtain ⟨a1, a4⟩ := i2 i u hf
  rw [Nat.sub_zero] at a4
  refine ⟨_, _, A ++ (r, Obj.map (es.eraseIdxIfInBounds i) clock) :: B, key (.map (es.eraseIdxIfInBounds i) clock) (by rw [hf]; exact Ao5 _ hb), ?_, (), rfl, hk _ _ ?_⟩
  ·simpa using hw0.put (Obj.map (es.eraseIdxIfInBounds i) clock)
  ·unfold Mp
   have e : (es.eraseIdxIfInBounds i).toList = es.toList.eraseIdx i := by
    unfold Array.eraseIdxIfInBounds
    split
    ·simp
    ·rename_i hge
     rw [List.eraseIdx_of_length_le (by simpa using hge)]
   rw [e]; exact a4
theorem G9 {f : FuncId} {args : Array Value} {rs : List Sh} {k : RsV rs -> HP} {K : Value -> HP} {A R : A4} (h : CallF P f args A K) (hp : L.Perm (A ++ R))
  (hk : ∀ v A', K v A' -> ∃ L'', (A' ++ R).Perm L'' /\ ∃ r, v = Ab9 rs r /\ k r L'') : cl P f args rs k L := by
 intro E F w hw
 refine Calls.mono (CallF.frame (R := R) h E F w (hw.perm (hp.append_right F))) ?_
 rintro e w' ⟨v, L', he, hw', A', rfl, hK⟩
 obtain ⟨L'', hp2, hk2⟩ := hk v A' hK
 exact ⟨v, L'', he, hw'.perm (hp2.append_right F), hk2⟩
end
theorem Bc5 {α : Type} {enc : α -> List Value} {sz : Nat} (hsz : ∀ x, (enc x).length = sz) : ∀ (l : List α) (i : Nat), (l.flatMap enc).drop (i * sz) = (l.drop i).flatMap enc
 | [], i => by simp
 | e :: r, 0 => by simp
 | e :: r, i + 1 => by
  rw [List.flatMap_cons, Nat.succ_mul, Nat.add_comm, <- List.drop_drop, List.drop_left' (hsz e), Bc5 hsz r i]
  rfl
theorem Bc4 {α : Type} {enc : α -> List Value} {sz : Nat} (hsz : ∀ x, (enc x).length = sz) : ∀ (l : List α) (i : Nat), (l.flatMap enc).take (i * sz) = (l.take i).flatMap enc
 | [], i => by simp
 | e :: r, 0 => by simp
 | e :: r, i + 1 => by
  have h1 : (enc e).take ((i + 1) * sz) = enc e := List.take_of_length_le (by rw [hsz, Nat.succ_mul]; omega)
  have h2 : (i + 1) * sz - (enc e).length = i * sz := by rw [hsz, Nat.succ_mul]; omega
  rw [List.flatMap_cons, List.take_append, h1, h2, Bc4 hsz r i]
  rfl
theorem Ap1 {α : Type} {enc : α -> List Value} {sz : Nat} (hsz : ∀ x, (enc x).length = sz) (l : List α) (i j : Nat) : ((l.flatMap enc).drop (i * sz)).take ((j - i) * sz) = ((l.drop i).take (j - i)).flatMap enc := by
 rw [Bc5 hsz, Bc4 hsz]
theorem C39 (b : ByteArray) : ∀ (n i : Nat) (r : List UInt8), b.size - i = n -> ByteArray.toList.loop b i r = r.reverse ++ b.data.toList.drop i := by
 intro n
 induction n with
 | zero =>
  intro i r h
  unfold ByteArray.toList.loop
  rw [if_neg (by omega), List.drop_of_length_le (by rw [Array.length_toList]; show b.size <= i; omega)]
  simp
 | succ n ih =>
  intro i r h
  unfold ByteArray.toList.loop
  have hi : i < b.size := by omega
  rw [if_pos hi, ih (i + 1) _ (by omega)]
  have hi2 : i < b.data.toList.length := by rw [Array.length_toList]; exact hi
  rw [List.drop_eq_getElem_cons hi2]
  simp [ByteArray.get!, hi]
theorem Be8 (b : ByteArray) : b.toList = b.data.toList := by
 unfold ByteArray.toList
 rw [C39 b _ 0 [] rfl]; simp
theorem Cv5 (a b : ByteArray) : (a.toList == b.toList) = decide (a = b) := by
 rw [Be8, Be8]
 by_cases h : a = b
 ·subst h; simp
 ·rw [decide_eq_false h, beq_eq_false_iff_ne]
  intro he
  apply h
  cases a with | mk x => cases b with | mk y =>
   have : x = y := Array.toList_inj.1 he
   rw [this]
section
variable {P : Program} {L : A4}
def Bj9 (P : Program) : Nat -> TypeId -> List Value -> List Value -> Option Bool
 | 0, _, _, _ => none
 | d + 1, t, xs, ys =>
  match P.underlying t with
  | some .bool => match xs, ys with | [.bool a], [.bool b] => some (a == b) | _, _ => none
  | some (.int _) => match xs, ys with | [.int k a], [.int k' b] => if k = k' then some (a == b) else none | _, _ => none
  | some .string => match xs, ys with | [.string a], [.string b] => some (a.toList == b.toList) | _, _ => none
  | some (.struct fs) =>
   if P.stoodInHeld t = false then
    fs.toList.foldr (fun f acc => if f.name = "_" then none else acc.bind fun r => (Bj9 P d f.type ((xs.drop f.offset).take (P.cellsOf f.type)) ((ys.drop f.offset).take (P.cellsOf f.type))).map (· && r)) (some true)
   else none
  | _ => none
def Br6 (P : Program) (t : TypeId) (x : Value) (xs : List Value) : Prop :=
 match P.underlying t with
 | some (.struct _) => x = .agg xs.toArray
 | _ => xs = [x]
theorem Cd7 {xs : List Value} {off s : Nat} {v : Value} (h : (xs.drop off).take s = [v]) : xs.toArray[off]? = some v := by
 have h0 : ((xs.drop off).take s)[0]? = some v := by rw [h]; rfl
 rw [List.getElem?_take] at h0
 split at h0
 ·rw [List.getElem?_drop] at h0
  simpa using h0
 ·cases h0
theorem Aq6 {t : TypeId} {n : Nat} {xs ys : List Value} {off : Nat} {r : Bool} (h : Bj9 P n t ((xs.drop off).take (P.cellsOf t)) ((ys.drop off).take (P.cellsOf t)) = some r) (w : World) :
  ∃ a b, (part t xs.toArray off).run P w = .ok a w /\ (part t ys.toArray off).run P w = .ok b w /\ Br6 P t a ((xs.drop off).take (P.cellsOf t)) /\ Br6 P t b ((ys.drop off).take (P.cellsOf t)) := by
 cases n with
 | zero => simp [Bj9] at h
 | succ n =>
  unfold Bj9 at h
  have plainP : ∀ {d : TypeDesc}, P.underlying t = some d -> (match d with | .struct _ | .array _ _ => true | _ => false) = false -> ∀ {a b : Value}, (xs.drop off).take (P.cellsOf t) = [a] -> (ys.drop off).take (P.cellsOf t) = [b] ->
    ∃ a b, (part t xs.toArray off).run P w = .ok a w /\ (part t ys.toArray off).run P w = .ok b w /\ Br6 P t a ((xs.drop off).take (P.cellsOf t)) /\ Br6 P t b ((ys.drop off).take (P.cellsOf t)) := by
   intro d hu hd a b ha hb
   have hr : ∀ {v : Value} {l : List Value}, l = [v] -> Br6 P t v l := by
    intro v l hl
    unfold Br6
    rw [hu]
    cases d <;> simp_all
   have hp : ∀ {zs : List Value} {v : Value}, (zs.drop off).take (P.cellsOf t) = [v] -> (part t zs.toArray off).run P w = .ok v w := by
    intro zs v hv
    have hg : (isAgg t).run P w = .ok false w := by
     unfold isAgg
     rw [Sem.run_bind, run_underlying hu]
     cases d <;> simp_all
    unfold part
    rw [Sem.run_bind, hg]
    simp only [Result.andThen_ok, Bool.false_eq_true, if_false, Cd7 hv, Sem.run_pure]
   exact ⟨a, b, hp ha, hp hb, hr ha, hr hb⟩
  cases hu : P.underlying t with
  | none => rw [hu] at h; simp at h
  | some d =>
   rw [hu] at h
   cases d with
   | bool =>
    simp only at h
    split at h
    ·exact plainP hu rfl (by assumption) (by assumption)
    ·cases h
   | int k =>
    simp only at h
    split at h
    ·exact plainP hu rfl (by assumption) (by assumption)
    ·cases h
   | string =>
    simp only at h
    split at h
    ·exact plainP hu rfl (by assumption) (by assumption)
    ·cases h
   | struct fs =>
    obtain ⟨i, hi⟩ : ∃ i, P.info? t = some i := by
     cases hi : P.info? t with
     | none => unfold Program.underlying at hu; simp [hi] at hu
     | some i => exact ⟨i, rfl⟩
    have hp : ∀ zs : List Value, (part t zs.toArray off).run P w = .ok (.agg ((zs.drop off).take (P.cellsOf t)).toArray) w := by
     intro zs
     have hg : (isAgg t).run P w = .ok true w := by
      unfold isAgg
      rw [Sem.run_bind, run_underlying hu]
      simp
     unfold part
     rw [Sem.run_bind, hg]
     simp only [Result.andThen_ok, if_true, Sem.run_bind, run_sizeOf w hi, Sem.run_pure]
     rw [List.extract_toArray, List.extract_eq_take_drop, Nat.add_sub_cancel_left]
    refine ⟨_, _, hp xs, hp ys, ?_, ?_⟩ <;> (unfold Br6; rw [hu])
   | _ => simp at h
theorem Ao6 (d : Nat) : ∀ (n : Nat) (t : TypeId) (xs ys : List Value) (r : Bool), Bj9 P n t xs ys = some r -> ∀ (x y : Value), Br6 P t x xs -> Br6 P t y ys -> ∀ w, (Op.equalIn (d + n) t x y).run P w = .ok r w
 | 0, _, _, _, _, h, _, _, _, _, _ => by simp [Bj9] at h
 | n + 1, t, xs, ys, r, h, x, y, hx, hy, w => by
  unfold Bj9 at h
  unfold Br6 at hx hy
  cases hu : P.underlying t with
  | none => rw [hu] at h; simp at h
  | some q =>
   rw [hu] at h hx hy
   cases q with
   | bool =>
    simp only at h hx hy
    subst hx hy
    split at h
    ·rename_i a b e1 e2
     cases e1; cases e2
     cases h
     exact run_equalIn_bool' w (d + n) t a b hu
    ·cases h
   | int k =>
    simp only at h hx hy
    subst hx hy
    split at h
    ·rename_i k a k' b e1 e2
     cases e1; cases e2
     split at h
     ·rename_i hk
      subst hk
      cases h
      exact run_equalIn_int w (d + n) t k _ a b hu
     ·cases h
    ·cases h
   | string =>
    simp only at h hx hy
    subst hx hy
    split at h
    ·rename_i a b e1 e2
     cases e1; cases e2
     cases h
     exact run_equalIn_string w (d + n) t a b hu
    ·cases h
   | struct fs =>
    simp only at h hx hy
    subst hx hy
    split at h
    ·rename_i hst
     have hf : P.underlying t = some (.struct (P.fieldsOf t)) := by unfold Program.fieldsOf; rw [hu]
     have hfs : P.fieldsOf t = fs := by unfold Program.fieldsOf; rw [hu]
     show (Op.equalIn ((d + n) + 1) t (.agg xs.toArray) (.agg ys.toArray)).run P w = .ok r w
     rw [run_equalIn_agg w (d + n) t _ _ hf hst, hfs]
     revert h
     generalize fs.toList = l
     clear hu hf hfs hst
     induction l generalizing r with
     | nil => intro h; cases h; simp [Op.eqFields]
     | cons f l ih =>
      intro h
      rw [List.foldr_cons] at h
      split at h
      ·cases h
      ·rename_i hn
       rw [Option.bind_eq_some_iff] at h
       obtain ⟨r', h1, h2⟩ := h
       rw [Option.map_eq_some_iff] at h2
       obtain ⟨q, h3, rfl⟩ := h2
       obtain ⟨a, b, p1, p2, ra, rb⟩ := Aq6 h3 w
       have h4 := Ao6 d n f.type _ _ q h3 a b ra rb w
       have h5 := ih r' h1
       unfold Op.eqFields
       simp only [hn, ne_eq, not_false_eq_true, if_true, Sem.run_bind, p1, p2, h4, Result.andThen_ok]
       cases q
       ·simp
       ·simpa using h5
    ·cases h
   | _ => simp at h
def Aw4 (P : Program) (t : TypeId) : Bool := match P.underlying t with | some (.struct _) => true | _ => false
theorem V2 {t : TypeId} (h : Aw4 P t = true) (xs : Array Value) : Br6 P t (.agg xs) xs.toList := by
 unfold Aw4 at h
 unfold Br6
 split at h
 ·simp
 ·cases h
theorem Cs7 {t : TypeId} {xs ys : Array Value} {r : Bool} (hu : Aw4 P t = true) (h : Bj9 P 100 t xs.toList ys.toList = some r) {k : ShV (.lf .bool) -> HP} (hk : k r L) :
  smP P (binOp .eql t (.agg xs) (.agg ys)) (.lf .bool) k L := by
 refine ⟨r, fun w => ?_, hk⟩
 rw [run_eql_struct, Ao6 9900 100 t _ _ r h (.agg xs) (.agg ys) (V2 hu xs) (V2 hu ys) w]
 rfl
theorem Cr2 {t : TypeId} {xs ys : Array Value} {r : Bool} (hu : Aw4 P t = true) (h : Bj9 P 100 t xs.toList ys.toList = some r) {k : ShV (.lf .bool) -> HP} (hk : k (!r) L) :
  smP P (binOp .neq t (.agg xs) (.agg ys)) (.lf .bool) k L := by
 refine ⟨!r, fun w => ?_, hk⟩
 rw [run_neq_struct, Ao6 9900 100 t _ _ r h (.agg xs) (.agg ys) (V2 hu xs) (V2 hu ys) w]
 rfl
theorem V7 {f : FuncId} {args captured : Array Value} {rs : List Sh} {k : RsV rs -> HP} (ho : Aa3 P f = true) (h : cl P f (args ++ captured) rs k L) : clv P (.func f) args captured rs k L := ⟨f, rfl, ho, h⟩
theorem A84 (em : Bool) (d : Nat) : ∀ (n : Nat) (t : TypeId) (xs : List Value) (r : Bool), Bj9 P n t xs xs = some r -> ∀ (x : Value), Br6 P t x xs -> ∀ w, (Instr.checkKey em (d + n) t x).run P w = .ok () w
 | 0, _, _, _, h, _, _, _ => by simp [Bj9] at h
 | n + 1, t, xs, r, h, x, hx, w => by
  unfold Bj9 at h
  unfold Br6 at hx
  show (Instr.checkKey em ((d + n) + 1) t x).run P w = .ok () w
  cases hu : P.underlying t with
  | none => rw [hu] at h; simp at h
  | some q =>
   rw [hu] at h hx
   cases q with
   | bool => simp only [Instr.checkKey, Sem.run_bind, D5 hu, Result.andThen_ok, Sem.run_pure]
   | int k => simp only [Instr.checkKey, Sem.run_bind, D5 hu, Result.andThen_ok, Sem.run_pure]
   | string => simp only [Instr.checkKey, Sem.run_bind, D5 hu, Result.andThen_ok, Sem.run_pure]
   | struct fs =>
    simp only at h hx
    subst hx
    split at h
    ·rw [Instr.checkKey]
     simp only [Sem.run_bind, D5 hu, Result.andThen_ok]
     rw [<- Array.forIn_toList]
     revert h
     generalize fs.toList = l
     clear hu
     induction l generalizing r with
     | nil => intro h; simp
     | cons f l ih =>
      intro h
      rw [List.foldr_cons] at h
      split at h
      ·cases h
      ·rename_i hn
       rw [Option.bind_eq_some_iff] at h
       obtain ⟨r', h1, h2⟩ := h
       rw [Option.map_eq_some_iff] at h2
       obtain ⟨q, h3, rfl⟩ := h2
       obtain ⟨a, b, p1, p2, ra, rb⟩ := Aq6 h3 w
       have h4 := A84 em d n f.type _ q h3 a ra w
       have h5 := ih r' h1
       simp only [List.forIn_cons, hn, ne_eq, not_false_eq_true, if_true, Sem.run_bind, p1, h4, Result.andThen_ok, Sem.run_pure]
       exact h5
    ·cases h
   | _ => simp at h
variable {κ : Type} [DecidableEq κ]
theorem Aq7 {kt : TypeId} {kv : κ -> Value} (hq : ∀ a b w, (Op.equal kt (kv a) (kv b)).run P w = .ok (decide (a = b)) w) (k : κ) : ∀ (es : List MapEntry) (m : List (κ × Value)) (i : Nat) (w : World), es.map (fun e => (e.key, e.val)) = m.map (fun p => (kv p.1, p.2)) -> (Instr.findAsking kt (kv k) es i).run P w = .ok (Ak8 m k i) w
 | [], [], i, w, _ => by simp [Instr.findAsking, Ak8]
 | [], p :: r, i, w, h => by simp at h
 | e :: es, [], i, w, h => by simp at h
 | e :: es, p :: r, i, w, h => by
  simp only [List.map_cons, List.cons.injEq, Prod.mk.injEq] at h
  unfold Instr.findAsking Ak8
  rw [Sem.run_bind, h.1.1, hq, h.1.2]
  by_cases hk : k = p.1
  ·simp [hk]
  ·simp only [Result.andThen_ok, hk, decide_false, if_false, Bool.false_eq_true]
   exact Aq7 hq k es r (i + 1) w h.2
theorem B54 {kt : TypeId} {kv : κ -> Value} (enc : κ -> List Value) (hkv : ∀ a, kv a = .agg (enc a).toArray) (hu : Aw4 P kt = true) (he : ∀ a b, Bj9 P 100 kt (enc a) (enc b) = some (decide (a = b)))
  (hb : ∀ a, Instr.sameBits 10000 (kv a) (kv a) = true) : KeyT P kt kv := by
 refine ⟨fun k es m w h => ?_, fun e k w => ?_, hb⟩
 ·have hf : Instr.findKey kt (kv k) es = (do match Instr.findNow (<- underlying kt) (kv k) es 0 with | some r => pure r | none => Instr.findAsking kt (kv k) es) := rfl
  obtain ⟨fs, hs⟩ : ∃ fs, P.underlying kt = some (.struct fs) := by
   unfold Aw4 at hu
   split at hu
   ·exact ⟨_, by assumption⟩
   ·cases hu
  rw [hf, Sem.run_bind, D5 hs]
  simp only [Result.andThen_ok]
  have hask : (Instr.findAsking kt (kv k) es).run P w = .ok (Ak8 m k 0) w := Aq7 (fun a b w => by
   rw [hkv a, hkv b]
   exact Ao6 9900 100 kt _ _ _ (he a b) _ _ (V2 hu (enc a).toArray) (V2 hu (enc b).toArray) w) k es m 0 w h
  cases es with
  | nil =>
   cases m with
   | nil => simp [Instr.findNow, Ak8]
   | cons p r => simp at h
  | cons e es =>
   have hn : Instr.findNow (.struct fs) (kv k) (e :: es) 0 = none := by
    unfold Instr.findNow
    have : Instr.sameNow (.struct fs) (kv k) e.key = none := by
     unfold Instr.sameNow
     rw [hkv k]
    rw [this]
   rw [hn]
   exact hask
 ·rw [hkv k]
  exact A84 e 9900 100 kt _ _ (he k k) _ (V2 hu (enc k).toArray) w
end
section
variable {P : Program} {L : A4}
theorem Ap2 {t t2 ty e T : TypeId} {sz : Nat} (hu : P.underlying t = some (.slice e)) (hs : O1 P e = some sz) {v : SlV} {vs : List Value} {seg : A4} (X Y : A4) (own : Own v sz T vs seg) (hL : L = X ++ seg ++ Y)
  {d : SlV} {l : Nat} {a : Addr} (ha : v.a = some a) (hd : d.a = some (Addr.add a (l * sz))) (hdl : l + d.len <= v.len) {u : SlV} {ws : List Value} (src : Sl L u sz ws) (hpl : ws.all Q4 = true) {k : RsV [.lf (.int .i64)] -> HP}
  (hk : ∀ seg', Own v sz T (Aw0 vs (l * sz) (ws.take (min u.len d.len * sz))) seg' -> k (((min u.len d.len : Nat) : Int), ()) (X ++ seg' ++ Y)) :
  smW P (Builtin.copy_ #[t, t2] ty #[.slice d.a d.len d.cap, .slice u.a u.len u.cap]) [.lf (.int .i64)] k L := by
 subst hL
 rcases own.row with ⟨ha', _, _⟩ | ⟨b, off, c, fz, ha', rfl, hsz, hfz, hc⟩
 ·rw [ha] at ha'; cases ha'
 ·rw [ha] at ha'
  obtain rfl := Option.some.inj ha'
  have hlen := own.len
  have hcap := own.cap
  have h1 := Nat.mul_le_mul_right sz (show l + d.len <= v.cap by omega)
  have h2 := Nat.mul_le_mul_right sz hdl
  rw [Nat.add_mul] at h1 h2
  have hle : min u.len d.len * sz <= d.len * sz := Nat.mul_le_mul_right _ (Nat.min_le_right _ _)
  have hlt : (ws.take (min u.len d.len * sz)).length <= min u.len d.len * sz := List.length_take_le _ _
  have hp : l * sz + (ws.take (min u.len d.len * sz)).length <= vs.length := by omega
  have hL2 : X ++ [(b, Obj.cells c T fz)] ++ Y = X ++ (b, Obj.cells c T fz) :: Y := by simp
  rw [hL2] at src ⊢
  refine Ca0 (off := off + l * sz) hu hs (by rw [hd]; exact congrArg some (N2 (ad := ⟨b, off, none⟩) rfl (l * sz))) src hpl (by omega) hfz ?_
  have := hk [(b, Obj.cells (wr c (off + l * sz) (ws.take (min u.len d.len * sz))) T fz)] ⟨by rw [A15 _ _ _ hp]; exact hlen, hcap, .inr ⟨b, off, _, fz, ha, rfl, by rw [M2]; exact hsz, by rw [M2]; exact hfz, fun i x hx => ?_⟩⟩
  ·simpa using this
  ·rw [Ah6 _ _ _ hp] at hx
   rw [Aa6 _ _ _ _ (by omega)]
   split at hx
   ·rw [if_pos (by omega), show off + i - (off + l * sz) = i - l * sz by omega]; exact hx
   ·rw [if_neg (by omega)]; exact hc i x hx
theorem A52 (l : List UInt8) (p : Nat) (ws : List UInt8) : Aw0 (bvs l) p (bvs ws) = bvs (l.take p ++ ws ++ l.drop (p + ws.length)) := by
 simp [Aw0, bvs, List.map_append, List.map_take, List.map_drop]
theorem Bq6 (l : List UInt8) (n : Nat) : (bvs l).take n = bvs (l.take n) := by simp [bvs, List.map_take]
theorem A64 (n : Nat) : Ab1 [.int .u8 0] n = bvs (List.replicate n 0) := by
 induction n with
 | zero => rfl
 | succ n ih => rw [List.replicate_succ]; simp only [Ab1] at ih ⊢; rw [List.replicate_succ, List.flatten_cons, ih]; rfl
end
@[reducible] def _root_.Go.Value.i (n : Int) : Value := .int .i64 n
@[reducible] def _root_.Go.Value.sv (v : SlV) : Value := .slice v.a v.len v.cap
@[reducible] def lI : Sh := .lf (.int .i64)
def Hn : D1 := ⟨[], [], []⟩
set_option maxRecDepth 100000
end Go.HL
namespace Go.Proofs.YtbaoieipijmakaaGreatDoor
open Go.HL
noncomputable abbrev PP : Program := Tryz.prog
theorem B5 : Av3 PP := by unfold Av3; kernel_rfl
theorem B6 : PP.follows .mixedOrders = true := by kernel_rfl
def h6 : D1 := ⟨[], [(3, [])], [(8, [0, 1, 3, 2, 4, 5, 6, 7, 8, 9, 10, 11, 12, 13, 14, 15, 16, 17, 18, 19, 20, 21, 22, 23, 24, 25, 26, 27, 28, 29, 30, 33, 34, 38, 41, 44, 47, 50, 31, 35, 32, 36, 37, 39, 40, 42, 43, 45, 46, 48, 49, 51, 52, 53, 54, 55, 56, 57, 58, 59, 60, 61, 62, 63, 64, 65, 66])]⟩
def t6 (x0 : ShV (.agg [.int .i64, .str, .sl, .int .i64, .int .i64])) (K : Value -> HP) : HP :=
 nw (.cells #[.i x0.1, .string x0.2.1, .slice x0.2.2.1.a x0.2.2.1.len x0.2.2.1.cap, .i x0.2.2.2.1, .i x0.2.2.2.2.1] 35) fun n1 =>
 jn (fun y1 : RsV [] =>
 ld (Addr.add ⟨n1, 0, none⟩ 3) (lI) fun v3 =>
 cl PP 24 #[.pointer none, .i v3] [] fun r3 =>
 ld (Addr.add ⟨n1, 0, none⟩ 1) (.lf .str) fun v4 =>
 cl PP 25 #[.pointer none, .string v4] [.lf .sl, lI] fun r4 =>
 ld (Addr.add ⟨n1, 0, none⟩ 1) (.lf .str) fun v5 =>
 cl PP 20 #[.pointer none, .string v5] [.lf .sl, lI] fun r5 =>
 ld (Addr.add ⟨n1, 0, none⟩ 1) (.lf .str) fun v6 =>
 cl PP 26 #[.pointer none, .string v6] [.lf .bool, lI] fun r6 =>
 ld (Addr.add ⟨n1, 0, none⟩ 1) (.lf .str) fun v7 =>
 ld (Addr.add ⟨n1, 0, none⟩ 2) (.lf .sl) fun v8 =>
 cl PP 17 #[.pointer none, .string v7, .sv v8] [lI] fun r7 =>
 ifB ((r7.1 : Int) == 1) (
 ifB ((r4.2.1 : Int) == 1) (
 ifB ((r5.2.1 : Int) == 1) (
 ifB (!r6.1) (
 ifB ((r6.2.1 : Int) == 1) (
 cl PP 27 #[.pointer none] [lI] fun r8 =>
 ifB ((r8.1 : Int) == 1) (
 ld (Addr.add ⟨n1, 0, none⟩ 1) (.lf .str) fun v9 =>
 ld (Addr.add ⟨n1, 0, none⟩ 1) (.lf .str) fun v10 =>
 cl PP 19 #[.pointer none, .string v9] [lI] fun r9 =>
 keep (D0 (Addr.add ⟨n1, 0, none⟩ 1) [.string v10]) <|
 cl PP 28 #[.pointer none, .string v10] [lI] fun r10 =>
 cl PP 29 #[.pointer none] [lI] fun r11 =>
 cl PP 30 #[.pointer none] [lI] fun r12 =>
 cl PP 14 #[.pointer none] [lI] fun r13 =>
 cl PP 23 #[.pointer none] [lI] fun r14 =>
 cl PP 31 #[.pointer none] [.lf .sl] fun r15 =>
 ifB ((IntKind.i64.wrap ((IntKind.i64.wrap ((IntKind.i64.wrap ((IntKind.i64.wrap ((IntKind.i64.wrap ((IntKind.i64.wrap (r9.1 + r10.1)) + r11.1)) + r12.1)) + r13.1)) + r14.1)) + r15.1.len) : Int) == 0) (
 ld (Addr.add ⟨n1, 0, none⟩ 1) (.lf .str) fun v11 =>
 cl PP 13 #[.pointer none, .string v11] [.lf .bool] fun r16 =>
 ifB (!r16.1) (
 cl PP 10 #[] [.lf .bool] fun r17 =>
 K (.bool r17.1)) (
 K (.bool false))) (
 K (.bool false))) (
 K (.bool false))) (
 K (.bool false))) (
 K (.bool false))) (
 K (.bool false))) (
 K (.bool false))) (
 K (.bool false))) fun j1 =>
 ld (Addr.add ⟨n1, 0, none⟩ 1) (.lf .str) fun v1 =>
 ifB (decide ((v1.size : Int) > 700)) (
 cl PP 10 #[] [.lf .bool] fun r1 =>
 K (.bool r1.1)) (
 ld (Addr.add ⟨n1, 0, none⟩ 2) (.lf .sl) fun v2 =>
 ifB (decide ((v2.len : Int) > 700)) (
 cl PP 10 #[] [.lf .bool] fun r2 =>
 K (.bool r2.1)) (
 j1 (())))
theorem e6 (x0 : ShV (.agg [.int .i64, .str, .sl, .int .i64, .int .i64])) (K : Value -> HP) : A8 PP h6 Tryz.f6 [.agg #[.i x0.1, .string x0.2.1, .sv x0.2.2.1, .i x0.2.2.2.1, .i x0.2.2.2.2.1]] K = t6 x0 K := by kernel_rfl
def h10 : D1 := ⟨[], [(6, [])], []⟩
def t10 (K : Value -> HP) : HP :=
 cl PP 37 #[] [.agg [.int .i64, .int .i64, .int .i64, .int .i64, .int .i64, .int .i64, .int .i64, .int .i64, .int .i64, .int .i64, .int .i64]] fun r1 =>
 cl PP 35 #[.agg #[.i r1.1.1, .i r1.1.2.1, .i r1.1.2.2.1, .i r1.1.2.2.2.1]] [.lf .ptr, lI] fun r2 =>
 cl PP 37 #[] [.agg [.int .i64, .int .i64, .int .i64, .int .i64, .int .i64, .int .i64, .int .i64, .int .i64, .int .i64, .int .i64, .int .i64]] fun r3 =>
 cl PP 36 #[.agg #[.i r3.1.1, .i r3.1.2.1, .i r3.1.2.2.1, .i r3.1.2.2.2.1, .i r3.1.2.2.2.2.1, .i r3.1.2.2.2.2.2.1, .i r3.1.2.2.2.2.2.2.1, .i r3.1.2.2.2.2.2.2.2.1, .i r3.1.2.2.2.2.2.2.2.2.1, .i r3.1.2.2.2.2.2.2.2.2.2.1, .i r3.1.2.2.2.2.2.2.2.2.2.2.1], .pointer r2.1, .i 0] [.lf .ptr, lI] fun r4 =>
 cl PP 37 #[] [.agg [.int .i64, .int .i64, .int .i64, .int .i64, .int .i64, .int .i64, .int .i64, .int .i64, .int .i64, .int .i64, .int .i64]] fun r5 =>
 cl PP 36 #[.agg #[.i r5.1.1, .i r5.1.2.1, .i r5.1.2.2.1, .i r5.1.2.2.2.1, .i r5.1.2.2.2.2.1, .i r5.1.2.2.2.2.2.1, .i r5.1.2.2.2.2.2.2.1, .i r5.1.2.2.2.2.2.2.2.1, .i r5.1.2.2.2.2.2.2.2.2.1, .i r5.1.2.2.2.2.2.2.2.2.2.1, .i r5.1.2.2.2.2.2.2.2.2.2.2.1], .pointer none, .i 0] [.lf .ptr, lI] fun r6 =>
 jn (fun y1 : RsV [] =>
 cl PP 24 #[.pointer r4.1, .i 9] [] fun r7 =>
 nw (.cells #[.int .u8 49, .int .u8 50, .int .u8 51, .int .u8 52, .int .u8 53] 5) fun n1 =>
 smW PP (convert 27 27 (.slice (some ⟨n1, 0, none⟩) 5 5)) [.lf .sl] fun v1 =>
 cl PP 17 #[.pointer r4.1, .string (ByteArray.mk #[97]), .sv v1.1] [lI] fun r8 =>
 nw (.cells #[.int .u8 49, .int .u8 50, .int .u8 51, .int .u8 52, .int .u8 53] 5) fun n2 =>
 smW PP (convert 27 27 (.slice (some ⟨n2, 0, none⟩) 5 5)) [.lf .sl] fun v2 =>
 cl PP 17 #[.pointer r4.1, .string (ByteArray.mk #[98]), .sv v2.1] [lI] fun r9 =>
 nw (.cells #[.int .u8 49] 5) fun n3 =>
 smW PP (convert 27 27 (.slice (some ⟨n3, 0, none⟩) 1 1)) [.lf .sl] fun v3 =>
 cl PP 17 #[.pointer r4.1, .string (ByteArray.mk #[99]), .sv v3.1] [lI] fun r10 =>
 cl PP 13 #[.pointer r4.1, .string (ByteArray.mk #[97])] [.lf .bool] fun r11 =>
 cl PP 19 #[.pointer r4.1, .string (ByteArray.mk #[98])] [lI] fun r12 =>
 nw (.cells #[.int .u8 49] 5) fun n4 =>
 smW PP (convert 27 27 (.slice (some ⟨n4, 0, none⟩) 1 1)) [.lf .sl] fun v4 =>
 cl PP 17 #[.pointer r4.1, .string (ByteArray.mk #[97]), .sv v4.1] [lI] fun r13 =>
 cl PP 25 #[.pointer r4.1, .string (ByteArray.mk #[97])] [.lf .sl, lI] fun r14 =>
 cl PP 26 #[.pointer r4.1, .string (ByteArray.mk #[97])] [.lf .bool, lI] fun r15 =>
 cl PP 31 #[.pointer r4.1] [.lf .sl] fun r16 =>
 cl PP 27 #[.pointer r4.1] [lI] fun r17 =>
 cl PP 25 #[.pointer r4.1, .string (ByteArray.mk #[97])] [.lf .sl, lI] fun r18 =>
 ifB ((r8.1 : Int) == 0) (
 ifB ((r9.1 : Int) == 0) (
 ifB ((r10.1 : Int) == 0) (
 ifB r11.1 (
 ifB ((r12.1 : Int) == 1) (
 ifB ((r13.1 : Int) == 0) (
 smR PP (Conv.bytesToString (.sv r14.1)) [.lf .str] fun v5 =>
 ifB (ByteArray.toList v5.1 == ByteArray.toList (ByteArray.mk #[49])) (
 ifB ((r14.2.1 : Int) == 0) (
 ifB r15.1 (
 ifB ((r15.2.1 : Int) == 0) (
 ifB ((r16.1.len : Int) == 1) (
 ifB ((r17.1 : Int) == 0) (
 cl PP 31 #[.pointer r4.1] [.lf .sl] fun r19 =>
 ifB ((r19.1.len : Int) == 0) (
 ifB ((r18.2.1 : Int) == 8) (
 cl PP 27 #[.pointer none] [lI] fun r20 =>
 ifB ((r20.1 : Int) == 1) (
 cl PP 30 #[.pointer r4.1] [lI] fun r21 =>
 ifB ((r21.1 : Int) == 2) (
 cl PP 29 #[.pointer r4.1] [lI] fun r22 =>
 ifB ((r22.1 : Int) == 0) (
 cl PP 14 #[.pointer r4.1] [lI] fun r23 =>
 K (.bool ((r23.1 : Int) == 3808))) (
 K (.bool false))) (
 K (.bool false))) (
 K (.bool false))) (
 K (.bool false))) (
 K (.bool false))) (
 K (.bool false))) (
 K (.bool false))) (
 K (.bool false))) (
 K (.bool false))) (
 K (.bool false))) (
 K (.bool false))) (
 K (.bool false))) (
 K (.bool false))) (
 K (.bool false))) (
 K (.bool false))) (
 K (.bool false))) (
 K (.bool false))) fun j1 =>
 ifB ((r2.2.1 : Int) != 0) (
 K (.bool false)) (
 ifB ((r4.2.1 : Int) != 0) (
 K (.bool false)) (
 ifB ((r6.2.1 : Int) != 1) (
 K (.bool false)) (
 j1 (()))))
theorem e10 (K : Value -> HP) : A8 PP h10 Tryz.f10 [] K = t10 K := by kernel_rfl
def h13 : D1 := ⟨[], [], [(1, [0, 1, 2, 3, 4, 5, 6, 7, 8, 10, 11, 9, 12, 13, 14, 15])]⟩
def t13 (x0 : Option Addr) (x1 : ByteArray) (K : Value -> HP) : HP :=
 cl PP 39 #[.pointer x0, .string x1] [lI] fun r1 =>
 ifB ((r1.1 : Int) == 0) (
 A9 x0 fun a1 =>
 ld (Addr.add (a1.add 19) 1) (.lf .ptr) fun v1 =>
 cl PP 41 #[.pointer x0, .string x1] [.lf (.int .u64)] fun r2 =>
 keep (D0 (Addr.add (a1.add 19) 1) [.pointer v1]) <|
 cl PP 40 #[.pointer v1, .int .u64 r2.1] [.lf .bool] fun r3 =>
 K (.bool r3.1)) (
 K (.bool false))
theorem e13 (x0 : Option Addr) (x1 : ByteArray) (K : Value -> HP) : A8 PP h13 Tryz.f13 [.pointer x0, .string x1] K = t13 x0 x1 K := by kernel_rfl
def t14 (x0 : Option Addr) (K : Value -> HP) : HP :=
 nw (.cells #[.pointer x0] 28) fun n1 =>
 ld ⟨n1, 0, none⟩ (.lf .ptr) fun v1 =>
 cl PP 42 #[.pointer v1, .func (.func 43) #[] #[.pointer (some ⟨n1, 0, none⟩)]] [lI] fun r1 =>
 K (.i r1.1)
theorem e14 (x0 : Option Addr) (K : Value -> HP) : A8 PP Hn Tryz.f14 [.pointer x0] K = t14 x0 K := by kernel_rfl
def t15 (x0 : Option Addr) (x1 : Int) (K : Value -> HP) : HP :=
 cl PP 45 #[.pointer x0, .i x1] [.lf .ptr] fun r1 =>
 ifB (!(Option.isNone r1.1)) (
 A9 r1.1 fun a1 =>
 ld (a1.add 3) (.lf .bool) fun v1 =>
 K (.bool v1)) (
 K (.bool false))
theorem e15 (x0 : Option Addr) (x1 : Int) (K : Value -> HP) : A8 PP Hn Tryz.f15 [.pointer x0, .i x1] K = t15 x0 x1 K := by kernel_rfl
def t16 (x0 : Option Addr) (x1 : Int) (K : Value -> HP) : HP :=
 cl PP 45 #[.pointer x0, .i x1] [.lf .ptr] fun r1 =>
 ifB (!(Option.isNone r1.1)) (
 A9 r1.1 fun a1 =>
 ld (a1.add 2) (lI) fun v1 =>
 K (.i v1)) (
 K (.i 0))
theorem e16 (x0 : Option Addr) (x1 : Int) (K : Value -> HP) : A8 PP Hn Tryz.f16 [.pointer x0, .i x1] K = t16 x0 x1 K := by kernel_rfl
def h17 : D1 := ⟨[], [(13, [])], [(9, [0, 1, 2, 3, 5, 6, 4, 7, 8])]⟩
def t17 (x0 : Option Addr) (x1 : ByteArray) (x2 : SlV) (K : Value -> HP) : HP :=
 cl PP 39 #[.pointer x0, .string x1] [lI] fun r1 =>
 ifB ((r1.1 : Int) != 0) (
 K (.i r1.1)) (
 ifB (decide ((x2.len : Int) > 65536)) (
 K (.i 4)) (
 cl PP 46 #[.pointer x0, .string x1] [.lf .bool] fun r2 =>
 A9 x0 fun a1 =>
 ld a1 (.agg [.int .i64, .int .i64, .int .i64, .int .i64]) fun v1 =>
 cl PP 47 #[.i x1.size, .i x2.len, .agg #[.i v1.1, .i v1.2.1, .i v1.2.2.1, .i v1.2.2.2.1]] [lI] fun r3 =>
 ifB ((r3.1 : Int) == 0) (
 K (.i 14)) (
 jn (fun y1 : RsV [] =>
 A9 x0 fun a3 =>
 ld (a3.add 19) (.lf .ptr) fun v3 =>
 cl PP 50 #[.pointer v3, .string x1, .slice x2.a x2.len x2.cap] [] fun r7 =>
 cl PP 51 #[.pointer x0] [lI] fun r8 =>
 K (.i r8.1)) fun j1 =>
 A9 x0 fun a2 =>
 ld (Addr.add (a2.add 19) 1) (.lf .ptr) fun v2 =>
 cl PP 41 #[.pointer x0, .string x1] [.lf (.int .u64)] fun r4 =>
 keep (D0 (Addr.add (a2.add 19) 1) [.pointer v2]) <|
 cl PP 48 #[.pointer v2, .int .u64 r4.1] [.lf .bool] fun r5 =>
 ifB r5.1 (
 cl PP 49 #[.pointer x0, .string x1, .slice x2.a x2.len x2.cap] [lI] fun r6 =>
 ifB ((r6.1 : Int) == 0) (
 K (.i r6.1)) (
 ifB ((r6.1 : Int) == 11) (
 K (.i r6.1)) (
 j1 (())))) (
 j1 (())))))
theorem e17 (x0 : Option Addr) (x1 : ByteArray) (x2 : SlV) (K : Value -> HP) : A8 PP h17 Tryz.f17 [.pointer x0, .string x1, .slice x2.a x2.len x2.cap] K = t17 x0 x1 x2 K := by kernel_rfl
def t18 (x0 : Option Addr) (K : Value -> HP) : HP :=
 ifB (!(Option.isNone x0)) (
 A9 x0 fun a1 =>
 ld (a1.add 2) (.lf .bool) fun v1 =>
 K (.bool v1)) (
 K (.bool false))
theorem e18 (x0 : Option Addr) (K : Value -> HP) : A8 PP Hn Tryz.f18 [.pointer x0] K = t18 x0 K := by kernel_rfl
def t19 (x0 : Option Addr) (x1 : ByteArray) (K : Value -> HP) : HP :=
 cl PP 39 #[.pointer x0, .string x1] [lI] fun r1 =>
 ifB ((r1.1 : Int) != 0) (
 K (.i 0)) (
 A9 x0 fun a1 =>
 ld (a1.add 19) (.lf .ptr) fun v1 =>
 cl PP 52 #[.pointer v1, .string x1] [.lf .bool] fun r2 =>
 ifB r2.1 (
 K (.i 1)) (
 cl PP 53 #[.pointer x0, .string x1] [.agg [.int .i64, .int .i64, .int .i64], .lf .sl, .lf .bool] fun r3 =>
 nw (.cells #[.i 0, .i 0, .i 0] 102) fun n1 =>
 st ⟨n1, 0, none⟩ [.i r3.1.1, .i r3.1.2.1, .i r3.1.2.2.1] <|
 ifB r3.2.2.1 (
 K (.i 2)) (
 K (.i 0))))
theorem e19 (x0 : Option Addr) (x1 : ByteArray) (K : Value -> HP) : A8 PP Hn Tryz.f19 [.pointer x0, .string x1] K = t19 x0 x1 K := by kernel_rfl
def t20 (x0 : Option Addr) (x1 : ByteArray) (K : Value -> HP) : HP :=
 cl PP 39 #[.pointer x0, .string x1] [lI] fun r1 =>
 ifB ((r1.1 : Int) != 0) (
 K (.tuple #[.slice none 0 0, .i r1.1])) (
 A9 x0 fun a1 =>
 ld (a1.add 19) (.lf .ptr) fun v1 =>
 cl PP 54 #[.pointer v1, .string x1] [.lf .sl, .lf .bool] fun r2 =>
 ifB r2.2.1 (
 K (.tuple #[.sv r2.1, .i 0])) (
 cl PP 53 #[.pointer x0, .string x1] [.agg [.int .i64, .int .i64, .int .i64], .lf .sl, .lf .bool] fun r3 =>
 nw (.cells #[.i 0, .i 0, .i 0] 102) fun n1 =>
 st ⟨n1, 0, none⟩ [.i r3.1.1, .i r3.1.2.1, .i r3.1.2.2.1] <|
 ifB (!r3.2.2.1) (
 K (.tuple #[.slice none 0 0, .i 8])) (
 K (.tuple #[.sv r3.2.1, .i 0]))))
theorem e20 (x0 : Option Addr) (x1 : ByteArray) (K : Value -> HP) : A8 PP Hn Tryz.f20 [.pointer x0, .string x1] K = t20 x0 x1 K := by kernel_rfl
def t23 (x0 : Option Addr) (K : Value -> HP) : HP :=
 nw (.cells #[.pointer x0] 28) fun n1 =>
 ld ⟨n1, 0, none⟩ (.lf .ptr) fun v1 =>
 cl PP 42 #[.pointer v1, .func (.func 55) #[] #[.pointer (some ⟨n1, 0, none⟩)]] [lI] fun r1 =>
 K (.i r1.1)
theorem e23 (x0 : Option Addr) (K : Value -> HP) : A8 PP Hn Tryz.f23 [.pointer x0] K = t23 x0 K := by kernel_rfl
def t24 (x0 : Option Addr) (x1 : Int) (K : Value -> HP) : HP :=
 cl PP 57 #[.pointer x0] [.lf .bool] fun r1 =>
 ifB r1.1 (
 A9 x0 fun a1 =>
 ld (Addr.add (a1.add 11) 2) (.lf .ptr) fun v1 =>
 cl PP 58 #[.pointer v1, .i x1] [] fun r2 =>
 K (.tuple #[])) (
 K (.tuple #[]))
theorem e24 (x0 : Option Addr) (x1 : Int) (K : Value -> HP) : A8 PP Hn Tryz.f24 [.pointer x0, .i x1] K = t24 x0 x1 K := by kernel_rfl
def h25 : D1 := ⟨[], [], [(10, [0, 1, 2, 3, 5, 6, 4, 8, 7, 9])]⟩
def t25 (x0 : Option Addr) (x1 : ByteArray) (K : Value -> HP) : HP :=
 cl PP 39 #[.pointer x0, .string x1] [lI] fun r1 =>
 ifB ((r1.1 : Int) != 0) (
 K (.tuple #[.slice none 0 0, .i r1.1])) (
 A9 x0 fun a1 =>
 ld (a1.add 19) (.lf .ptr) fun v1 =>
 cl PP 59 #[.pointer v1, .string x1] [.lf .sl, .lf .bool] fun r2 =>
 ifB r2.2.1 (
 K (.tuple #[.sv r2.1, .i 0])) (
 cl PP 53 #[.pointer x0, .string x1] [.agg [.int .i64, .int .i64, .int .i64], .lf .sl, .lf .bool] fun r3 =>
 nw (.cells #[.i 0, .i 0, .i 0] 102) fun n1 =>
 st ⟨n1, 0, none⟩ [.i r3.1.1, .i r3.1.2.1, .i r3.1.2.2.1] <|
 ifB (!r3.2.2.1) (
 K (.tuple #[.slice none 0 0, .i 8])) (
 A9 x0 fun a2 =>
 ld (Addr.add (a2.add 19) 2) (.lf .ptr) fun v2 =>
 ld ⟨n1, 0, none⟩ (.agg [.int .i64, .int .i64, .int .i64]) fun v3 =>
 cl PP 41 #[.pointer x0, .string x1] [.lf (.int .u64)] fun r4 =>
 keep (D0 ⟨n1, 0, none⟩ [.i v3.1, .i v3.2.1, .i v3.2.2.1]) <|
 keep (D0 (Addr.add (a2.add 19) 2) [.pointer v2]) <|
 cl PP 60 #[.pointer v2, .int .u64 r4.1, .agg #[.i v3.1, .i v3.2.1, .i v3.2.2.1]] [.lf .bool] fun r5 =>
 K (.tuple #[.sv r3.2.1, .i 0]))))
theorem e25 (x0 : Option Addr) (x1 : ByteArray) (K : Value -> HP) : A8 PP h25 Tryz.f25 [.pointer x0, .string x1] K = t25 x0 x1 K := by kernel_rfl
def t26 (x0 : Option Addr) (x1 : ByteArray) (K : Value -> HP) : HP :=
 cl PP 39 #[.pointer x0, .string x1] [lI] fun r1 =>
 ifB ((r1.1 : Int) != 0) (
 K (.tuple #[.bool false, .i r1.1])) (
 cl PP 46 #[.pointer x0, .string x1] [.lf .bool] fun r2 =>
 K (.tuple #[.bool r2.1, .i 0]))
theorem e26 (x0 : Option Addr) (x1 : ByteArray) (K : Value -> HP) : A8 PP Hn Tryz.f26 [.pointer x0, .string x1] K = t26 x0 x1 K := by kernel_rfl
def h27 : D1 := ⟨[(0, [])], [], [(9, [0, 1, 2, 3, 6, 7, 8, 9, 10, 4, 5, 11, 12, 13, 14, 15])]⟩
def t27 (x0 : Option Addr) (K : Value -> HP) : HP :=
 ifB (Option.isNone x0) (
 K (.i 1)) (
 A9 x0 fun a1 =>
 ld (Addr.add (a1.add 11) 7) (.lf .bool) fun v1 =>
 ifB v1 (
 K (.i 11)) (
 lp [] (()) fun z1 go1 =>
 A9 x0 fun a2 =>
 ld (Addr.add (a2.add 11) 6) (.lf .sl) fun v2 =>
 ifB (decide ((v2.len : Int) > 0)) (
 cl PP 61 #[.pointer x0, .i 1] [lI] fun r1 =>
 ifB ((r1.1 : Int) != 0) (
 K (.i r1.1)) (
 A9 x0 fun a3 =>
 A9 x0 fun a4 =>
 ld (Addr.add (a3.add 11) 6) (.lf .sl) fun v3 =>
 ld (a4.add 2) (lI) fun v4 =>
 cl PP 62 #[.i v4] [lI] fun r2 =>
 keep (D0 (Addr.add (a3.add 11) 6) [.sv v3]) <|
 req ((6 : Int) ≠ 0) <|
 ifB ((Y1 v3.len (IntKind.i64.wrap (Int.tdiv r2.1 6)) : Int) == 0) (
 K (.i 0)) (
 A9 x0 fun a5 =>
 ld (Addr.add (a5.add 11) 6) (.lf .sl) fun v5 =>
 slc ⟨v5.a, v5.len, v5.cap⟩ 0 (Y1 v3.len (IntKind.i64.wrap (Int.tdiv r2.1 6))) v5.cap 3 fun s1 =>
 cl PP 63 #[.sv s1] [.lf .sl, lI] fun r3 =>
 ifB ((r3.2.1 : Int) != 0) (
 K (.i r3.2.1)) (
 A9 x0 fun a6 =>
 nw (.cells #[.slice r3.1.a r3.1.len r3.1.cap] 27) fun n1 =>
 cl PP 64 #[.pointer (some (a6.add 11)), .i 3, .slice (some ⟨n1, 0, none⟩) 1 1] [.agg [.int .i64, .int .i64, .int .i64], lI] fun r4 =>
 nw (.cells #[.i 0, .i 0, .i 0] 102) fun n2 =>
 st ⟨n2, 0, none⟩ [.i r4.1.1, .i r4.1.2.1, .i r4.1.2.2.1] <|
 ifB ((r4.2.1 : Int) != 0) (
 K (.i r4.2.1)) (
 A9 x0 fun a7 =>
 ld (Addr.add (a7.add 11) 6) (.lf .sl) fun v6 =>
 cl PP 65 #[.sv v6, .i 0, .i (Y1 v3.len (IntKind.i64.wrap (Int.tdiv r2.1 6)))] [.lf .sl] fun r5 =>
 A9 x0 fun a8 =>
 st (Addr.add (a8.add 11) 6) [.slice r5.1.a r5.1.len r5.1.cap] <|
 go1 (())))))) (
 K (.i 0))))
theorem e27 (x0 : Option Addr) (K : Value -> HP) : A8 PP h27 Tryz.f27 [.pointer x0] K = t27 x0 K := by kernel_rfl
def h28 : D1 := ⟨[], [], [(3, [0, 1, 2, 3, 5, 6, 4, 7, 8, 9])]⟩
def t28 (x0 : Option Addr) (x1 : ByteArray) (K : Value -> HP) : HP :=
 cl PP 39 #[.pointer x0, .string x1] [lI] fun r1 =>
 ifB ((r1.1 : Int) != 0) (
 K (.i 0)) (
 A9 x0 fun a1 =>
 ld (Addr.add (a1.add 19) 2) (.lf .ptr) fun v1 =>
 cl PP 41 #[.pointer x0, .string x1] [.lf (.int .u64)] fun r2 =>
 keep (D0 (Addr.add (a1.add 19) 2) [.pointer v1]) <|
 cl PP 66 #[.pointer v1, .int .u64 r2.1] [lI] fun r3 =>
 K (.i r3.1))
theorem e28 (x0 : Option Addr) (x1 : ByteArray) (K : Value -> HP) : A8 PP h28 Tryz.f28 [.pointer x0, .string x1] K = t28 x0 x1 K := by kernel_rfl
def t29 (x0 : Option Addr) (K : Value -> HP) : HP :=
 nw (.cells #[.pointer x0] 28) fun n1 =>
 ld ⟨n1, 0, none⟩ (.lf .ptr) fun v1 =>
 cl PP 42 #[.pointer v1, .func (.func 67) #[] #[.pointer (some ⟨n1, 0, none⟩)]] [lI] fun r1 =>
 K (.i r1.1)
theorem e29 (x0 : Option Addr) (K : Value -> HP) : A8 PP Hn Tryz.f29 [.pointer x0] K = t29 x0 K := by kernel_rfl
def t30 (x0 : Option Addr) (K : Value -> HP) : HP :=
 nw (.cells #[.pointer x0] 28) fun n1 =>
 ld ⟨n1, 0, none⟩ (.lf .ptr) fun v1 =>
 cl PP 42 #[.pointer v1, .func (.func 69) #[] #[.pointer (some ⟨n1, 0, none⟩)]] [lI] fun r1 =>
 K (.i r1.1)
theorem e30 (x0 : Option Addr) (K : Value -> HP) : A8 PP Hn Tryz.f30 [.pointer x0] K = t30 x0 K := by kernel_rfl
def t31 (x0 : Option Addr) (K : Value -> HP) : HP :=
 cl PP 57 #[.pointer x0] [.lf .bool] fun r1 =>
 ifB (!r1.1) (
 K (.slice none 0 0)) (
 A9 x0 fun a1 =>
 ld (Addr.add (a1.add 11) 6) (.lf .sl) fun v1 =>
 cl PP 71 #[.sv v1] [.lf .sl] fun r2 =>
 K (.sv r2.1))
theorem e31 (x0 : Option Addr) (K : Value -> HP) : A8 PP Hn Tryz.f31 [.pointer x0] K = t31 x0 K := by kernel_rfl
set_option maxRecDepth 100000
def h35 : D1 := ⟨[(0, [(34, lI)])], [], []⟩
def t35 (x0 : ShV (.agg [.int .i64, .int .i64, .int .i64, .int .i64])) (K : Value -> HP) : HP :=
 nw (.cells #[.i x0.1, .i x0.2.1, .i x0.2.2.1, .i x0.2.2.2.1] 23) fun n1 =>
 ld ⟨n1, 0, none⟩ (lI) fun v1 =>
 cl PP 90 #[.i v1, .i 2, .i 16] [.lf .bool] fun r1 =>
 ifB r1.1 (
 ld (Addr.add ⟨n1, 0, none⟩ 1) (lI) fun v2 =>
 cl PP 90 #[.i v2, .i 4, .i 16] [.lf .bool] fun r2 =>
 ifB (!r2.1) (
 K (.tuple #[.pointer none, .i 30])) (
 ld (Addr.add ⟨n1, 0, none⟩ 2) (lI) fun v3 =>
 cl PP 90 #[.i v3, .i 64, .i 512] [.lf .bool] fun r3 =>
 ifB (!r3.1) (
 K (.tuple #[.pointer none, .i 30])) (
 ld (Addr.add ⟨n1, 0, none⟩ 3) (lI) fun v4 =>
 cl PP 90 #[.i v4, .i 1, .i 1048576] [.lf .bool] fun r4 =>
 ifB (!r4.1) (
 K (.tuple #[.pointer none, .i 30])) (
 ld ⟨n1, 0, none⟩ (.agg [.int .i64, .int .i64, .int .i64, .int .i64]) fun v5 =>
 nw (.cells #[.i 0, .i 0, .bool false, .i v5.1, .i v5.2.1, .i v5.2.2.1, .i v5.2.2.2.1, .slice none 0 0, .i 0, .slice none 0 0] 75) fun n2 =>
 ld ⟨n1, 0, none⟩ (lI) fun v6 =>
 lp [lI] (0, ()) fun z1 go1 =>
 ifB (decide ((z1.1 : Int) < v6)) (
 ld (Addr.add ⟨n1, 0, none⟩ 1) (lI) fun v7 =>
 smA PP (Instr.makeSlice 96 (.i v7) (.i v7)) (.lf .sl) fun v8 =>
 nw (.cells #[.slice v8.a v8.len v8.cap, .i 0, .i 0, .bool false] 98) fun n3 =>
 ld (Addr.add ⟨n1, 0, none⟩ 1) (lI) fun v9 =>
 ld (Addr.add ⟨n1, 0, none⟩ 2) (lI) fun v10 =>
 cl PP 91 #[.pointer (some ⟨n3, 0, none⟩), .i v9, .i v10] [] fun r5 =>
 ld (Addr.add ⟨n2, 0, none⟩ 7) (.lf .sl) fun v11 =>
 nw (.cells #[.pointer (some ⟨n3, 0, none⟩)] 94) fun n4 =>
 smW PP (Builtin.append_ #[72, 72] 72 #[.sv v11, .slice (some ⟨n4, 0, none⟩) 1 1]) [.lf .sl] fun v12 =>
 st (Addr.add ⟨n2, 0, none⟩ 7) [.slice v12.1.a v12.1.len v12.1.cap] <|
 go1 (IntKind.i64.wrap (z1.1 + 1), ())) (
 K (.tuple #[.pointer (some ⟨n2, 0, none⟩), .i 0])))))) (
 K (.tuple #[.pointer none, .i 30]))
theorem e35 (x0 : ShV (.agg [.int .i64, .int .i64, .int .i64, .int .i64])) (K : Value -> HP) : A8 PP h35 Tryz.f35 [.agg #[.i x0.1, .i x0.2.1, .i x0.2.2.1, .i x0.2.2.2.1]] K = t35 x0 K := by kernel_rfl
def h36 : D1 := ⟨[(0, [(12, .lf .sl), (74, lI)]), (2, [(116, lI)])], [(6, [])], [(15, [0, 1, 2, 3, 5, 7, 9, 11, 4, 6, 8, 10, 12, 13, 14, 15]), (9, [1, 2, 4, 6, 9, 12, 15, 18, 0, 3, 5, 10, 13, 16, 7, 14, 17, 19, 8, 11, 20, 21, 22]), (4, [0, 2, 3, 1, 4, 5, 6, 7, 8, 9, 10, 11, 12, 13])]⟩
def t36 (x0 : ShV (.agg [.int .i64, .int .i64, .int .i64, .int .i64, .int .i64, .int .i64, .int .i64, .int .i64, .int .i64, .int .i64, .int .i64])) (x1 : Option Addr) (x2 : Int) (K : Value -> HP) : HP :=
 nw (.cells #[.i x0.1, .i x0.2.1, .i x0.2.2.1, .i x0.2.2.2.1, .i x0.2.2.2.2.1, .i x0.2.2.2.2.2.1, .i x0.2.2.2.2.2.2.1, .i x0.2.2.2.2.2.2.2.1, .i x0.2.2.2.2.2.2.2.2.1, .i x0.2.2.2.2.2.2.2.2.2.1, .i x0.2.2.2.2.2.2.2.2.2.2.1] 25) fun n1 =>
 ifB (Option.isNone x1) (
 K (.tuple #[.pointer none, .i 1])) (
 ld (Addr.add ⟨n1, 0, none⟩ 4) (lI) fun v1 =>
 ld (Addr.add ⟨n1, 0, none⟩ 5) (lI) fun v2 =>
 cl PP 92 #[.i v1, .i v2] [.lf .ptr, lI] fun r1 =>
 jn (fun y1 : RsV [] =>
 cl PP 95 #[.pointer x1] [.agg [.sl, .sl, .int .i64], lI] fun r4 =>
 nw (.cells #[.slice none 0 0, .slice none 0 0, .i 0] 146) fun n2 =>
 st ⟨n2, 0, none⟩ [.slice r4.1.1.a r4.1.1.len r4.1.1.cap, .slice r4.1.2.1.a r4.1.2.1.len r4.1.2.1.cap, .i r4.1.2.2.1] <|
 ifB ((r4.2.1 : Int) != 0) (
 K (.tuple #[.pointer none, .i r4.2.1])) (
 ld ⟨n1, 0, none⟩ (.agg [.int .i64, .int .i64, .int .i64, .int .i64, .int .i64, .int .i64, .int .i64, .int .i64, .int .i64, .int .i64, .int .i64]) fun v6 =>
 ld (Addr.add ⟨n1, 0, none⟩ 8) (lI) fun v7 =>
 ld (Addr.add ⟨n1, 0, none⟩ 9) (lI) fun v8 =>
 ld (Addr.add ⟨n2, 0, none⟩ 2) (lI) fun v9 =>
 ld (Addr.add ⟨n1, 0, none⟩ 6) (lI) fun v10 =>
 ld (Addr.add ⟨n1, 0, none⟩ 7) (lI) fun v11 =>
 cl PP 96 #[.i v7, .i v8, .i x2, .i 0] [.lf .ptr] fun r5 =>
 keep (D0 (Addr.add ⟨n1, 0, none⟩ 7) [.i v11]) <|
 keep (D0 (Addr.add ⟨n1, 0, none⟩ 6) [.i v10]) <|
 keep (D0 (Addr.add ⟨n2, 0, none⟩ 2) [.i v9]) <|
 keep (D0 ⟨n1, 0, none⟩ [.i v6.1, .i v6.2.1, .i v6.2.2.1, .i v6.2.2.2.1, .i v6.2.2.2.2.1, .i v6.2.2.2.2.2.1, .i v6.2.2.2.2.2.2.1, .i v6.2.2.2.2.2.2.2.1, .i v6.2.2.2.2.2.2.2.2.1, .i v6.2.2.2.2.2.2.2.2.2.1, .i v6.2.2.2.2.2.2.2.2.2.2.1]) <|
 cl PP 97 #[.i v10] [.lf .ptr] fun r6 =>
 keep (D0 (Addr.add ⟨n1, 0, none⟩ 7) [.i v11]) <|
 keep (D0 (Addr.add ⟨n2, 0, none⟩ 2) [.i v9]) <|
 keep (D0 ⟨n1, 0, none⟩ [.i v6.1, .i v6.2.1, .i v6.2.2.1, .i v6.2.2.2.1, .i v6.2.2.2.2.1, .i v6.2.2.2.2.2.1, .i v6.2.2.2.2.2.2.1, .i v6.2.2.2.2.2.2.2.1, .i v6.2.2.2.2.2.2.2.2.1, .i v6.2.2.2.2.2.2.2.2.2.1, .i v6.2.2.2.2.2.2.2.2.2.2.1]) <|
 cl PP 98 #[.i v11] [.lf .ptr] fun r7 =>
 keep (D0 (Addr.add ⟨n2, 0, none⟩ 2) [.i v9]) <|
 keep (D0 ⟨n1, 0, none⟩ [.i v6.1, .i v6.2.1, .i v6.2.2.1, .i v6.2.2.2.1, .i v6.2.2.2.2.1, .i v6.2.2.2.2.2.1, .i v6.2.2.2.2.2.2.1, .i v6.2.2.2.2.2.2.2.1, .i v6.2.2.2.2.2.2.2.2.1, .i v6.2.2.2.2.2.2.2.2.2.1, .i v6.2.2.2.2.2.2.2.2.2.2.1]) <|
 nw (.map #[] 0) fun n3 =>
 nw (.cells #[.i v6.1, .i v6.2.1, .i v6.2.2.1, .i v6.2.2.2.1, .i v6.2.2.2.2.1, .i v6.2.2.2.2.2.1, .i v6.2.2.2.2.2.2.1, .i v6.2.2.2.2.2.2.2.1, .i v6.2.2.2.2.2.2.2.2.1, .i v6.2.2.2.2.2.2.2.2.2.1, .i v6.2.2.2.2.2.2.2.2.2.2.1, .pointer x1, .pointer none, .pointer r5.1, .map (some n3), .pointer none, .i v9, .slice none 0 0, .bool false, .pointer r6.1, .pointer r7.1, .pointer r1.1] 89) fun n4 =>
 ld ⟨n2, 0, none⟩ (.lf .sl) fun v12 =>
 lp [.lf .sl, lI] (⟨none, 0, 0⟩, 0, ()) fun z1 go1 =>
 ifB (decide ((z1.2.1 : Int) < v12.len)) (
 A9 v12.a fun a1 =>
 ixn z1.2.1 v12.len <|
 ld (a1.add (z1.2.1.toNat * 3)) (.agg [.int .i64, .int .i64, .sl]) fun v13 =>
 nw (.cells #[.i 0, .i 0, .slice none 0 0] 154) fun n5 =>
 st ⟨n5, 0, none⟩ [.i v13.1, .i v13.2.1, .slice v13.2.2.1.a v13.2.2.1.len v13.2.2.1.cap] <|
 ld ⟨n5, 0, none⟩ (lI) fun v14 =>
 nw (.cells #[.i v14] 3) fun n6 =>
 smW PP (Builtin.append_ #[49, 49] 49 #[.sv z1.1, .slice (some ⟨n6, 0, none⟩) 1 1]) [.lf .sl] fun v15 =>
 ld (Addr.add (Addr.add ⟨n4, 0, none⟩ 11) 3) (.lf .map) fun v16 =>
 ld ⟨n5, 0, none⟩ (lI) fun v17 =>
 ld ⟨n5, 0, none⟩ (lI) fun v18 =>
 ld (Addr.add ⟨n5, 0, none⟩ 1) (lI) fun v19 =>
 ld (Addr.add ⟨n5, 0, none⟩ 2) (.lf .sl) fun v20 =>
 nw (.cells #[.i v18, .i v19, .i 0, .slice v20.a v20.len v20.cap] 156) fun n7 =>
 smU PP (Instr.mapUpdate 79 (.map v16) (.i v17) (.pointer (some ⟨n7, 0, none⟩))) <|
 go1 (⟨v15.1.a, v15.1.len, v15.1.cap⟩, IntKind.i64.wrap (z1.2.1 + 1), ())) (
 cl PP 100 #[.pointer x1] [.lf .sl] fun r8 =>
 cl PP 99 #[.sv r8.1, .sv z1.1] [.lf .ptr, lI] fun r9 =>
 st (Addr.add (Addr.add ⟨n4, 0, none⟩ 11) 1) [.pointer r9.1] <|
 ifB ((r9.2.1 : Int) != 0) (
 K (.tuple #[.pointer none, .i r9.2.1])) (
 ld (Addr.add ⟨n2, 0, none⟩ 1) (.lf .sl) fun v21 =>
 lp [lI] (0, ()) fun z2 go2 =>
 ifB (decide ((z2.1 : Int) < v21.len)) (
 A9 v21.a fun a2 =>
 ixn z2.1 v21.len <|
 ld (a2.add (z2.1.toNat * 4)) (.agg [.str, .int .i64, .int .i64, .int .i64]) fun v22 =>
 nw (.cells #[.string ByteArray.empty, .i 0, .i 0, .i 0] 162) fun n8 =>
 st ⟨n8, 0, none⟩ [.string v22.1, .i v22.2.1, .i v22.2.2.1, .i v22.2.2.2.1] <|
 ld ⟨n8, 0, none⟩ (.lf .str) fun v23 =>
 ld (Addr.add ⟨n8, 0, none⟩ 1) (.agg [.int .i64, .int .i64, .int .i64]) fun v24 =>
 cl PP 101 #[.pointer (some ⟨n4, 0, none⟩), .string v23, .agg #[.i v24.1, .i v24.2.1, .i v24.2.2.1]] [] fun r10 =>
 go2 (IntKind.i64.wrap (z2.1 + 1), ())) (
 K (.tuple #[.pointer (some ⟨n4, 0, none⟩), .i 0])))))) fun j1 =>
 ld ⟨n1, 0, none⟩ (.agg [.int .i64, .int .i64, .int .i64, .int .i64]) fun v3 =>
 cl PP 93 #[.pointer x1] [.agg [.int .i64, .int .i64, .int .i64, .int .i64]] fun r2 =>
 keep (D0 ⟨n1, 0, none⟩ [.i v3.1, .i v3.2.1, .i v3.2.2.1, .i v3.2.2.2.1]) <|
 smP PP (binOp .neq 23 (.agg #[.i r2.1.1, .i r2.1.2.1, .i r2.1.2.2.1, .i r2.1.2.2.2.1]) (.agg #[.i v3.1, .i v3.2.1, .i v3.2.2.1, .i v3.2.2.2.1])) (.lf .bool) fun v4 =>
 ifB v4 (
 K (.tuple #[.pointer none, .i 30])) (
 ifB ((r1.2.1 : Int) != 0) (
 K (.tuple #[.pointer none, .i 30])) (
 ld ⟨n1, 0, none⟩ (.agg [.int .i64, .int .i64, .int .i64, .int .i64, .int .i64, .int .i64, .int .i64, .int .i64, .int .i64, .int .i64, .int .i64]) fun v5 =>
 cl PP 94 #[.agg #[.i v5.1, .i v5.2.1, .i v5.2.2.1, .i v5.2.2.2.1, .i v5.2.2.2.2.1, .i v5.2.2.2.2.2.1, .i v5.2.2.2.2.2.2.1, .i v5.2.2.2.2.2.2.2.1, .i v5.2.2.2.2.2.2.2.2.1, .i v5.2.2.2.2.2.2.2.2.2.1, .i v5.2.2.2.2.2.2.2.2.2.2.1]] [.lf .bool] fun r3 =>
 ifB (!r3.1) (
 K (.tuple #[.pointer none, .i 30])) (
 j1 (())))))
theorem e36 (x0 : ShV (.agg [.int .i64, .int .i64, .int .i64, .int .i64, .int .i64, .int .i64, .int .i64, .int .i64, .int .i64, .int .i64, .int .i64])) (x1 : Option Addr) (x2 : Int) (K : Value -> HP) : A8 PP h36 Tryz.f36 [.agg #[.i x0.1, .i x0.2.1, .i x0.2.2.1, .i x0.2.2.2.1, .i x0.2.2.2.2.1, .i x0.2.2.2.2.2.1, .i x0.2.2.2.2.2.2.1, .i x0.2.2.2.2.2.2.2.1, .i x0.2.2.2.2.2.2.2.2.1, .i x0.2.2.2.2.2.2.2.2.2.1, .i x0.2.2.2.2.2.2.2.2.2.2.1], .pointer x1, .i x2] K = t36 x0 x1 x2 K := by kernel_rfl
def t37 (K : Value -> HP) : HP :=
 nw (.cells #[.i 0, .i 0, .i 0, .i 0, .i 0, .i 0, .i 0, .i 0, .i 0, .i 0, .i 0] 25) fun n1 =>
 st ⟨n1, 0, none⟩ [.i 4, .i 8, .i 64, .i 1000, .i 4, .i 4, .i 12, .i 8, .i 1000, .i 4000, .i 0] <|
 ld ⟨n1, 0, none⟩ (.agg [.int .i64, .int .i64, .int .i64, .int .i64, .int .i64, .int .i64, .int .i64, .int .i64, .int .i64, .int .i64, .int .i64]) fun v1 =>
 K (.agg #[.i v1.1, .i v1.2.1, .i v1.2.2.1, .i v1.2.2.2.1, .i v1.2.2.2.2.1, .i v1.2.2.2.2.2.1, .i v1.2.2.2.2.2.2.1, .i v1.2.2.2.2.2.2.2.1, .i v1.2.2.2.2.2.2.2.2.1, .i v1.2.2.2.2.2.2.2.2.2.1, .i v1.2.2.2.2.2.2.2.2.2.2.1])
theorem e37 (K : Value -> HP) : A8 PP Hn Tryz.f37 [] K = t37 K := by kernel_rfl
def t39 (x0 : Option Addr) (x1 : ByteArray) (K : Value -> HP) : HP :=
 ifB (Option.isNone x0) (
 K (.i 1)) (
 A9 x0 fun a1 =>
 ld (Addr.add (a1.add 11) 7) (.lf .bool) fun v1 =>
 ifB v1 (
 K (.i 11)) (
 ifB (ByteArray.toList x1 == ByteArray.toList (ByteArray.mk #[])) (
 K (.i 2)) (
 ifB (decide ((x1.size : Int) > 255)) (
 K (.i 2)) (
 K (.i 0)))))
theorem e39 (x0 : Option Addr) (x1 : ByteArray) (K : Value -> HP) : A8 PP Hn Tryz.f39 [.pointer x0, .string x1] K = t39 x0 x1 K := by kernel_rfl
def t40 (x0 : Option Addr) (x1 : Int) (K : Value -> HP) : HP :=
 ifB (!(Option.isNone x0)) (
 cl PP 103 #[.pointer x0] [.lf .sl] fun r1 =>
 cl PP 102 #[.sv r1.1, .int .u64 x1] [lI] fun r2 =>
 K (.bool (decide ((r2.1 : Int) ≥ 0)))) (
 K (.bool false))
theorem e40 (x0 : Option Addr) (x1 : Int) (K : Value -> HP) : A8 PP Hn Tryz.f40 [.pointer x0, .int .u64 x1] K = t40 x0 x1 K := by kernel_rfl
def t41 (x0 : Option Addr) (x1 : ByteArray) (K : Value -> HP) : HP :=
 A9 x0 fun a1 =>
 ld (a1.add 10) (lI) fun v1 =>
 cl PP 104 #[.i v1, .string x1] [.lf (.int .u64)] fun r1 =>
 K (.int .u64 r1.1)
theorem e41 (x0 : Option Addr) (x1 : ByteArray) (K : Value -> HP) : A8 PP Hn Tryz.f41 [.pointer x0, .string x1] K = t41 x0 x1 K := by kernel_rfl
def t42 (x0 : Option Addr) (x1 : FnV) (K : Value -> HP) : HP :=
 cl PP 57 #[.pointer x0] [.lf .bool] fun r1 =>
 ifB (!r1.1) (
 K (.i 0)) (
 clv PP x1.fn (x1.first ++ #[]) x1.captured [lI] fun r2 =>
 K (.i r2.1))
theorem e42 (x0 : Option Addr) (x1 : FnV) (K : Value -> HP) : A8 PP Hn Tryz.f42 [.pointer x0, .func x1.fn x1.first x1.captured] K = t42 x0 x1 K := by kernel_rfl
def t43 (x0 : Option Addr) (K : Value -> HP) : HP :=
 A9 x0 fun a1 =>
 ld a1 (.lf .ptr) fun v1 =>
 A9 v1 fun a2 =>
 ld (Addr.add (a2.add 11) 2) (.lf .ptr) fun v2 =>
 cl PP 44 #[.pointer v2] [lI] fun r1 =>
 K (.i r1.1)
theorem e43 (x0 : Option Addr) (K : Value -> HP) : A8 PP Hn Tryz.f43 [.pointer x0] K = t43 x0 K := by kernel_rfl
def t44 (x0 : Option Addr) (K : Value -> HP) : HP :=
 ifB (Option.isNone x0) (
 K (.i 0)) (
 A9 x0 fun a1 =>
 ld (a1.add 3) (lI) fun v1 =>
 K (.i v1))
theorem e44 (x0 : Option Addr) (K : Value -> HP) : A8 PP Hn Tryz.f44 [.pointer x0] K = t44 x0 K := by kernel_rfl
def t45 (x0 : Option Addr) (x1 : Int) (K : Value -> HP) : HP :=
 ifB (Option.isNone x0) (
 K (.pointer none)) (
 A9 x0 fun a1 =>
 ld (a1.add 7) (.lf .sl) fun v1 =>
 cl PP 90 #[.i x1, .i 0, .i (IntKind.i64.wrap (v1.len - 1))] [.lf .bool] fun r1 =>
 ifB (!r1.1) (
 K (.pointer none)) (
 A9 x0 fun a2 =>
 ld (a2.add 7) (.lf .sl) fun v2 =>
 A9 v2.a fun a3 =>
 ixn x1 v2.len <|
 ld (a3.add (x1.toNat * 1)) (.lf .ptr) fun v3 =>
 K (.pointer v3)))
theorem e45 (x0 : Option Addr) (x1 : Int) (K : Value -> HP) : A8 PP Hn Tryz.f45 [.pointer x0, .i x1] K = t45 x0 x1 K := by kernel_rfl
def h46 : D1 := ⟨[], [], [(5, [0, 1, 2, 3, 4, 5, 6, 7, 8, 9, 10, 11, 12]), (4, [0, 1, 2, 3, 5, 6, 4, 8, 7, 9])]⟩
def t46 (x0 : Option Addr) (x1 : ByteArray) (K : Value -> HP) : HP :=
 A9 x0 fun a1 =>
 ld (a1.add 19) (.lf .ptr) fun v1 =>
 cl PP 105 #[.pointer v1, .string x1] [.lf .bool] fun r1 =>
 cl PP 53 #[.pointer x0, .string x1] [.agg [.int .i64, .int .i64, .int .i64], .lf .sl, .lf .bool] fun r2 =>
 nw (.cells #[.i 0, .i 0, .i 0] 102) fun n1 =>
 st ⟨n1, 0, none⟩ [.i r2.1.1, .i r2.1.2.1, .i r2.1.2.2.1] <|
 ifB r2.2.2.1 (
 A9 x0 fun a2 =>
 ld (Addr.add (a2.add 19) 2) (.lf .ptr) fun v2 =>
 ld ⟨n1, 0, none⟩ (.agg [.int .i64, .int .i64, .int .i64]) fun v3 =>
 cl PP 41 #[.pointer x0, .string x1] [.lf (.int .u64)] fun r3 =>
 keep (D0 ⟨n1, 0, none⟩ [.i v3.1, .i v3.2.1, .i v3.2.2.1]) <|
 keep (D0 (Addr.add (a2.add 19) 2) [.pointer v2]) <|
 cl PP 106 #[.pointer v2, .int .u64 r3.1, .agg #[.i v3.1, .i v3.2.1, .i v3.2.2.1]] [.lf .bool] fun r4 =>
 A9 x0 fun a3 =>
 ld (Addr.add (a3.add 11) 6) (.lf .sl) fun v4 =>
 ld ⟨n1, 0, none⟩ (.agg [.int .i64, .int .i64, .int .i64]) fun v5 =>
 nw (.cells #[.i v5.1, .i v5.2.1, .i v5.2.2.1] 102) fun n2 =>
 smW PP (Builtin.append_ #[55, 55] 55 #[.sv v4, .slice (some ⟨n2, 0, none⟩) 1 1]) [.lf .sl] fun v6 =>
 A9 x0 fun a4 =>
 st (Addr.add (a4.add 11) 6) [.slice v6.1.a v6.1.len v6.1.cap] <|
 ifB r1.1 (
 K (.bool true)) (
 K (.bool r2.2.2.1))) (
 ifB r1.1 (
 K (.bool true)) (
 K (.bool r2.2.2.1)))
theorem e46 (x0 : Option Addr) (x1 : ByteArray) (K : Value -> HP) : A8 PP h46 Tryz.f46 [.pointer x0, .string x1] K = t46 x0 x1 K := by kernel_rfl
def h47 : D1 := ⟨[], [], [(4, [0, 1, 2, 3, 4, 5, 6, 7, 8, 9, 10, 11, 12])]⟩
def t47 (x0 : Int) (x1 : Int) (x2 : ShV (.agg [.int .i64, .int .i64, .int .i64, .int .i64])) (K : Value -> HP) : HP :=
 nw (.cells #[.i x2.1, .i x2.2.1, .i x2.2.2.1, .i x2.2.2.2.1] 23) fun n1 =>
 ld (Addr.add ⟨n1, 0, none⟩ 2) (lI) fun v1 =>
 cl PP 62 #[.i v1] [lI] fun r1 =>
 cl PP 107 #[.i x0] [.lf .bool] fun r2 =>
 ifB (!r2.1) (
 K (.i 0)) (
 ifB (decide ((x1 : Int) < 0)) (
 K (.i 0)) (
 ifB (decide ((x1 : Int) > 65536)) (
 K (.i 0)) (
 ifB ((r1.1 : Int) == 0) (
 K (.i 0)) (
 req ((r1.1 : Int) ≠ 0) <|
 ld (Addr.add ⟨n1, 0, none⟩ 1) (lI) fun v2 =>
 cl PP 108 #[.i (IntKind.i64.wrap (Int.tdiv (IntKind.i64.wrap ((IntKind.i64.wrap ((IntKind.i64.wrap ((IntKind.i64.wrap (x0 + x1)) + 12)) + r1.1)) - 1)) r1.1)), .i v2] [lI] fun r3 =>
 K (.i r3.1)))))
theorem e47 (x0 : Int) (x1 : Int) (x2 : ShV (.agg [.int .i64, .int .i64, .int .i64, .int .i64])) (K : Value -> HP) : A8 PP h47 Tryz.f47 [.i x0, .i x1, .agg #[.i x2.1, .i x2.2.1, .i x2.2.2.1, .i x2.2.2.2.1]] K = t47 x0 x1 x2 K := by kernel_rfl
def t48 (x0 : Option Addr) (x1 : Int) (K : Value -> HP) : HP :=
 ifB (Option.isNone x0) (
 K (.bool false)) (
 cl PP 103 #[.pointer x0] [.lf .sl] fun r1 =>
 cl PP 102 #[.sv r1.1, .int .u64 x1] [lI] fun r2 =>
 ifB (decide ((r2.1 : Int) < 0)) (
 K (.bool false)) (
 cl PP 110 #[.sv r1.1, .i r2.1, .i (IntKind.i64.wrap (r2.1 + 1))] [.lf .sl] fun r3 =>
 cl PP 109 #[.pointer x0, .sv r3.1] [] fun r4 =>
 K (.bool true)))
theorem e48 (x0 : Option Addr) (x1 : Int) (K : Value -> HP) : A8 PP Hn Tryz.f48 [.pointer x0, .int .u64 x1] K = t48 x0 x1 K := by kernel_rfl
def t49 (x0 : Option Addr) (x1 : ByteArray) (x2 : SlV) (K : Value -> HP) : HP :=
 A9 x0 fun a1 =>
 ld a1 (.agg [.int .i64, .int .i64, .int .i64, .int .i64]) fun v1 =>
 cl PP 111 #[.string x1, .slice x2.a x2.len x2.cap, .agg #[.i v1.1, .i v1.2.1, .i v1.2.2.1, .i v1.2.2.2.1]] [.lf .sl, lI] fun r1 =>
 ifB ((r1.2.1 : Int) != 0) (
 K (.i r1.2.1)) (
 cl PP 61 #[.pointer x0, .i r1.1.len] [lI] fun r2 =>
 ifB ((r2.1 : Int) != 0) (
 K (.i r2.1)) (
 A9 x0 fun a2 =>
 cl PP 64 #[.pointer (some (a2.add 11)), .i 2, .slice r1.1.a r1.1.len r1.1.cap] [.agg [.int .i64, .int .i64, .int .i64], lI] fun r3 =>
 nw (.cells #[.i 0, .i 0, .i 0] 102) fun n1 =>
 st ⟨n1, 0, none⟩ [.i r3.1.1, .i r3.1.2.1, .i r3.1.2.2.1] <|
 ifB ((r3.2.1 : Int) == 0) (
 ld ⟨n1, 0, none⟩ (.agg [.int .i64, .int .i64, .int .i64]) fun v2 =>
 cl PP 101 #[.pointer x0, .string x1, .agg #[.i v2.1, .i v2.2.1, .i v2.2.2.1]] [] fun r4 =>
 K (.i r3.2.1)) (
 K (.i r3.2.1))))
theorem e49 (x0 : Option Addr) (x1 : ByteArray) (x2 : SlV) (K : Value -> HP) : A8 PP Hn Tryz.f49 [.pointer x0, .string x1, .slice x2.a x2.len x2.cap] K = t49 x0 x1 x2 K := by kernel_rfl
def h50 : D1 := ⟨[], [(6, [])], [(7, [0, 1, 2, 4, 3, 5, 6, 7, 8, 9]), (2, [0, 2, 5, 6, 7, 8, 1, 3, 4, 9, 10, 11])]⟩
def t50 (x0 : Option Addr) (x1 : ByteArray) (x2 : SlV) (K : Value -> HP) : HP :=
 ifB (Option.isNone x0) (
 K (.tuple #[])) (
 cl PP 105 #[.pointer x0, .string x1] [.lf .bool] fun r1 =>
 A9 x0 fun a1 =>
 ld (a1.add 3) (.lf .ptr) fun v1 =>
 nw (.cells #[] 5) fun n1 =>
 smW PP (Builtin.append_ #[27, 27] 27 #[.slice (some ⟨n1, 0, none⟩) 0 0, .sv x2]) [.lf .sl] fun v2 =>
 keep (D0 (a1.add 3) [.pointer v1]) <|
 nw (.cells #[.string x1, .slice v2.1.a v2.1.len v2.1.cap, .i 0, .pointer v1, .pointer none] 184) fun n2 =>
 jn (fun y1 : RsV [] =>
 A9 x0 fun a6 =>
 st (a6.add 3) [.pointer (some ⟨n2, 0, none⟩)] <|
 A9 x0 fun a7 =>
 ld (a7.add 1) (lI) fun v5 =>
 cl PP 112 #[.pointer (some ⟨n2, 0, none⟩)] [lI] fun r2 =>
 keep (D0 (a7.add 1) [.i v5]) <|
 A9 x0 fun a8 =>
 st (a8.add 1) [.i (IntKind.i64.wrap (v5 + r2.1))] <|
 A9 x0 fun a9 =>
 ld (a9.add 4) (.lf .map) fun v6 =>
 smU PP (Instr.mapUpdate 180 (.map v6) (.string x1) (.pointer (some ⟨n2, 0, none⟩))) <|
 K (.tuple #[])) fun j1 =>
 A9 x0 fun a2 =>
 ld (a2.add 3) (.lf .ptr) fun v3 =>
 ifB (!(Option.isNone v3)) (
 A9 x0 fun a3 =>
 ld (a3.add 3) (.lf .ptr) fun v4 =>
 A9 v4 fun a4 =>
 st (a4.add 4) [.pointer (some ⟨n2, 0, none⟩)] <|
 j1 (())) (
 A9 x0 fun a5 =>
 st (a5.add 2) [.pointer (some ⟨n2, 0, none⟩)] <|
 j1 (())))
theorem e50 (x0 : Option Addr) (x1 : ByteArray) (x2 : SlV) (K : Value -> HP) : A8 PP h50 Tryz.f50 [.pointer x0, .string x1, .sv x2] K = t50 x0 x1 x2 K := by kernel_rfl
def h51 : D1 := ⟨[(0, [])], [(6, [(5, lI)])], [(7, [0, 1, 2, 3, 5, 6, 4, 7, 8, 9])]⟩
def t51 (x0 : Option Addr) (K : Value -> HP) : HP :=
 lp [] (()) fun z1 go1 =>
 A9 x0 fun a1 =>
 ld (a1.add 19) (.lf .ptr) fun v1 =>
 cl PP 113 #[.pointer v1] [.lf .bool] fun r1 =>
 ifB r1.1 (
 A9 x0 fun a2 =>
 ld (a2.add 19) (.lf .ptr) fun v2 =>
 cl PP 114 #[.pointer v2] [.agg [.str, .sl, .int .i64], .lf .bool] fun r2 =>
 nw (.cells #[.string ByteArray.empty, .slice none 0 0, .i 0] 179) fun n1 =>
 st ⟨n1, 0, none⟩ [.string r2.1.1, .slice r2.1.2.1.a r2.1.2.1.len r2.1.2.1.cap, .i r2.1.2.2.1] <|
 jn (fun y1 : RsV [lI] =>
 ifB ((y1.1 : Int) == 0) (
 go1 (())) (
 ifB ((y1.1 : Int) == 11) (
 K (.i y1.1)) (
 A9 x0 fun a3 =>
 ld (Addr.add (a3.add 19) 1) (.lf .ptr) fun v6 =>
 ld ⟨n1, 0, none⟩ (.lf .str) fun v7 =>
 cl PP 41 #[.pointer x0, .string v7] [.lf (.int .u64)] fun r4 =>
 keep (D0 (Addr.add (a3.add 19) 1) [.pointer v6]) <|
 cl PP 115 #[.pointer v6, .int .u64 r4.1] [] fun r5 =>
 go1 (())))) fun j1 =>
 ld (Addr.add ⟨n1, 0, none⟩ 2) (lI) fun v3 =>
 ifB (decide ((v3 : Int) > 0)) (
 ld ⟨n1, 0, none⟩ (.lf .str) fun v4 =>
 ld (Addr.add ⟨n1, 0, none⟩ 1) (.lf .sl) fun v5 =>
 cl PP 49 #[.pointer x0, .string v4, .sv v5] [lI] fun r3 =>
 j1 (r3.1, ())) (
 j1 (8, ()))) (
 K (.i 0))
theorem e51 (x0 : Option Addr) (K : Value -> HP) : A8 PP h51 Tryz.f51 [.pointer x0] K = t51 x0 K := by kernel_rfl
def t52 (x0 : Option Addr) (x1 : ByteArray) (K : Value -> HP) : HP :=
 cl PP 116 #[.pointer x0, .string x1] [.lf .ptr] fun r1 =>
 K (.bool (!(Option.isNone r1.1)))
theorem e52 (x0 : Option Addr) (x1 : ByteArray) (K : Value -> HP) : A8 PP Hn Tryz.f52 [.pointer x0, .string x1] K = t52 x0 x1 K := by kernel_rfl
def h53 : D1 := ⟨[(0, [(22, lI)])], [], [(4, [0, 1, 2, 3, 4, 5, 6, 7, 8, 9, 10, 11, 12, 13]), (1, [0, 1, 2, 3, 5, 6, 10, 4, 7, 8, 9])]⟩
def t53 (x0 : Option Addr) (x1 : ByteArray) (K : Value -> HP) : HP :=
 nw (.cells #[.i 0, .i 0, .i 0] 102) fun n1 =>
 A9 x0 fun a1 =>
 ld (Addr.add (a1.add 19) 2) (.lf .ptr) fun v1 =>
 cl PP 41 #[.pointer x0, .string x1] [.lf (.int .u64)] fun r1 =>
 keep (D0 (Addr.add (a1.add 19) 2) [.pointer v1]) <|
 cl PP 117 #[.pointer v1, .int .u64 r1.1] [.lf .sl] fun r2 =>
 lp [lI] (0, ()) fun z1 go1 =>
 ifB (decide ((z1.1 : Int) < r2.1.len)) (
 A9 r2.1.a fun a2 =>
 ixn z1.1 r2.1.len <|
 ld (a2.add (z1.1.toNat * 3)) (.agg [.int .i64, .int .i64, .int .i64]) fun v2 =>
 nw (.cells #[.i 0, .i 0, .i 0] 102) fun n2 =>
 st ⟨n2, 0, none⟩ [.i v2.1, .i v2.2.1, .i v2.2.2.1] <|
 A9 x0 fun a3 =>
 ld (a3.add 11) (.lf .ptr) fun v3 =>
 ld ⟨n2, 0, none⟩ (.agg [.int .i64, .int .i64, .int .i64]) fun v4 =>
 cl PP 118 #[.pointer v3, .agg #[.i v4.1, .i v4.2.1, .i v4.2.2.1]] [.lf .str, .lf .sl, lI] fun r3 =>
 ifB ((r3.2.2.1 : Int) == 0) (
 ifB (ByteArray.toList r3.1 == ByteArray.toList x1) (
 ld ⟨n2, 0, none⟩ (.agg [.int .i64, .int .i64, .int .i64]) fun v5 =>
 st ⟨n1, 0, none⟩ [.i v5.1, .i v5.2.1, .i v5.2.2.1] <|
 ld ⟨n1, 0, none⟩ (.agg [.int .i64, .int .i64, .int .i64]) fun v6 =>
 K (.tuple #[.agg #[.i v6.1, .i v6.2.1, .i v6.2.2.1], .sv r3.2.1, .bool true])) (
 go1 (IntKind.i64.wrap (z1.1 + 1), ()))) (
 go1 (IntKind.i64.wrap (z1.1 + 1), ()))) (
 st ⟨n1, 0, none⟩ [.i 0, .i 0, .i 0] <|
 ld ⟨n1, 0, none⟩ (.agg [.int .i64, .int .i64, .int .i64]) fun v7 =>
 K (.tuple #[.agg #[.i v7.1, .i v7.2.1, .i v7.2.2.1], .slice none 0 0, .bool false]))
theorem e53 (x0 : Option Addr) (x1 : ByteArray) (K : Value -> HP) : A8 PP h53 Tryz.f53 [.pointer x0, .string x1] K = t53 x0 x1 K := by kernel_rfl
def t57 (x0 : Option Addr) (K : Value -> HP) : HP :=
 ifB (!(Option.isNone x0)) (
 A9 x0 fun a1 =>
 ld (Addr.add (a1.add 11) 7) (.lf .bool) fun v1 =>
 K (.bool (!v1))) (
 K (.bool false))
theorem e57 (x0 : Option Addr) (K : Value -> HP) : A8 PP Hn Tryz.f57 [.pointer x0] K = t57 x0 K := by kernel_rfl
def h58 : D1 := ⟨[], [], [(2, [0, 1, 2, 3, 4, 6, 8, 9, 10, 5, 7, 11, 14, 12, 13, 15, 16, 17, 18, 19, 20]), (1, [0, 1, 2, 4, 3, 5, 6, 7, 8, 9, 10, 11, 12, 13])]⟩
def t58 (x0 : Option Addr) (x1 : Int) (K : Value -> HP) : HP :=
 ifB (Option.isNone x0) (
 K (.tuple #[])) (
 A9 x0 fun a1 =>
 ld a1 (.agg [.int .i64, .int .i64]) fun v1 =>
 nw (.cells #[.i 253402300799] 3) fun n1 =>
 cl PP 123 #[.i x1, .slice (some ⟨n1, 0, none⟩) 1 1] [lI] fun r1 =>
 keep (D0 a1 [.i v1.1, .i v1.2.1]) <|
 cl PP 122 #[.agg #[.i v1.1, .i v1.2.1], .i r1.1] [lI, .agg [.int .i64, .int .i64]] fun r2 =>
 nw (.cells #[.i 0, .i 0] 169) fun n2 =>
 st ⟨n2, 0, none⟩ [.i r2.2.1.1, .i r2.2.1.2.1] <|
 A9 x0 fun a2 =>
 A9 x0 fun a3 =>
 ld (a2.add 3) (lI) fun v2 =>
 ld (a3.add 2) (lI) fun v3 =>
 ld ⟨n2, 0, none⟩ (.agg [.int .i64, .int .i64]) fun v4 =>
 nw (.cells #[.i v3] 3) fun n3 =>
 cl PP 123 #[.i (IntKind.i64.wrap (v2 + r2.1)), .slice (some ⟨n3, 0, none⟩) 1 1] [lI] fun r3 =>
 keep (D0 ⟨n2, 0, none⟩ [.i v4.1, .i v4.2.1]) <|
 A9 x0 fun a4 =>
 st (a4.add 3) [.i r3.1] <|
 keep (D0 ⟨n2, 0, none⟩ [.i v4.1, .i v4.2.1]) <|
 A9 x0 fun a5 =>
 st a5 [.i v4.1, .i v4.2.1] <|
 K (.tuple #[]))
theorem e58 (x0 : Option Addr) (x1 : Int) (K : Value -> HP) : A8 PP h58 Tryz.f58 [.pointer x0, .i x1] K = t58 x0 x1 K := by kernel_rfl
def t59 (x0 : Option Addr) (x1 : ByteArray) (K : Value -> HP) : HP :=
 cl PP 116 #[.pointer x0, .string x1] [.lf .ptr] fun r1 =>
 ifB (Option.isNone r1.1) (
 K (.tuple #[.slice none 0 0, .bool false])) (
 A9 r1.1 fun a1 =>
 ld (a1.add 2) (lI) fun v1 =>
 A9 r1.1 fun a2 =>
 st (a2.add 2) [.i (Y1 (IntKind.i64.wrap (v1 + 1)) 3)] <|
 nw (.cells #[] 5) fun n1 =>
 A9 r1.1 fun a3 =>
 ld (a3.add 1) (.lf .sl) fun v2 =>
 smW PP (Builtin.append_ #[27, 27] 27 #[.slice (some ⟨n1, 0, none⟩) 0 0, .sv v2]) [.lf .sl] fun v3 =>
 K (.tuple #[.sv v3.1, .bool true]))
theorem e59 (x0 : Option Addr) (x1 : ByteArray) (K : Value -> HP) : A8 PP Hn Tryz.f59 [.pointer x0, .string x1] K = t59 x0 x1 K := by kernel_rfl
def t60 (x0 : Option Addr) (x1 : Int) (x2 : ShV (.agg [.int .i64, .int .i64, .int .i64])) (K : Value -> HP) : HP :=
 nw (.cells #[.i x2.1, .i x2.2.1, .i x2.2.2.1] 102) fun n1 =>
 ld ⟨n1, 0, none⟩ (.agg [.int .i64, .int .i64, .int .i64]) fun v1 =>
 cl PP 124 #[.pointer x0, .int .u64 x1, .agg #[.i v1.1, .i v1.2.1, .i v1.2.2.1], .func (.func 125) #[] #[]] [.lf .bool] fun r1 =>
 K (.bool r1.1)
theorem e60 (x0 : Option Addr) (x1 : Int) (x2 : ShV (.agg [.int .i64, .int .i64, .int .i64])) (K : Value -> HP) : A8 PP Hn Tryz.f60 [.pointer x0, .int .u64 x1, .agg #[.i x2.1, .i x2.2.1, .i x2.2.2.1]] K = t60 x0 x1 x2 K := by kernel_rfl
def h61 : D1 := ⟨[(0, [])], [], []⟩
def t61 (x0 : Option Addr) (x1 : Int) (K : Value -> HP) : HP :=
 lp [] (()) fun z1 go1 =>
 A9 x0 fun a1 =>
 nw (.cells #[.i x1] 3) fun n1 =>
 cl PP 126 #[.pointer (some (a1.add 11)), .slice (some ⟨n1, 0, none⟩) 1 1] [.lf .bool] fun r1 =>
 ifB (!r1.1) (
 cl PP 127 #[.pointer x0, .i x1] [lI] fun r2 =>
 ifB ((r2.1 : Int) != 0) (
 K (.i r2.1)) (
 go1 (()))) (
 A9 x0 fun a2 =>
 nw (.cells #[.i x1] 3) fun n2 =>
 cl PP 128 #[.pointer (some (a2.add 11)), .slice (some ⟨n2, 0, none⟩) 1 1] [.lf .bool] fun r3 =>
 ifB (!r3.1) (
 K (.i 13)) (
 K (.i 0)))
theorem e61 (x0 : Option Addr) (x1 : Int) (K : Value -> HP) : A8 PP h61 Tryz.f61 [.pointer x0, .i x1] K = t61 x0 x1 K := by kernel_rfl
def t62 (x0 : Int) (K : Value -> HP) : HP :=
 cl PP 129 #[.i x0] [.lf .bool] fun r1 =>
 ifB (!r1.1) (
 K (.i 0)) (
 K (.i (IntKind.i64.wrap (x0 - 16))))
theorem e62 (x0 : Int) (K : Value -> HP) : A8 PP Hn Tryz.f62 [.i x0] K = t62 x0 K := by kernel_rfl
def h63 : D1 := ⟨[(0, [(4, .lf .sl), (9, lI)])], [], []⟩
def t63 (x0 : SlV) (K : Value -> HP) : HP :=
 lp [.lf .sl, lI] (⟨none, 0, 0⟩, 0, ()) fun z1 go1 =>
 ifB (decide ((z1.2.1 : Int) < x0.len)) (
 A9 x0.a fun a1 =>
 ixn z1.2.1 x0.len <|
 ld (a1.add (z1.2.1.toNat * 3)) (.agg [.int .i64, .int .i64, .int .i64]) fun v1 =>
 nw (.cells #[.i 0, .i 0, .i 0] 102) fun n1 =>
 st ⟨n1, 0, none⟩ [.i v1.1, .i v1.2.1, .i v1.2.2.1] <|
 ld ⟨n1, 0, none⟩ (.agg [.int .i64, .int .i64, .int .i64]) fun v2 =>
 cl PP 130 #[.agg #[.i v2.1, .i v2.2.1, .i v2.2.2.1]] [.lf .bool] fun r1 =>
 ifB (!r1.1) (
 K (.tuple #[.slice none 0 0, .i 3])) (
 ld ⟨n1, 0, none⟩ (lI) fun v3 =>
 ld (Addr.add ⟨n1, 0, none⟩ 1) (lI) fun v4 =>
 nw (.cells #[.i v3, .i v4] 3) fun n2 =>
 cl PP 131 #[.sv z1.1, .slice (some ⟨n2, 0, none⟩) 2 2] [.lf .sl, .lf .bool] fun r2 =>
 ld (Addr.add ⟨n1, 0, none⟩ 2) (lI) fun v5 =>
 cl PP 132 #[.sv r2.1, .i v5, .i 4] [.lf .sl, lI] fun r3 =>
 go1 (⟨r3.1.a, r3.1.len, r3.1.cap⟩, IntKind.i64.wrap (z1.2.1 + 1), ()))) (
 K (.tuple #[.sv z1.1, .i 0]))
theorem e63 (x0 : SlV) (K : Value -> HP) : A8 PP h63 Tryz.f63 [.sv x0] K = t63 x0 K := by kernel_rfl
def h64 : D1 := ⟨[], [], [(7, [0, 1, 2, 3, 5, 6, 7, 8, 10, 11, 4, 9, 12, 13, 14, 15, 16, 17]), (6, [1, 2, 0, 3, 4, 5]), (4, [0, 1, 2, 4, 5, 6, 8, 9, 10, 12, 13, 14, 16, 17, 3, 7, 11, 15, 18, 19]), (3, [0, 1, 2, 4, 5, 6, 8, 9, 10, 3, 7, 11, 12, 13, 14]), (2, [0, 1, 2, 4, 5, 6, 3, 7, 8, 9])]⟩
def t64 (x0 : Option Addr) (x1 : Int) (x2 : SlV) (K : Value -> HP) : HP :=
 nw (.cells #[.i 0, .i 0, .i 0] 102) fun n1 =>
 A9 x0 fun a1 =>
 ld (a1.add 4) (.lf .ptr) fun v1 =>
 A9 x0 fun a2 =>
 ld (a2.add 2) (.lf .ptr) fun v2 =>
 nw (.cells #[.i x2.len] 3) fun n2 =>
 cl PP 134 #[.pointer x0, .slice (some ⟨n2, 0, none⟩) 1 1] [lI] fun r1 =>
 keep (D0 (a2.add 2) [.pointer v2]) <|
 cl PP 133 #[.pointer v2, .i r1.1] [.lf .bool] fun r2 =>
 A9 v1 fun a3 =>
 A9 v1 fun a4 =>
 A9 v1 fun a5 =>
 ld a3 (lI) fun v3 =>
 ld (a4.add 2) (lI) fun v4 =>
 ld (a5.add 1) (lI) fun v5 =>
 nw (.cells #[.i 0, .i 0, .i 0] 102) fun n3 =>
 st ⟨n3, 0, none⟩ [.i v3, .i v4, .i v5] <|
 A9 x0 fun a6 =>
 A9 v1 fun a7 =>
 A9 v1 fun a8 =>
 A9 v1 fun a9 =>
 ld a6 (.lf .ptr) fun v6 =>
 ld a7 (lI) fun v7 =>
 ld (a8.add 1) (lI) fun v8 =>
 ld (a9.add 2) (lI) fun v9 =>
 cl PP 135 #[.pointer v6, .i v7, .i v8, .i v9, .i x1, .sv x2] [lI] fun r3 =>
 ifB ((r3.1 : Int) != 0) (
 ld ⟨n3, 0, none⟩ (.agg [.int .i64, .int .i64, .int .i64]) fun v10 =>
 cl PP 136 #[.pointer x0, .i r3.1] [lI] fun r4 =>
 keep (D0 ⟨n3, 0, none⟩ [.i v10.1, .i v10.2.1, .i v10.2.2.1]) <|
 st ⟨n1, 0, none⟩ [.i v10.1, .i v10.2.1, .i v10.2.2.1] <|
 ld ⟨n1, 0, none⟩ (.agg [.int .i64, .int .i64, .int .i64]) fun v11 =>
 K (.tuple #[.agg #[.i v11.1, .i v11.2.1, .i v11.2.2.1], .i r4.1])) (
 A9 v1 fun a10 =>
 A9 v1 fun a11 =>
 ld (a10.add 3) (.lf .sl) fun v12 =>
 ld (a11.add 2) (lI) fun v13 =>
 nw (.cells #[.i x1, .i v13, .i x2.len] 215) fun n4 =>
 smW PP (Builtin.append_ #[152, 152] 152 #[.sv v12, .slice (some ⟨n4, 0, none⟩) 1 1]) [.lf .sl] fun v14 =>
 A9 v1 fun a12 =>
 st (a12.add 3) [.slice v14.1.a v14.1.len v14.1.cap] <|
 A9 v1 fun a13 =>
 ld (a13.add 2) (lI) fun v15 =>
 A9 v1 fun a14 =>
 st (a14.add 2) [.i (IntKind.i64.wrap (v15 + x2.len))] <|
 ld ⟨n3, 0, none⟩ (.agg [.int .i64, .int .i64, .int .i64]) fun v16 =>
 st ⟨n1, 0, none⟩ [.i v16.1, .i v16.2.1, .i v16.2.2.1] <|
 ld ⟨n1, 0, none⟩ (.agg [.int .i64, .int .i64, .int .i64]) fun v17 =>
 K (.tuple #[.agg #[.i v17.1, .i v17.2.1, .i v17.2.2.1], .i 0]))
theorem e64 (x0 : Option Addr) (x1 : Int) (x2 : SlV) (K : Value -> HP) : A8 PP h64 Tryz.f64 [.pointer x0, .i x1, .sv x2] K = t64 x0 x1 x2 K := by kernel_rfl
def h65 : D1 := ⟨[], [], [(5, [0, 1, 2, 3, 4, 5, 6, 7])]⟩
def t65 (x0 : SlV) (x1 : Int) (x2 : Int) (K : Value -> HP) : HP :=
 slc ⟨x0.a, x0.len, x0.cap⟩ x1 x2 x0.len 3 fun s1 =>
 ifB ((x1 : Int) == x2) (
 K (.sv x0)) (
 slc ⟨x0.a, x0.len, x0.cap⟩ 0 x1 x0.cap 3 fun s2 =>
 slc ⟨x0.a, x0.len, x0.cap⟩ x2 x0.len x0.cap 3 fun s3 =>
 smW PP (Builtin.append_ #[55, 55] 55 #[.sv s2, .sv s3]) [.lf .sl] fun v1 =>
 slc ⟨v1.1.a, v1.1.len, v1.1.cap⟩ v1.1.len x0.len v1.1.cap 3 fun s4 =>
 smW PP (Builtin.clear_ #[55] 0 #[.sv s4]) [] fun v2 =>
 K (.sv v1.1))
theorem e65 (x0 : SlV) (x1 : Int) (x2 : Int) (K : Value -> HP) : A8 PP h65 Tryz.f65 [.sv x0, .i x1, .i x2] K = t65 x0 x1 x2 K := by kernel_rfl
def t67 (x0 : Option Addr) (K : Value -> HP) : HP :=
 A9 x0 fun a1 =>
 ld a1 (.lf .ptr) fun v1 =>
 A9 v1 fun a2 =>
 ld (Addr.add (a2.add 19) 2) (.lf .ptr) fun v2 =>
 cl PP 68 #[.pointer v2] [lI] fun r1 =>
 K (.i r1.1)
theorem e67 (x0 : Option Addr) (K : Value -> HP) : A8 PP Hn Tryz.f67 [.pointer x0] K = t67 x0 K := by kernel_rfl
set_option maxRecDepth 100000
def h68 : D1 := ⟨[(0, [(3, lI), (13, lI)])], [], []⟩
def t68 (x0 : Option Addr) (K : Value -> HP) : HP :=
 ifB (!(Option.isNone x0)) (
 A9 x0 fun a1 =>
 ld (a1.add 1) (.lf .sl) fun v1 =>
 lp [lI, lI] (0, 0, ()) fun z1 go1 =>
 ifB (decide ((z1.2.1 : Int) < v1.len)) (
 A9 v1.a fun a2 =>
 ixn z1.2.1 v1.len <|
 ld (a2.add (z1.2.1.toNat * 1)) (.lf .sl) fun v2 =>
 go1 (IntKind.i64.wrap (z1.1 + v2.len), IntKind.i64.wrap (z1.2.1 + 1), ())) (
 K (.i z1.1))) (
 K (.i 0))
theorem e68 (x0 : Option Addr) (K : Value -> HP) : A8 PP h68 Tryz.f68 [.pointer x0] K = t68 x0 K := by kernel_rfl
def t69 (x0 : Option Addr) (K : Value -> HP) : HP :=
 A9 x0 fun a1 =>
 ld a1 (.lf .ptr) fun v1 =>
 A9 v1 fun a2 =>
 ld (a2.add 19) (.lf .ptr) fun v2 =>
 cl PP 70 #[.pointer v2] [lI] fun r1 =>
 K (.i r1.1)
theorem e69 (x0 : Option Addr) (K : Value -> HP) : A8 PP Hn Tryz.f69 [.pointer x0] K = t69 x0 K := by kernel_rfl
def t70 (x0 : Option Addr) (K : Value -> HP) : HP :=
 ifB (Option.isNone x0) (
 K (.i 0)) (
 A9 x0 fun a1 =>
 ld (a1.add 4) (.lf .map) fun v1 =>
 smR PP (Builtin.len_ #[180] 3 #[.map v1]) [lI] fun v2 =>
 K (.i v2.1))
theorem e70 (x0 : Option Addr) (K : Value -> HP) : A8 PP Hn Tryz.f70 [.pointer x0] K = t70 x0 K := by kernel_rfl
def t71 (x0 : SlV) (K : Value -> HP) : HP :=
 ifB (Option.isNone x0.a) (
 K (.slice none 0 0)) (
 nw (.cells #[] 102) fun n1 =>
 smW PP (Builtin.append_ #[55, 55] 55 #[.slice (some ⟨n1, 0, none⟩) 0 0, .slice x0.a x0.len x0.cap]) [.lf .sl] fun v1 =>
 K (.slice v1.1.a v1.1.len v1.1.cap))
theorem e71 (x0 : SlV) (K : Value -> HP) : A8 PP Hn Tryz.f71 [.slice x0.a x0.len x0.cap] K = t71 x0 K := by kernel_rfl
def t82 (x0 : Option Addr) (x1 : Int) (K : Value -> HP) : HP :=
 cl PP 45 #[.pointer x0, .i x1] [.lf .ptr] fun r1 =>
 ifB (!(Option.isNone r1.1)) (
 A9 r1.1 fun a1 =>
 ld (a1.add 1) (lI) fun v1 =>
 K (.i v1)) (
 K (.i 0))
theorem e82 (x0 : Option Addr) (x1 : Int) (K : Value -> HP) : A8 PP Hn Tryz.f82 [.pointer x0, .i x1] K = t82 x0 x1 K := by kernel_rfl
def t90 (x0 : Int) (x1 : Int) (x2 : Int) (K : Value -> HP) : HP :=
 ifB (decide ((x0 : Int) ≥ x1)) (
 K (.bool (decide ((x0 : Int) <= x2)))) (
 K (.bool false))
theorem e90 (x0 : Int) (x1 : Int) (x2 : Int) (K : Value -> HP) : A8 PP Hn Tryz.f90 [.i x0, .i x1, .i x2] K = t90 x0 x1 x2 K := by kernel_rfl
def h91 : D1 := ⟨[(0, [(8, lI)])], [], [(3, [0, 1, 2, 4, 5, 3, 6, 7, 8])]⟩
def t91 (x0 : Option Addr) (x1 : Int) (x2 : Int) (K : Value -> HP) : HP :=
 lp [lI] (0, ()) fun z1 go1 =>
 ifB (decide ((z1.1 : Int) < x1)) (
 A9 x0 fun a1 =>
 ld a1 (.lf .sl) fun v1 =>
 cl PP 163 #[.i x2] [.lf .sl] fun r1 =>
 keep (D0 a1 [.sv v1]) <|
 A9 v1.a fun a2 =>
 ixn z1.1 v1.len <|
 st (a2.add (z1.1.toNat * 1)) [.slice r1.1.a r1.1.len r1.1.cap] <|
 go1 (IntKind.i64.wrap (z1.1 + 1), ())) (
 K (.tuple #[]))
theorem e91 (x0 : Option Addr) (x1 : Int) (x2 : Int) (K : Value -> HP) : A8 PP h91 Tryz.f91 [.pointer x0, .i x1, .i x2] K = t91 x0 x1 x2 K := by kernel_rfl
def t92 (x0 : Int) (x1 : Int) (K : Value -> HP) : HP :=
 ifB (decide ((x0 : Int) < 1)) (
 K (.tuple #[.pointer none, .i 30])) (
 ifB (decide ((x0 : Int) > 64)) (
 K (.tuple #[.pointer none, .i 30])) (
 ifB (decide ((x1 : Int) < 1)) (
 K (.tuple #[.pointer none, .i 30])) (
 ifB (decide ((x1 : Int) > 8)) (
 K (.tuple #[.pointer none, .i 30])) (
 smA PP (Instr.makeSlice 219 (.i x0) (.i x0)) (.lf .sl) fun v1 =>
 nw (.cells #[.i x1, .slice v1.a v1.len v1.cap] 221) fun n1 =>
 K (.tuple #[.pointer (some ⟨n1, 0, none⟩), .i 0])))))
theorem e92 (x0 : Int) (x1 : Int) (K : Value -> HP) : A8 PP Hn Tryz.f92 [.i x0, .i x1] K = t92 x0 x1 K := by kernel_rfl
def t93 (x0 : Option Addr) (K : Value -> HP) : HP :=
 nw (.cells #[.i 0, .i 0, .i 0, .i 0] 23) fun n1 =>
 ifB (Option.isNone x0) (
 st ⟨n1, 0, none⟩ [.i 0, .i 0, .i 0, .i 0] <|
 ld ⟨n1, 0, none⟩ (.agg [.int .i64, .int .i64, .int .i64, .int .i64]) fun v1 =>
 K (.agg #[.i v1.1, .i v1.2.1, .i v1.2.2.1, .i v1.2.2.2.1])) (
 A9 x0 fun a1 =>
 ld (a1.add 3) (.agg [.int .i64, .int .i64, .int .i64, .int .i64]) fun v2 =>
 st ⟨n1, 0, none⟩ [.i v2.1, .i v2.2.1, .i v2.2.2.1, .i v2.2.2.2.1] <|
 ld ⟨n1, 0, none⟩ (.agg [.int .i64, .int .i64, .int .i64, .int .i64]) fun v3 =>
 K (.agg #[.i v3.1, .i v3.2.1, .i v3.2.2.1, .i v3.2.2.2.1]))
theorem e93 (x0 : Option Addr) (K : Value -> HP) : A8 PP Hn Tryz.f93 [.pointer x0] K = t93 x0 K := by kernel_rfl
def h94 : D1 := ⟨[], [], [(3, [0, 1, 2, 3, 4, 5, 6, 10, 11, 7, 8, 9, 12, 13, 14, 15, 16])]⟩
def t94 (x0 : ShV (.agg [.int .i64, .int .i64, .int .i64, .int .i64, .int .i64, .int .i64, .int .i64, .int .i64, .int .i64, .int .i64, .int .i64])) (K : Value -> HP) : HP :=
 nw (.cells #[.i x0.1, .i x0.2.1, .i x0.2.2.1, .i x0.2.2.2.1, .i x0.2.2.2.2.1, .i x0.2.2.2.2.2.1, .i x0.2.2.2.2.2.2.1, .i x0.2.2.2.2.2.2.2.1, .i x0.2.2.2.2.2.2.2.2.1, .i x0.2.2.2.2.2.2.2.2.2.1, .i x0.2.2.2.2.2.2.2.2.2.2.1] 25) fun n1 =>
 ld (Addr.add ⟨n1, 0, none⟩ 6) (lI) fun v1 =>
 cl PP 164 #[.i v1, .i 65536] [.lf .bool] fun r1 =>
 ifB r1.1 (
 ld (Addr.add ⟨n1, 0, none⟩ 7) (lI) fun v2 =>
 cl PP 164 #[.i v2, .i 64] [.lf .bool] fun r2 =>
 ld (Addr.add ⟨n1, 0, none⟩ 8) (lI) fun v3 =>
 cl PP 164 #[.i v3, .i 1048576] [.lf .bool] fun r3 =>
 ifB r3.1 (
 ld (Addr.add ⟨n1, 0, none⟩ 9) (lI) fun v4 =>
 cl PP 164 #[.i v4, .i 1073741824] [.lf .bool] fun r4 =>
 ifB r2.1 (
 ifB r4.1 (
 ld (Addr.add ⟨n1, 0, none⟩ 1) (lI) fun v5 =>
 ld (Addr.add ⟨n1, 0, none⟩ 2) (lI) fun v6 =>
 cl PP 62 #[.i v6] [lI] fun r5 =>
 keep (D0 (Addr.add ⟨n1, 0, none⟩ 1) [.i v5]) <|
 K (.bool (decide ((IntKind.i64.wrap (3 * (IntKind.i64.wrap (v5 - 2))) : Int) <= r5.1)))) (
 K (.bool false))) (
 K (.bool false))) (
 ifB r2.1 (
 K (.bool false)) (
 K (.bool false)))) (
 ld (Addr.add ⟨n1, 0, none⟩ 8) (lI) fun v7 =>
 cl PP 164 #[.i v7, .i 1048576] [.lf .bool] fun r6 =>
 ifB r6.1 (
 ld (Addr.add ⟨n1, 0, none⟩ 9) (lI) fun v8 =>
 cl PP 164 #[.i v8, .i 1073741824] [.lf .bool] fun r7 =>
 K (.bool false)) (
 K (.bool false)))
theorem e94 (x0 : ShV (.agg [.int .i64, .int .i64, .int .i64, .int .i64, .int .i64, .int .i64, .int .i64, .int .i64, .int .i64, .int .i64, .int .i64])) (K : Value -> HP) : A8 PP h94 Tryz.f94 [.agg #[.i x0.1, .i x0.2.1, .i x0.2.2.1, .i x0.2.2.2.1, .i x0.2.2.2.2.1, .i x0.2.2.2.2.2.1, .i x0.2.2.2.2.2.2.1, .i x0.2.2.2.2.2.2.2.1, .i x0.2.2.2.2.2.2.2.2.1, .i x0.2.2.2.2.2.2.2.2.2.1, .i x0.2.2.2.2.2.2.2.2.2.2.1]] K = t94 x0 K := by kernel_rfl
def h95 : D1 := ⟨[(1, [(41, lI)]), (3, [(62, lI)]), (5, [(78, lI)])], [], []⟩
def t95 (x0 : Option Addr) (K : Value -> HP) : HP :=
 nw (.cells #[.pointer x0] 29) fun n1 =>
 nw (.cells #[.slice none 0 0, .slice none 0 0, .i 0] 146) fun n2 =>
 ld ⟨n1, 0, none⟩ (.lf .ptr) fun v1 =>
 ifB (Option.isNone v1) (
 st ⟨n2, 0, none⟩ [.slice none 0 0, .slice none 0 0, .i 0] <|
 ld ⟨n2, 0, none⟩ (.agg [.sl, .sl, .int .i64]) fun v2 =>
 K (.tuple #[.agg #[.sv v2.1, .sv v2.2.1, .i v2.2.2.1], .i 1])) (
 ld ⟨n1, 0, none⟩ (.lf .ptr) fun v3 =>
 cl PP 18 #[.pointer v3] [.lf .bool] fun r1 =>
 ifB r1.1 (
 st ⟨n2, 0, none⟩ [.slice none 0 0, .slice none 0 0, .i 0] <|
 ld ⟨n2, 0, none⟩ (.agg [.sl, .sl, .int .i64]) fun v4 =>
 K (.tuple #[.agg #[.sv v4.1, .sv v4.2.1, .i v4.2.2.1], .i 11])) (
 ld ⟨n1, 0, none⟩ (.lf .ptr) fun v5 =>
 cl PP 165 #[.pointer v5] [.lf .sl, .lf .sl, lI] fun r2 =>
 nw (.cells #[.slice none 0 0] 243) fun n3 =>
 st ⟨n3, 0, none⟩ [.slice r2.2.1.a r2.2.1.len r2.2.1.cap] <|
 ifB ((r2.2.2.1 : Int) != 0) (
 st ⟨n2, 0, none⟩ [.slice none 0 0, .slice none 0 0, .i 0] <|
 ld ⟨n2, 0, none⟩ (.agg [.sl, .sl, .int .i64]) fun v6 =>
 K (.tuple #[.agg #[.sv v6.1, .sv v6.2.1, .i v6.2.2.1], .i r2.2.2.1])) (
 nw (.cells #[.slice none 0 0, .slice none 0 0, .i 0] 146) fun n4 =>
 st ⟨n4, 0, none⟩ [.slice r2.1.a r2.1.len r2.1.cap, .slice none 0 0, .i 0] <|
 lp [lI] (0, ()) fun z1 go1 =>
 ifB (decide ((z1.1 : Int) < r2.1.len)) (
 A9 r2.1.a fun a1 =>
 ixn z1.1 r2.1.len <|
 ld (a1.add (z1.1.toNat * 3)) (.agg [.int .i64, .int .i64, .sl]) fun v7 =>
 nw (.cells #[.i 0, .i 0, .slice none 0 0] 154) fun n5 =>
 st ⟨n5, 0, none⟩ [.i v7.1, .i v7.2.1, .slice v7.2.2.1.a v7.2.2.1.len v7.2.2.1.cap] <|
 ld (Addr.add ⟨n4, 0, none⟩ 2) (lI) fun v8 =>
 ld (Addr.add ⟨n5, 0, none⟩ 1) (lI) fun v9 =>
 st (Addr.add ⟨n4, 0, none⟩ 2) [.i (Ab4 v8 v9)] <|
 go1 (IntKind.i64.wrap (z1.1 + 1), ())) (
 nw (.cells #[.slice none 0 0] 144) fun n6 =>
 nw (.map #[] 0) fun n7 =>
 nw (.cells #[.map none] 246) fun n8 =>
 st ⟨n8, 0, none⟩ [.map (some n7)] <|
 cl PP 166 #[.sv r2.1, .i 2, .func (.func 167) #[] #[.pointer (some ⟨n1, 0, none⟩), .pointer (some ⟨n6, 0, none⟩), .pointer (some ⟨n8, 0, none⟩)]] [] fun r3 =>
 nw (.map #[] 0) fun n9 =>
 nw (.cells #[.map none] 249) fun n10 =>
 st ⟨n10, 0, none⟩ [.map (some n9)] <|
 cl PP 166 #[.sv r2.1, .i 3, .func (.func 168) #[] #[.pointer (some ⟨n3, 0, none⟩), .pointer (some ⟨n10, 0, none⟩)]] [] fun r4 =>
 ld ⟨n6, 0, none⟩ (.lf .sl) fun v10 =>
 lp [lI] (0, ()) fun z2 go2 =>
 ifB (decide ((z2.1 : Int) < v10.len)) (
 A9 v10.a fun a2 =>
 ixn z2.1 v10.len <|
 ld (a2.add (z2.1.toNat * 4)) (.agg [.str, .int .i64, .int .i64, .int .i64]) fun v11 =>
 nw (.cells #[.string ByteArray.empty, .i 0, .i 0, .i 0] 162) fun n11 =>
 st ⟨n11, 0, none⟩ [.string v11.1, .i v11.2.1, .i v11.2.2.1, .i v11.2.2.2.1] <|
 ld ⟨n10, 0, none⟩ (.lf .map) fun v12 =>
 ld ⟨n8, 0, none⟩ (.lf .map) fun v13 =>
 ld ⟨n11, 0, none⟩ (.lf .str) fun v14 =>
 smR PP (Instr.lookup 246 (.map v13) (.string v14) false) [.agg [.int .i64, .int .i64, .int .i64]] fun v15 =>
 smR PP (Instr.lookup 249 (.map v12) (.agg #[.i v15.1.1, .i v15.1.2.1, .i v15.1.2.2.1]) false) [.lf .bool] fun v16 =>
 ifB v16.1 (
 ld ⟨n8, 0, none⟩ (.lf .map) fun v17 =>
 ld ⟨n11, 0, none⟩ (.lf .str) fun v18 =>
 smW PP (Builtin.delete_ #[246, 9] 0 #[.map v17, .string v18]) [] fun v19 =>
 go2 (IntKind.i64.wrap (z2.1 + 1), ())) (
 go2 (IntKind.i64.wrap (z2.1 + 1), ()))) (
 ld ⟨n6, 0, none⟩ (.lf .sl) fun v20 =>
 lp [lI] (0, ()) fun z3 go3 =>
 ifB (decide ((z3.1 : Int) < v20.len)) (
 A9 v20.a fun a3 =>
 ixn z3.1 v20.len <|
 ld (a3.add (z3.1.toNat * 4)) (.agg [.str, .int .i64, .int .i64, .int .i64]) fun v21 =>
 nw (.cells #[.string ByteArray.empty, .i 0, .i 0, .i 0] 162) fun n12 =>
 st ⟨n12, 0, none⟩ [.string v21.1, .i v21.2.1, .i v21.2.2.1, .i v21.2.2.2.1] <|
 ld ⟨n8, 0, none⟩ (.lf .map) fun v22 =>
 ld ⟨n12, 0, none⟩ (.lf .str) fun v23 =>
 smR PP (Instr.lookup 246 (.map v22) (.string v23) true) [.agg [.int .i64, .int .i64, .int .i64], .lf .bool] fun v24 =>
 nw (.cells #[.i 0, .i 0, .i 0] 102) fun n13 =>
 st ⟨n13, 0, none⟩ [.i v24.1.1, .i v24.1.2.1, .i v24.1.2.2.1] <|
 ifB v24.2.1 (
 ld ⟨n13, 0, none⟩ (.agg [.int .i64, .int .i64, .int .i64]) fun v25 =>
 ld (Addr.add ⟨n12, 0, none⟩ 1) (.agg [.int .i64, .int .i64, .int .i64]) fun v26 =>
 smP PP (binOp .eql 102 (.agg #[.i v25.1, .i v25.2.1, .i v25.2.2.1]) (.agg #[.i v26.1, .i v26.2.1, .i v26.2.2.1])) (.lf .bool) fun v27 =>
 ifB v27 (
 ld (Addr.add ⟨n4, 0, none⟩ 1) (.lf .sl) fun v28 =>
 ld ⟨n12, 0, none⟩ (.agg [.str, .int .i64, .int .i64, .int .i64]) fun v29 =>
 nw (.cells #[.string v29.1, .i v29.2.1, .i v29.2.2.1, .i v29.2.2.2.1] 162) fun n14 =>
 smW PP (Builtin.append_ #[144, 144] 144 #[.sv v28, .slice (some ⟨n14, 0, none⟩) 1 1]) [.lf .sl] fun v30 =>
 st (Addr.add ⟨n4, 0, none⟩ 1) [.slice v30.1.a v30.1.len v30.1.cap] <|
 go3 (IntKind.i64.wrap (z3.1 + 1), ())) (
 go3 (IntKind.i64.wrap (z3.1 + 1), ()))) (
 go3 (IntKind.i64.wrap (z3.1 + 1), ()))) (
 ld ⟨n4, 0, none⟩ (.agg [.sl, .sl, .int .i64]) fun v31 =>
 st ⟨n2, 0, none⟩ [.slice v31.1.a v31.1.len v31.1.cap, .slice v31.2.1.a v31.2.1.len v31.2.1.cap, .i v31.2.2.1] <|
 ld ⟨n2, 0, none⟩ (.agg [.sl, .sl, .int .i64]) fun v32 =>
 K (.tuple #[.agg #[.sv v32.1, .sv v32.2.1, .i v32.2.2.1], .i 0])))))))
theorem e95 (x0 : Option Addr) (K : Value -> HP) : A8 PP h95 Tryz.f95 [.pointer x0] K = t95 x0 K := by kernel_rfl
def t96 (x0 : Int) (x1 : Int) (x2 : Int) (x3 : Int) (K : Value -> HP) : HP :=
 nw (.cells #[.i 1048576] 3) fun n1 =>
 cl PP 123 #[.i x0, .slice (some ⟨n1, 0, none⟩) 1 1] [lI] fun r1 =>
 nw (.cells #[.i 253402300799] 3) fun n2 =>
 cl PP 123 #[.i x2, .slice (some ⟨n2, 0, none⟩) 1 1] [lI] fun r2 =>
 nw (.cells #[.i 1073741824] 3) fun n3 =>
 cl PP 123 #[.i x1, .slice (some ⟨n3, 0, none⟩) 1 1] [lI] fun r3 =>
 nw (.cells #[.i r1.1, .i r2.1, .i r3.1, .i 0] 171) fun n4 =>
 ld (Addr.add ⟨n4, 0, none⟩ 2) (lI) fun v1 =>
 nw (.cells #[.i v1] 3) fun n5 =>
 cl PP 123 #[.i x3, .slice (some ⟨n5, 0, none⟩) 1 1] [lI] fun r4 =>
 st (Addr.add ⟨n4, 0, none⟩ 3) [.i r4.1] <|
 K (.pointer (some ⟨n4, 0, none⟩))
theorem e96 (x0 : Int) (x1 : Int) (x2 : Int) (x3 : Int) (K : Value -> HP) : A8 PP Hn Tryz.f96 [.i x0, .i x1, .i x2, .i x3] K = t96 x0 x1 x2 x3 K := by kernel_rfl
def t97 (x0 : Int) (K : Value -> HP) : HP :=
 nw (.map #[] 0) fun n1 =>
 nw (.cells #[.i (Ab4 x0 0), .i 0, .pointer none, .pointer none, .map (some n1)] 182) fun n2 =>
 K (.pointer (some ⟨n2, 0, none⟩))
theorem e97 (x0 : Int) (K : Value -> HP) : A8 PP Hn Tryz.f97 [.i x0] K = t97 x0 K := by kernel_rfl
def t98 (x0 : Int) (K : Value -> HP) : HP :=
 nw (.cells #[.i (Y1 (Ab4 x0 0) 64), .int .u64 0, .int .u64 0, .int .u64 0, .int .u64 0, .int .u64 0, .int .u64 0, .int .u64 0, .int .u64 0, .int .u64 0, .int .u64 0, .int .u64 0, .int .u64 0, .int .u64 0, .int .u64 0, .int .u64 0, .int .u64 0, .int .u64 0, .int .u64 0, .int .u64 0, .int .u64 0, .int .u64 0, .int .u64 0, .int .u64 0, .int .u64 0, .int .u64 0, .int .u64 0, .int .u64 0, .int .u64 0, .int .u64 0, .int .u64 0, .int .u64 0, .int .u64 0, .int .u64 0, .int .u64 0, .int .u64 0, .int .u64 0, .int .u64 0, .int .u64 0, .int .u64 0, .int .u64 0, .int .u64 0, .int .u64 0, .int .u64 0, .int .u64 0, .int .u64 0, .int .u64 0, .int .u64 0, .int .u64 0, .int .u64 0, .int .u64 0, .int .u64 0, .int .u64 0, .int .u64 0, .int .u64 0, .int .u64 0, .int .u64 0, .int .u64 0, .int .u64 0, .int .u64 0, .int .u64 0, .int .u64 0, .int .u64 0, .int .u64 0, .int .u64 0, .i 0, .i 0] 256) fun n1 =>
 K (.pointer (some ⟨n1, 0, none⟩))
theorem e98 (x0 : Int) (K : Value -> HP) : A8 PP Hn Tryz.f98 [.i x0] K = t98 x0 K := by kernel_rfl
def h99 : D1 := ⟨[(0, [(25, lI)]), (2, [(40, lI)])], [], []⟩
def t99 (x0 : SlV) (x1 : SlV) (K : Value -> HP) : HP :=
 ifB (decide ((x0.len : Int) < 1)) (
 K (.tuple #[.pointer none, .i 2])) (
 ifB (decide ((x0.len : Int) > 16)) (
 K (.tuple #[.pointer none, .i 2])) (
 cl PP 171 #[.sv x0] [.lf .sl] fun r1 =>
 nw (.cells #[.slice r1.1.a r1.1.len r1.1.cap, .slice none 0 0] 259) fun n1 =>
 lp [lI] (0, ()) fun z1 go1 =>
 ifB (decide ((z1.1 : Int) < x0.len)) (
 A9 x0.a fun a1 =>
 ixn z1.1 x0.len <|
 ld (a1.add (z1.1.toNat * 3)) (.agg [.int .i64, .bool, .bool]) fun v1 =>
 nw (.cells #[.i 0, .bool false, .bool false] 194) fun n2 =>
 st ⟨n2, 0, none⟩ [.i v1.1, .bool v1.2.1, .bool v1.2.2.1] <|
 ld ⟨n2, 0, none⟩ (lI) fun v2 =>
 ifB (decide ((v2 : Int) < 0)) (
 K (.tuple #[.pointer none, .i 2])) (
 ld ⟨n2, 0, none⟩ (lI) fun v3 =>
 ifB (decide ((v3 : Int) > 1048576)) (
 K (.tuple #[.pointer none, .i 2])) (
 go1 (IntKind.i64.wrap (z1.1 + 1), ())))) (
 lp [lI] (0, ()) fun z2 go2 =>
 ifB (decide ((z2.1 : Int) < x1.len)) (
 A9 x1.a fun a2 =>
 ixn z2.1 x1.len <|
 ld (a2.add (z2.1.toNat * 1)) (lI) fun v4 =>
 cl PP 172 #[.pointer (some ⟨n1, 0, none⟩), .i v4] [.lf .bool] fun r2 =>
 ifB (!r2.1) (
 K (.tuple #[.pointer none, .i 2])) (
 ld ⟨n1, 0, none⟩ (.lf .sl) fun v5 =>
 A9 v5.a fun a3 =>
 ixn v4 v5.len <|
 st (Addr.add (a3.add (v4.toNat * 3)) 2) [.bool false] <|
 ld (Addr.add ⟨n1, 0, none⟩ 1) (.lf .sl) fun v6 =>
 nw (.cells #[.i v4] 3) fun n3 =>
 smW PP (Builtin.append_ #[49, 49] 49 #[.sv v6, .slice (some ⟨n3, 0, none⟩) 1 1]) [.lf .sl] fun v7 =>
 st (Addr.add ⟨n1, 0, none⟩ 1) [.slice v7.1.a v7.1.len v7.1.cap] <|
 go2 (IntKind.i64.wrap (z2.1 + 1), ()))) (
 K (.tuple #[.pointer (some ⟨n1, 0, none⟩), .i 0])))))
theorem e99 (x0 : SlV) (x1 : SlV) (K : Value -> HP) : A8 PP h99 Tryz.f99 [.sv x0, .sv x1] K = t99 x0 x1 K := by kernel_rfl
def h100 : D1 := ⟨[(0, [(3, .lf .sl), (8, lI)])], [], []⟩
def t100 (x0 : Option Addr) (K : Value -> HP) : HP :=
 cl PP 93 #[.pointer x0] [.agg [.int .i64, .int .i64, .int .i64, .int .i64]] fun r1 =>
 lp [.lf .sl, lI] (⟨none, 0, 0⟩, 0, ()) fun z1 go1 =>
 ifB (decide ((z1.2.1 : Int) < r1.1.1)) (
 cl PP 16 #[.pointer x0, .i z1.2.1] [lI] fun r2 =>
 cl PP 15 #[.pointer x0, .i z1.2.1] [.lf .bool] fun r3 =>
 cl PP 82 #[.pointer x0, .i z1.2.1] [lI] fun r4 =>
 nw (.cells #[.i r2.1, .bool r3.1, .bool ((r4.1 : Int) != 0)] 194) fun n1 =>
 smW PP (Builtin.append_ #[159, 159] 159 #[.sv z1.1, .slice (some ⟨n1, 0, none⟩) 1 1]) [.lf .sl] fun v1 =>
 go1 (⟨v1.1.a, v1.1.len, v1.1.cap⟩, IntKind.i64.wrap (z1.2.1 + 1), ())) (
 K (.sv z1.1))
theorem e100 (x0 : Option Addr) (K : Value -> HP) : A8 PP h100 Tryz.f100 [.pointer x0] K = t100 x0 K := by kernel_rfl
def h101 : D1 := ⟨[], [], [(3, [0, 1, 2, 3, 4, 5, 6, 7, 8, 9, 10, 11, 12]), (1, [0, 1, 2, 3, 5, 6, 4, 8, 7, 9, 10, 11, 12, 13, 14, 15])]⟩
def t101 (x0 : Option Addr) (x1 : ByteArray) (x2 : ShV (.agg [.int .i64, .int .i64, .int .i64])) (K : Value -> HP) : HP :=
 nw (.cells #[.i x2.1, .i x2.2.1, .i x2.2.2.1] 102) fun n1 =>
 A9 x0 fun a1 =>
 ld (Addr.add (a1.add 19) 2) (.lf .ptr) fun v1 =>
 ld ⟨n1, 0, none⟩ (.agg [.int .i64, .int .i64, .int .i64]) fun v2 =>
 cl PP 41 #[.pointer x0, .string x1] [.lf (.int .u64)] fun r1 =>
 keep (D0 ⟨n1, 0, none⟩ [.i v2.1, .i v2.2.1, .i v2.2.2.1]) <|
 keep (D0 (Addr.add (a1.add 19) 2) [.pointer v1]) <|
 cl PP 173 #[.pointer v1, .int .u64 r1.1, .agg #[.i v2.1, .i v2.2.1, .i v2.2.2.1]] [.agg [.int .i64, .int .i64, .int .i64], .lf .bool] fun r2 =>
 nw (.cells #[.i 0, .i 0, .i 0] 102) fun n2 =>
 st ⟨n2, 0, none⟩ [.i r2.1.1, .i r2.1.2.1, .i r2.1.2.2.1] <|
 ifB r2.2.1 (
 A9 x0 fun a2 =>
 ld (Addr.add (a2.add 11) 6) (.lf .sl) fun v3 =>
 ld ⟨n2, 0, none⟩ (.agg [.int .i64, .int .i64, .int .i64]) fun v4 =>
 nw (.cells #[.i v4.1, .i v4.2.1, .i v4.2.2.1] 102) fun n3 =>
 smW PP (Builtin.append_ #[55, 55] 55 #[.sv v3, .slice (some ⟨n3, 0, none⟩) 1 1]) [.lf .sl] fun v5 =>
 A9 x0 fun a3 =>
 st (Addr.add (a3.add 11) 6) [.slice v5.1.a v5.1.len v5.1.cap] <|
 K (.tuple #[])) (
 K (.tuple #[]))
theorem e101 (x0 : Option Addr) (x1 : ByteArray) (x2 : ShV (.agg [.int .i64, .int .i64, .int .i64])) (K : Value -> HP) : A8 PP h101 Tryz.f101 [.pointer x0, .string x1, .agg #[.i x2.1, .i x2.2.1, .i x2.2.2.1]] K = t101 x0 x1 x2 K := by kernel_rfl
def h102 : D1 := ⟨[(0, [(9, lI)])], [], []⟩
def t102 (x0 : SlV) (x1 : Int) (K : Value -> HP) : HP :=
 lp [lI] (0, ()) fun z1 go1 =>
 ifB (decide ((z1.1 : Int) < x0.len)) (
 A9 x0.a fun a1 =>
 ixn z1.1 x0.len <|
 ld (a1.add (z1.1.toNat * 1)) (.lf (.int .u64)) fun v1 =>
 ifB ((x1 : Int) == v1) (
 K (.i z1.1)) (
 go1 (IntKind.i64.wrap (z1.1 + 1), ()))) (
 K (.i (-1)))
theorem e102 (x0 : SlV) (x1 : Int) (K : Value -> HP) : A8 PP h102 Tryz.f102 [.sv x0, .int .u64 x1] K = t102 x0 x1 K := by kernel_rfl
def h103 : D1 := ⟨[(0, [(3, .lf .sl), (9, lI)])], [], [(5, [0, 1, 2, 3, 4, 6, 9, 10, 5, 7, 8, 11, 12, 13, 14, 15])]⟩
def t103 (x0 : Option Addr) (K : Value -> HP) : HP :=
 A9 x0 fun a1 =>
 ld (a1.add 66) (lI) fun v1 =>
 lp [.lf .sl, lI] (⟨none, 0, 0⟩, 0, ()) fun z1 go1 =>
 ifB (decide ((z1.2.1 : Int) < v1)) (
 A9 x0 fun a2 =>
 A9 x0 fun a3 =>
 ld (a2.add 65) (lI) fun v2 =>
 req ((64 : Int) ≠ 0) <|
 ixn (Int.tmod (IntKind.i64.wrap (v2 + z1.2.1)) 64) 64 <|
 ld (Addr.add (a3.add 1) ((Int.tmod (IntKind.i64.wrap (v2 + z1.2.1)) 64).toNat * 1)) (.lf (.int .u64)) fun v3 =>
 nw (.cells #[.int .u64 v3] 91) fun n1 =>
 smW PP (Builtin.append_ #[165, 165] 165 #[.sv z1.1, .slice (some ⟨n1, 0, none⟩) 1 1]) [.lf .sl] fun v4 =>
 go1 (⟨v4.1.a, v4.1.len, v4.1.cap⟩, IntKind.i64.wrap (z1.2.1 + 1), ())) (
 K (.sv z1.1))
theorem e103 (x0 : Option Addr) (K : Value -> HP) : A8 PP h103 Tryz.f103 [.pointer x0] K = t103 x0 K := by kernel_rfl
def t104 (x0 : Int) (x1 : ByteArray) (K : Value -> HP) : HP :=
 smA PP (Conv.stringToBytes 5 x1) (.lf .sl) fun v1 =>
 cl PP 174 #[.int .u64 (Ag7 .xor .u64 (IntKind.u64.wrap x0) 11400714819323198485), .sv v1] [.lf (.int .u64)] fun r1 =>
 req ((0 : Int) <= 32) <|
 K (.int .u64 (Ag7 .xor .u64 (IntKind.u64.wrap ((Ag7 .xor .u64 r1.1 (IntKind.u64.wrap x1.size)) * 11400714819323198485)) (Int.fdiv (IntKind.u64.wrap ((Ag7 .xor .u64 r1.1 (IntKind.u64.wrap x1.size)) * 11400714819323198485)) (2 ^ (min (32 : Int).toNat IntKind.u64.bits)))))
theorem e104 (x0 : Int) (x1 : ByteArray) (K : Value -> HP) : A8 PP Hn Tryz.f104 [.i x0, .string x1] K = t104 x0 x1 K := by kernel_rfl
def t105 (x0 : Option Addr) (x1 : ByteArray) (K : Value -> HP) : HP :=
 cl PP 116 #[.pointer x0, .string x1] [.lf .ptr] fun r1 =>
 ifB (Option.isNone r1.1) (
 K (.bool false)) (
 cl PP 175 #[.pointer x0, .pointer r1.1] [] fun r2 =>
 K (.bool true))
theorem e105 (x0 : Option Addr) (x1 : ByteArray) (K : Value -> HP) : A8 PP Hn Tryz.f105 [.pointer x0, .string x1] K = t105 x0 x1 K := by kernel_rfl
def t106 (x0 : Option Addr) (x1 : Int) (x2 : ShV (.agg [.int .i64, .int .i64, .int .i64])) (K : Value -> HP) : HP :=
 nw (.cells #[.i x2.1, .i x2.2.1, .i x2.2.2.1] 102) fun n1 =>
 ld ⟨n1, 0, none⟩ (.agg [.int .i64, .int .i64, .int .i64]) fun v1 =>
 cl PP 176 #[.pointer x0, .int .u64 x1, .agg #[.i v1.1, .i v1.2.1, .i v1.2.2.1]] [.agg [.int .i64, .int .i64, .int .i64, .int .i64, .int .i64], .lf .bool] fun r1 =>
 nw (.cells #[.i 0, .i 0, .i 0, .i 0, .i 0] 204) fun n2 =>
 st ⟨n2, 0, none⟩ [.i r1.1.1, .i r1.1.2.1, .i r1.1.2.2.1, .i r1.1.2.2.2.1, .i r1.1.2.2.2.2.1] <|
 K (.bool r1.2.1)
theorem e106 (x0 : Option Addr) (x1 : Int) (x2 : ShV (.agg [.int .i64, .int .i64, .int .i64])) (K : Value -> HP) : A8 PP Hn Tryz.f106 [.pointer x0, .int .u64 x1, .agg #[.i x2.1, .i x2.2.1, .i x2.2.2.1]] K = t106 x0 x1 x2 K := by kernel_rfl
def t107 (x0 : Int) (K : Value -> HP) : HP :=
 ifB (decide ((x0 : Int) ≥ 1)) (
 K (.bool (decide ((x0 : Int) <= 255)))) (
 K (.bool false))
theorem e107 (x0 : Int) (K : Value -> HP) : A8 PP Hn Tryz.f107 [.i x0] K = t107 x0 K := by kernel_rfl
def h108 : D1 := ⟨[(0, [(14, lI)])], [], []⟩
def t108 (x0 : Int) (x1 : Int) (K : Value -> HP) : HP :=
 ifB (decide ((x0 : Int) < 1)) (
 K (.i 0)) (
 ifB (decide ((x1 : Int) < 2)) (
 K (.i 0)) (
 ld ⟨0, 0, none⟩ (.agg [.int .i64, .int .i64, .int .i64, .int .i64]) fun v1 =>
 lp [lI] (0, ()) fun z1 go1 =>
 ifB (decide ((z1.1 : Int) < 4)) (
 smP PP (Instr.index 266 (.agg #[.i v1.1, .i v1.2.1, .i v1.2.2.1, .i v1.2.2.2.1]) (.i z1.1)) (lI) fun v2 =>
 ifB (decide ((v2 : Int) ≥ x0)) (
 ifB (decide ((v2 : Int) <= (IntKind.i64.wrap (x1 - 2)))) (
 K (.i v2)) (
 go1 (IntKind.i64.wrap (z1.1 + 1), ()))) (
 go1 (IntKind.i64.wrap (z1.1 + 1), ()))) (
 K (.i 0))))
theorem e108 (x0 : Int) (x1 : Int) (K : Value -> HP) : A8 PP h108 Tryz.f108 [.i x0, .i x1] K = t108 x0 x1 K := by kernel_rfl
def t109 (x0 : Option Addr) (x1 : SlV) (K : Value -> HP) : HP :=
 A9 x0 fun a1 =>
 slc ⟨some (a1.add 1), 64, 64⟩ 0 64 64 1 fun s1 =>
 smW PP (Builtin.copy_ #[165, 165] 3 #[.sv s1, .sv x1]) [lI] fun v1 =>
 A9 x0 fun a2 =>
 st (a2.add 65) [.i 0] <|
 A9 x0 fun a3 =>
 st (a3.add 66) [.i v1.1] <|
 K (.tuple #[])
theorem e109 (x0 : Option Addr) (x1 : SlV) (K : Value -> HP) : A8 PP Hn Tryz.f109 [.pointer x0, .sv x1] K = t109 x0 x1 K := by kernel_rfl
def h110 : D1 := ⟨[], [], [(5, [0, 1, 2, 3, 4, 5, 6, 7])]⟩
def t110 (x0 : SlV) (x1 : Int) (x2 : Int) (K : Value -> HP) : HP :=
 slc ⟨x0.a, x0.len, x0.cap⟩ x1 x2 x0.len 1 fun s1 =>
 ifB ((x1 : Int) == x2) (
 K (.sv x0)) (
 slc ⟨x0.a, x0.len, x0.cap⟩ 0 x1 x0.cap 1 fun s2 =>
 slc ⟨x0.a, x0.len, x0.cap⟩ x2 x0.len x0.cap 1 fun s3 =>
 smW PP (Builtin.append_ #[165, 165] 165 #[.sv s2, .sv s3]) [.lf .sl] fun v1 =>
 slc ⟨v1.1.a, v1.1.len, v1.1.cap⟩ v1.1.len x0.len v1.1.cap 1 fun s4 =>
 smW PP (Builtin.clear_ #[165] 0 #[.sv s4]) [] fun v2 =>
 K (.sv v1.1))
theorem e110 (x0 : SlV) (x1 : Int) (x2 : Int) (K : Value -> HP) : A8 PP h110 Tryz.f110 [.sv x0, .i x1, .i x2] K = t110 x0 x1 x2 K := by kernel_rfl
def h111 : D1 := ⟨[(1, [(13, .lf .sl), (14, .lf .sl), (56, lI)])], [], []⟩
def t111 (x0 : ByteArray) (x1 : SlV) (x2 : ShV (.agg [.int .i64, .int .i64, .int .i64, .int .i64])) (K : Value -> HP) : HP :=
 nw (.cells #[.i x2.1, .i x2.2.1, .i x2.2.2.1, .i x2.2.2.2.1] 23) fun n1 =>
 cl PP 107 #[.i x0.size] [.lf .bool] fun r1 =>
 ifB (!r1.1) (
 K (.tuple #[.slice none 0 0, .i 2])) (
 ifB (decide ((x1.len : Int) > 65536)) (
 K (.tuple #[.slice none 0 0, .i 4])) (
 ld ⟨n1, 0, none⟩ (.agg [.int .i64, .int .i64, .int .i64, .int .i64]) fun v1 =>
 cl PP 47 #[.i x0.size, .i x1.len, .agg #[.i v1.1, .i v1.2.1, .i v1.2.2.1, .i v1.2.2.2.1]] [lI] fun r2 =>
 ifB ((r2.1 : Int) == 0) (
 K (.tuple #[.slice none 0 0, .i 14])) (
 cl PP 177 #[.slice none 0 0, .string x0] [.lf .sl, lI] fun r3 =>
 smR PP (Conv.bytesToString (.sv x1)) [.lf .str] fun v2 =>
 cl PP 177 #[.slice none 0 0, .string v2.1] [.lf .sl, lI] fun r4 =>
 nw (.cells #[.slice r3.1.a r3.1.len r3.1.cap, .slice r4.1.a r4.1.len r4.1.cap] 27) fun n2 =>
 cl PP 178 #[.slice (some ⟨n2, 0, none⟩) 2 2] [.lf .sl] fun r5 =>
 cl PP 179 #[.sv r5.1] [lI] fun r6 =>
 cl PP 132 #[.sv r5.1, .i r6.1, .i 4] [.lf .sl, lI] fun r7 =>
 lp [.lf .sl, .lf .sl, lI] (⟨r7.1.a, r7.1.len, r7.1.cap⟩, ⟨none, 0, 0⟩, 0, ()) fun z1 go1 =>
 ifB (decide ((z1.2.2.1 : Int) < r2.1)) (
 ld (Addr.add ⟨n1, 0, none⟩ 2) (lI) fun v3 =>
 cl PP 62 #[.i v3] [lI] fun r8 =>
 slc ⟨z1.1.a, z1.1.len, z1.1.cap⟩ 0 (Y1 z1.1.len r8.1) z1.1.cap 1 fun s1 =>
 nw (.cells #[.slice s1.a s1.len s1.cap] 27) fun n3 =>
 cl PP 178 #[.slice (some ⟨n3, 0, none⟩) 1 1] [.lf .sl] fun r9 =>
 nw (.cells #[.slice r9.1.a r9.1.len r9.1.cap] 27) fun n4 =>
 smW PP (Builtin.append_ #[96, 96] 96 #[.sv z1.2.1, .slice (some ⟨n4, 0, none⟩) 1 1]) [.lf .sl] fun v4 =>
 slc ⟨z1.1.a, z1.1.len, z1.1.cap⟩ (Y1 z1.1.len r8.1) z1.1.len z1.1.cap 1 fun s2 =>
 go1 (⟨s2.a, s2.len, s2.cap⟩, ⟨v4.1.a, v4.1.len, v4.1.cap⟩, IntKind.i64.wrap (z1.2.2.1 + 1), ())) (
 K (.tuple #[.sv z1.2.1, .i 0])))))
theorem e111 (x0 : ByteArray) (x1 : SlV) (x2 : ShV (.agg [.int .i64, .int .i64, .int .i64, .int .i64])) (K : Value -> HP) : A8 PP h111 Tryz.f111 [.string x0, .sv x1, .agg #[.i x2.1, .i x2.2.1, .i x2.2.2.1, .i x2.2.2.2.1]] K = t111 x0 x1 x2 K := by kernel_rfl
def h112 : D1 := ⟨[], [], [(1, [0, 1, 2, 3, 6, 7, 8, 9, 4, 5, 10, 11, 12, 13])]⟩
def t112 (x0 : Option Addr) (K : Value -> HP) : HP :=
 A9 x0 fun a1 =>
 A9 x0 fun a2 =>
 ld a1 (.lf .str) fun v1 =>
 ld (a2.add 1) (.lf .sl) fun v2 =>
 K (.i (IntKind.i64.wrap (v1.size + v2.len)))
theorem e112 (x0 : Option Addr) (K : Value -> HP) : A8 PP h112 Tryz.f112 [.pointer x0] K = t112 x0 K := by kernel_rfl
def h113 : D1 := ⟨[], [], [(1, [0, 1, 2, 3, 4, 5, 7, 8, 9, 6, 10, 11, 12, 13])]⟩
def t113 (x0 : Option Addr) (K : Value -> HP) : HP :=
 ifB (!(Option.isNone x0)) (
 A9 x0 fun a1 =>
 A9 x0 fun a2 =>
 ld (a1.add 1) (lI) fun v1 =>
 ld a2 (lI) fun v2 =>
 K (.bool (decide ((v1 : Int) > v2)))) (
 K (.bool false))
theorem e113 (x0 : Option Addr) (K : Value -> HP) : A8 PP h113 Tryz.f113 [.pointer x0] K = t113 x0 K := by kernel_rfl
def t114 (x0 : Option Addr) (K : Value -> HP) : HP :=
 nw (.cells #[.string ByteArray.empty, .slice none 0 0, .i 0] 179) fun n1 =>
 ifB (Option.isNone x0) (
 st ⟨n1, 0, none⟩ [.string ByteArray.empty, .slice none 0 0, .i 0] <|
 ld ⟨n1, 0, none⟩ (.agg [.str, .sl, .int .i64]) fun v1 =>
 K (.tuple #[.agg #[.string v1.1, .sv v1.2.1, .i v1.2.2.1], .bool false])) (
 A9 x0 fun a1 =>
 ld (a1.add 2) (.lf .ptr) fun v2 =>
 ifB (Option.isNone v2) (
 st ⟨n1, 0, none⟩ [.string ByteArray.empty, .slice none 0 0, .i 0] <|
 ld ⟨n1, 0, none⟩ (.agg [.str, .sl, .int .i64]) fun v3 =>
 K (.tuple #[.agg #[.string v3.1, .sv v3.2.1, .i v3.2.2.1], .bool false])) (
 A9 x0 fun a2 =>
 ld (a2.add 2) (.lf .ptr) fun v4 =>
 cl PP 175 #[.pointer x0, .pointer v4] [] fun r1 =>
 A9 v4 fun a3 =>
 ld a3 (.agg [.str, .sl, .int .i64]) fun v5 =>
 st ⟨n1, 0, none⟩ [.string v5.1, .slice v5.2.1.a v5.2.1.len v5.2.1.cap, .i v5.2.2.1] <|
 ld ⟨n1, 0, none⟩ (.agg [.str, .sl, .int .i64]) fun v6 =>
 K (.tuple #[.agg #[.string v6.1, .sv v6.2.1, .i v6.2.2.1], .bool true])))
theorem e114 (x0 : Option Addr) (K : Value -> HP) : A8 PP Hn Tryz.f114 [.pointer x0] K = t114 x0 K := by kernel_rfl
def h115 : D1 := ⟨[], [(5, [])], [(5, [0, 1, 2, 3, 5, 6, 7, 11, 12, 13, 4, 8, 9, 10, 14, 15]), (2, [0, 1, 2, 4, 5, 6, 3, 7, 8])]⟩
def t115 (x0 : Option Addr) (x1 : Int) (K : Value -> HP) : HP :=
 ifB (Option.isNone x0) (
 K (.tuple #[])) (
 A9 x0 fun a1 =>
 ld a1 (lI) fun v1 =>
 ifB ((v1 : Int) == 0) (
 K (.tuple #[])) (
 cl PP 48 #[.pointer x0, .int .u64 x1] [.lf .bool] fun r1 =>
 jn (fun y1 : RsV [] =>
 A9 x0 fun a8 =>
 A9 x0 fun a9 =>
 A9 x0 fun a10 =>
 ld (a8.add 65) (lI) fun v6 =>
 ld (a9.add 66) (lI) fun v7 =>
 req ((64 : Int) ≠ 0) <|
 ixn (Int.tmod (IntKind.i64.wrap (v6 + v7)) 64) 64 <|
 st (Addr.add (a10.add 1) ((Int.tmod (IntKind.i64.wrap (v6 + v7)) 64).toNat * 1)) [.int .u64 x1] <|
 A9 x0 fun a11 =>
 ld (a11.add 66) (lI) fun v8 =>
 A9 x0 fun a12 =>
 st (a12.add 66) [.i (IntKind.i64.wrap (v8 + 1))] <|
 K (.tuple #[])) fun j1 =>
 A9 x0 fun a2 =>
 A9 x0 fun a3 =>
 ld (a2.add 66) (lI) fun v2 =>
 ld a3 (lI) fun v3 =>
 ifB ((v2 : Int) == v3) (
 A9 x0 fun a4 =>
 ld (a4.add 65) (lI) fun v4 =>
 req ((64 : Int) ≠ 0) <|
 A9 x0 fun a5 =>
 st (a5.add 65) [.i (Int.tmod (IntKind.i64.wrap (v4 + 1)) 64)] <|
 A9 x0 fun a6 =>
 ld (a6.add 66) (lI) fun v5 =>
 A9 x0 fun a7 =>
 st (a7.add 66) [.i (IntKind.i64.wrap (v5 - 1))] <|
 j1 (())) (
 j1 (()))))
theorem e115 (x0 : Option Addr) (x1 : Int) (K : Value -> HP) : A8 PP h115 Tryz.f115 [.pointer x0, .int .u64 x1] K = t115 x0 x1 K := by kernel_rfl
def t116 (x0 : Option Addr) (x1 : ByteArray) (K : Value -> HP) : HP :=
 ifB (Option.isNone x0) (
 K (.pointer none)) (
 A9 x0 fun a1 =>
 ld (a1.add 4) (.lf .map) fun v1 =>
 smR PP (Instr.lookup 180 (.map v1) (.string x1) false) [.lf .ptr] fun v2 =>
 K (.pointer v2.1))
theorem e116 (x0 : Option Addr) (x1 : ByteArray) (K : Value -> HP) : A8 PP Hn Tryz.f116 [.pointer x0, .string x1] K = t116 x0 x1 K := by kernel_rfl
set_option maxRecDepth 100000
def h117 : D1 := ⟨[(0, [(5, .lf .sl), (16, lI)])], [], [(7, [0, 1, 3, 2, 4, 5])]⟩
def t117 (x0 : Option Addr) (x1 : Int) (K : Value -> HP) : HP :=
 ifB (Option.isNone x0) (
 K (.slice none 0 0)) (
 cl PP 137 #[.pointer x0, .int .u64 x1] [.lf .ptr] fun r1 =>
 A9 r1.1 fun a1 =>
 ld a1 (.lf .sl) fun v1 =>
 lp [.lf .sl, lI] (⟨none, 0, 0⟩, 0, ()) fun z1 go1 =>
 ifB (decide ((z1.2.1 : Int) < v1.len)) (
 A9 v1.a fun a2 =>
 ixn z1.2.1 v1.len <|
 ld (a2.add (z1.2.1.toNat * 5)) (.agg [.int .i64, .int .i64, .int .i64, .int .i64, .int .i64]) fun v2 =>
 nw (.cells #[.i 0, .i 0, .i 0, .i 0, .i 0] 204) fun n1 =>
 st ⟨n1, 0, none⟩ [.i v2.1, .i v2.2.1, .i v2.2.2.1, .i v2.2.2.2.1, .i v2.2.2.2.2.1] <|
 ld ⟨n1, 0, none⟩ (lI) fun v3 =>
 cl PP 180 #[.int .u64 x1] [lI] fun r2 =>
 keep (D0 ⟨n1, 0, none⟩ [.i v3]) <|
 ifB ((v3 : Int) == r2.1) (
 ld (Addr.add ⟨n1, 0, none⟩ 1) (.agg [.int .i64, .int .i64, .int .i64]) fun v4 =>
 nw (.cells #[.i v4.1, .i v4.2.1, .i v4.2.2.1] 102) fun n2 =>
 smW PP (Builtin.append_ #[55, 55] 55 #[.sv z1.1, .slice (some ⟨n2, 0, none⟩) 1 1]) [.lf .sl] fun v5 =>
 go1 (⟨v5.1.a, v5.1.len, v5.1.cap⟩, IntKind.i64.wrap (z1.2.1 + 1), ())) (
 go1 (⟨z1.1.a, z1.1.len, z1.1.cap⟩, IntKind.i64.wrap (z1.2.1 + 1), ()))) (
 K (.sv z1.1)))
theorem e117 (x0 : Option Addr) (x1 : Int) (K : Value -> HP) : A8 PP h117 Tryz.f117 [.pointer x0, .int .u64 x1] K = t117 x0 x1 K := by kernel_rfl
def h118 : D1 := ⟨[(0, [(9, .lf .sl), (10, lI)])], [(17, [(10, lI)])], []⟩
def t118 (x0 : Option Addr) (x1 : ShV (.agg [.int .i64, .int .i64, .int .i64])) (K : Value -> HP) : HP :=
 nw (.cells #[.i x1.1, .i x1.2.1, .i x1.2.2.1] 102) fun n1 =>
 ld ⟨n1, 0, none⟩ (lI) fun v1 =>
 cl PP 181 #[.pointer x0, .i v1, .i 0] [.lf .sl, lI] fun r1 =>
 ifB ((r1.2.1 : Int) != 0) (
 K (.tuple #[.string (ByteArray.mk #[]), .slice none 0 0, .i r1.2.1])) (
 lp [.lf .sl, lI] (⟨none, 0, 0⟩, 1, ()) fun z1 go1 =>
 ifB (decide ((z1.1.len : Int) < z1.2.1)) (
 ld ⟨n1, 0, none⟩ (lI) fun v2 =>
 ld (Addr.add ⟨n1, 0, none⟩ 1) (lI) fun v3 =>
 cl PP 181 #[.pointer x0, .i v2, .i (IntKind.i64.wrap (v3 + z1.1.len))] [.lf .sl, lI] fun r2 =>
 ifB ((r2.2.1 : Int) != 0) (
 K (.tuple #[.string (ByteArray.mk #[]), .slice none 0 0, .i 8])) (
 cl PP 182 #[.sv r2.1] [.agg [.int .i64, .int .i64, .int .i64, .int .i64, .int .i64], .lf .sl, lI] fun r3 =>
 nw (.cells #[.i 0, .i 0, .i 0, .i 0, .i 0] 272) fun n2 =>
 st ⟨n2, 0, none⟩ [.i r3.1.1, .i r3.1.2.1, .i r3.1.2.2.1, .i r3.1.2.2.2.1, .i r3.1.2.2.2.2.1] <|
 ifB ((r3.2.2.1 : Int) != 0) (
 K (.tuple #[.string (ByteArray.mk #[]), .slice none 0 0, .i 8])) (
 jn (fun y1 : RsV [lI] =>
 nw (.cells #[.slice r3.2.1.a r3.2.1.len r3.2.1.cap] 27) fun n3 =>
 smW PP (Builtin.append_ #[96, 96] 96 #[.sv z1.1, .slice (some ⟨n3, 0, none⟩) 1 1]) [.lf .sl] fun v11 =>
 go1 (⟨v11.1.a, v11.1.len, v11.1.cap⟩, y1.1, ())) fun j1 =>
 ifB ((z1.1.len : Int) == 0) (
 ld ⟨n2, 0, none⟩ (lI) fun v4 =>
 ifB ((v4 : Int) != 2) (
 K (.tuple #[.string (ByteArray.mk #[]), .slice none 0 0, .i 8])) (
 ld (Addr.add ⟨n2, 0, none⟩ 1) (lI) fun v5 =>
 ifB ((v5 : Int) != 0) (
 K (.tuple #[.string (ByteArray.mk #[]), .slice none 0 0, .i 8])) (
 ld (Addr.add ⟨n2, 0, none⟩ 3) (lI) fun v6 =>
 ld (Addr.add ⟨n1, 0, none⟩ 2) (lI) fun v7 =>
 ifB ((v6 : Int) != v7) (
 K (.tuple #[.string (ByteArray.mk #[]), .slice none 0 0, .i 8])) (
 ld (Addr.add ⟨n2, 0, none⟩ 4) (lI) fun v8 =>
 ld (Addr.add ⟨n1, 0, none⟩ 1) (lI) fun v9 =>
 ifB ((v8 : Int) != v9) (
 K (.tuple #[.string (ByteArray.mk #[]), .slice none 0 0, .i 8])) (
 ld (Addr.add ⟨n2, 0, none⟩ 2) (lI) fun v10 =>
 j1 (v10, ())))))) (
 j1 (z1.2.1, ()))))) (
 cl PP 183 #[.sv z1.1] [.lf .str, .lf .sl, lI] fun r4 =>
 K (.tuple #[.string r4.1, .sv r4.2.1, .i r4.2.2.1])))
theorem e118 (x0 : Option Addr) (x1 : ShV (.agg [.int .i64, .int .i64, .int .i64])) (K : Value -> HP) : A8 PP h118 Tryz.f118 [.pointer x0, .agg #[.i x1.1, .i x1.2.1, .i x1.2.2.1]] K = t118 x0 x1 K := by kernel_rfl
def h119 : D1 := ⟨[(0, [(14, lI)])], [], []⟩
def t119 (x0 : Option Addr) (x1 : FnV) (x2 : FnV) (K : Value -> HP) : HP :=
 ifB (Option.isNone x0) (
 K (.tuple #[])) (
 A9 x0 fun a1 =>
 ld a1 (.lf .sl) fun v1 =>
 lp [lI] (0, ()) fun z1 go1 =>
 ifB (decide ((z1.1 : Int) < v1.len)) (
 clv PP x1.fn (x1.first ++ #[.i z1.1]) x1.captured [.lf .bool] fun r1 =>
 ifB r1.1 (
 A9 x0 fun a2 =>
 ld a2 (.lf .sl) fun v2 =>
 A9 v2.a fun a3 =>
 ixn z1.1 v2.len <|
 ld (a3.add (z1.1.toNat * 3)) (.agg [.int .i64, .bool, .bool]) fun v3 =>
 clv PP x2.fn (x2.first ++ #[.i z1.1, .agg #[.i v3.1, .bool v3.2.1, .bool v3.2.2.1]]) x2.captured [] fun r2 =>
 go1 (IntKind.i64.wrap (z1.1 + 1), ())) (
 go1 (IntKind.i64.wrap (z1.1 + 1), ()))) (
 K (.tuple #[])))
theorem e119 (x0 : Option Addr) (x1 : FnV) (x2 : FnV) (K : Value -> HP) : A8 PP h119 Tryz.f119 [.pointer x0, .func x1.fn x1.first x1.captured, .func x2.fn x2.first x2.captured] K = t119 x0 x1 x2 K := by kernel_rfl
def t120 (x0 : Option Addr) (x1 : Int) (K : Value -> HP) : HP :=
 ifB (!(Option.isNone x0)) (
 ifB (decide ((x1 : Int) ≥ 0)) (
 A9 x0 fun a1 =>
 ld a1 (.lf .sl) fun v1 =>
 ifB (decide ((x1 : Int) < v1.len)) (
 A9 x0 fun a2 =>
 ld a2 (.lf .sl) fun v2 =>
 A9 v2.a fun a3 =>
 ixn x1 v2.len <|
 ld (Addr.add (a3.add (x1.toNat * 3)) 1) (.lf .bool) fun v3 =>
 K (.bool (!v3))) (
 K (.bool false))) (
 K (.bool false))) (
 K (.bool false))
theorem e120 (x0 : Option Addr) (x1 : Int) (K : Value -> HP) : A8 PP Hn Tryz.f120 [.pointer x0, .i x1] K = t120 x0 x1 K := by kernel_rfl
def h122 : D1 := ⟨[], [], [(3, [0, 2, 3, 7, 9, 1, 4, 5, 6, 11, 8, 10, 12]), (2, [1, 0, 2])]⟩
def t122 (x0 : ShV (.agg [.int .i64, .int .i64])) (x1 : Int) (K : Value -> HP) : HP :=
 nw (.cells #[.i x0.1, .i x0.2.1] 169) fun n1 =>
 nw (.cells #[.i 0, .i 0] 169) fun n2 =>
 ld (Addr.add ⟨n1, 0, none⟩ 1) (lI) fun v1 =>
 ifB (decide ((x1 : Int) <= v1)) (
 ld ⟨n1, 0, none⟩ (.agg [.int .i64, .int .i64]) fun v2 =>
 st ⟨n2, 0, none⟩ [.i v2.1, .i v2.2.1] <|
 ld ⟨n2, 0, none⟩ (.agg [.int .i64, .int .i64]) fun v3 =>
 K (.tuple #[.i 0, .agg #[.i v3.1, .i v3.2.1]])) (
 ld ⟨n1, 0, none⟩ (lI) fun v4 =>
 ld (Addr.add ⟨n1, 0, none⟩ 1) (lI) fun v5 =>
 ld ⟨n1, 0, none⟩ (lI) fun v6 =>
 st ⟨n2, 0, none⟩ [.i v6, .i x1] <|
 ld ⟨n2, 0, none⟩ (.agg [.int .i64, .int .i64]) fun v7 =>
 K (.tuple #[.i (IntKind.i64.wrap (v4 * (IntKind.i64.wrap (x1 - v5)))), .agg #[.i v7.1, .i v7.2.1]]))
theorem e122 (x0 : ShV (.agg [.int .i64, .int .i64])) (x1 : Int) (K : Value -> HP) : A8 PP h122 Tryz.f122 [.agg #[.i x0.1, .i x0.2.1], .i x1] K = t122 x0 x1 K := by kernel_rfl
def h123 : D1 := ⟨[(0, [(0, lI), (9, lI)])], [], []⟩
def t123 (x0 : Int) (x1 : SlV) (K : Value -> HP) : HP :=
 lp [lI, lI] (x0, 0, ()) fun z1 go1 =>
 ifB (decide ((z1.2.1 : Int) < x1.len)) (
 A9 x1.a fun a1 =>
 ixn z1.2.1 x1.len <|
 ld (a1.add (z1.2.1.toNat * 1)) (lI) fun v1 =>
 go1 (Y1 z1.1 v1, IntKind.i64.wrap (z1.2.1 + 1), ())) (
 K (.i (Ab4 z1.1 0)))
theorem e123 (x0 : Int) (x1 : SlV) (K : Value -> HP) : A8 PP h123 Tryz.f123 [.i x0, .sv x1] K = t123 x0 x1 K := by kernel_rfl
def h124 : D1 := ⟨[(0, [(24, lI)])], [], [(7, [0, 1, 2, 3, 4, 5, 6]), (3, [0, 1, 5, 6, 2, 3, 4, 7, 8, 9, 10])]⟩
def t124 (x0 : Option Addr) (x1 : Int) (x2 : ShV (.agg [.int .i64, .int .i64, .int .i64])) (x3 : FnV) (K : Value -> HP) : HP :=
 nw (.cells #[.i x2.1, .i x2.2.1, .i x2.2.2.1] 102) fun n1 =>
 ifB (Option.isNone x0) (
 K (.bool false)) (
 ld ⟨n1, 0, none⟩ (.agg [.int .i64, .int .i64, .int .i64]) fun v1 =>
 cl PP 137 #[.pointer x0, .int .u64 x1] [.lf .ptr] fun r1 =>
 keep (D0 ⟨n1, 0, none⟩ [.i v1.1, .i v1.2.1, .i v1.2.2.1]) <|
 A9 r1.1 fun a1 =>
 ld a1 (.lf .sl) fun v2 =>
 cl PP 184 #[.int .u64 x1, .agg #[.i v1.1, .i v1.2.1, .i v1.2.2.1]] [.agg [.int .i64, .int .i64, .int .i64, .int .i64]] fun r2 =>
 keep (D0 a1 [.sv v2]) <|
 nw (.cells #[.i 0, .i 0, .i 0, .i 0] 202) fun n2 =>
 st ⟨n2, 0, none⟩ [.i r2.1.1, .i r2.1.2.1, .i r2.1.2.2.1, .i r2.1.2.2.2.1] <|
 lp [lI] (0, ()) fun z1 go1 =>
 ifB (decide ((z1.1 : Int) < v2.len)) (
 A9 v2.a fun a2 =>
 ixn z1.1 v2.len <|
 ld (a2.add (z1.1.toNat * 5)) (.agg [.int .i64, .int .i64, .int .i64, .int .i64]) fun v3 =>
 ld ⟨n2, 0, none⟩ (.agg [.int .i64, .int .i64, .int .i64, .int .i64]) fun v4 =>
 smP PP (binOp .eql 202 (.agg #[.i v3.1, .i v3.2.1, .i v3.2.2.1, .i v3.2.2.2.1]) (.agg #[.i v4.1, .i v4.2.1, .i v4.2.2.1, .i v4.2.2.2.1])) (.lf .bool) fun v5 =>
 ifB v5 (
 A9 v2.a fun a3 =>
 ixn z1.1 v2.len <|
 clv PP x3.fn (x3.first ++ #[.pointer (some (a3.add (z1.1.toNat * 5)))]) x3.captured [] fun r3 =>
 K (.bool true)) (
 go1 (IntKind.i64.wrap (z1.1 + 1), ()))) (
 K (.bool false)))
theorem e124 (x0 : Option Addr) (x1 : Int) (x2 : ShV (.agg [.int .i64, .int .i64, .int .i64])) (x3 : FnV) (K : Value -> HP) : A8 PP h124 Tryz.f124 [.pointer x0, .int .u64 x1, .agg #[.i x2.1, .i x2.2.1, .i x2.2.2.1], .func x3.fn x3.first x3.captured] K = t124 x0 x1 x2 x3 K := by kernel_rfl
def t125 (x0 : Option Addr) (K : Value -> HP) : HP :=
 A9 x0 fun a1 =>
 ld (a1.add 4) (lI) fun v1 =>
 A9 x0 fun a2 =>
 st (a2.add 4) [.i (Y1 (IntKind.i64.wrap (v1 + 1)) 3)] <|
 K (.tuple #[])
theorem e125 (x0 : Option Addr) (K : Value -> HP) : A8 PP Hn Tryz.f125 [.pointer x0] K = t125 x0 K := by kernel_rfl
def h126 : D1 := ⟨[(0, [(5, lI), (22, lI)])], [], []⟩
def t126 (x0 : Option Addr) (x1 : SlV) (K : Value -> HP) : HP :=
 A9 x0 fun a1 =>
 ld (a1.add 4) (.lf .ptr) fun v1 =>
 ifB (Option.isNone v1) (
 K (.bool false)) (
 A9 x0 fun a2 =>
 ld (a2.add 4) (.lf .ptr) fun v2 =>
 A9 v2 fun a3 =>
 ld (a3.add 2) (lI) fun v3 =>
 lp [lI, lI] (v3, 0, ()) fun z1 go1 =>
 ifB (decide ((z1.2.1 : Int) < x1.len)) (
 A9 x1.a fun a4 =>
 ixn z1.2.1 x1.len <|
 ld (a4.add (z1.2.1.toNat * 1)) (lI) fun v4 =>
 go1 (IntKind.i64.wrap (z1.1 + v4), IntKind.i64.wrap (z1.2.1 + 1), ())) (
 A9 x0 fun a5 =>
 ld a5 (.lf .ptr) fun v5 =>
 cl PP 93 #[.pointer v5] [.agg [.int .i64, .int .i64, .int .i64, .int .i64]] fun r1 =>
 K (.bool (decide ((z1.1 : Int) < r1.1.2.1)))))
theorem e126 (x0 : Option Addr) (x1 : SlV) (K : Value -> HP) : A8 PP h126 Tryz.f126 [.pointer x0, .sv x1] K = t126 x0 x1 K := by kernel_rfl
def h127 : D1 := ⟨[(1, [])], [(4, [(5, lI)]), (21, [])], []⟩
def t127 (x0 : Option Addr) (x1 : Int) (K : Value -> HP) : HP :=
 jn (fun y1 : RsV [lI] =>
 A9 x0 fun a2 =>
 nw (.cells #[.i x1, .i 1, .i y1.1] 3) fun n1 =>
 cl PP 128 #[.pointer (some (a2.add 11)), .slice (some ⟨n1, 0, none⟩) 3 3] [.lf .bool] fun r1 =>
 ifB (!r1.1) (
 K (.i 13)) (
 A9 x0 fun a3 =>
 ld (Addr.add (a3.add 11) 5) (lI) fun v2 =>
 ifB (decide ((v2 : Int) ≥ 1073741824)) (
 K (.i 7)) (
 A9 x0 fun a4 =>
 ld (Addr.add (a4.add 11) 1) (.lf .ptr) fun v3 =>
 cl PP 185 #[.pointer v3] [lI] fun r2 =>
 ifB ((r2.1 : Int) == 0) (
 A9 x0 fun a5 =>
 cl PP 186 #[.pointer (some (a5.add 11))] [.lf .ptr] fun r3 =>
 ifB (Option.isNone r3.1) (
 K (.i 7)) (
 cl PP 187 #[.pointer x0, .pointer r3.1, .i x1] [lI] fun r4 =>
 K (.i r4.1))) (
 A9 x0 fun a6 =>
 cl PP 188 #[.pointer (some (a6.add 11))] [lI] fun r5 =>
 ifB ((r5.1 : Int) != 0) (
 K (.i r5.1)) (
 A9 x0 fun a7 =>
 ld (Addr.add (a7.add 11) 1) (.lf .ptr) fun v4 =>
 cl PP 189 #[.pointer v4] [lI, .lf .bool, .lf .bool] fun r6 =>
 jn (fun y2 : RsV [] =>
 A9 x0 fun a10 =>
 cl PP 191 #[.pointer (some (a10.add 11)), .i r6.1] [lI] fun r9 =>
 ifB ((r9.1 : Int) != 0) (
 K (.i r9.1)) (
 lp [] (()) fun z1 go1 =>
 A9 x0 fun a11 =>
 ld (Addr.add (a11.add 11) 1) (.lf .ptr) fun v6 =>
 cl PP 185 #[.pointer v6] [lI] fun r10 =>
 ifB ((r10.1 : Int) == 0) (
 A9 x0 fun a12 =>
 cl PP 186 #[.pointer (some (a12.add 11))] [.lf .ptr] fun r11 =>
 ifB (Option.isNone r11.1) (
 K (.i 0)) (
 cl PP 187 #[.pointer x0, .pointer r11.1, .i x1] [lI] fun r12 =>
 ifB ((r12.1 : Int) != 0) (
 K (.i r12.1)) (
 go1 (())))) (
 K (.i 0)))) fun j2 =>
 ifB r6.2.1 (
 A9 x0 fun a8 =>
 cl PP 190 #[.pointer (some (a8.add 11)), .i r6.1] [lI] fun r7 =>
 ifB ((r7.1 : Int) != 0) (
 K (.i r7.1)) (
 A9 x0 fun a9 =>
 ld (a9.add 11) (.lf .ptr) fun v5 =>
 cl PP 15 #[.pointer v5, .i r6.1] [.lf .bool] fun r8 =>
 ifB r8.1 (
 K (.i r7.1)) (
 j2 (())))) (
 j2 (()))))))) fun j1 =>
 A9 x0 fun a1 =>
 ld (Addr.add (a1.add 11) 4) (.lf .ptr) fun v1 =>
 ifB (!(Option.isNone v1)) (
 j1 (1, ())) (
 j1 (0, ()))
theorem e127 (x0 : Option Addr) (x1 : Int) (K : Value -> HP) : A8 PP h127 Tryz.f127 [.pointer x0, .i x1] K = t127 x0 x1 K := by kernel_rfl
def t128 (x0 : Option Addr) (x1 : SlV) (K : Value -> HP) : HP :=
 A9 x0 fun a1 =>
 ld (a1.add 2) (.lf .ptr) fun v1 =>
 cl PP 44 #[.pointer v1] [lI] fun r1 =>
 cl PP 134 #[.pointer x0, .sv x1] [lI] fun r2 =>
 K (.bool (decide ((r1.1 : Int) ≥ r2.1)))
theorem e128 (x0 : Option Addr) (x1 : SlV) (K : Value -> HP) : A8 PP Hn Tryz.f128 [.pointer x0, .sv x1] K = t128 x0 x1 K := by kernel_rfl
def t129 (x0 : Int) (K : Value -> HP) : HP :=
 ifB (decide ((x0 : Int) ≥ 64)) (
 K (.bool (decide ((x0 : Int) <= 512)))) (
 K (.bool false))
theorem e129 (x0 : Int) (K : Value -> HP) : A8 PP Hn Tryz.f129 [.i x0] K = t129 x0 K := by kernel_rfl
def t130 (x0 : ShV (.agg [.int .i64, .int .i64, .int .i64])) (K : Value -> HP) : HP :=
 nw (.cells #[.i x0.1, .i x0.2.1, .i x0.2.2.1] 102) fun n1 =>
 ld ⟨n1, 0, none⟩ (lI) fun v1 =>
 ifB (decide ((v1 : Int) ≥ 0)) (
 ld ⟨n1, 0, none⟩ (lI) fun v2 =>
 ifB (decide ((v2 : Int) < 16)) (
 ld (Addr.add ⟨n1, 0, none⟩ 1) (lI) fun v3 =>
 ifB (decide ((v3 : Int) ≥ 0)) (
 ld (Addr.add ⟨n1, 0, none⟩ 1) (lI) fun v4 =>
 ifB (decide ((v4 : Int) < 16)) (
 ld (Addr.add ⟨n1, 0, none⟩ 2) (lI) fun v5 =>
 ifB (decide ((v5 : Int) ≥ 1)) (
 ld (Addr.add ⟨n1, 0, none⟩ 2) (lI) fun v6 =>
 K (.bool (decide ((v6 : Int) <= 1073741824)))) (
 K (.bool false))) (
 K (.bool false))) (
 K (.bool false))) (
 K (.bool false))) (
 K (.bool false))
theorem e130 (x0 : ShV (.agg [.int .i64, .int .i64, .int .i64])) (K : Value -> HP) : A8 PP Hn Tryz.f130 [.agg #[.i x0.1, .i x0.2.1, .i x0.2.2.1]] K = t130 x0 K := by kernel_rfl
def h131 : D1 := ⟨[(0, [(0, .lf .sl), (10, lI)])], [], []⟩
def t131 (x0 : SlV) (x1 : SlV) (K : Value -> HP) : HP :=
 lp [.lf .sl, lI] (⟨x0.a, x0.len, x0.cap⟩, 0, ()) fun z1 go1 =>
 ifB (decide ((z1.2.1 : Int) < x1.len)) (
 A9 x1.a fun a1 =>
 ixn z1.2.1 x1.len <|
 ld (a1.add (z1.2.1.toNat * 1)) (lI) fun v1 =>
 ifB (decide ((v1 : Int) < 0)) (
 K (.tuple #[.slice none 0 0, .bool false])) (
 ifB (decide ((v1 : Int) > 255)) (
 K (.tuple #[.slice none 0 0, .bool false])) (
 nw (.cells #[.int .u8 (IntKind.u8.wrap v1)] 5) fun n1 =>
 smW PP (Builtin.append_ #[27, 27] 27 #[.sv z1.1, .slice (some ⟨n1, 0, none⟩) 1 1]) [.lf .sl] fun v2 =>
 go1 (⟨v2.1.a, v2.1.len, v2.1.cap⟩, IntKind.i64.wrap (z1.2.1 + 1), ())))) (
 K (.tuple #[.sv z1.1, .bool true]))
theorem e131 (x0 : SlV) (x1 : SlV) (K : Value -> HP) : A8 PP h131 Tryz.f131 [.sv x0, .sv x1] K = t131 x0 x1 K := by kernel_rfl
def t132 (x0 : SlV) (x1 : Int) (x2 : Int) (K : Value -> HP) : HP :=
 ifB (decide ((x2 : Int) < 1)) (
 K (.tuple #[.slice none 0 0, .i 2])) (
 ifB (decide ((x2 : Int) > 7)) (
 K (.tuple #[.slice none 0 0, .i 2])) (
 ifB (decide ((x1 : Int) < 0)) (
 K (.tuple #[.slice none 0 0, .i 3])) (
 req ((0 : Int) <= (IntKind.i64.wrap (8 * x2))) <|
 ifB ((Int.fdiv x1 (2 ^ (min (IntKind.i64.wrap (8 * x2) : Int).toNat IntKind.i64.bits)) : Int) != 0) (
 K (.tuple #[.slice none 0 0, .i 3])) (
 cl PP 192 #[.i x1] [.agg [.int .u8, .int .u8, .int .u8, .int .u8, .int .u8, .int .u8, .int .u8, .int .u8]] fun r1 =>
 nw (.cells #[.int .u8 0, .int .u8 0, .int .u8 0, .int .u8 0, .int .u8 0, .int .u8 0, .int .u8 0, .int .u8 0] 282) fun n1 =>
 st ⟨n1, 0, none⟩ [.int .u8 r1.1.1, .int .u8 r1.1.2.1, .int .u8 r1.1.2.2.1, .int .u8 r1.1.2.2.2.1, .int .u8 r1.1.2.2.2.2.1, .int .u8 r1.1.2.2.2.2.2.1, .int .u8 r1.1.2.2.2.2.2.2.1, .int .u8 r1.1.2.2.2.2.2.2.2.1] <|
 smA PP (Instr.makeSlice 27 (.i 0) (.i (IntKind.i64.wrap (x0.len + x2)))) (.lf .sl) fun v1 =>
 smW PP (Builtin.append_ #[27, 27] 27 #[.sv v1, .sv x0]) [.lf .sl] fun v2 =>
 slc ⟨some ⟨n1, 0, none⟩, 8, 8⟩ 0 x2 8 1 fun s1 =>
 smW PP (Builtin.append_ #[27, 27] 27 #[.sv v2.1, .sv s1]) [.lf .sl] fun v3 =>
 K (.tuple #[.sv v3.1, .i 0])))))
theorem e132 (x0 : SlV) (x1 : Int) (x2 : Int) (K : Value -> HP) : A8 PP Hn Tryz.f132 [.sv x0, .i x1, .i x2] K = t132 x0 x1 x2 K := by kernel_rfl
def t133 (x0 : Option Addr) (x1 : Int) (K : Value -> HP) : HP :=
 ifB (Option.isNone x0) (
 K (.bool false)) (
 ifB (decide ((x1 : Int) < 0)) (
 K (.bool false)) (
 A9 x0 fun a1 =>
 ld (a1.add 3) (lI) fun v1 =>
 ifB (decide ((x1 : Int) > v1)) (
 K (.bool false)) (
 A9 x0 fun a2 =>
 ld (a2.add 3) (lI) fun v2 =>
 A9 x0 fun a3 =>
 st (a3.add 3) [.i (IntKind.i64.wrap (v2 - x1))] <|
 K (.bool true))))
theorem e133 (x0 : Option Addr) (x1 : Int) (K : Value -> HP) : A8 PP Hn Tryz.f133 [.pointer x0, .i x1] K = t133 x0 x1 K := by kernel_rfl
def h134 : D1 := ⟨[(0, [(5, lI), (10, lI)])], [], []⟩
def t134 (x0 : Option Addr) (x1 : SlV) (K : Value -> HP) : HP :=
 lp [lI, lI] (0, 0, ()) fun z1 go1 =>
 ifB (decide ((z1.2.1 : Int) < x1.len)) (
 A9 x1.a fun a1 =>
 ixn z1.2.1 x1.len <|
 ld (a1.add (z1.2.1.toNat * 1)) (lI) fun v1 =>
 go1 (IntKind.i64.wrap (z1.1 + v1), IntKind.i64.wrap (z1.2.1 + 1), ())) (
 A9 x0 fun a2 =>
 ld a2 (.lf .ptr) fun v2 =>
 cl PP 93 #[.pointer v2] [.agg [.int .i64, .int .i64, .int .i64, .int .i64]] fun r1 =>
 K (.i (IntKind.i64.wrap (z1.1 * r1.1.2.2.1))))
theorem e134 (x0 : Option Addr) (x1 : SlV) (K : Value -> HP) : A8 PP h134 Tryz.f134 [.pointer x0, .sv x1] K = t134 x0 x1 K := by kernel_rfl
def h135 : D1 := ⟨[(0, [(28, lI)])], [], []⟩
def t135 (x0 : Option Addr) (x1 : Int) (x2 : Int) (x3 : Int) (x4 : Int) (x5 : SlV) (K : Value -> HP) : HP :=
 ifB ((x5.len : Int) == 0) (
 K (.i 2)) (
 nw (.cells #[.i 0, .i 0, .i 0, .i 0, .i 0] 272) fun n1 =>
 st ⟨n1, 0, none⟩ [.i x4, .i 0, .i x5.len, .i x2, .i x3] <|
 lp [lI] (0, ()) fun z1 go1 =>
 ifB (decide ((z1.1 : Int) < x5.len)) (
 A9 x5.a fun a1 =>
 ixn z1.1 x5.len <|
 ld (a1.add (z1.1.toNat * 1)) (.lf .sl) fun v1 =>
 st (Addr.add ⟨n1, 0, none⟩ 1) [.i z1.1] <|
 ld ⟨n1, 0, none⟩ (.agg [.int .i64, .int .i64, .int .i64, .int .i64, .int .i64]) fun v2 =>
 cl PP 193 #[.pointer x0, .i x1, .agg #[.i v2.1, .i v2.2.1, .i v2.2.2.1, .i v2.2.2.2.1, .i v2.2.2.2.2.1], .sv v1] [lI] fun r1 =>
 ifB ((r1.1 : Int) != 0) (
 K (.i r1.1)) (
 ld (Addr.add ⟨n1, 0, none⟩ 4) (lI) fun v3 =>
 st (Addr.add ⟨n1, 0, none⟩ 4) [.i (IntKind.i64.wrap (v3 + 1))] <|
 go1 (IntKind.i64.wrap (z1.1 + 1), ()))) (
 K (.i 0)))
theorem e135 (x0 : Option Addr) (x1 : Int) (x2 : Int) (x3 : Int) (x4 : Int) (x5 : SlV) (K : Value -> HP) : A8 PP h135 Tryz.f135 [.pointer x0, .i x1, .i x2, .i x3, .i x4, .sv x5] K = t135 x0 x1 x2 x3 x4 x5 K := by kernel_rfl
def t136 (x0 : Option Addr) (x1 : Int) (K : Value -> HP) : HP :=
 A9 x0 fun a1 =>
 ld (a1.add 7) (.lf .bool) fun v1 =>
 ifB v1 (
 A9 x0 fun a2 =>
 st (a2.add 7) [.bool true] <|
 K (.i x1)) (
 A9 x0 fun a3 =>
 st (a3.add 7) [.bool ((x1 : Int) == 11)] <|
 K (.i x1))
theorem e136 (x0 : Option Addr) (x1 : Int) (K : Value -> HP) : A8 PP Hn Tryz.f136 [.pointer x0, .i x1] K = t136 x0 x1 K := by kernel_rfl
def h137 : D1 := ⟨[], [], [(1, [0, 1, 2, 4, 5, 6, 7, 3, 8, 9, 10, 11, 12])]⟩
def t137 (x0 : Option Addr) (x1 : Int) (K : Value -> HP) : HP :=
 A9 x0 fun a1 =>
 A9 x0 fun a2 =>
 ld (a1.add 1) (.lf .sl) fun v1 =>
 ld (a2.add 1) (.lf .sl) fun v2 =>
 cl PP 194 #[.int .u64 x1, .i v2.len] [lI] fun r1 =>
 keep (D0 (a1.add 1) [.sv v1]) <|
 A9 v1.a fun a3 =>
 ixn r1.1 v1.len <|
 K (.pointer (some (a3.add (r1.1.toNat * 1))))
theorem e137 (x0 : Option Addr) (x1 : Int) (K : Value -> HP) : A8 PP h137 Tryz.f137 [.pointer x0, .int .u64 x1] K = t137 x0 x1 K := by kernel_rfl
set_option maxRecDepth 100000
def h163 : D1 := ⟨[(0, [(9, lI)])], [], []⟩
def t163 (x0 : Int) (K : Value -> HP) : HP :=
 smA PP (Instr.makeSlice 27 (.i x0) (.i x0)) (.lf .sl) fun v1 =>
 lp [lI] (0, ()) fun z1 go1 =>
 ifB (decide ((z1.1 : Int) < v1.len)) (
 A9 v1.a fun a1 =>
 ixn z1.1 v1.len <|
 st (a1.add (z1.1.toNat * 1)) [.int .u8 255] <|
 go1 (IntKind.i64.wrap (z1.1 + 1), ())) (
 K (.sv v1))
theorem e163 (x0 : Int) (K : Value -> HP) : A8 PP h163 Tryz.f163 [.i x0] K = t163 x0 K := by kernel_rfl
def t164 (x0 : Int) (x1 : Int) (K : Value -> HP) : HP :=
 ifB (decide ((x0 : Int) ≥ 0)) (
 K (.bool (decide ((x0 : Int) <= x1)))) (
 K (.bool false))
theorem e164 (x0 : Int) (x1 : Int) (K : Value -> HP) : A8 PP Hn Tryz.f164 [.i x0, .i x1] K = t164 x0 x1 K := by kernel_rfl
def h165 : D1 := ⟨[(0, [(5, .lf .sl), (6, .lf .sl), (15, lI)])], [], []⟩
def t165 (x0 : Option Addr) (K : Value -> HP) : HP :=
 cl PP 93 #[.pointer x0] [.agg [.int .i64, .int .i64, .int .i64, .int .i64]] fun r1 =>
 lp [.lf .sl, .lf .sl, lI] (⟨none, 0, 0⟩, ⟨none, 0, 0⟩, 0, ()) fun z1 go1 =>
 ifB (decide ((z1.2.2.1 : Int) < r1.1.1)) (
 cl PP 223 #[.pointer x0, .i z1.2.2.1] [.lf .sl, lI] fun r2 =>
 ifB ((r2.2.1 : Int) != 0) (
 K (.tuple #[.slice none 0 0, .slice none 0 0, .i r2.2.1])) (
 nw (.cells #[.slice r2.1.a r2.1.len r2.1.cap] 96) fun n1 =>
 smW PP (Builtin.append_ #[243, 243] 243 #[.sv z1.2.1, .slice (some ⟨n1, 0, none⟩) 1 1]) [.lf .sl] fun v1 =>
 cl PP 224 #[.sv r2.1] [.agg [.int .i64, .bool, .sl], .lf .bool] fun r3 =>
 nw (.cells #[.i 0, .bool false, .slice none 0 0] 319) fun n2 =>
 st ⟨n2, 0, none⟩ [.i r3.1.1, .bool r3.1.2.1, .slice r3.1.2.2.1.a r3.1.2.2.1.len r3.1.2.2.1.cap] <|
 ifB r3.2.1 (
 ld ⟨n2, 0, none⟩ (lI) fun v2 =>
 ld (Addr.add ⟨n2, 0, none⟩ 2) (.lf .sl) fun v3 =>
 nw (.cells #[.i z1.2.2.1, .i v2, .slice v3.a v3.len v3.cap] 154) fun n3 =>
 smW PP (Builtin.append_ #[143, 143] 143 #[.sv z1.1, .slice (some ⟨n3, 0, none⟩) 1 1]) [.lf .sl] fun v4 =>
 go1 (⟨v4.1.a, v4.1.len, v4.1.cap⟩, ⟨v1.1.a, v1.1.len, v1.1.cap⟩, IntKind.i64.wrap (z1.2.2.1 + 1), ())) (
 go1 (⟨z1.1.a, z1.1.len, z1.1.cap⟩, ⟨v1.1.a, v1.1.len, v1.1.cap⟩, IntKind.i64.wrap (z1.2.2.1 + 1), ())))) (
 cl PP 225 #[.sv z1.1, .func (.func 226) #[] #[]] [] fun r4 =>
 K (.tuple #[.sv z1.1, .sv z1.2.1, .i 0]))
theorem e165 (x0 : Option Addr) (K : Value -> HP) : A8 PP h165 Tryz.f165 [.pointer x0] K = t165 x0 K := by kernel_rfl
def h166 : D1 := ⟨[(0, [(12, lI)]), (2, [(19, lI)])], [], []⟩
def t166 (x0 : SlV) (x1 : Int) (x2 : FnV) (K : Value -> HP) : HP :=
 lp [lI] (0, ()) fun z1 go1 =>
 ifB (decide ((z1.1 : Int) < x0.len)) (
 A9 x0.a fun a1 =>
 ixn z1.1 x0.len <|
 ld (a1.add (z1.1.toNat * 3)) (.agg [.int .i64, .int .i64, .sl]) fun v1 =>
 nw (.cells #[.i 0, .i 0, .slice none 0 0] 154) fun n1 =>
 st ⟨n1, 0, none⟩ [.i v1.1, .i v1.2.1, .slice v1.2.2.1.a v1.2.2.1.len v1.2.2.1.cap] <|
 ld (Addr.add ⟨n1, 0, none⟩ 2) (.lf .sl) fun v2 =>
 lp [lI] (0, ()) fun z2 go2 =>
 ifB (decide ((z2.1 : Int) < v2.len)) (
 A9 v2.a fun a2 =>
 ixn z2.1 v2.len <|
 ld (a2.add (z2.1.toNat * 3)) (.agg [.int .i64, .int .i64, .int .i64]) fun v3 =>
 nw (.cells #[.i 0, .i 0, .i 0] 215) fun n2 =>
 st ⟨n2, 0, none⟩ [.i v3.1, .i v3.2.1, .i v3.2.2.1] <|
 ld ⟨n2, 0, none⟩ (lI) fun v4 =>
 ifB ((v4 : Int) == x1) (
 ld ⟨n1, 0, none⟩ (.agg [.int .i64, .int .i64, .sl]) fun v5 =>
 ld ⟨n2, 0, none⟩ (.agg [.int .i64, .int .i64, .int .i64]) fun v6 =>
 clv PP x2.fn (x2.first ++ #[.agg #[.i v5.1, .i v5.2.1, .slice v5.2.2.1.a v5.2.2.1.len v5.2.2.1.cap], .agg #[.i v6.1, .i v6.2.1, .i v6.2.2.1]]) x2.captured [] fun r1 =>
 go2 (IntKind.i64.wrap (z2.1 + 1), ())) (
 go2 (IntKind.i64.wrap (z2.1 + 1), ()))) (
 go1 (IntKind.i64.wrap (z1.1 + 1), ()))) (
 K (.tuple #[]))
theorem e166 (x0 : SlV) (x1 : Int) (x2 : FnV) (K : Value -> HP) : A8 PP h166 Tryz.f166 [.slice x0.a x0.len x0.cap, .i x1, .func x2.fn x2.first x2.captured] K = t166 x0 x1 x2 K := by kernel_rfl
def t167 (x0 : ShV (.agg [.int .i64, .int .i64, .sl])) (x1 : ShV (.agg [.int .i64, .int .i64, .int .i64])) (x2 : Option Addr) (x3 : Option Addr) (x4 : Option Addr) (K : Value -> HP) : HP :=
 nw (.cells #[.i x0.1, .i x0.2.1, .slice x0.2.2.1.a x0.2.2.1.len x0.2.2.1.cap] 154) fun n1 =>
 nw (.cells #[.i x1.1, .i x1.2.1, .i x1.2.2.1] 215) fun n2 =>
 ld ⟨n1, 0, none⟩ (lI) fun v1 =>
 ld (Addr.add ⟨n2, 0, none⟩ 1) (lI) fun v2 =>
 ld (Addr.add ⟨n1, 0, none⟩ 1) (lI) fun v3 =>
 nw (.cells #[.i 0, .i 0, .i 0] 102) fun n3 =>
 st ⟨n3, 0, none⟩ [.i v1, .i v2, .i v3] <|
 A9 x2 fun a1 =>
 ld a1 (.lf .ptr) fun v4 =>
 ld ⟨n3, 0, none⟩ (.agg [.int .i64, .int .i64, .int .i64]) fun v5 =>
 cl PP 118 #[.pointer v4, .agg #[.i v5.1, .i v5.2.1, .i v5.2.2.1]] [.lf .str, .lf .sl, lI] fun r1 =>
 ifB ((r1.2.2.1 : Int) == 0) (
 A9 x3 fun a2 =>
 ld a2 (.lf .sl) fun v6 =>
 ld ⟨n3, 0, none⟩ (.agg [.int .i64, .int .i64, .int .i64]) fun v7 =>
 nw (.cells #[.string r1.1, .i v7.1, .i v7.2.1, .i v7.2.2.1] 162) fun n4 =>
 smW PP (Builtin.append_ #[144, 144] 144 #[.sv v6, .slice (some ⟨n4, 0, none⟩) 1 1]) [.lf .sl] fun v8 =>
 A9 x3 fun a3 =>
 st a3 [.slice v8.1.a v8.1.len v8.1.cap] <|
 A9 x4 fun a4 =>
 ld a4 (.lf .map) fun v9 =>
 ld ⟨n3, 0, none⟩ (.agg [.int .i64, .int .i64, .int .i64]) fun v10 =>
 smU PP (Instr.mapUpdate 246 (.map v9) (.string r1.1) (.agg #[.i v10.1, .i v10.2.1, .i v10.2.2.1])) <|
 K (.tuple #[])) (
 K (.tuple #[]))
theorem e167 (x0 : ShV (.agg [.int .i64, .int .i64, .sl])) (x1 : ShV (.agg [.int .i64, .int .i64, .int .i64])) (x2 : Option Addr) (x3 : Option Addr) (x4 : Option Addr) (K : Value -> HP) : A8 PP Hn Tryz.f167 [.agg #[.i x0.1, .i x0.2.1, .sv x0.2.2.1], .agg #[.i x1.1, .i x1.2.1, .i x1.2.2.1], .pointer x2, .pointer x3, .pointer x4] K = t167 x0 x1 x2 x3 x4 K := by kernel_rfl
def h168 : D1 := ⟨[(0, [(20, lI)]), (2, [(31, lI)])], [], [(1, [1, 8, 0, 2, 3, 4, 5, 6, 7])]⟩
def t168 (x0 : ShV (.agg [.int .i64, .int .i64, .sl])) (x1 : ShV (.agg [.int .i64, .int .i64, .int .i64])) (x2 : Option Addr) (x3 : Option Addr) (K : Value -> HP) : HP :=
 nw (.cells #[.i x0.1, .i x0.2.1, .slice x0.2.2.1.a x0.2.2.1.len x0.2.2.1.cap] 154) fun n1 =>
 nw (.cells #[.i x1.1, .i x1.2.1, .i x1.2.2.1] 215) fun n2 =>
 A9 x2 fun a1 =>
 ld a1 (.lf .sl) fun v1 =>
 ld ⟨n1, 0, none⟩ (lI) fun v2 =>
 A9 v1.a fun a2 =>
 ixn v2 v1.len <|
 ld (a2.add (v2.toNat * 1)) (.lf .sl) fun v3 =>
 ld ⟨n2, 0, none⟩ (.agg [.int .i64, .int .i64, .int .i64]) fun v4 =>
 cl PP 169 #[.sv v3, .agg #[.i v4.1, .i v4.2.1, .i v4.2.2.1]] [.lf .sl] fun r1 =>
 lp [lI] (0, ()) fun z1 go1 =>
 ifB (decide ((z1.1 : Int) < r1.1.len)) (
 A9 r1.1.a fun a3 =>
 ixn z1.1 r1.1.len <|
 ld (a3.add (z1.1.toNat * 1)) (.lf .sl) fun v5 =>
 cl PP 170 #[.sv v5] [.lf .sl, lI] fun r2 =>
 lp [lI] (0, ()) fun z2 go2 =>
 ifB (decide ((z2.1 : Int) < r2.1.len)) (
 A9 r2.1.a fun a4 =>
 ixn z2.1 r2.1.len <|
 ld (a4.add (z2.1.toNat * 3)) (.agg [.int .i64, .int .i64, .int .i64]) fun v6 =>
 nw (.cells #[.i 0, .i 0, .i 0] 102) fun n3 =>
 st ⟨n3, 0, none⟩ [.i v6.1, .i v6.2.1, .i v6.2.2.1] <|
 A9 x3 fun a5 =>
 ld a5 (.lf .map) fun v7 =>
 ld ⟨n3, 0, none⟩ (.agg [.int .i64, .int .i64, .int .i64]) fun v8 =>
 smU PP (Instr.mapUpdate 249 (.map v7) (.agg #[.i v8.1, .i v8.2.1, .i v8.2.2.1]) (.bool true)) <|
 go2 (IntKind.i64.wrap (z2.1 + 1), ())) (
 go1 (IntKind.i64.wrap (z1.1 + 1), ()))) (
 K (.tuple #[]))
theorem e168 (x0 : ShV (.agg [.int .i64, .int .i64, .sl])) (x1 : ShV (.agg [.int .i64, .int .i64, .int .i64])) (x2 : Option Addr) (x3 : Option Addr) (K : Value -> HP) : A8 PP h168 Tryz.f168 [.agg #[.i x0.1, .i x0.2.1, .sv x0.2.2.1], .agg #[.i x1.1, .i x1.2.1, .i x1.2.2.1], .pointer x2, .pointer x3] K = t168 x0 x1 x2 x3 K := by kernel_rfl
def h169 : D1 := ⟨[(0, [(5, .lf .sl), (6, lI)])], [], []⟩
def t169 (x0 : SlV) (x1 : ShV (.agg [.int .i64, .int .i64, .int .i64])) (K : Value -> HP) : HP :=
 nw (.cells #[.i x1.1, .i x1.2.1, .i x1.2.2.1] 215) fun n1 =>
 lp [.lf .sl, lI] (⟨none, 0, 0⟩, 0, ()) fun z1 go1 =>
 ld (Addr.add ⟨n1, 0, none⟩ 2) (lI) fun v1 =>
 ifB (decide ((z1.2.1 : Int) < v1)) (
 ld (Addr.add ⟨n1, 0, none⟩ 1) (lI) fun v2 =>
 ifB (decide ((v2 : Int) < 0)) (
 K (.slice none 0 0)) (
 ld (Addr.add ⟨n1, 0, none⟩ 1) (lI) fun v3 =>
 ifB (decide ((v3 : Int) ≥ (IntKind.i64.wrap (x0.len - z1.2.1)))) (
 K (.slice none 0 0)) (
 ld (Addr.add ⟨n1, 0, none⟩ 1) (lI) fun v4 =>
 A9 x0.a fun a1 =>
 ixn (IntKind.i64.wrap (v4 + z1.2.1)) x0.len <|
 ld (a1.add ((IntKind.i64.wrap (v4 + z1.2.1)).toNat * 1)) (.lf .sl) fun v5 =>
 cl PP 182 #[.sv v5] [.agg [.int .i64, .int .i64, .int .i64, .int .i64, .int .i64], .lf .sl, lI] fun r1 =>
 nw (.cells #[.i 0, .i 0, .i 0, .i 0, .i 0] 272) fun n2 =>
 st ⟨n2, 0, none⟩ [.i r1.1.1, .i r1.1.2.1, .i r1.1.2.2.1, .i r1.1.2.2.2.1, .i r1.1.2.2.2.2.1] <|
 ifB ((r1.2.2.1 : Int) != 0) (
 K (.slice none 0 0)) (
 nw (.cells #[.slice r1.2.1.a r1.2.1.len r1.2.1.cap] 27) fun n3 =>
 smW PP (Builtin.append_ #[96, 96] 96 #[.sv z1.1, .slice (some ⟨n3, 0, none⟩) 1 1]) [.lf .sl] fun v6 =>
 go1 (⟨v6.1.a, v6.1.len, v6.1.cap⟩, IntKind.i64.wrap (z1.2.1 + 1), ()))))) (
 K (.sv z1.1))
theorem e169 (x0 : SlV) (x1 : ShV (.agg [.int .i64, .int .i64, .int .i64])) (K : Value -> HP) : A8 PP h169 Tryz.f169 [.sv x0, .agg #[.i x1.1, .i x1.2.1, .i x1.2.2.1]] K = t169 x0 x1 K := by kernel_rfl
def h170 : D1 := ⟨[(0, [(4, .lf .sl), (5, .lf .sl)])], [], [(8, [0, 1, 4, 5, 8, 2, 3, 6, 7, 9, 10, 11])]⟩
def t170 (x0 : SlV) (K : Value -> HP) : HP :=
 req ((6 : Int) ≠ 0) <|
 ifB ((Int.tmod x0.len 6 : Int) != 0) (
 K (.tuple #[.slice none 0 0, .i 5])) (
 lp [.lf .sl, .lf .sl] (⟨none, 0, 0⟩, ⟨x0.a, x0.len, x0.cap⟩, ()) fun z1 go1 =>
 ifB (decide ((z1.2.1.len : Int) > 0)) (
 cl PP 227 #[.sv z1.2.1, .i 2, .i 4] [lI, lI] fun r1 =>
 A9 z1.2.1.a fun a1 =>
 ixn 0 z1.2.1.len <|
 A9 z1.2.1.a fun a2 =>
 ixn 1 z1.2.1.len <|
 ld (a1.add ((0 : Int).toNat * 1)) (.lf (.int .u8)) fun v1 =>
 ld (a2.add ((1 : Int).toNat * 1)) (.lf (.int .u8)) fun v2 =>
 nw (.cells #[.i 0, .i 0, .i 0] 102) fun n1 =>
 st ⟨n1, 0, none⟩ [.i (IntKind.i64.wrap v1), .i (IntKind.i64.wrap v2), .i r1.1] <|
 ld ⟨n1, 0, none⟩ (.agg [.int .i64, .int .i64, .int .i64]) fun v3 =>
 cl PP 130 #[.agg #[.i v3.1, .i v3.2.1, .i v3.2.2.1]] [.lf .bool] fun r2 =>
 ifB (!r2.1) (
 K (.tuple #[.slice none 0 0, .i 5])) (
 ld ⟨n1, 0, none⟩ (.agg [.int .i64, .int .i64, .int .i64]) fun v4 =>
 nw (.cells #[.i v4.1, .i v4.2.1, .i v4.2.2.1] 102) fun n2 =>
 smW PP (Builtin.append_ #[55, 55] 55 #[.sv z1.1, .slice (some ⟨n2, 0, none⟩) 1 1]) [.lf .sl] fun v5 =>
 slc ⟨z1.2.1.a, z1.2.1.len, z1.2.1.cap⟩ 6 z1.2.1.len z1.2.1.cap 1 fun s1 =>
 go1 (⟨v5.1.a, v5.1.len, v5.1.cap⟩, ⟨s1.a, s1.len, s1.cap⟩, ()))) (
 K (.tuple #[.sv z1.1, .i 0])))
theorem e170 (x0 : SlV) (K : Value -> HP) : A8 PP h170 Tryz.f170 [.sv x0] K = t170 x0 K := by kernel_rfl
def t171 (x0 : SlV) (K : Value -> HP) : HP :=
 ifB (Option.isNone x0.a) (
 K (.slice none 0 0)) (
 nw (.cells #[] 194) fun n1 =>
 smW PP (Builtin.append_ #[159, 159] 159 #[.slice (some ⟨n1, 0, none⟩) 0 0, .sv x0]) [.lf .sl] fun v1 =>
 K (.sv v1.1))
theorem e171 (x0 : SlV) (K : Value -> HP) : A8 PP Hn Tryz.f171 [.sv x0] K = t171 x0 K := by kernel_rfl
def t172 (x0 : Option Addr) (x1 : Int) (K : Value -> HP) : HP :=
 cl PP 120 #[.pointer x0, .i x1] [.lf .bool] fun r1 =>
 ifB r1.1 (
 A9 x0 fun a1 =>
 ld (a1.add 1) (.lf .sl) fun v1 =>
 cl PP 228 #[.sv v1, .i x1] [.lf .bool] fun r2 =>
 K (.bool (!r2.1))) (
 K (.bool false))
theorem e172 (x0 : Option Addr) (x1 : Int) (K : Value -> HP) : A8 PP Hn Tryz.f172 [.pointer x0, .i x1] K = t172 x0 x1 K := by kernel_rfl
def h173 : D1 := ⟨[], [(10, [])], [(6, [0, 1, 4, 5, 6, 2, 3, 7, 8, 9])]⟩
def t173 (x0 : Option Addr) (x1 : Int) (x2 : ShV (.agg [.int .i64, .int .i64, .int .i64])) (K : Value -> HP) : HP :=
 nw (.cells #[.i x2.1, .i x2.2.1, .i x2.2.2.1] 102) fun n1 =>
 nw (.cells #[.i 0, .i 0, .i 0] 102) fun n2 =>
 ifB (Option.isNone x0) (
 st ⟨n2, 0, none⟩ [.i 0, .i 0, .i 0] <|
 ld ⟨n2, 0, none⟩ (.agg [.int .i64, .int .i64, .int .i64]) fun v1 =>
 K (.tuple #[.agg #[.i v1.1, .i v1.2.1, .i v1.2.2.1], .bool false])) (
 ld ⟨n1, 0, none⟩ (.agg [.int .i64, .int .i64, .int .i64]) fun v2 =>
 cl PP 176 #[.pointer x0, .int .u64 x1, .agg #[.i v2.1, .i v2.2.1, .i v2.2.2.1]] [.agg [.int .i64, .int .i64, .int .i64, .int .i64, .int .i64], .lf .bool] fun r1 =>
 cl PP 137 #[.pointer x0, .int .u64 x1] [.lf .ptr] fun r2 =>
 nw (.cells #[.i 0, .i 0, .i 0, .i 0, .i 0] 204) fun n3 =>
 A9 r2.1 fun a1 =>
 A9 x0 fun a2 =>
 ld a1 (.lf .sl) fun v3 =>
 ld a2 (lI) fun v4 =>
 jn (fun y1 : RsV [] =>
 ld ⟨n1, 0, none⟩ (.agg [.int .i64, .int .i64, .int .i64]) fun v8 =>
 cl PP 184 #[.int .u64 x1, .agg #[.i v8.1, .i v8.2.1, .i v8.2.2.1]] [.agg [.int .i64, .int .i64, .int .i64, .int .i64]] fun r4 =>
 cl PP 230 #[.pointer x0, .int .u64 x1, .agg #[.i r4.1.1, .i r4.1.2.1, .i r4.1.2.2.1, .i r4.1.2.2.2.1, .i 0]] [] fun r5 =>
 ld (Addr.add ⟨n3, 0, none⟩ 1) (.agg [.int .i64, .int .i64, .int .i64]) fun v9 =>
 st ⟨n2, 0, none⟩ [.i v9.1, .i v9.2.1, .i v9.2.2.1] <|
 ld ⟨n2, 0, none⟩ (.agg [.int .i64, .int .i64, .int .i64]) fun v10 =>
 K (.tuple #[.agg #[.i v10.1, .i v10.2.1, .i v10.2.2.1], .bool ((v3.len : Int) == v4)])) fun j1 =>
 ifB ((v3.len : Int) == v4) (
 A9 r2.1 fun a3 =>
 ld a3 (.lf .sl) fun v5 =>
 A9 v5.a fun a4 =>
 ixn 0 v5.len <|
 ld (a4.add ((0 : Int).toNat * 5)) (.agg [.int .i64, .int .i64, .int .i64, .int .i64, .int .i64]) fun v6 =>
 st ⟨n3, 0, none⟩ [.i v6.1, .i v6.2.1, .i v6.2.2.1, .i v6.2.2.2.1, .i v6.2.2.2.2.1] <|
 A9 r2.1 fun a5 =>
 ld a5 (.lf .sl) fun v7 =>
 cl PP 229 #[.sv v7, .i 0, .i 1] [.lf .sl] fun r3 =>
 A9 r2.1 fun a6 =>
 st a6 [.slice r3.1.a r3.1.len r3.1.cap] <|
 j1 (())) (
 j1 (())))
theorem e173 (x0 : Option Addr) (x1 : Int) (x2 : ShV (.agg [.int .i64, .int .i64, .int .i64])) (K : Value -> HP) : A8 PP h173 Tryz.f173 [.pointer x0, .int .u64 x1, .agg #[.i x2.1, .i x2.2.1, .i x2.2.2.1]] K = t173 x0 x1 x2 K := by kernel_rfl
def h174 : D1 := ⟨[(0, [(0, .lf (.int .u64)), (9, lI)])], [], []⟩
def t174 (x0 : Int) (x1 : SlV) (K : Value -> HP) : HP :=
 lp [.lf (.int .u64), lI] (x0, 0, ()) fun z1 go1 =>
 ifB (decide ((z1.2.1 : Int) < x1.len)) (
 A9 x1.a fun a1 =>
 ixn z1.2.1 x1.len <|
 ld (a1.add (z1.2.1.toNat * 1)) (.lf (.int .u8)) fun v1 =>
 req ((0 : Int) <= 29) <|
 go1 (Ag7 .xor .u64 (IntKind.u64.wrap ((Ag7 .xor .u64 z1.1 (IntKind.u64.wrap v1)) * 1099511628211)) (Int.fdiv (IntKind.u64.wrap ((Ag7 .xor .u64 z1.1 (IntKind.u64.wrap v1)) * 1099511628211)) (2 ^ (min (29 : Int).toNat IntKind.u64.bits))), IntKind.i64.wrap (z1.2.1 + 1), ())) (
 K (.int .u64 z1.1))
theorem e174 (x0 : Int) (x1 : SlV) (K : Value -> HP) : A8 PP h174 Tryz.f174 [.int .u64 x0, .sv x1] K = t174 x0 x1 K := by kernel_rfl
def h175 : D1 := ⟨[], [(3, []), (6, [])], [(7, [0, 1, 2, 4, 5, 6, 7, 3, 8, 9]), (6, [0, 1, 2, 4, 3, 5, 6, 7, 8, 9]), (4, [0, 1, 2, 4, 5, 6, 3, 7, 8, 9, 10]), (1, [0, 1, 2, 4, 5, 6, 3, 7, 8, 9, 10])]⟩
def t175 (x0 : Option Addr) (x1 : Option Addr) (K : Value -> HP) : HP :=
 jn (fun y1 : RsV [] =>
 jn (fun y2 : RsV [] =>
 A9 x0 fun a13 =>
 ld (a13.add 1) (lI) fun v9 =>
 cl PP 112 #[.pointer x1] [lI] fun r1 =>
 keep (D0 (a13.add 1) [.i v9]) <|
 A9 x0 fun a14 =>
 st (a14.add 1) [.i (IntKind.i64.wrap (v9 - r1.1))] <|
 A9 x0 fun a15 =>
 A9 x1 fun a16 =>
 ld (a15.add 4) (.lf .map) fun v10 =>
 ld a16 (.lf .str) fun v11 =>
 smW PP (Builtin.delete_ #[180, 9] 0 #[.map v10, .string v11]) [] fun v12 =>
 K (.tuple #[])) fun j2 =>
 A9 x1 fun a7 =>
 ld (a7.add 4) (.lf .ptr) fun v5 =>
 ifB (!(Option.isNone v5)) (
 A9 x1 fun a8 =>
 A9 x1 fun a9 =>
 ld (a8.add 4) (.lf .ptr) fun v6 =>
 ld (a9.add 3) (.lf .ptr) fun v7 =>
 A9 v6 fun a10 =>
 st (a10.add 3) [.pointer v7] <|
 j2 (())) (
 A9 x1 fun a11 =>
 ld (a11.add 3) (.lf .ptr) fun v8 =>
 A9 x0 fun a12 =>
 st (a12.add 3) [.pointer v8] <|
 j2 (()))) fun j1 =>
 A9 x1 fun a1 =>
 ld (a1.add 3) (.lf .ptr) fun v1 =>
 ifB (!(Option.isNone v1)) (
 A9 x1 fun a2 =>
 A9 x1 fun a3 =>
 ld (a2.add 3) (.lf .ptr) fun v2 =>
 ld (a3.add 4) (.lf .ptr) fun v3 =>
 A9 v2 fun a4 =>
 st (a4.add 4) [.pointer v3] <|
 j1 (())) (
 A9 x1 fun a5 =>
 ld (a5.add 4) (.lf .ptr) fun v4 =>
 A9 x0 fun a6 =>
 st (a6.add 2) [.pointer v4] <|
 j1 (()))
theorem e175 (x0 : Option Addr) (x1 : Option Addr) (K : Value -> HP) : A8 PP h175 Tryz.f175 [.pointer x0, .pointer x1] K = t175 x0 x1 K := by kernel_rfl
def h176 : D1 := ⟨[], [], [(3, [0, 1, 3, 4, 2, 5, 6, 7, 8])]⟩
def t176 (x0 : Option Addr) (x1 : Int) (x2 : ShV (.agg [.int .i64, .int .i64, .int .i64])) (K : Value -> HP) : HP :=
 nw (.cells #[.i x2.1, .i x2.2.1, .i x2.2.2.1] 102) fun n1 =>
 nw (.cells #[.i 0, .i 0, .i 0, .i 0, .i 0] 204) fun n2 =>
 ifB (Option.isNone x0) (
 st ⟨n2, 0, none⟩ [.i 0, .i 0, .i 0, .i 0, .i 0] <|
 ld ⟨n2, 0, none⟩ (.agg [.int .i64, .int .i64, .int .i64, .int .i64, .int .i64]) fun v1 =>
 K (.tuple #[.agg #[.i v1.1, .i v1.2.1, .i v1.2.2.1, .i v1.2.2.2.1, .i v1.2.2.2.2.1], .bool false])) (
 ld ⟨n1, 0, none⟩ (.agg [.int .i64, .int .i64, .int .i64]) fun v2 =>
 cl PP 137 #[.pointer x0, .int .u64 x1] [.lf .ptr] fun r1 =>
 keep (D0 ⟨n1, 0, none⟩ [.i v2.1, .i v2.2.1, .i v2.2.2.1]) <|
 cl PP 184 #[.int .u64 x1, .agg #[.i v2.1, .i v2.2.1, .i v2.2.2.1]] [.agg [.int .i64, .int .i64, .int .i64, .int .i64]] fun r2 =>
 nw (.cells #[.i 0, .i 0, .i 0, .i 0] 202) fun n3 =>
 st ⟨n3, 0, none⟩ [.i r2.1.1, .i r2.1.2.1, .i r2.1.2.2.1, .i r2.1.2.2.2.1] <|
 A9 r1.1 fun a1 =>
 ld a1 (.lf .sl) fun v3 =>
 cl PP 231 #[.sv v3, .func (.func 232) #[] #[.pointer (some ⟨n3, 0, none⟩)]] [lI] fun r3 =>
 ifB (decide ((r3.1 : Int) < 0)) (
 st ⟨n2, 0, none⟩ [.i 0, .i 0, .i 0, .i 0, .i 0] <|
 ld ⟨n2, 0, none⟩ (.agg [.int .i64, .int .i64, .int .i64, .int .i64, .int .i64]) fun v4 =>
 K (.tuple #[.agg #[.i v4.1, .i v4.2.1, .i v4.2.2.1, .i v4.2.2.2.1, .i v4.2.2.2.2.1], .bool false])) (
 A9 r1.1 fun a2 =>
 ld a2 (.lf .sl) fun v5 =>
 A9 v5.a fun a3 =>
 ixn r3.1 v5.len <|
 ld (a3.add (r3.1.toNat * 5)) (.agg [.int .i64, .int .i64, .int .i64, .int .i64, .int .i64]) fun v6 =>
 nw (.cells #[.i 0, .i 0, .i 0, .i 0, .i 0] 204) fun n4 =>
 st ⟨n4, 0, none⟩ [.i v6.1, .i v6.2.1, .i v6.2.2.1, .i v6.2.2.2.1, .i v6.2.2.2.2.1] <|
 A9 r1.1 fun a4 =>
 ld a4 (.lf .sl) fun v7 =>
 cl PP 229 #[.sv v7, .i r3.1, .i (IntKind.i64.wrap (r3.1 + 1))] [.lf .sl] fun r4 =>
 A9 r1.1 fun a5 =>
 st a5 [.slice r4.1.a r4.1.len r4.1.cap] <|
 ld ⟨n4, 0, none⟩ (.agg [.int .i64, .int .i64, .int .i64, .int .i64, .int .i64]) fun v8 =>
 st ⟨n2, 0, none⟩ [.i v8.1, .i v8.2.1, .i v8.2.2.1, .i v8.2.2.2.1, .i v8.2.2.2.2.1] <|
 ld ⟨n2, 0, none⟩ (.agg [.int .i64, .int .i64, .int .i64, .int .i64, .int .i64]) fun v9 =>
 K (.tuple #[.agg #[.i v9.1, .i v9.2.1, .i v9.2.2.1, .i v9.2.2.2.1, .i v9.2.2.2.2.1], .bool true])))
theorem e176 (x0 : Option Addr) (x1 : Int) (x2 : ShV (.agg [.int .i64, .int .i64, .int .i64])) (K : Value -> HP) : A8 PP h176 Tryz.f176 [.pointer x0, .int .u64 x1, .agg #[.i x2.1, .i x2.2.1, .i x2.2.2.1]] K = t176 x0 x1 x2 K := by kernel_rfl
def t177 (x0 : SlV) (x1 : ByteArray) (K : Value -> HP) : HP :=
 ifB (decide ((x1.size : Int) > 65536)) (
 K (.tuple #[.slice none 0 0, .i 4])) (
 cl PP 132 #[.sv x0, .i x1.size, .i 4] [.lf .sl, lI] fun r1 =>
 smW PP (Builtin.append_ #[27, 9] 27 #[.sv r1.1, .string x1]) [.lf .sl] fun v1 =>
 K (.tuple #[.sv v1.1, .i r1.2.1]))
theorem e177 (x0 : SlV) (x1 : ByteArray) (K : Value -> HP) : A8 PP Hn Tryz.f177 [.sv x0, .string x1] K = t177 x0 x1 K := by kernel_rfl
def t178 (x0 : SlV) (K : Value -> HP) : HP :=
 cl PP 233 #[.sv x0] [.lf .sl] fun r1 =>
 K (.sv r1.1)
theorem e178 (x0 : SlV) (K : Value -> HP) : A8 PP Hn Tryz.f178 [.sv x0] K = t178 x0 K := by kernel_rfl
def t179 (x0 : SlV) (K : Value -> HP) : HP :=
 cl PP 234 #[.i 0, .sv x0] [lI] fun r1 =>
 K (.i r1.1)
theorem e179 (x0 : SlV) (K : Value -> HP) : A8 PP Hn Tryz.f179 [.sv x0] K = t179 x0 K := by kernel_rfl
def t180 (x0 : Int) (K : Value -> HP) : HP :=
 req ((0 : Int) <= 48) <|
 K (.i (IntKind.i64.wrap (Int.fdiv x0 (2 ^ (min (48 : Int).toNat IntKind.u64.bits)))))
theorem e180 (x0 : Int) (K : Value -> HP) : A8 PP Hn Tryz.f180 [.int .u64 x0] K = t180 x0 K := by kernel_rfl
def t181 (x0 : Option Addr) (x1 : Int) (x2 : Int) (K : Value -> HP) : HP :=
 cl PP 235 #[.pointer x0, .i x1, .i x2] [.lf .ptr, lI] fun r1 =>
 ifB ((r1.2.1 : Int) != 0) (
 K (.tuple #[.slice none 0 0, .i r1.2.1])) (
 A9 r1.1 fun a1 =>
 ld (a1.add 3) (.lf .bool) fun v1 =>
 ifB v1 (
 A9 x0 fun a2 =>
 ld (Addr.add (a2.add 3) 2) (lI) fun v2 =>
 cl PP 163 #[.i v2] [.lf .sl] fun r2 =>
 K (.tuple #[.sv r2.1, .i 0])) (
 nw (.cells #[] 5) fun n1 =>
 A9 r1.1 fun a3 =>
 ld a3 (.lf .sl) fun v3 =>
 A9 v3.a fun a4 =>
 ixn x2 v3.len <|
 ld (a4.add (x2.toNat * 1)) (.lf .sl) fun v4 =>
 smW PP (Builtin.append_ #[27, 27] 27 #[.slice (some ⟨n1, 0, none⟩) 0 0, .sv v4]) [.lf .sl] fun v5 =>
 K (.tuple #[.sv v5.1, .i 0])))
theorem e181 (x0 : Option Addr) (x1 : Int) (x2 : Int) (K : Value -> HP) : A8 PP Hn Tryz.f181 [.pointer x0, .i x1, .i x2] K = t181 x0 x1 x2 K := by kernel_rfl
def h182 : D1 := ⟨[(1, [(84, lI)])], [], [(19, [2, 3, 4, 0, 1, 5, 6, 7, 8]), (8, [0, 1, 4, 5, 8, 9, 12, 14, 15, 2, 3, 6, 7, 10, 11, 16, 17, 13, 18, 19, 20]), (6, [0, 1, 2, 3, 4, 5, 6, 7])]⟩
def t182 (x0 : SlV) (K : Value -> HP) : HP :=
 nw (.cells #[.i 0, .i 0, .i 0, .i 0, .i 0] 272) fun n1 =>
 cl PP 129 #[.i x0.len] [.lf .bool] fun r1 =>
 ifB (!r1.1) (
 st ⟨n1, 0, none⟩ [.i 0, .i 0, .i 0, .i 0, .i 0] <|
 ld ⟨n1, 0, none⟩ (.agg [.int .i64, .int .i64, .int .i64, .int .i64, .int .i64]) fun v1 =>
 K (.tuple #[.agg #[.i v1.1, .i v1.2.1, .i v1.2.2.1, .i v1.2.2.2.1, .i v1.2.2.2.2.1], .slice none 0 0, .i 2])) (
 cl PP 236 #[.sv x0] [.lf .bool] fun r2 =>
 ifB r2.1 (
 st ⟨n1, 0, none⟩ [.i 0, .i 0, .i 0, .i 0, .i 0] <|
 ld ⟨n1, 0, none⟩ (.agg [.int .i64, .int .i64, .int .i64, .int .i64, .int .i64]) fun v2 =>
 K (.tuple #[.agg #[.i v2.1, .i v2.2.1, .i v2.2.2.1, .i v2.2.2.2.1, .i v2.2.2.2.2.1], .slice none 0 0, .i 15])) (
 slc ⟨x0.a, x0.len, x0.cap⟩ 0 (IntKind.i64.wrap (x0.len - 4)) x0.cap 1 fun s1 =>
 cl PP 238 #[.sv x0, .i (IntKind.i64.wrap (x0.len - 4)), .i 4] [lI] fun r3 =>
 cl PP 237 #[.sv s1, .i r3.1] [.lf .bool] fun r4 =>
 ifB (!r4.1) (
 st ⟨n1, 0, none⟩ [.i 0, .i 0, .i 0, .i 0, .i 0] <|
 ld ⟨n1, 0, none⟩ (.agg [.int .i64, .int .i64, .int .i64, .int .i64, .int .i64]) fun v3 =>
 K (.tuple #[.agg #[.i v3.1, .i v3.2.1, .i v3.2.2.1, .i v3.2.2.2.1, .i v3.2.2.2.2.1], .slice none 0 0, .i 12])) (
 A9 x0.a fun a1 =>
 ixn 0 x0.len <|
 A9 x0.a fun a2 =>
 ixn 1 x0.len <|
 A9 x0.a fun a3 =>
 ixn 2 x0.len <|
 A9 x0.a fun a4 =>
 ixn 8 x0.len <|
 ld (a1.add ((0 : Int).toNat * 1)) (.lf (.int .u8)) fun v4 =>
 ld (a2.add ((1 : Int).toNat * 1)) (.lf (.int .u8)) fun v5 =>
 ld (a3.add ((2 : Int).toNat * 1)) (.lf (.int .u8)) fun v6 =>
 ld (a4.add ((8 : Int).toNat * 1)) (.lf (.int .u8)) fun v7 =>
 cl PP 238 #[.sv x0, .i 4, .i 4] [lI] fun r5 =>
 keep (D0 (a4.add ((8 : Int).toNat * 1)) [.int .u8 v7]) <|
 keep (D0 (a3.add ((2 : Int).toNat * 1)) [.int .u8 v6]) <|
 keep (D0 (a2.add ((1 : Int).toNat * 1)) [.int .u8 v5]) <|
 keep (D0 (a1.add ((0 : Int).toNat * 1)) [.int .u8 v4]) <|
 nw (.cells #[.i 0, .i 0, .i 0, .i 0, .i 0] 272) fun n2 =>
 st ⟨n2, 0, none⟩ [.i (IntKind.i64.wrap v4), .i (IntKind.i64.wrap v5), .i (IntKind.i64.wrap v6), .i r5.1, .i (IntKind.i64.wrap v7)] <|
 cl PP 238 #[.sv x0, .i 10, .i 2] [lI] fun r6 =>
 A9 x0.a fun a5 =>
 ixn 3 x0.len <|
 ld (a5.add ((3 : Int).toNat * 1)) (.lf (.int .u8)) fun v8 =>
 ifB ((v8 : Int) != 165) (
 st ⟨n1, 0, none⟩ [.i 0, .i 0, .i 0, .i 0, .i 0] <|
 ld ⟨n1, 0, none⟩ (.agg [.int .i64, .int .i64, .int .i64, .int .i64, .int .i64]) fun v9 =>
 K (.tuple #[.agg #[.i v9.1, .i v9.2.1, .i v9.2.2.1, .i v9.2.2.2.1, .i v9.2.2.2.2.1], .slice none 0 0, .i 5])) (
 A9 x0.a fun a6 =>
 ixn 9 x0.len <|
 ld (a6.add ((9 : Int).toNat * 1)) (.lf (.int .u8)) fun v10 =>
 ifB ((v10 : Int) != 0) (
 st ⟨n1, 0, none⟩ [.i 0, .i 0, .i 0, .i 0, .i 0] <|
 ld ⟨n1, 0, none⟩ (.agg [.int .i64, .int .i64, .int .i64, .int .i64, .int .i64]) fun v11 =>
 K (.tuple #[.agg #[.i v11.1, .i v11.2.1, .i v11.2.2.1, .i v11.2.2.2.1, .i v11.2.2.2.2.1], .slice none 0 0, .i 5])) (
 cl PP 62 #[.i x0.len] [lI] fun r7 =>
 ifB (decide ((r6.1 : Int) > r7.1)) (
 st ⟨n1, 0, none⟩ [.i 0, .i 0, .i 0, .i 0, .i 0] <|
 ld ⟨n1, 0, none⟩ (.agg [.int .i64, .int .i64, .int .i64, .int .i64, .int .i64]) fun v12 =>
 K (.tuple #[.agg #[.i v12.1, .i v12.2.1, .i v12.2.2.1, .i v12.2.2.2.1, .i v12.2.2.2.2.1], .slice none 0 0, .i 5])) (
 ld ⟨n2, 0, none⟩ (.agg [.int .i64, .int .i64, .int .i64, .int .i64, .int .i64]) fun v13 =>
 cl PP 239 #[.agg #[.i v13.1, .i v13.2.1, .i v13.2.2.1, .i v13.2.2.2.1, .i v13.2.2.2.2.1]] [lI] fun r8 =>
 ifB ((r8.1 : Int) != 0) (
 st ⟨n1, 0, none⟩ [.i 0, .i 0, .i 0, .i 0, .i 0] <|
 ld ⟨n1, 0, none⟩ (.agg [.int .i64, .int .i64, .int .i64, .int .i64, .int .i64]) fun v14 =>
 K (.tuple #[.agg #[.i v14.1, .i v14.2.1, .i v14.2.2.1, .i v14.2.2.2.1, .i v14.2.2.2.2.1], .slice none 0 0, .i 5])) (
 slc ⟨x0.a, x0.len, x0.cap⟩ (IntKind.i64.wrap (12 + r6.1)) (IntKind.i64.wrap (x0.len - 4)) x0.cap 1 fun s2 =>
 lp [lI] (0, ()) fun z1 go1 =>
 ifB (decide ((z1.1 : Int) < s2.len)) (
 A9 s2.a fun a7 =>
 ixn z1.1 s2.len <|
 ld (a7.add (z1.1.toNat * 1)) (.lf (.int .u8)) fun v15 =>
 ifB ((v15 : Int) != 0) (
 st ⟨n1, 0, none⟩ [.i 0, .i 0, .i 0, .i 0, .i 0] <|
 ld ⟨n1, 0, none⟩ (.agg [.int .i64, .int .i64, .int .i64, .int .i64, .int .i64]) fun v16 =>
 K (.tuple #[.agg #[.i v16.1, .i v16.2.1, .i v16.2.2.1, .i v16.2.2.2.1, .i v16.2.2.2.2.1], .slice none 0 0, .i 5])) (
 go1 (IntKind.i64.wrap (z1.1 + 1), ()))) (
 slc ⟨x0.a, x0.len, x0.cap⟩ 12 (IntKind.i64.wrap (12 + r6.1)) x0.cap 1 fun s3 =>
 ld ⟨n2, 0, none⟩ (.agg [.int .i64, .int .i64, .int .i64, .int .i64, .int .i64]) fun v17 =>
 nw (.cells #[] 5) fun n3 =>
 smW PP (Builtin.append_ #[27, 27] 27 #[.slice (some ⟨n3, 0, none⟩) 0 0, .sv s3]) [.lf .sl] fun v18 =>
 keep (D0 ⟨n2, 0, none⟩ [.i v17.1, .i v17.2.1, .i v17.2.2.1, .i v17.2.2.2.1, .i v17.2.2.2.2.1]) <|
 st ⟨n1, 0, none⟩ [.i v17.1, .i v17.2.1, .i v17.2.2.1, .i v17.2.2.2.1, .i v17.2.2.2.2.1] <|
 ld ⟨n1, 0, none⟩ (.agg [.int .i64, .int .i64, .int .i64, .int .i64, .int .i64]) fun v19 =>
 K (.tuple #[.agg #[.i v19.1, .i v19.2.1, .i v19.2.2.1, .i v19.2.2.2.1, .i v19.2.2.2.2.1], .sv v18.1, .i 0])))))))))
theorem e182 (x0 : SlV) (K : Value -> HP) : A8 PP h182 Tryz.f182 [.sv x0] K = t182 x0 K := by kernel_rfl
def t183 (x0 : SlV) (K : Value -> HP) : HP :=
 cl PP 178 #[.sv x0] [.lf .sl] fun r1 =>
 cl PP 240 #[.sv r1.1] [.lf .ptr] fun r2 =>
 cl PP 241 #[.pointer r2.1] [.lf .str, lI] fun r3 =>
 ifB ((r3.2.1 : Int) != 0) (
 K (.tuple #[.string (ByteArray.mk #[]), .slice none 0 0, .i r3.2.1])) (
 cl PP 241 #[.pointer r2.1] [.lf .str, lI] fun r4 =>
 ifB ((r4.2.1 : Int) != 0) (
 K (.tuple #[.string (ByteArray.mk #[]), .slice none 0 0, .i r4.2.1])) (
 cl PP 242 #[.pointer r2.1] [lI] fun r5 =>
 cl PP 243 #[.pointer r2.1, .i 4] [lI, lI] fun r6 =>
 ifB ((r6.2.1 : Int) != 0) (
 K (.tuple #[.string (ByteArray.mk #[]), .slice none 0 0, .i r6.2.1])) (
 cl PP 242 #[.pointer r2.1] [lI] fun r7 =>
 ifB (decide ((r7.1 : Int) > 0)) (
 K (.tuple #[.string (ByteArray.mk #[]), .slice none 0 0, .i 5])) (
 cl PP 107 #[.i r3.1.size] [.lf .bool] fun r8 =>
 ifB (!r8.1) (
 K (.tuple #[.string (ByteArray.mk #[]), .slice none 0 0, .i 5])) (
 slc ⟨r1.1.a, r1.1.len, r1.1.cap⟩ 0 (IntKind.i64.wrap (r1.1.len - r5.1)) r1.1.cap 1 fun s1 =>
 cl PP 237 #[.sv s1, .i r6.1] [.lf .bool] fun r9 =>
 ifB (!r9.1) (
 K (.tuple #[.string (ByteArray.mk #[]), .slice none 0 0, .i 12])) (
 smA PP (Conv.stringToBytes 5 r4.1) (.lf .sl) fun v1 =>
 K (.tuple #[.string r3.1, .sv v1, .i 0])))))))
theorem e183 (x0 : SlV) (K : Value -> HP) : A8 PP Hn Tryz.f183 [.sv x0] K = t183 x0 K := by kernel_rfl
def h184 : D1 := ⟨[], [], [(1, [0, 2, 1, 3, 4])]⟩
def t184 (x0 : Int) (x1 : ShV (.agg [.int .i64, .int .i64, .int .i64])) (K : Value -> HP) : HP :=
 nw (.cells #[.i x1.1, .i x1.2.1, .i x1.2.2.1] 102) fun n1 =>
 nw (.cells #[.i 0, .i 0, .i 0, .i 0] 202) fun n2 =>
 ld ⟨n1, 0, none⟩ (.agg [.int .i64, .int .i64, .int .i64]) fun v1 =>
 cl PP 180 #[.int .u64 x0] [lI] fun r1 =>
 keep (D0 ⟨n1, 0, none⟩ [.i v1.1, .i v1.2.1, .i v1.2.2.1]) <|
 st ⟨n2, 0, none⟩ [.i r1.1, .i v1.1, .i v1.2.1, .i v1.2.2.1] <|
 ld ⟨n2, 0, none⟩ (.agg [.int .i64, .int .i64, .int .i64, .int .i64]) fun v2 =>
 K (.agg #[.i v2.1, .i v2.2.1, .i v2.2.2.1, .i v2.2.2.2.1])
theorem e184 (x0 : Int) (x1 : ShV (.agg [.int .i64, .int .i64, .int .i64])) (K : Value -> HP) : A8 PP h184 Tryz.f184 [.int .u64 x0, .agg #[.i x1.1, .i x1.2.1, .i x1.2.2.1]] K = t184 x0 x1 K := by kernel_rfl
def t185 (x0 : Option Addr) (K : Value -> HP) : HP :=
 nw (.cells #[.i 0] 3) fun n1 =>
 st ⟨n1, 0, none⟩ [.i 0] <|
 cl PP 119 #[.pointer x0, .func (.func 172) #[.pointer x0] #[], .func (.func 244) #[] #[.pointer (some ⟨n1, 0, none⟩)]] [] fun r1 =>
 ld ⟨n1, 0, none⟩ (lI) fun v1 =>
 K (.i v1)
theorem e185 (x0 : Option Addr) (K : Value -> HP) : A8 PP Hn Tryz.f185 [.pointer x0] K = t185 x0 K := by kernel_rfl
def h186 : D1 := ⟨[], [(4, [])], []⟩
def t186 (x0 : Option Addr) (K : Value -> HP) : HP :=
 A9 x0 fun a1 =>
 ld (a1.add 1) (.lf .ptr) fun v1 =>
 cl PP 245 #[.pointer v1] [lI, .lf .bool] fun r1 =>
 jn (fun y1 : RsV [] =>
 A9 x0 fun a5 =>
 ld (a5.add 3) (.lf .map) fun v5 =>
 smR PP (Instr.lookup 79 (.map v5) (.i r1.1) false) [.lf .ptr] fun v6 =>
 K (.pointer v6.1)) fun j1 =>
 ifB (!r1.2.1) (
 K (.pointer none)) (
 A9 x0 fun a2 =>
 ld (a2.add 4) (.lf .ptr) fun v2 =>
 ifB (!(Option.isNone v2)) (
 A9 x0 fun a3 =>
 ld (a3.add 4) (.lf .ptr) fun v3 =>
 A9 v3 fun a4 =>
 ld a4 (lI) fun v4 =>
 ifB ((v4 : Int) == r1.1) (
 K (.pointer none)) (
 j1 (()))) (
 j1 (())))
theorem e186 (x0 : Option Addr) (K : Value -> HP) : A8 PP h186 Tryz.f186 [.pointer x0] K = t186 x0 K := by kernel_rfl
def h187 : D1 := ⟨[(0, [(15, lI)])], [], [(10, [0, 1, 2, 3, 4, 5, 6, 7, 8]), (5, [0, 5, 13, 1, 2, 3, 4, 6, 7, 8, 9, 10, 11, 12, 14, 15])]⟩
def t187 (x0 : Option Addr) (x1 : Option Addr) (x2 : Int) (K : Value -> HP) : HP :=
 nw (.cells #[.pointer x1] 80) fun n1 =>
 ld ⟨n1, 0, none⟩ (.lf .ptr) fun v1 =>
 A9 v1 fun a1 =>
 ld (a1.add 3) (.lf .sl) fun v2 =>
 lp [lI] (0, ()) fun z1 go1 =>
 ifB (decide ((z1.1 : Int) < v2.len)) (
 A9 v2.a fun a2 =>
 ixn z1.1 v2.len <|
 ld (a2.add (z1.1.toNat * 3)) (.agg [.int .i64, .int .i64, .int .i64]) fun v3 =>
 nw (.cells #[.i 0, .i 0, .i 0] 215) fun n2 =>
 st ⟨n2, 0, none⟩ [.i v3.1, .i v3.2.1, .i v3.2.2.1] <|
 ld ⟨n2, 0, none⟩ (lI) fun v4 =>
 ifB ((v4 : Int) != 2) (
 go1 (IntKind.i64.wrap (z1.1 + 1), ())) (
 ld ⟨n1, 0, none⟩ (.lf .ptr) fun v5 =>
 A9 v5 fun a3 =>
 ld a3 (lI) fun v6 =>
 ld (Addr.add ⟨n2, 0, none⟩ 1) (lI) fun v7 =>
 ld ⟨n1, 0, none⟩ (.lf .ptr) fun v8 =>
 A9 v8 fun a4 =>
 ld (a4.add 1) (lI) fun v9 =>
 ld ⟨n2, 0, none⟩ (.agg [.int .i64, .int .i64, .int .i64]) fun v10 =>
 cl PP 246 #[.pointer x0, .agg #[.i v6, .i v7, .i v9], .agg #[.i v10.1, .i v10.2.1, .i v10.2.2.1], .i x2] [lI] fun r1 =>
 ifB ((r1.1 : Int) != 0) (
 K (.i r1.1)) (
 go1 (IntKind.i64.wrap (z1.1 + 1), ())))) (
 A9 x0 fun a5 =>
 ld (Addr.add (a5.add 11) 6) (.lf .sl) fun v11 =>
 cl PP 247 #[.sv v11, .func (.func 248) #[] #[.pointer (some ⟨n1, 0, none⟩)]] [.lf .sl] fun r2 =>
 A9 x0 fun a6 =>
 st (Addr.add (a6.add 11) 6) [.slice r2.1.a r2.1.len r2.1.cap] <|
 A9 x0 fun a7 =>
 ld ⟨n1, 0, none⟩ (.lf .ptr) fun v12 =>
 A9 v12 fun a8 =>
 ld a8 (lI) fun v13 =>
 cl PP 190 #[.pointer (some (a7.add 11)), .i v13] [lI] fun r3 =>
 K (.i r3.1))
theorem e187 (x0 : Option Addr) (x1 : Option Addr) (x2 : Int) (K : Value -> HP) : A8 PP h187 Tryz.f187 [.pointer x0, .pointer x1, .i x2] K = t187 x0 x1 x2 K := by kernel_rfl
def h188 : D1 := ⟨[], [], [(6, [0, 1, 2, 3, 5, 6, 7, 9, 10, 11, 13, 14, 15, 17, 18, 19, 4, 8, 12, 16, 20, 21, 22, 23]), (5, [0, 1, 2, 4, 3, 5, 6, 7])]⟩
def t188 (x0 : Option Addr) (K : Value -> HP) : HP :=
 A9 x0 fun a1 =>
 ld (a1.add 4) (.lf .ptr) fun v1 =>
 ifB (Option.isNone v1) (
 K (.i 0)) (
 A9 x0 fun a2 =>
 st (a2.add 4) [.pointer none] <|
 A9 x0 fun a3 =>
 ld (a3.add 2) (.lf .ptr) fun v2 =>
 nw (.cells #[.i 1] 3) fun n1 =>
 cl PP 134 #[.pointer x0, .slice (some ⟨n1, 0, none⟩) 1 1] [lI] fun r1 =>
 keep (D0 (a3.add 2) [.pointer v2]) <|
 cl PP 133 #[.pointer v2, .i r1.1] [.lf .bool] fun r2 =>
 A9 x0 fun a4 =>
 A9 v1 fun a5 =>
 A9 v1 fun a6 =>
 A9 v1 fun a7 =>
 A9 v1 fun a8 =>
 ld a4 (.lf .ptr) fun v3 =>
 ld a5 (lI) fun v4 =>
 ld (a6.add 1) (lI) fun v5 =>
 ld (a7.add 2) (lI) fun v6 =>
 ld (a8.add 3) (.lf .sl) fun v7 =>
 cl PP 249 #[.pointer v3, .i v4, .i v5, .i v6, .sv v7] [lI] fun r3 =>
 cl PP 136 #[.pointer x0, .i r3.1] [lI] fun r4 =>
 K (.i r4.1))
theorem e188 (x0 : Option Addr) (K : Value -> HP) : A8 PP h188 Tryz.f188 [.pointer x0] K = t188 x0 K := by kernel_rfl
def h189 : D1 := ⟨[], [], [(4, [1, 0, 4, 2, 5, 3, 6])]⟩
def t189 (x0 : Option Addr) (K : Value -> HP) : HP :=
 nw (.cells #[.i 0, .bool false, .bool false] 194) fun n1 =>
 nw (.cells #[.i 0] 3) fun n2 =>
 nw (.cells #[.bool false] 4) fun n3 =>
 st ⟨n2, 0, none⟩ [.i 0] <|
 st ⟨n3, 0, none⟩ [.bool false] <|
 cl PP 119 #[.pointer x0, .func (.func 172) #[.pointer x0] #[], .func (.func 250) #[] #[.pointer (some ⟨n3, 0, none⟩), .pointer (some ⟨n1, 0, none⟩), .pointer (some ⟨n2, 0, none⟩)]] [] fun r1 =>
 ld ⟨n2, 0, none⟩ (lI) fun v1 =>
 ld (Addr.add ⟨n1, 0, none⟩ 2) (.lf .bool) fun v2 =>
 ld ⟨n3, 0, none⟩ (.lf .bool) fun v3 =>
 K (.tuple #[.i v1, .bool v2, .bool v3])
theorem e189 (x0 : Option Addr) (K : Value -> HP) : A8 PP h189 Tryz.f189 [.pointer x0] K = t189 x0 K := by kernel_rfl
def t190 (x0 : Option Addr) (x1 : Int) (K : Value -> HP) : HP :=
 A9 x0 fun a1 =>
 ld a1 (.lf .ptr) fun v1 =>
 cl PP 252 #[.pointer v1, .i x1] [lI] fun r1 =>
 ifB ((r1.1 : Int) == 11) (
 cl PP 136 #[.pointer x0, .i r1.1] [lI] fun r2 =>
 K (.i r2.1)) (
 A9 x0 fun a2 =>
 ld (a2.add 1) (.lf .ptr) fun v2 =>
 cl PP 253 #[.pointer v2, .i x1, .bool ((r1.1 : Int) == 10)] [.lf .bool] fun r3 =>
 A9 x0 fun a3 =>
 ld (a3.add 3) (.lf .map) fun v3 =>
 smW PP (Builtin.delete_ #[79, 3] 0 #[.map v3, .i x1]) [] fun v4 =>
 K (.i 0))
theorem e190 (x0 : Option Addr) (x1 : Int) (K : Value -> HP) : A8 PP Hn Tryz.f190 [.pointer x0, .i x1] K = t190 x0 x1 K := by kernel_rfl
def h191 : D1 := ⟨[], [], [(8, [0, 1, 2, 4, 5, 6, 7, 3, 8, 9]), (2, [0, 1, 2, 4, 5, 6, 7, 3, 8, 9, 10, 11]), (1, [0, 1, 2, 4, 3, 5, 6, 7])]⟩
def t191 (x0 : Option Addr) (x1 : Int) (K : Value -> HP) : HP :=
 A9 x0 fun a1 =>
 ld (a1.add 2) (.lf .ptr) fun v1 =>
 nw (.cells #[.i 1] 3) fun n1 =>
 cl PP 134 #[.pointer x0, .slice (some ⟨n1, 0, none⟩) 1 1] [lI] fun r1 =>
 keep (D0 (a1.add 2) [.pointer v1]) <|
 cl PP 133 #[.pointer v1, .i r1.1] [.lf .bool] fun r2 =>
 A9 x0 fun a2 =>
 A9 x0 fun a3 =>
 ld a2 (.lf .ptr) fun v2 =>
 ld (a3.add 5) (lI) fun v3 =>
 cl PP 254 #[.pointer v2, .i x1, .i (IntKind.i64.wrap (v3 + 1))] [lI] fun r3 =>
 ifB ((r3.1 : Int) != 0) (
 cl PP 136 #[.pointer x0, .i r3.1] [lI] fun r4 =>
 K (.i r4.1)) (
 A9 x0 fun a4 =>
 ld (a4.add 5) (lI) fun v4 =>
 A9 x0 fun a5 =>
 st (a5.add 5) [.i (IntKind.i64.wrap (v4 + 1))] <|
 A9 x0 fun a6 =>
 ld (a6.add 1) (.lf .ptr) fun v5 =>
 cl PP 255 #[.pointer v5, .i x1] [.lf .bool] fun r5 =>
 A9 x0 fun a7 =>
 ld (a7.add 5) (lI) fun v6 =>
 nw (.cells #[.i x1, .i v6, .i 1, .slice none 0 0] 156) fun n2 =>
 A9 x0 fun a8 =>
 st (a8.add 4) [.pointer (some ⟨n2, 0, none⟩)] <|
 A9 x0 fun a9 =>
 A9 x0 fun a10 =>
 ld (a9.add 3) (.lf .map) fun v7 =>
 ld (a10.add 4) (.lf .ptr) fun v8 =>
 smU PP (Instr.mapUpdate 79 (.map v7) (.i x1) (.pointer v8)) <|
 K (.i 0))
theorem e191 (x0 : Option Addr) (x1 : Int) (K : Value -> HP) : A8 PP h191 Tryz.f191 [.pointer x0, .i x1] K = t191 x0 x1 K := by kernel_rfl
def h192 : D1 := ⟨[(0, [(5, lI)])], [], []⟩
def t192 (x0 : Int) (K : Value -> HP) : HP :=
 nw (.cells #[.int .u8 0, .int .u8 0, .int .u8 0, .int .u8 0, .int .u8 0, .int .u8 0, .int .u8 0, .int .u8 0] 282) fun n1 =>
 nw (.cells #[.int .u8 0, .int .u8 0, .int .u8 0, .int .u8 0, .int .u8 0, .int .u8 0, .int .u8 0, .int .u8 0] 282) fun n2 =>
 lp [lI] (0, ()) fun z1 go1 =>
 ifB (decide ((z1.1 : Int) < 8)) (
 req ((0 : Int) <= (IntKind.i64.wrap (8 * z1.1))) <|
 ixn z1.1 8 <|
 st (Addr.add ⟨n2, 0, none⟩ (z1.1.toNat * 1)) [.int .u8 (IntKind.u8.wrap (Int.fdiv x0 (2 ^ (min (IntKind.i64.wrap (8 * z1.1) : Int).toNat IntKind.i64.bits))))] <|
 go1 (IntKind.i64.wrap (z1.1 + 1), ())) (
 ld ⟨n2, 0, none⟩ (.agg [.int .u8, .int .u8, .int .u8, .int .u8, .int .u8, .int .u8, .int .u8, .int .u8]) fun v1 =>
 st ⟨n1, 0, none⟩ [.int .u8 v1.1, .int .u8 v1.2.1, .int .u8 v1.2.2.1, .int .u8 v1.2.2.2.1, .int .u8 v1.2.2.2.2.1, .int .u8 v1.2.2.2.2.2.1, .int .u8 v1.2.2.2.2.2.2.1, .int .u8 v1.2.2.2.2.2.2.2.1] <|
 ld ⟨n1, 0, none⟩ (.agg [.int .u8, .int .u8, .int .u8, .int .u8, .int .u8, .int .u8, .int .u8, .int .u8]) fun v2 =>
 K (.agg #[.int .u8 v2.1, .int .u8 v2.2.1, .int .u8 v2.2.2.1, .int .u8 v2.2.2.2.1, .int .u8 v2.2.2.2.2.1, .int .u8 v2.2.2.2.2.2.1, .int .u8 v2.2.2.2.2.2.2.1, .int .u8 v2.2.2.2.2.2.2.2.1]))
theorem e192 (x0 : Int) (K : Value -> HP) : A8 PP h192 Tryz.f192 [.i x0] K = t192 x0 K := by kernel_rfl
def h193 : D1 := ⟨[], [], [(1, [1, 2, 0, 3, 4, 5, 6, 7, 8, 9, 10])]⟩
def t193 (x0 : Option Addr) (x1 : Int) (x2 : ShV (.agg [.int .i64, .int .i64, .int .i64, .int .i64, .int .i64])) (x3 : SlV) (K : Value -> HP) : HP :=
 nw (.cells #[.i x2.1, .i x2.2.1, .i x2.2.2.1, .i x2.2.2.2.1, .i x2.2.2.2.2.1] 272) fun n1 =>
 ld ⟨n1, 0, none⟩ (.agg [.int .i64, .int .i64, .int .i64, .int .i64, .int .i64]) fun v1 =>
 cl PP 93 #[.pointer x0] [.agg [.int .i64, .int .i64, .int .i64, .int .i64]] fun r1 =>
 keep (D0 ⟨n1, 0, none⟩ [.i v1.1, .i v1.2.1, .i v1.2.2.1, .i v1.2.2.2.1, .i v1.2.2.2.2.1]) <|
 cl PP 256 #[.agg #[.i v1.1, .i v1.2.1, .i v1.2.2.1, .i v1.2.2.2.1, .i v1.2.2.2.2.1], .sv x3, .i r1.1.2.2.1] [.lf .sl, lI] fun r2 =>
 ifB ((r2.2.1 : Int) != 0) (
 K (.i r2.2.1)) (
 ld (Addr.add ⟨n1, 0, none⟩ 4) (lI) fun v2 =>
 cl PP 257 #[.pointer x0, .i x1, .i v2, .sv r2.1] [lI] fun r3 =>
 K (.i r3.1))
theorem e193 (x0 : Option Addr) (x1 : Int) (x2 : ShV (.agg [.int .i64, .int .i64, .int .i64, .int .i64, .int .i64])) (x3 : SlV) (K : Value -> HP) : A8 PP h193 Tryz.f193 [.pointer x0, .i x1, .agg #[.i x2.1, .i x2.2.1, .i x2.2.2.1, .i x2.2.2.2.1, .i x2.2.2.2.2.1], .sv x3] K = t193 x0 x1 x2 x3 K := by kernel_rfl
def t194 (x0 : Int) (x1 : Int) (K : Value -> HP) : HP :=
 ifB (decide ((x1 : Int) < 1)) (
 K (.i 0)) (
 req ((IntKind.u64.wrap x1 : Int) ≠ 0) <|
 K (.i (IntKind.i64.wrap (Int.tmod x0 (IntKind.u64.wrap x1)))))
theorem e194 (x0 : Int) (x1 : Int) (K : Value -> HP) : A8 PP Hn Tryz.f194 [.int .u64 x0, .i x1] K = t194 x0 x1 K := by kernel_rfl
set_option maxRecDepth 100000
def h223 : D1 := ⟨[(0, [(6, .lf .sl), (15, lI)])], [], []⟩
def t223 (x0 : Option Addr) (x1 : Int) (K : Value -> HP) : HP :=
 ifB (Option.isNone x0) (
 K (.tuple #[.slice none 0 0, .i 1])) (
 cl PP 93 #[.pointer x0] [.agg [.int .i64, .int .i64, .int .i64, .int .i64]] fun r1 =>
 lp [.lf .sl, lI] (⟨none, 0, 0⟩, 0, ()) fun z1 go1 =>
 ifB (decide ((z1.2.1 : Int) < r1.1.2.1)) (
 cl PP 181 #[.pointer x0, .i x1, .i z1.2.1] [.lf .sl, lI] fun r2 =>
 ifB ((r2.2.1 : Int) != 0) (
 K (.tuple #[.slice none 0 0, .i r2.2.1])) (
 nw (.cells #[.slice r2.1.a r2.1.len r2.1.cap] 27) fun n1 =>
 smW PP (Builtin.append_ #[96, 96] 96 #[.sv z1.1, .slice (some ⟨n1, 0, none⟩) 1 1]) [.lf .sl] fun v1 =>
 go1 (⟨v1.1.a, v1.1.len, v1.1.cap⟩, IntKind.i64.wrap (z1.2.1 + 1), ()))) (
 K (.tuple #[.sv z1.1, .i 0])))
theorem e223 (x0 : Option Addr) (x1 : Int) (K : Value -> HP) : A8 PP h223 Tryz.f223 [.pointer x0, .i x1] K = t223 x0 x1 K := by kernel_rfl
def h224 : D1 := ⟨[], [(12, [])], [(12, [0, 1, 2, 4, 5, 6, 3, 7, 8, 9, 10])]⟩
def t224 (x0 : SlV) (K : Value -> HP) : HP :=
 nw (.cells #[.i 0, .bool false, .slice none 0 0] 319) fun n1 =>
 cl PP 283 #[.sv x0] [.lf .ptr] fun r1 =>
 A9 r1.1 fun a1 =>
 ld a1 (.lf .sl) fun v1 =>
 ifB ((v1.len : Int) == 0) (
 st ⟨n1, 0, none⟩ [.i 0, .bool false, .slice none 0 0] <|
 ld ⟨n1, 0, none⟩ (.agg [.int .i64, .bool, .sl]) fun v2 =>
 K (.tuple #[.agg #[.i v2.1, .bool v2.2.1, .sv v2.2.2.1], .bool false])) (
 A9 r1.1 fun a2 =>
 ld a2 (.lf .sl) fun v3 =>
 A9 v3.a fun a3 =>
 ixn 0 v3.len <|
 ld (Addr.add (a3.add ((0 : Int).toNat * 7)) 3) (lI) fun v4 =>
 A9 r1.1 fun a4 =>
 st (a4.add 1) [.i v4] <|
 cl PP 284 #[.pointer r1.1, .i 0, .agg #[.i 1, .i 0, .i 1, .i 0, .i 0]] [.lf .sl, .lf .bool] fun r2 =>
 ifB (!r2.2.1) (
 st ⟨n1, 0, none⟩ [.i 0, .bool false, .slice none 0 0] <|
 ld ⟨n1, 0, none⟩ (.agg [.int .i64, .bool, .sl]) fun v5 =>
 K (.tuple #[.agg #[.i v5.1, .bool v5.2.1, .sv v5.2.2.1], .bool false])) (
 ifB (decide ((r2.1.len : Int) > 0)) (
 st ⟨n1, 0, none⟩ [.i 0, .bool false, .slice none 0 0] <|
 ld ⟨n1, 0, none⟩ (.agg [.int .i64, .bool, .sl]) fun v6 =>
 K (.tuple #[.agg #[.i v6.1, .bool v6.2.1, .sv v6.2.2.1], .bool false])) (
 jn (fun y1 : RsV [] =>
 A9 r1.1 fun a7 =>
 ld (a7.add 1) (lI) fun v10 =>
 cl PP 286 #[.pointer r1.1, .func (.func 287) #[.pointer r1.1] #[]] [.lf .sl] fun r4 =>
 keep (D0 (a7.add 1) [.i v10]) <|
 st ⟨n1, 0, none⟩ [.i v10, .bool false, .slice r4.1.a r4.1.len r4.1.cap] <|
 ld ⟨n1, 0, none⟩ (.agg [.int .i64, .bool, .sl]) fun v11 =>
 K (.tuple #[.agg #[.i v11.1, .bool v11.2.1, .sv v11.2.2.1], .bool true])) fun j1 =>
 A9 r1.1 fun a5 =>
 ld (a5.add 2) (lI) fun v7 =>
 ifB (decide ((v7 : Int) > 0)) (
 cl PP 285 #[.pointer r1.1] [.lf .sl, .lf .bool] fun r3 =>
 ifB r3.2.1 (
 A9 r1.1 fun a6 =>
 ld (a6.add 1) (lI) fun v8 =>
 st ⟨n1, 0, none⟩ [.i v8, .bool true, .slice r3.1.a r3.1.len r3.1.cap] <|
 ld ⟨n1, 0, none⟩ (.agg [.int .i64, .bool, .sl]) fun v9 =>
 K (.tuple #[.agg #[.i v9.1, .bool v9.2.1, .sv v9.2.2.1], .bool true])) (
 j1 (()))) (
 j1 (())))))
theorem e224 (x0 : SlV) (K : Value -> HP) : A8 PP h224 Tryz.f224 [.sv x0] K = t224 x0 K := by kernel_rfl
def t225 (x0 : SlV) (x1 : FnV) (K : Value -> HP) : HP :=
 cl PP 288 #[.slice x0.a x0.len x0.cap, .i x0.len, .func x1.fn x1.first x1.captured] [] fun r1 =>
 K (.tuple #[])
theorem e225 (x0 : SlV) (x1 : FnV) (K : Value -> HP) : A8 PP Hn Tryz.f225 [.slice x0.a x0.len x0.cap, .func x1.fn x1.first x1.captured] K = t225 x0 x1 K := by kernel_rfl
def t226 (x0 : ShV (.agg [.int .i64, .int .i64, .sl])) (x1 : ShV (.agg [.int .i64, .int .i64, .sl])) (K : Value -> HP) : HP :=
 nw (.cells #[.i x0.1, .i x0.2.1, .slice x0.2.2.1.a x0.2.2.1.len x0.2.2.1.cap] 154) fun n1 =>
 nw (.cells #[.i x1.1, .i x1.2.1, .slice x1.2.2.1.a x1.2.2.1.len x1.2.2.1.cap] 154) fun n2 =>
 ld (Addr.add ⟨n1, 0, none⟩ 1) (lI) fun v1 =>
 ld (Addr.add ⟨n2, 0, none⟩ 1) (lI) fun v2 =>
 K (.i (IntKind.i64.wrap (v1 - v2)))
theorem e226 (x0 : ShV (.agg [.int .i64, .int .i64, .sl])) (x1 : ShV (.agg [.int .i64, .int .i64, .sl])) (K : Value -> HP) : A8 PP Hn Tryz.f226 [.agg #[.i x0.1, .i x0.2.1, .sv x0.2.2.1], .agg #[.i x1.1, .i x1.2.1, .sv x1.2.2.1]] K = t226 x0 x1 K := by kernel_rfl
def h227 : D1 := ⟨[(1, [(8, lI), (9, lI), (36, lI)])], [], []⟩
def t227 (x0 : SlV) (x1 : Int) (x2 : Int) (K : Value -> HP) : HP :=
 ifB (decide ((x2 : Int) < 1)) (
 K (.tuple #[.i 0, .i 2])) (
 ifB (decide ((x2 : Int) > 7)) (
 K (.tuple #[.i 0, .i 2])) (
 ifB (decide ((x1 : Int) < 0)) (
 K (.tuple #[.i 0, .i 6])) (
 ifB (decide ((x1 : Int) > x0.len)) (
 K (.tuple #[.i 0, .i 6])) (
 ifB (decide ((x2 : Int) > (IntKind.i64.wrap (x0.len - x1)))) (
 K (.tuple #[.i 0, .i 6])) (
 lp [lI, lI, lI] (0, 1, 0, ()) fun z1 go1 =>
 ifB (decide ((z1.2.2.1 : Int) < x2)) (
 A9 x0.a fun a1 =>
 ixn (IntKind.i64.wrap (x1 + z1.2.2.1)) x0.len <|
 ld (a1.add ((IntKind.i64.wrap (x1 + z1.2.2.1)).toNat * 1)) (.lf (.int .u8)) fun v1 =>
 go1 (IntKind.i64.wrap (z1.1 + (IntKind.i64.wrap (z1.2.1 * (IntKind.i64.wrap v1)))), IntKind.i64.wrap (z1.2.1 * 256), IntKind.i64.wrap (z1.2.2.1 + 1), ())) (
 K (.tuple #[.i z1.1, .i 0])))))))
theorem e227 (x0 : SlV) (x1 : Int) (x2 : Int) (K : Value -> HP) : A8 PP h227 Tryz.f227 [.sv x0, .i x1, .i x2] K = t227 x0 x1 x2 K := by kernel_rfl
def t228 (x0 : SlV) (x1 : Int) (K : Value -> HP) : HP :=
 cl PP 289 #[.sv x0, .i x1] [lI] fun r1 =>
 K (.bool (decide ((r1.1 : Int) ≥ 0)))
theorem e228 (x0 : SlV) (x1 : Int) (K : Value -> HP) : A8 PP Hn Tryz.f228 [.sv x0, .i x1] K = t228 x0 x1 K := by kernel_rfl
def h229 : D1 := ⟨[], [], [(5, [0, 1, 2, 3, 4, 5, 6, 7])]⟩
def t229 (x0 : SlV) (x1 : Int) (x2 : Int) (K : Value -> HP) : HP :=
 slc ⟨x0.a, x0.len, x0.cap⟩ x1 x2 x0.len 5 fun s1 =>
 ifB ((x1 : Int) == x2) (
 K (.sv x0)) (
 slc ⟨x0.a, x0.len, x0.cap⟩ 0 x1 x0.cap 5 fun s2 =>
 slc ⟨x0.a, x0.len, x0.cap⟩ x2 x0.len x0.cap 5 fun s3 =>
 smW PP (Builtin.append_ #[216, 216] 216 #[.sv s2, .sv s3]) [.lf .sl] fun v1 =>
 slc ⟨v1.1.a, v1.1.len, v1.1.cap⟩ v1.1.len x0.len v1.1.cap 5 fun s4 =>
 smW PP (Builtin.clear_ #[216] 0 #[.sv s4]) [] fun v2 =>
 K (.sv v1.1))
theorem e229 (x0 : SlV) (x1 : Int) (x2 : Int) (K : Value -> HP) : A8 PP h229 Tryz.f229 [.sv x0, .i x1, .i x2] K = t229 x0 x1 x2 K := by kernel_rfl
def h230 : D1 := ⟨[], [], [(2, [0, 1, 2, 3, 4, 5, 6, 7, 8])]⟩
def t230 (x0 : Option Addr) (x1 : Int) (x2 : ShV (.agg [.int .i64, .int .i64, .int .i64, .int .i64, .int .i64])) (K : Value -> HP) : HP :=
 nw (.cells #[.i x2.1, .i x2.2.1, .i x2.2.2.1, .i x2.2.2.2.1, .i x2.2.2.2.2.1] 204) fun n1 =>
 cl PP 137 #[.pointer x0, .int .u64 x1] [.lf .ptr] fun r1 =>
 A9 r1.1 fun a1 =>
 ld a1 (.lf .sl) fun v1 =>
 ld ⟨n1, 0, none⟩ (.agg [.int .i64, .int .i64, .int .i64, .int .i64, .int .i64]) fun v2 =>
 nw (.cells #[.i v2.1, .i v2.2.1, .i v2.2.2.1, .i v2.2.2.2.1, .i v2.2.2.2.2.1] 204) fun n2 =>
 smW PP (Builtin.append_ #[216, 216] 216 #[.sv v1, .slice (some ⟨n2, 0, none⟩) 1 1]) [.lf .sl] fun v3 =>
 A9 r1.1 fun a2 =>
 st a2 [.slice v3.1.a v3.1.len v3.1.cap] <|
 K (.tuple #[])
theorem e230 (x0 : Option Addr) (x1 : Int) (x2 : ShV (.agg [.int .i64, .int .i64, .int .i64, .int .i64, .int .i64])) (K : Value -> HP) : A8 PP h230 Tryz.f230 [.pointer x0, .int .u64 x1, .agg #[.i x2.1, .i x2.2.1, .i x2.2.2.1, .i x2.2.2.2.1, .i x2.2.2.2.2.1]] K = t230 x0 x1 x2 K := by kernel_rfl
def h231 : D1 := ⟨[(0, [(8, lI)])], [], []⟩
def t231 (x0 : SlV) (x1 : FnV) (K : Value -> HP) : HP :=
 lp [lI] (0, ()) fun z1 go1 =>
 ifB (decide ((z1.1 : Int) < x0.len)) (
 A9 x0.a fun a1 =>
 ixn z1.1 x0.len <|
 ld (a1.add (z1.1.toNat * 5)) (.agg [.int .i64, .int .i64, .int .i64, .int .i64, .int .i64]) fun v1 =>
 clv PP x1.fn (x1.first ++ #[.agg #[.i v1.1, .i v1.2.1, .i v1.2.2.1, .i v1.2.2.2.1, .i v1.2.2.2.2.1]]) x1.captured [.lf .bool] fun r1 =>
 ifB r1.1 (
 K (.i z1.1)) (
 go1 (IntKind.i64.wrap (z1.1 + 1), ()))) (
 K (.i (-1)))
theorem e231 (x0 : SlV) (x1 : FnV) (K : Value -> HP) : A8 PP h231 Tryz.f231 [.slice x0.a x0.len x0.cap, .func x1.fn x1.first x1.captured] K = t231 x0 x1 K := by kernel_rfl
def t232 (x0 : ShV (.agg [.int .i64, .int .i64, .int .i64, .int .i64, .int .i64])) (x1 : Option Addr) (K : Value -> HP) : HP :=
 nw (.cells #[.i x0.1, .i x0.2.1, .i x0.2.2.1, .i x0.2.2.2.1, .i x0.2.2.2.2.1] 204) fun n1 =>
 ld ⟨n1, 0, none⟩ (.agg [.int .i64, .int .i64, .int .i64, .int .i64]) fun v1 =>
 A9 x1 fun a1 =>
 ld a1 (.agg [.int .i64, .int .i64, .int .i64, .int .i64]) fun v2 =>
 smP PP (binOp .eql 202 (.agg #[.i v1.1, .i v1.2.1, .i v1.2.2.1, .i v1.2.2.2.1]) (.agg #[.i v2.1, .i v2.2.1, .i v2.2.2.1, .i v2.2.2.2.1])) (.lf .bool) fun v3 =>
 K (.bool v3)
theorem e232 (x0 : ShV (.agg [.int .i64, .int .i64, .int .i64, .int .i64, .int .i64])) (x1 : Option Addr) (K : Value -> HP) : A8 PP Hn Tryz.f232 [.agg #[.i x0.1, .i x0.2.1, .i x0.2.2.1, .i x0.2.2.2.1, .i x0.2.2.2.2.1], .pointer x1] K = t232 x0 x1 K := by kernel_rfl
def h233 : D1 := ⟨[(0, [(3, lI), (11, lI)]), (2, [(6, .lf .sl), (27, lI)])], [], []⟩
def t233 (x0 : SlV) (K : Value -> HP) : HP :=
 lp [lI, lI] (0, 0, ()) fun z1 go1 =>
 ifB (decide ((z1.2.1 : Int) < x0.len)) (
 A9 x0.a fun a1 =>
 ixn z1.2.1 x0.len <|
 ld (a1.add (z1.2.1.toNat * 1)) (.lf .sl) fun v1 =>
 ifB (decide ((IntKind.i64.wrap (z1.1 + v1.len) : Int) < 0)) (
 ff) (
 go1 (IntKind.i64.wrap (z1.1 + v1.len), IntKind.i64.wrap (z1.2.1 + 1), ()))) (
 cl PP 290 #[.slice none 0 0, .i z1.1] [.lf .sl] fun r1 =>
 lp [.lf .sl, lI] (⟨r1.1.a, r1.1.len, r1.1.cap⟩, 0, ()) fun z2 go2 =>
 ifB (decide ((z2.2.1 : Int) < x0.len)) (
 A9 x0.a fun a2 =>
 ixn z2.2.1 x0.len <|
 ld (a2.add (z2.2.1.toNat * 1)) (.lf .sl) fun v2 =>
 smW PP (Builtin.append_ #[27, 27] 27 #[.sv z2.1, .sv v2]) [.lf .sl] fun v3 =>
 go2 (⟨v3.1.a, v3.1.len, v3.1.cap⟩, IntKind.i64.wrap (z2.2.1 + 1), ())) (
 K (.sv z2.1)))
theorem e233 (x0 : SlV) (K : Value -> HP) : A8 PP h233 Tryz.f233 [.sv x0] K = t233 x0 K := by kernel_rfl
def t234 (x0 : Int) (x1 : SlV) (K : Value -> HP) : HP :=
 cl PP 291 #[.int .u32 (Ag7 .xor .u32 IntKind.u32.max (IntKind.u32.wrap x0)), .sv x1] [.lf (.int .u32)] fun r1 =>
 K (.i (IntKind.i64.wrap (Ag7 .xor .u32 IntKind.u32.max r1.1)))
theorem e234 (x0 : Int) (x1 : SlV) (K : Value -> HP) : A8 PP Hn Tryz.f234 [.i x0, .sv x1] K = t234 x0 x1 K := by kernel_rfl
def t235 (x0 : Option Addr) (x1 : Int) (x2 : Int) (K : Value -> HP) : HP :=
 ifB (Option.isNone x0) (
 K (.tuple #[.pointer none, .i 1])) (
 A9 x0 fun a1 =>
 ld (a1.add 2) (.lf .bool) fun v1 =>
 ifB v1 (
 K (.tuple #[.pointer none, .i 11])) (
 cl PP 45 #[.pointer x0, .i x1] [.lf .ptr] fun r1 =>
 ifB (Option.isNone r1.1) (
 K (.tuple #[.pointer none, .i 2])) (
 A9 x0 fun a2 =>
 ld (Addr.add (a2.add 3) 1) (lI) fun v2 =>
 cl PP 90 #[.i x2, .i 0, .i (IntKind.i64.wrap (v2 - 1))] [.lf .bool] fun r2 =>
 ifB (!r2.1) (
 K (.tuple #[.pointer none, .i 2])) (
 K (.tuple #[.pointer r1.1, .i 0])))))
theorem e235 (x0 : Option Addr) (x1 : Int) (x2 : Int) (K : Value -> HP) : A8 PP Hn Tryz.f235 [.pointer x0, .i x1, .i x2] K = t235 x0 x1 x2 K := by kernel_rfl
def h236 : D1 := ⟨[(0, [(7, lI)])], [], []⟩
def t236 (x0 : SlV) (K : Value -> HP) : HP :=
 lp [lI] (0, ()) fun z1 go1 =>
 ifB (decide ((z1.1 : Int) < x0.len)) (
 A9 x0.a fun a1 =>
 ixn z1.1 x0.len <|
 ld (a1.add (z1.1.toNat * 1)) (.lf (.int .u8)) fun v1 =>
 ifB ((v1 : Int) != 255) (
 K (.bool false)) (
 go1 (IntKind.i64.wrap (z1.1 + 1), ()))) (
 K (.bool true))
theorem e236 (x0 : SlV) (K : Value -> HP) : A8 PP h236 Tryz.f236 [.sv x0] K = t236 x0 K := by kernel_rfl
def t237 (x0 : SlV) (x1 : Int) (K : Value -> HP) : HP :=
 cl PP 179 #[.sv x0] [lI] fun r1 =>
 K (.bool ((r1.1 : Int) == x1))
theorem e237 (x0 : SlV) (x1 : Int) (K : Value -> HP) : A8 PP Hn Tryz.f237 [.sv x0, .i x1] K = t237 x0 x1 K := by kernel_rfl
set_option maxRecDepth 100000
def t238 (x0 : SlV) (x1 : Int) (x2 : Int) (K : Value -> HP) : HP :=
 cl PP 227 #[.sv x0, .i x1, .i x2] [lI, lI] fun r1 =>
 K (.i r1.1)
theorem e238 (x0 : SlV) (x1 : Int) (x2 : Int) (K : Value -> HP) : A8 PP Hn Tryz.f238 [.sv x0, .i x1, .i x2] K = t238 x0 x1 x2 K := by kernel_rfl
def t239 (x0 : ShV (.agg [.int .i64, .int .i64, .int .i64, .int .i64, .int .i64])) (K : Value -> HP) : HP :=
 nw (.cells #[.i x0.1, .i x0.2.1, .i x0.2.2.1, .i x0.2.2.2.1, .i x0.2.2.2.2.1] 272) fun n1 =>
 ld ⟨n1, 0, none⟩ (lI) fun v1 =>
 ifB (decide ((v1 : Int) < 1)) (
 K (.i 16)) (
 ld ⟨n1, 0, none⟩ (lI) fun v2 =>
 ifB (decide ((v2 : Int) > 4)) (
 K (.i 16)) (
 ld (Addr.add ⟨n1, 0, none⟩ 2) (lI) fun v3 =>
 ifB (decide ((v3 : Int) < 1)) (
 K (.i 3)) (
 ld (Addr.add ⟨n1, 0, none⟩ 2) (lI) fun v4 =>
 ifB (decide ((v4 : Int) > 16)) (
 K (.i 3)) (
 ld (Addr.add ⟨n1, 0, none⟩ 1) (lI) fun v5 =>
 ifB (decide ((v5 : Int) < 0)) (
 K (.i 3)) (
 ld (Addr.add ⟨n1, 0, none⟩ 1) (lI) fun v6 =>
 ld (Addr.add ⟨n1, 0, none⟩ 2) (lI) fun v7 =>
 ifB (decide ((v6 : Int) ≥ v7)) (
 K (.i 3)) (
 ld (Addr.add ⟨n1, 0, none⟩ 3) (lI) fun v8 =>
 ifB (decide ((v8 : Int) < 1)) (
 K (.i 3)) (
 ld (Addr.add ⟨n1, 0, none⟩ 3) (lI) fun v9 =>
 ifB (decide ((v9 : Int) > 1073741824)) (
 K (.i 3)) (
 ld (Addr.add ⟨n1, 0, none⟩ 4) (lI) fun v10 =>
 ifB (decide ((v10 : Int) < 0)) (
 K (.i 3)) (
 ld (Addr.add ⟨n1, 0, none⟩ 4) (lI) fun v11 =>
 ifB (decide ((v11 : Int) ≥ 16)) (
 K (.i 3)) (
 K (.i 0)))))))))))
theorem e239 (x0 : ShV (.agg [.int .i64, .int .i64, .int .i64, .int .i64, .int .i64])) (K : Value -> HP) : A8 PP Hn Tryz.f239 [.agg #[.i x0.1, .i x0.2.1, .i x0.2.2.1, .i x0.2.2.2.1, .i x0.2.2.2.2.1]] K = t239 x0 K := by kernel_rfl
def t240 (x0 : SlV) (K : Value -> HP) : HP :=
 nw (.cells #[] 5) fun n1 =>
 smW PP (Builtin.append_ #[27, 27] 27 #[.slice (some ⟨n1, 0, none⟩) 0 0, .sv x0]) [.lf .sl] fun v1 =>
 nw (.cells #[.slice v1.1.a v1.1.len v1.1.cap, .i 0] 389) fun n2 =>
 K (.pointer (some ⟨n2, 0, none⟩))
theorem e240 (x0 : SlV) (K : Value -> HP) : A8 PP Hn Tryz.f240 [.sv x0] K = t240 x0 K := by kernel_rfl
def h241 : D1 := ⟨[], [], [(12, [0, 1, 2, 4, 5, 6, 7, 3, 8, 9, 10, 11, 12]), (3, [0, 1, 2, 4, 5, 6, 3, 7, 8, 9, 10, 11, 12, 13])]⟩
def t241 (x0 : Option Addr) (K : Value -> HP) : HP :=
 ifB (Option.isNone x0) (
 K (.tuple #[.string (ByteArray.mk #[]), .i 1])) (
 A9 x0 fun a1 =>
 A9 x0 fun a2 =>
 ld a1 (.lf .sl) fun v1 =>
 ld (a2.add 1) (lI) fun v2 =>
 cl PP 227 #[.sv v1, .i v2, .i 4] [lI, lI] fun r1 =>
 ifB ((r1.2.1 : Int) != 0) (
 K (.tuple #[.string (ByteArray.mk #[]), .i r1.2.1])) (
 A9 x0 fun a3 =>
 ld (a3.add 1) (lI) fun v3 =>
 ifB (decide ((r1.1 : Int) > 65536)) (
 K (.tuple #[.string (ByteArray.mk #[]), .i 4])) (
 A9 x0 fun a4 =>
 ld a4 (.lf .sl) fun v4 =>
 ifB (decide ((r1.1 : Int) > (IntKind.i64.wrap (v4.len - (IntKind.i64.wrap (v3 + 4)))))) (
 K (.tuple #[.string (ByteArray.mk #[]), .i 6])) (
 A9 x0 fun a5 =>
 st (a5.add 1) [.i (IntKind.i64.wrap ((IntKind.i64.wrap (v3 + 4)) + r1.1))] <|
 A9 x0 fun a6 =>
 A9 x0 fun a7 =>
 ld a6 (.lf .sl) fun v5 =>
 ld (a7.add 1) (lI) fun v6 =>
 slc ⟨v5.a, v5.len, v5.cap⟩ (IntKind.i64.wrap (v3 + 4)) v6 v5.cap 1 fun s1 =>
 smR PP (Conv.bytesToString (.sv s1)) [.lf .str] fun v7 =>
 K (.tuple #[.string v7.1, .i 0])))))
theorem e241 (x0 : Option Addr) (K : Value -> HP) : A8 PP h241 Tryz.f241 [.pointer x0] K = t241 x0 K := by kernel_rfl
def h242 : D1 := ⟨[], [], [(3, [0, 1, 2, 5, 6, 7, 3, 4, 8, 9, 10])]⟩
def t242 (x0 : Option Addr) (K : Value -> HP) : HP :=
 ifB (Option.isNone x0) (
 K (.i 0)) (
 A9 x0 fun a1 =>
 A9 x0 fun a2 =>
 ld a1 (.lf .sl) fun v1 =>
 ld (a2.add 1) (lI) fun v2 =>
 K (.i (IntKind.i64.wrap (v1.len - v2))))
theorem e242 (x0 : Option Addr) (K : Value -> HP) : A8 PP h242 Tryz.f242 [.pointer x0] K = t242 x0 K := by kernel_rfl
def h243 : D1 := ⟨[], [], [(3, [0, 1, 2, 4, 5, 6, 8, 3, 7, 9, 10, 11, 12, 13, 14])]⟩
def t243 (x0 : Option Addr) (x1 : Int) (K : Value -> HP) : HP :=
 ifB (Option.isNone x0) (
 K (.tuple #[.i 0, .i 1])) (
 A9 x0 fun a1 =>
 A9 x0 fun a2 =>
 ld a1 (.lf .sl) fun v1 =>
 ld (a2.add 1) (lI) fun v2 =>
 cl PP 227 #[.sv v1, .i v2, .i x1] [lI, lI] fun r1 =>
 ifB ((r1.2.1 : Int) == 0) (
 A9 x0 fun a3 =>
 ld (a3.add 1) (lI) fun v3 =>
 A9 x0 fun a4 =>
 st (a4.add 1) [.i (IntKind.i64.wrap (v3 + x1))] <|
 K (.tuple #[.i r1.1, .i r1.2.1])) (
 K (.tuple #[.i r1.1, .i r1.2.1])))
theorem e243 (x0 : Option Addr) (x1 : Int) (K : Value -> HP) : A8 PP h243 Tryz.f243 [.pointer x0, .i x1] K = t243 x0 x1 K := by kernel_rfl
def t244 (x0 : Int) (x1 : ShV (.agg [.int .i64, .bool, .bool])) (x2 : Option Addr) (K : Value -> HP) : HP :=
 nw (.cells #[.i x1.1, .bool x1.2.1, .bool x1.2.2.1] 194) fun n1 =>
 A9 x2 fun a1 =>
 ld a1 (lI) fun v1 =>
 A9 x2 fun a2 =>
 st a2 [.i (IntKind.i64.wrap (v1 + 1))] <|
 K (.tuple #[])
theorem e244 (x0 : Int) (x1 : ShV (.agg [.int .i64, .bool, .bool])) (x2 : Option Addr) (K : Value -> HP) : A8 PP Hn Tryz.f244 [.i x0, .agg #[.i x1.1, .bool x1.2.1, .bool x1.2.2.1], .pointer x2] K = t244 x0 x1 x2 K := by kernel_rfl
def t245 (x0 : Option Addr) (K : Value -> HP) : HP :=
 ifB (Option.isNone x0) (
 K (.tuple #[.i 0, .bool false])) (
 A9 x0 fun a1 =>
 ld (a1.add 1) (.lf .sl) fun v1 =>
 ifB ((v1.len : Int) == 0) (
 K (.tuple #[.i 0, .bool false])) (
 A9 x0 fun a2 =>
 ld (a2.add 1) (.lf .sl) fun v2 =>
 A9 v2.a fun a3 =>
 ixn 0 v2.len <|
 ld (a3.add ((0 : Int).toNat * 1)) (lI) fun v3 =>
 K (.tuple #[.i v3, .bool true])))
theorem e245 (x0 : Option Addr) (K : Value -> HP) : A8 PP Hn Tryz.f245 [.pointer x0] K = t245 x0 K := by kernel_rfl
def h246 : D1 := ⟨[], [(5, []), (8, [])], [(13, [0, 1, 2, 3, 5, 4, 6, 7, 8]), (6, [0, 1, 2, 3, 5, 4, 6, 7]), (5, [0, 1, 2, 3, 5, 4, 6, 7, 8, 9, 10, 11, 12, 13, 15, 14, 16, 17, 18, 19, 20, 21, 22, 23, 24, 26, 25, 27, 28, 29, 30]), (3, [0, 1, 2, 3, 4, 5, 6, 8, 7, 10, 9, 11, 12, 13]), (1, [0, 1, 2, 3, 4, 5, 6, 7, 8, 9, 10, 11, 12, 13])]⟩
def t246 (x0 : Option Addr) (x1 : ShV (.agg [.int .i64, .int .i64, .int .i64])) (x2 : ShV (.agg [.int .i64, .int .i64, .int .i64])) (x3 : Int) (K : Value -> HP) : HP :=
 nw (.cells #[.i x1.1, .i x1.2.1, .i x1.2.2.1] 102) fun n1 =>
 nw (.cells #[.i x2.1, .i x2.2.1, .i x2.2.2.1] 215) fun n2 =>
 A9 x0 fun a1 =>
 ld (a1.add 11) (.lf .ptr) fun v1 =>
 ld ⟨n1, 0, none⟩ (.agg [.int .i64, .int .i64, .int .i64]) fun v2 =>
 cl PP 118 #[.pointer v1, .agg #[.i v2.1, .i v2.2.1, .i v2.2.2.1]] [.lf .str, .lf .sl, lI] fun r1 =>
 cl PP 41 #[.pointer x0, .string r1.1] [.lf (.int .u64)] fun r2 =>
 jn (fun y1 : RsV [] =>
 jn (fun y2 : RsV [] =>
 A9 x0 fun a9 =>
 ld a9 (.agg [.int .i64, .int .i64, .int .i64, .int .i64]) fun v15 =>
 cl PP 111 #[.string r1.1, .sv r1.2.1, .agg #[.i v15.1, .i v15.2.1, .i v15.2.2.1, .i v15.2.2.2.1]] [.lf .sl, lI] fun r11 =>
 ifB ((r11.2.1 : Int) != 0) (
 K (.i r11.2.1)) (
 A9 x0 fun a10 =>
 cl PP 64 #[.pointer (some (a10.add 11)), .i 2, .sv r11.1] [.agg [.int .i64, .int .i64, .int .i64], lI] fun r12 =>
 nw (.cells #[.i 0, .i 0, .i 0] 102) fun n5 =>
 st ⟨n5, 0, none⟩ [.i r12.1.1, .i r12.1.2.1, .i r12.1.2.2.1] <|
 ifB ((r12.2.1 : Int) == 0) (
 A9 x0 fun a11 =>
 ld (Addr.add (a11.add 19) 2) (.lf .ptr) fun v16 =>
 ld ⟨n1, 0, none⟩ (.agg [.int .i64, .int .i64, .int .i64]) fun v17 =>
 ld ⟨n5, 0, none⟩ (.agg [.int .i64, .int .i64, .int .i64]) fun v18 =>
 cl PP 294 #[.pointer v16, .int .u64 r2.1, .agg #[.i v17.1, .i v17.2.1, .i v17.2.2.1], .agg #[.i v18.1, .i v18.2.1, .i v18.2.2.1]] [.lf .bool] fun r13 =>
 K (.i r12.2.1)) (
 K (.i r12.2.1)))) fun j2 =>
 A9 x0 fun a3 =>
 ld (Addr.add (a3.add 19) 2) (.lf .ptr) fun v5 =>
 ld ⟨n1, 0, none⟩ (.agg [.int .i64, .int .i64, .int .i64]) fun v6 =>
 cl PP 293 #[.pointer v5, .int .u64 r2.1, .agg #[.i v6.1, .i v6.2.1, .i v6.2.2.1]] [lI] fun r5 =>
 ifB ((r5.1 : Int) == 0) (
 A9 x0 fun a4 =>
 ld (Addr.add (a4.add 19) 2) (.lf .ptr) fun v7 =>
 ld ⟨n1, 0, none⟩ (.agg [.int .i64, .int .i64, .int .i64]) fun v8 =>
 cl PP 106 #[.pointer v7, .int .u64 r2.1, .agg #[.i v8.1, .i v8.2.1, .i v8.2.2.1]] [.lf .bool] fun r6 =>
 K (.i 0)) (
 A9 x0 fun a5 =>
 ld (Addr.add ⟨n2, 0, none⟩ 2) (lI) fun v9 =>
 nw (.cells #[.i v9, .i x3] 3) fun n3 =>
 cl PP 126 #[.pointer (some (a5.add 11)), .slice (some ⟨n3, 0, none⟩) 2 2] [.lf .bool] fun r7 =>
 ifB (!r7.1) (
 A9 x0 fun a6 =>
 ld (Addr.add (a6.add 19) 2) (.lf .ptr) fun v10 =>
 ld ⟨n1, 0, none⟩ (.agg [.int .i64, .int .i64, .int .i64]) fun v11 =>
 cl PP 106 #[.pointer v10, .int .u64 r2.1, .agg #[.i v11.1, .i v11.2.1, .i v11.2.2.1]] [.lf .bool] fun r8 =>
 K (.i 0)) (
 A9 x0 fun a7 =>
 ld (Addr.add ⟨n2, 0, none⟩ 2) (lI) fun v12 =>
 nw (.cells #[.i v12, .i x3] 3) fun n4 =>
 cl PP 128 #[.pointer (some (a7.add 11)), .slice (some ⟨n4, 0, none⟩) 2 2] [.lf .bool] fun r9 =>
 ifB (!r9.1) (
 A9 x0 fun a8 =>
 ld (Addr.add (a8.add 19) 2) (.lf .ptr) fun v13 =>
 ld ⟨n1, 0, none⟩ (.agg [.int .i64, .int .i64, .int .i64]) fun v14 =>
 cl PP 106 #[.pointer v13, .int .u64 r2.1, .agg #[.i v14.1, .i v14.2.1, .i v14.2.2.1]] [.lf .bool] fun r10 =>
 K (.i 0)) (
 j2 (()))))) fun j1 =>
 ifB ((r1.2.2.1 : Int) != 0) (
 K (.i 0)) (
 A9 x0 fun a2 =>
 ld (Addr.add (a2.add 19) 2) (.lf .ptr) fun v3 =>
 ld ⟨n1, 0, none⟩ (.agg [.int .i64, .int .i64, .int .i64]) fun v4 =>
 cl PP 117 #[.pointer v3, .int .u64 r2.1] [.lf .sl] fun r3 =>
 keep (D0 ⟨n1, 0, none⟩ [.i v4.1, .i v4.2.1, .i v4.2.2.1]) <|
 cl PP 292 #[.sv r3.1, .agg #[.i v4.1, .i v4.2.1, .i v4.2.2.1]] [.lf .bool] fun r4 =>
 ifB (!r4.1) (
 K (.i 0)) (
 j1 (())))
theorem e246 (x0 : Option Addr) (x1 : ShV (.agg [.int .i64, .int .i64, .int .i64])) (x2 : ShV (.agg [.int .i64, .int .i64, .int .i64])) (x3 : Int) (K : Value -> HP) : A8 PP h246 Tryz.f246 [.pointer x0, .agg #[.i x1.1, .i x1.2.1, .i x1.2.2.1], .agg #[.i x2.1, .i x2.2.1, .i x2.2.2.1], .i x3] K = t246 x0 x1 x2 x3 K := by kernel_rfl
def h247 : D1 := ⟨[(0, [(5, lI), (6, lI)])], [], []⟩
def t247 (x0 : SlV) (x1 : FnV) (K : Value -> HP) : HP :=
 cl PP 295 #[.slice x0.a x0.len x0.cap, .func x1.fn x1.first x1.captured] [lI] fun r1 =>
 ifB ((r1.1 : Int) == (-1)) (
 K (.sv x0)) (
 lp [lI, lI] (r1.1, IntKind.i64.wrap (r1.1 + 1), ()) fun z1 go1 =>
 ifB (decide ((z1.2.1 : Int) < x0.len)) (
 A9 x0.a fun a1 =>
 ixn z1.2.1 x0.len <|
 ld (a1.add (z1.2.1.toNat * 3)) (.agg [.int .i64, .int .i64, .int .i64]) fun v1 =>
 nw (.cells #[.i 0, .i 0, .i 0] 102) fun n1 =>
 st ⟨n1, 0, none⟩ [.i v1.1, .i v1.2.1, .i v1.2.2.1] <|
 ld ⟨n1, 0, none⟩ (.agg [.int .i64, .int .i64, .int .i64]) fun v2 =>
 clv PP x1.fn (x1.first ++ #[.agg #[.i v2.1, .i v2.2.1, .i v2.2.2.1]]) x1.captured [.lf .bool] fun r2 =>
 ifB (!r2.1) (
 ld ⟨n1, 0, none⟩ (.agg [.int .i64, .int .i64, .int .i64]) fun v3 =>
 A9 x0.a fun a2 =>
 ixn z1.1 x0.len <|
 st (a2.add (z1.1.toNat * 3)) [.i v3.1, .i v3.2.1, .i v3.2.2.1] <|
 go1 (IntKind.i64.wrap (z1.1 + 1), IntKind.i64.wrap (z1.2.1 + 1), ())) (
 go1 (z1.1, IntKind.i64.wrap (z1.2.1 + 1), ()))) (
 slc ⟨x0.a, x0.len, x0.cap⟩ z1.1 x0.len x0.cap 3 fun s1 =>
 smW PP (Builtin.clear_ #[55] 0 #[.sv s1]) [] fun v4 =>
 slc ⟨x0.a, x0.len, x0.cap⟩ 0 z1.1 x0.cap 3 fun s2 =>
 K (.sv s2)))
theorem e247 (x0 : SlV) (x1 : FnV) (K : Value -> HP) : A8 PP h247 Tryz.f247 [.slice x0.a x0.len x0.cap, .func x1.fn x1.first x1.captured] K = t247 x0 x1 K := by kernel_rfl
def h248 : D1 := ⟨[], [], [(1, [0, 1, 2, 3, 4, 5, 6, 7])]⟩
def t248 (x0 : ShV (.agg [.int .i64, .int .i64, .int .i64])) (x1 : Option Addr) (K : Value -> HP) : HP :=
 nw (.cells #[.i x0.1, .i x0.2.1, .i x0.2.2.1] 102) fun n1 =>
 ld ⟨n1, 0, none⟩ (lI) fun v1 =>
 A9 x1 fun a1 =>
 ld a1 (.lf .ptr) fun v2 =>
 A9 v2 fun a2 =>
 ld a2 (lI) fun v3 =>
 K (.bool ((v1 : Int) == v3))
theorem e248 (x0 : ShV (.agg [.int .i64, .int .i64, .int .i64])) (x1 : Option Addr) (K : Value -> HP) : A8 PP h248 Tryz.f248 [.agg #[.i x0.1, .i x0.2.1, .i x0.2.2.1], .pointer x1] K = t248 x0 x1 K := by kernel_rfl
def h249 : D1 := ⟨[(0, [(11, .lf .sl), (18, lI)])], [], []⟩
def t249 (x0 : Option Addr) (x1 : Int) (x2 : Int) (x3 : Int) (x4 : SlV) (K : Value -> HP) : HP :=
 lp [.lf .sl, lI] (⟨none, 0, 0⟩, 0, ()) fun z1 go1 =>
 ifB (decide ((z1.2.1 : Int) < x4.len)) (
 A9 x4.a fun a1 =>
 ixn z1.2.1 x4.len <|
 ld (a1.add (z1.2.1.toNat * 3)) (.agg [.int .i64, .int .i64, .int .i64]) fun v1 =>
 nw (.cells #[.i 0, .i 0, .i 0] 215) fun n1 =>
 st ⟨n1, 0, none⟩ [.i v1.1, .i v1.2.1, .i v1.2.2.1] <|
 ld ⟨n1, 0, none⟩ (lI) fun v2 =>
 ld (Addr.add ⟨n1, 0, none⟩ 1) (lI) fun v3 =>
 ld (Addr.add ⟨n1, 0, none⟩ 2) (lI) fun v4 =>
 nw (.cells #[.i v2, .i v3, .i v4] 3) fun n2 =>
 cl PP 131 #[.sv z1.1, .slice (some ⟨n2, 0, none⟩) 3 3] [.lf .sl, .lf .bool] fun r1 =>
 ifB (!r1.2.1) (
 K (.i 3)) (
 go1 (⟨r1.1.a, r1.1.len, r1.1.cap⟩, IntKind.i64.wrap (z1.2.1 + 1), ()))) (
 cl PP 193 #[.pointer x0, .i x1, .agg #[.i 4, .i 0, .i 1, .i x2, .i x3], .sv z1.1] [lI] fun r2 =>
 K (.i r2.1))
theorem e249 (x0 : Option Addr) (x1 : Int) (x2 : Int) (x3 : Int) (x4 : SlV) (K : Value -> HP) : A8 PP h249 Tryz.f249 [.pointer x0, .i x1, .i x2, .i x3, .sv x4] K = t249 x0 x1 x2 x3 x4 K := by kernel_rfl
def h250 : D1 := ⟨[], [], [(2, [0, 1, 2, 3, 4]), (1, [0, 1, 2, 3, 5, 4, 6, 7, 8])]⟩
def t250 (x0 : Int) (x1 : ShV (.agg [.int .i64, .bool, .bool])) (x2 : Option Addr) (x3 : Option Addr) (x4 : Option Addr) (K : Value -> HP) : HP :=
 nw (.cells #[.i x1.1, .bool x1.2.1, .bool x1.2.2.1] 194) fun n1 =>
 A9 x2 fun a1 =>
 ld a1 (.lf .bool) fun v1 =>
 ifB (!v1) (
 ld ⟨n1, 0, none⟩ (.agg [.int .i64, .bool, .bool]) fun v2 =>
 A9 x4 fun a2 =>
 st a2 [.i x0] <|
 keep (D0 ⟨n1, 0, none⟩ [.i v2.1, .bool v2.2.1, .bool v2.2.2.1]) <|
 A9 x3 fun a3 =>
 st a3 [.i v2.1, .bool v2.2.1, .bool v2.2.2.1] <|
 A9 x2 fun a4 =>
 st a4 [.bool true] <|
 K (.tuple #[])) (
 ld ⟨n1, 0, none⟩ (.agg [.int .i64, .bool, .bool]) fun v3 =>
 A9 x3 fun a5 =>
 ld a5 (.agg [.int .i64, .bool, .bool]) fun v4 =>
 cl PP 251 #[.agg #[.i v3.1, .bool v3.2.1, .bool v3.2.2.1]] [lI] fun r1 =>
 keep (D0 a5 [.i v4.1, .bool v4.2.1, .bool v4.2.2.1]) <|
 cl PP 251 #[.agg #[.i v4.1, .bool v4.2.1, .bool v4.2.2.1]] [lI] fun r2 =>
 ifB (decide ((r1.1 : Int) < r2.1)) (
 ld ⟨n1, 0, none⟩ (.agg [.int .i64, .bool, .bool]) fun v5 =>
 A9 x4 fun a6 =>
 st a6 [.i x0] <|
 keep (D0 ⟨n1, 0, none⟩ [.i v5.1, .bool v5.2.1, .bool v5.2.2.1]) <|
 A9 x3 fun a7 =>
 st a7 [.i v5.1, .bool v5.2.1, .bool v5.2.2.1] <|
 A9 x2 fun a8 =>
 st a8 [.bool true] <|
 K (.tuple #[])) (
 K (.tuple #[])))
theorem e250 (x0 : Int) (x1 : ShV (.agg [.int .i64, .bool, .bool])) (x2 : Option Addr) (x3 : Option Addr) (x4 : Option Addr) (K : Value -> HP) : A8 PP h250 Tryz.f250 [.i x0, .agg #[.i x1.1, .bool x1.2.1, .bool x1.2.2.1], .pointer x2, .pointer x3, .pointer x4] K = t250 x0 x1 x2 x3 x4 K := by kernel_rfl
def t251 (x0 : ShV (.agg [.int .i64, .bool, .bool])) (K : Value -> HP) : HP :=
 nw (.cells #[.i x0.1, .bool x0.2.1, .bool x0.2.2.1] 194) fun n1 =>
 ld (Addr.add ⟨n1, 0, none⟩ 2) (.lf .bool) fun v1 =>
 ifB v1 (
 ld ⟨n1, 0, none⟩ (lI) fun v2 =>
 K (.i (IntKind.i64.wrap (v2 + 1)))) (
 ld ⟨n1, 0, none⟩ (lI) fun v3 =>
 K (.i v3))
theorem e251 (x0 : ShV (.agg [.int .i64, .bool, .bool])) (K : Value -> HP) : A8 PP Hn Tryz.f251 [.agg #[.i x0.1, .bool x0.2.1, .bool x0.2.2.1]] K = t251 x0 K := by kernel_rfl
def h252 : D1 := ⟨[], [], [(10, [0, 1, 2, 3, 4, 6, 7, 8, 9, 5, 10, 11]), (7, [0, 1, 2, 3, 4, 5, 6, 7, 10, 11, 12, 13, 8, 14, 9, 15])]⟩
def t252 (x0 : Option Addr) (x1 : Int) (K : Value -> HP) : HP :=
 cl PP 235 #[.pointer x0, .i x1, .i 0] [.lf .ptr, lI] fun r1 =>
 ifB ((r1.2.1 : Int) != 0) (
 K (.i r1.2.1)) (
 A9 r1.1 fun a1 =>
 ld (a1.add 3) (.lf .bool) fun v1 =>
 ifB v1 (
 K (.i 10)) (
 A9 x0 fun a2 =>
 cl PP 296 #[.pointer (some a2)] [.lf .bool] fun r2 =>
 ifB r2.1 (
 A9 x0 fun a3 =>
 A9 x0 fun a4 =>
 A9 x0 fun a5 =>
 ld (Addr.add (a4.add 3) 1) (lI) fun v2 =>
 ld (Addr.add (a5.add 3) 2) (lI) fun v3 =>
 cl PP 297 #[.pointer (some a3), .i v2] [lI] fun r3 =>
 keep (D0 (Addr.add (a5.add 3) 2) [.i v3]) <|
 cl PP 91 #[.pointer r1.1, .i r3.1, .i v3] [] fun r4 =>
 A9 x0 fun a6 =>
 ld (Addr.add (a6.add 3) 1) (lI) fun v4 =>
 A9 r1.1 fun a7 =>
 st (a7.add 1) [.i v4] <|
 K (.i 11)) (
 A9 x0 fun a8 =>
 A9 x0 fun a9 =>
 ld (Addr.add (a8.add 3) 1) (lI) fun v5 =>
 ld (Addr.add (a9.add 3) 2) (lI) fun v6 =>
 cl PP 91 #[.pointer r1.1, .i v5, .i v6] [] fun r5 =>
 A9 x0 fun a10 =>
 ld (Addr.add (a10.add 3) 3) (lI) fun v7 =>
 cl PP 298 #[.pointer r1.1, .i v7] [.lf .bool] fun r6 =>
 ifB r6.1 (
 K (.i 10)) (
 K (.i 0)))))
theorem e252 (x0 : Option Addr) (x1 : Int) (K : Value -> HP) : A8 PP h252 Tryz.f252 [.pointer x0, .i x1] K = t252 x0 x1 K := by kernel_rfl
def t253 (x0 : Option Addr) (x1 : Int) (x2 : Bool) (K : Value -> HP) : HP :=
 nw (.cells #[.bool x2] 4) fun n1 =>
 cl PP 299 #[.pointer x0, .i x1, .func (.func 300) #[] #[.pointer (some ⟨n1, 0, none⟩)]] [.lf .bool] fun r1 =>
 K (.bool r1.1)
theorem e253 (x0 : Option Addr) (x1 : Int) (x2 : Bool) (K : Value -> HP) : A8 PP Hn Tryz.f253 [.pointer x0, .i x1, .bool x2] K = t253 x0 x1 x2 K := by kernel_rfl
def t254 (x0 : Option Addr) (x1 : Int) (x2 : Int) (K : Value -> HP) : HP :=
 cl PP 193 #[.pointer x0, .i x1, .agg #[.i 1, .i 0, .i 1, .i x2, .i 0], .slice none 0 0] [lI] fun r1 =>
 K (.i r1.1)
theorem e254 (x0 : Option Addr) (x1 : Int) (x2 : Int) (K : Value -> HP) : A8 PP Hn Tryz.f254 [.pointer x0, .i x1, .i x2] K = t254 x0 x1 x2 K := by kernel_rfl
def t255 (x0 : Option Addr) (x1 : Int) (K : Value -> HP) : HP :=
 cl PP 172 #[.pointer x0, .i x1] [.lf .bool] fun r1 =>
 ifB (!r1.1) (
 K (.bool false)) (
 A9 x0 fun a1 =>
 ld a1 (.lf .sl) fun v1 =>
 A9 v1.a fun a2 =>
 ixn x1 v1.len <|
 ld (Addr.add (a2.add (x1.toNat * 3)) 2) (.lf .bool) fun v2 =>
 ifB v2 (
 K (.bool false)) (
 A9 x0 fun a3 =>
 ld (a3.add 1) (.lf .sl) fun v3 =>
 nw (.cells #[.i x1] 3) fun n1 =>
 smW PP (Builtin.append_ #[49, 49] 49 #[.sv v3, .slice (some ⟨n1, 0, none⟩) 1 1]) [.lf .sl] fun v4 =>
 A9 x0 fun a4 =>
 st (a4.add 1) [.slice v4.1.a v4.1.len v4.1.cap] <|
 K (.bool true)))
theorem e255 (x0 : Option Addr) (x1 : Int) (K : Value -> HP) : A8 PP Hn Tryz.f255 [.pointer x0, .i x1] K = t255 x0 x1 K := by kernel_rfl
def t256 (x0 : ShV (.agg [.int .i64, .int .i64, .int .i64, .int .i64, .int .i64])) (x1 : SlV) (x2 : Int) (K : Value -> HP) : HP :=
 nw (.cells #[.i x0.1, .i x0.2.1, .i x0.2.2.1, .i x0.2.2.2.1, .i x0.2.2.2.2.1] 272) fun n1 =>
 cl PP 129 #[.i x2] [.lf .bool] fun r1 =>
 ifB (!r1.1) (
 K (.tuple #[.slice none 0 0, .i 2])) (
 ld ⟨n1, 0, none⟩ (.agg [.int .i64, .int .i64, .int .i64, .int .i64, .int .i64]) fun v1 =>
 cl PP 239 #[.agg #[.i v1.1, .i v1.2.1, .i v1.2.2.1, .i v1.2.2.2.1, .i v1.2.2.2.2.1]] [lI] fun r2 =>
 ifB ((r2.1 : Int) != 0) (
 K (.tuple #[.slice none 0 0, .i r2.1])) (
 cl PP 62 #[.i x2] [lI] fun r3 =>
 ifB (decide ((x1.len : Int) > r3.1)) (
 K (.tuple #[.slice none 0 0, .i 4])) (
 ld ⟨n1, 0, none⟩ (lI) fun v2 =>
 ld (Addr.add ⟨n1, 0, none⟩ 1) (lI) fun v3 =>
 ld (Addr.add ⟨n1, 0, none⟩ 2) (lI) fun v4 =>
 ld (Addr.add ⟨n1, 0, none⟩ 3) (lI) fun v5 =>
 ld (Addr.add ⟨n1, 0, none⟩ 4) (lI) fun v6 =>
 nw (.cells #[.i v2, .i 1, .i v3, .i 1, .i v4, .i 1, .i 165, .i 1, .i v5, .i 4, .i v6, .i 1, .i 0, .i 1, .i x1.len, .i 2] 399) fun n2 =>
 cl PP 301 #[.slice none 0 0, .slice (some ⟨n2, 0, none⟩) 8 8] [.lf .sl] fun r4 =>
 smA PP (Instr.makeSlice 27 (.i (IntKind.i64.wrap (x2 - 4))) (.i (IntKind.i64.wrap (x2 - 4)))) (.lf .sl) fun v7 =>
 smW PP (Builtin.copy_ #[27, 27] 3 #[.sv v7, .sv r4.1]) [lI] fun v8 =>
 slc ⟨v7.a, v7.len, v7.cap⟩ v8.1 v7.len v7.cap 1 fun s1 =>
 smW PP (Builtin.copy_ #[27, 27] 3 #[.sv s1, .sv x1]) [lI] fun v9 =>
 cl PP 179 #[.sv v7] [lI] fun r5 =>
 nw (.cells #[.i r5.1, .i 4] 399) fun n3 =>
 cl PP 301 #[.sv v7, .slice (some ⟨n3, 0, none⟩) 1 1] [.lf .sl] fun r6 =>
 K (.tuple #[.sv r6.1, .i 0]))))
theorem e256 (x0 : ShV (.agg [.int .i64, .int .i64, .int .i64, .int .i64, .int .i64])) (x1 : SlV) (x2 : Int) (K : Value -> HP) : A8 PP Hn Tryz.f256 [.agg #[.i x0.1, .i x0.2.1, .i x0.2.2.1, .i x0.2.2.2.1, .i x0.2.2.2.2.1], .sv x1, .i x2] K = t256 x0 x1 x2 K := by kernel_rfl
def h257 : D1 := ⟨[], [], [(18, [0, 1, 2, 3, 5, 6, 8, 11, 4, 7, 9, 10, 12, 13, 14, 15, 16, 17, 18]), (17, [0, 1, 2, 3, 4, 5, 6, 7, 8, 9, 10, 11, 12]), (13, [0, 1, 2, 4, 5, 6, 7, 3, 8, 9, 10, 11, 12])]⟩
def t257 (x0 : Option Addr) (x1 : Int) (x2 : Int) (x3 : SlV) (K : Value -> HP) : HP :=
 cl PP 235 #[.pointer x0, .i x1, .i x2] [.lf .ptr, lI] fun r1 =>
 ifB ((r1.2.1 : Int) != 0) (
 K (.i r1.2.1)) (
 A9 x0 fun a1 =>
 ld (Addr.add (a1.add 3) 2) (lI) fun v1 =>
 ifB ((x3.len : Int) != v1) (
 K (.i 2)) (
 A9 r1.1 fun a2 =>
 ld (a2.add 3) (.lf .bool) fun v2 =>
 ifB v2 (
 K (.i 10)) (
 A9 r1.1 fun a3 =>
 ld (a3.add 1) (lI) fun v3 =>
 ifB ((v3 : Int) != x2) (
 K (.i 9)) (
 A9 x0 fun a4 =>
 ld (Addr.add (a4.add 3) 2) (lI) fun v4 =>
 cl PP 163 #[.i v4] [.lf .sl] fun r2 =>
 A9 r1.1 fun a5 =>
 ld a5 (.lf .sl) fun v5 =>
 A9 v5.a fun a6 =>
 ixn x2 v5.len <|
 st (a6.add (x2.toNat * 1)) [.slice r2.1.a r2.1.len r2.1.cap] <|
 A9 r1.1 fun a7 =>
 ld (a7.add 1) (lI) fun v6 =>
 A9 r1.1 fun a8 =>
 st (a8.add 1) [.i (IntKind.i64.wrap (v6 + 1))] <|
 A9 x0 fun a9 =>
 A9 x0 fun a10 =>
 ld (a9.add 8) (lI) fun v7 =>
 ld (Addr.add (a10.add 3) 2) (lI) fun v8 =>
 A9 x0 fun a11 =>
 st (a11.add 8) [.i (IntKind.i64.wrap (v7 + v8))] <|
 A9 x0 fun a12 =>
 cl PP 296 #[.pointer (some a12)] [.lf .bool] fun r3 =>
 ifB (!r3.1) (
 smW PP (Builtin.copy_ #[27, 27] 3 #[.sv r2.1, .sv x3]) [lI] fun v9 =>
 K (.i 0)) (
 A9 x0 fun a13 =>
 A9 x0 fun a14 =>
 ld (Addr.add (a14.add 3) 2) (lI) fun v10 =>
 cl PP 297 #[.pointer (some a13), .i v10] [lI] fun r4 =>
 slc ⟨x3.a, x3.len, x3.cap⟩ 0 r4.1 x3.cap 1 fun s1 =>
 smW PP (Builtin.copy_ #[27, 27] 3 #[.sv r2.1, .sv s1]) [lI] fun v11 =>
 A9 x0 fun a15 =>
 ld (a15.add 9) (.lf .sl) fun v12 =>
 nw (.cells #[] 5) fun n1 =>
 smW PP (Builtin.append_ #[27, 27] 27 #[.slice (some ⟨n1, 0, none⟩) 0 0, .sv x3]) [.lf .sl] fun v13 =>
 keep (D0 (a15.add 9) [.sv v12]) <|
 nw (.cells #[] 5) fun n2 =>
 smW PP (Builtin.append_ #[27, 27] 27 #[.slice (some ⟨n2, 0, none⟩) 0 0, .sv r2.1]) [.lf .sl] fun v14 =>
 keep (D0 (a15.add 9) [.sv v12]) <|
 nw (.cells #[.i x1, .i x2, .slice v13.1.a v13.1.len v13.1.cap, .slice v14.1.a v14.1.len v14.1.cap] 401) fun n3 =>
 smW PP (Builtin.append_ #[73, 73] 73 #[.sv v12, .slice (some ⟨n3, 0, none⟩) 1 1]) [.lf .sl] fun v15 =>
 A9 x0 fun a16 =>
 st (a16.add 9) [.slice v15.1.a v15.1.len v15.1.cap] <|
 K (.i 11))))))
theorem e257 (x0 : Option Addr) (x1 : Int) (x2 : Int) (x3 : SlV) (K : Value -> HP) : A8 PP h257 Tryz.f257 [.pointer x0, .i x1, .i x2, .sv x3] K = t257 x0 x1 x2 x3 K := by kernel_rfl
set_option maxRecDepth 100000
def h283 : D1 := ⟨[(0, [(17, lI)])], [], [(6, [0, 1, 2, 3, 6, 7, 8, 4, 5, 9, 10, 11, 12, 13, 14])]⟩
def t283 (x0 : SlV) (K : Value -> HP) : HP :=
 nw (.cells #[.slice none 0 0, .i 0, .i 0] 375) fun n1 =>
 slc ⟨x0.a, x0.len, x0.cap⟩ 0 (Y1 x0.len 16) x0.cap 1 fun s1 =>
 lp [lI] (0, ()) fun z1 go1 =>
 ifB (decide ((z1.1 : Int) < s1.len)) (
 A9 s1.a fun a1 =>
 ixn z1.1 s1.len <|
 ld (a1.add (z1.1.toNat * 1)) (.lf .sl) fun v1 =>
 cl PP 182 #[.sv v1] [.agg [.int .i64, .int .i64, .int .i64, .int .i64, .int .i64], .lf .sl, lI] fun r1 =>
 nw (.cells #[.i 0, .i 0, .i 0, .i 0, .i 0] 272) fun n2 =>
 st ⟨n2, 0, none⟩ [.i r1.1.1, .i r1.1.2.1, .i r1.1.2.2.1, .i r1.1.2.2.2.1, .i r1.1.2.2.2.2.1] <|
 ld ⟨n1, 0, none⟩ (.lf .sl) fun v2 =>
 ld ⟨n2, 0, none⟩ (.agg [.int .i64, .int .i64, .int .i64, .int .i64, .int .i64]) fun v3 =>
 nw (.cells #[.i v3.1, .i v3.2.1, .i v3.2.2.1, .i v3.2.2.2.1, .i v3.2.2.2.2.1, .slice r1.2.1.a r1.2.1.len r1.2.1.cap, .bool ((r1.2.2.1 : Int) == 0)] 377) fun n3 =>
 smW PP (Builtin.append_ #[373, 373] 373 #[.sv v2, .slice (some ⟨n3, 0, none⟩) 1 1]) [.lf .sl] fun v4 =>
 st ⟨n1, 0, none⟩ [.slice v4.1.a v4.1.len v4.1.cap] <|
 cl PP 236 #[.sv v1] [.lf .bool] fun r2 =>
 ifB (!r2.1) (
 st (Addr.add ⟨n1, 0, none⟩ 2) [.i z1.1] <|
 go1 (IntKind.i64.wrap (z1.1 + 1), ())) (
 go1 (IntKind.i64.wrap (z1.1 + 1), ()))) (
 K (.pointer (some ⟨n1, 0, none⟩)))
theorem e283 (x0 : SlV) (K : Value -> HP) : A8 PP h283 Tryz.f283 [.sv x0] K = t283 x0 K := by kernel_rfl
def h284 : D1 := ⟨[], [], [(2, [0, 1, 2, 3, 4, 5, 6, 7, 8, 9, 10, 11, 12, 13, 14, 16, 15, 17, 18, 19, 20, 21, 22, 23, 24, 25, 27, 26, 28, 29, 30, 31, 32, 33])]⟩
def t284 (x0 : Option Addr) (x1 : Int) (x2 : ShV (.agg [.int .i64, .int .i64, .int .i64, .int .i64, .int .i64])) (K : Value -> HP) : HP :=
 nw (.cells #[.i x2.1, .i x2.2.1, .i x2.2.2.1, .i x2.2.2.2.1, .i x2.2.2.2.2.1] 272) fun n1 =>
 A9 x0 fun a1 =>
 ld (a1.add 1) (lI) fun v1 =>
 st (Addr.add ⟨n1, 0, none⟩ 3) [.i v1] <|
 st (Addr.add ⟨n1, 0, none⟩ 4) [.i x1] <|
 ifB (decide ((x1 : Int) < 0)) (
 K (.tuple #[.slice none 0 0, .bool false])) (
 A9 x0 fun a2 =>
 ld a2 (.lf .sl) fun v2 =>
 ifB (decide ((x1 : Int) ≥ v2.len)) (
 K (.tuple #[.slice none 0 0, .bool false])) (
 A9 x0 fun a3 =>
 ld a3 (.lf .sl) fun v3 =>
 A9 v3.a fun a4 =>
 ixn x1 v3.len <|
 ld (Addr.add (a4.add (x1.toNat * 7)) 6) (.lf .bool) fun v4 =>
 ifB (!v4) (
 K (.tuple #[.slice none 0 0, .bool false])) (
 A9 x0 fun a5 =>
 ld a5 (.lf .sl) fun v5 =>
 A9 v5.a fun a6 =>
 ixn x1 v5.len <|
 ld (a6.add (x1.toNat * 7)) (.agg [.int .i64, .int .i64, .int .i64, .int .i64, .int .i64]) fun v6 =>
 ld ⟨n1, 0, none⟩ (.agg [.int .i64, .int .i64, .int .i64, .int .i64, .int .i64]) fun v7 =>
 smP PP (binOp .neq 272 (.agg #[.i v6.1, .i v6.2.1, .i v6.2.2.1, .i v6.2.2.2.1, .i v6.2.2.2.2.1]) (.agg #[.i v7.1, .i v7.2.1, .i v7.2.2.1, .i v7.2.2.2.1, .i v7.2.2.2.2.1])) (.lf .bool) fun v8 =>
 ifB v8 (
 K (.tuple #[.slice none 0 0, .bool false])) (
 A9 x0 fun a7 =>
 ld a7 (.lf .sl) fun v9 =>
 A9 v9.a fun a8 =>
 ixn x1 v9.len <|
 ld (Addr.add (a8.add (x1.toNat * 7)) 5) (.lf .sl) fun v10 =>
 K (.tuple #[.sv v10, .bool true])))))
theorem e284 (x0 : Option Addr) (x1 : Int) (x2 : ShV (.agg [.int .i64, .int .i64, .int .i64, .int .i64, .int .i64])) (K : Value -> HP) : A8 PP h284 Tryz.f284 [.pointer x0, .i x1, .agg #[.i x2.1, .i x2.2.1, .i x2.2.2.1, .i x2.2.2.2.1, .i x2.2.2.2.2.1]] K = t284 x0 x1 x2 K := by kernel_rfl
def h285 : D1 := ⟨[(0, [(4, .lf .sl), (6, .lf .sl), (7, lI)])], [], [(13, [0, 1, 2, 3, 4, 7, 5, 6, 8]), (8, [0, 1, 4, 5, 8, 9, 2, 3, 6, 7, 10, 11, 12, 13, 14])]⟩
def t285 (x0 : Option Addr) (K : Value -> HP) : HP :=
 A9 x0 fun a1 =>
 ld (a1.add 2) (lI) fun v1 =>
 cl PP 284 #[.pointer x0, .i v1, .agg #[.i 4, .i 0, .i 1, .i 0, .i 0]] [.lf .sl, .lf .bool] fun r1 =>
 ifB (!r1.2.1) (
 K (.tuple #[.slice none 0 0, .bool false])) (
 req ((3 : Int) ≠ 0) <|
 ifB ((Int.tmod r1.1.len 3 : Int) != 0) (
 K (.tuple #[.slice none 0 0, .bool false])) (
 lp [.lf .sl, .lf .sl, lI] (⟨r1.1.a, r1.1.len, r1.1.cap⟩, ⟨none, 0, 0⟩, 1, ()) fun z1 go1 =>
 ifB (decide ((z1.1.len : Int) > 0)) (
 A9 z1.1.a fun a2 =>
 ixn 0 z1.1.len <|
 A9 z1.1.a fun a3 =>
 ixn 1 z1.1.len <|
 A9 z1.1.a fun a4 =>
 ixn 2 z1.1.len <|
 ld (a2.add ((0 : Int).toNat * 1)) (.lf (.int .u8)) fun v2 =>
 ld (a3.add ((1 : Int).toNat * 1)) (.lf (.int .u8)) fun v3 =>
 ld (a4.add ((2 : Int).toNat * 1)) (.lf (.int .u8)) fun v4 =>
 nw (.cells #[.i 0, .i 0, .i 0] 215) fun n1 =>
 st ⟨n1, 0, none⟩ [.i (IntKind.i64.wrap v2), .i (IntKind.i64.wrap v3), .i (IntKind.i64.wrap v4)] <|
 ld ⟨n1, 0, none⟩ (lI) fun v5 =>
 cl PP 320 #[.i v5] [.lf .bool] fun r2 =>
 ifB (!r2.1) (
 K (.tuple #[.slice none 0 0, .bool false])) (
 ld (Addr.add ⟨n1, 0, none⟩ 2) (lI) fun v6 =>
 ifB ((v6 : Int) == 0) (
 K (.tuple #[.slice none 0 0, .bool false])) (
 ld (Addr.add ⟨n1, 0, none⟩ 1) (lI) fun v7 =>
 ifB ((v7 : Int) != z1.2.2.1) (
 K (.tuple #[.slice none 0 0, .bool false])) (
 ld (Addr.add ⟨n1, 0, none⟩ 2) (lI) fun v8 =>
 ld ⟨n1, 0, none⟩ (.agg [.int .i64, .int .i64, .int .i64]) fun v9 =>
 nw (.cells #[.i v9.1, .i v9.2.1, .i v9.2.2.1] 215) fun n2 =>
 smW PP (Builtin.append_ #[152, 152] 152 #[.sv z1.2.1, .slice (some ⟨n2, 0, none⟩) 1 1]) [.lf .sl] fun v10 =>
 slc ⟨z1.1.a, z1.1.len, z1.1.cap⟩ 3 z1.1.len z1.1.cap 1 fun s1 =>
 go1 (⟨s1.a, s1.len, s1.cap⟩, ⟨v10.1.a, v10.1.len, v10.1.cap⟩, IntKind.i64.wrap (z1.2.2.1 + v8), ()))))) (
 A9 x0 fun a5 =>
 ld (a5.add 2) (lI) fun v11 =>
 K (.tuple #[.sv z1.2.1, .bool ((z1.2.2.1 : Int) == v11)]))))
theorem e285 (x0 : Option Addr) (K : Value -> HP) : A8 PP h285 Tryz.f285 [.pointer x0] K = t285 x0 K := by kernel_rfl
def h286 : D1 := ⟨[(0, [(5, .lf .sl), (6, lI)])], [], []⟩
def t286 (x0 : Option Addr) (x1 : FnV) (K : Value -> HP) : HP :=
 lp [.lf .sl, lI] (⟨none, 0, 0⟩, 1, ()) fun z1 go1 =>
 A9 x0 fun a1 =>
 ld (a1.add 2) (lI) fun v1 =>
 ifB (decide ((z1.2.1 : Int) <= v1)) (
 clv PP x1.fn (x1.first ++ #[.i z1.2.1]) x1.captured [.agg [.int .i64, .int .i64, .int .i64], .lf .bool] fun r1 =>
 nw (.cells #[.i 0, .i 0, .i 0] 215) fun n1 =>
 st ⟨n1, 0, none⟩ [.i r1.1.1, .i r1.1.2.1, .i r1.1.2.2.1] <|
 ifB (!r1.2.1) (
 go1 (⟨z1.1.a, z1.1.len, z1.1.cap⟩, IntKind.i64.wrap (z1.2.1 + 1), ())) (
 ld ⟨n1, 0, none⟩ (.agg [.int .i64, .int .i64, .int .i64]) fun v2 =>
 nw (.cells #[.i v2.1, .i v2.2.1, .i v2.2.2.1] 215) fun n2 =>
 smW PP (Builtin.append_ #[152, 152] 152 #[.sv z1.1, .slice (some ⟨n2, 0, none⟩) 1 1]) [.lf .sl] fun v3 =>
 ld (Addr.add ⟨n1, 0, none⟩ 2) (lI) fun v4 =>
 go1 (⟨v3.1.a, v3.1.len, v3.1.cap⟩, IntKind.i64.wrap ((IntKind.i64.wrap (z1.2.1 + (IntKind.i64.wrap (v4 - 1)))) + 1), ()))) (
 K (.sv z1.1))
theorem e286 (x0 : Option Addr) (x1 : FnV) (K : Value -> HP) : A8 PP h286 Tryz.f286 [.pointer x0, .func x1.fn x1.first x1.captured] K = t286 x0 x1 K := by kernel_rfl
def h287 : D1 := ⟨[(0, [(31, lI)])], [], []⟩
def t287 (x0 : Option Addr) (x1 : Int) (K : Value -> HP) : HP :=
 nw (.cells #[.i 0, .i 0, .i 0] 215) fun n1 =>
 A9 x0 fun a1 =>
 ld a1 (.lf .sl) fun v1 =>
 A9 v1.a fun a2 =>
 ixn x1 v1.len <|
 ld (a2.add (x1.toNat * 7)) (.agg [.int .i64, .int .i64, .int .i64, .int .i64, .int .i64, .sl, .bool]) fun v2 =>
 nw (.cells #[.i 0, .i 0, .i 0, .i 0, .i 0, .slice none 0 0, .bool false] 377) fun n2 =>
 st ⟨n2, 0, none⟩ [.i v2.1, .i v2.2.1, .i v2.2.2.1, .i v2.2.2.2.1, .i v2.2.2.2.2.1, .slice v2.2.2.2.2.2.1.a v2.2.2.2.2.2.1.len v2.2.2.2.2.2.1.cap, .bool v2.2.2.2.2.2.2.1] <|
 ld (Addr.add ⟨n2, 0, none⟩ 6) (.lf .bool) fun v3 =>
 ifB (!v3) (
 st ⟨n1, 0, none⟩ [.i 0, .i 0, .i 0] <|
 ld ⟨n1, 0, none⟩ (.agg [.int .i64, .int .i64, .int .i64]) fun v4 =>
 K (.tuple #[.agg #[.i v4.1, .i v4.2.1, .i v4.2.2.1], .bool false])) (
 ld ⟨n2, 0, none⟩ (lI) fun v5 =>
 cl PP 320 #[.i v5] [.lf .bool] fun r1 =>
 ifB (!r1.1) (
 st ⟨n1, 0, none⟩ [.i 0, .i 0, .i 0] <|
 ld ⟨n1, 0, none⟩ (.agg [.int .i64, .int .i64, .int .i64]) fun v6 =>
 K (.tuple #[.agg #[.i v6.1, .i v6.2.1, .i v6.2.2.1], .bool false])) (
 ld (Addr.add ⟨n2, 0, none⟩ 2) (lI) fun v7 =>
 lp [lI] (0, ()) fun z1 go1 =>
 ifB (decide ((z1.1 : Int) < v7)) (
 ld ⟨n2, 0, none⟩ (lI) fun v8 =>
 ld (Addr.add ⟨n2, 0, none⟩ 2) (lI) fun v9 =>
 cl PP 284 #[.pointer x0, .i (IntKind.i64.wrap (x1 + z1.1)), .agg #[.i v8, .i z1.1, .i v9, .i 0, .i 0]] [.lf .sl, .lf .bool] fun r2 =>
 ifB (!r2.2.1) (
 st ⟨n1, 0, none⟩ [.i 0, .i 0, .i 0] <|
 ld ⟨n1, 0, none⟩ (.agg [.int .i64, .int .i64, .int .i64]) fun v10 =>
 K (.tuple #[.agg #[.i v10.1, .i v10.2.1, .i v10.2.2.1], .bool false])) (
 go1 (IntKind.i64.wrap (z1.1 + 1), ()))) (
 ld ⟨n2, 0, none⟩ (lI) fun v11 =>
 ld (Addr.add ⟨n2, 0, none⟩ 2) (lI) fun v12 =>
 st ⟨n1, 0, none⟩ [.i v11, .i x1, .i v12] <|
 ld ⟨n1, 0, none⟩ (.agg [.int .i64, .int .i64, .int .i64]) fun v13 =>
 K (.tuple #[.agg #[.i v13.1, .i v13.2.1, .i v13.2.2.1], .bool true]))))
theorem e287 (x0 : Option Addr) (x1 : Int) (K : Value -> HP) : A8 PP h287 Tryz.f287 [.pointer x0, .i x1] K = t287 x0 x1 K := by kernel_rfl
def h288 : D1 := ⟨[(0, [(7, lI), (8, lI)]), (2, [(6, lI)]), (4, [(7, lI), (8, lI)])], [], []⟩
def t288 (x0 : SlV) (x1 : Int) (x2 : FnV) (K : Value -> HP) : HP :=
 lp [lI, lI] (0, 20, ()) fun z1 go1 =>
 ifB (decide ((z1.2.1 : Int) <= x1)) (
 cl PP 321 #[.slice x0.a x0.len x0.cap, .i z1.1, .i z1.2.1, .func x2.fn x2.first x2.captured] [] fun r1 =>
 go1 (z1.2.1, IntKind.i64.wrap (z1.2.1 + 20), ())) (
 cl PP 321 #[.slice x0.a x0.len x0.cap, .i z1.1, .i x1, .func x2.fn x2.first x2.captured] [] fun r2 =>
 lp [lI] (20, ()) fun z2 go2 =>
 ifB (decide ((z2.1 : Int) < x1)) (
 lp [lI, lI] (0, IntKind.i64.wrap (2 * z2.1), ()) fun z3 go3 =>
 ifB (decide ((z3.2.1 : Int) <= x1)) (
 cl PP 322 #[.slice x0.a x0.len x0.cap, .i z3.1, .i (IntKind.i64.wrap (z3.1 + z2.1)), .i z3.2.1, .func x2.fn x2.first x2.captured] [] fun r3 =>
 go3 (z3.2.1, IntKind.i64.wrap (z3.2.1 + (IntKind.i64.wrap (2 * z2.1))), ())) (
 ifB (decide ((IntKind.i64.wrap (z3.1 + z2.1) : Int) < x1)) (
 cl PP 322 #[.slice x0.a x0.len x0.cap, .i z3.1, .i (IntKind.i64.wrap (z3.1 + z2.1)), .i x1, .func x2.fn x2.first x2.captured] [] fun r4 =>
 go2 (IntKind.i64.wrap (z2.1 * 2), ())) (
 go2 (IntKind.i64.wrap (z2.1 * 2), ())))) (
 K (.tuple #[])))
theorem e288 (x0 : SlV) (x1 : Int) (x2 : FnV) (K : Value -> HP) : A8 PP h288 Tryz.f288 [.slice x0.a x0.len x0.cap, .i x1, .func x2.fn x2.first x2.captured] K = t288 x0 x1 x2 K := by kernel_rfl
def h289 : D1 := ⟨[(0, [(8, lI)])], [], []⟩
def t289 (x0 : SlV) (x1 : Int) (K : Value -> HP) : HP :=
 lp [lI] (0, ()) fun z1 go1 =>
 ifB (decide ((z1.1 : Int) < x0.len)) (
 A9 x0.a fun a1 =>
 ixn z1.1 x0.len <|
 ld (a1.add (z1.1.toNat * 1)) (lI) fun v1 =>
 ifB ((x1 : Int) == v1) (
 K (.i z1.1)) (
 go1 (IntKind.i64.wrap (z1.1 + 1), ()))) (
 K (.i (-1)))
theorem e289 (x0 : SlV) (x1 : Int) (K : Value -> HP) : A8 PP h289 Tryz.f289 [.sv x0, .i x1] K = t289 x0 x1 K := by kernel_rfl
def h290 : D1 := ⟨[], [(3, [])], []⟩
def t290 (x0 : SlV) (x1 : Int) (K : Value -> HP) : HP :=
 jn (fun y1 : RsV [] =>
 ifB (decide ((IntKind.i64.wrap (x1 - (IntKind.i64.wrap (x0.cap - x0.len))) : Int) > 0)) (
 slc ⟨x0.a, x0.len, x0.cap⟩ 0 x0.cap x0.cap 1 fun s1 =>
 smW PP (Builtin.append_ #[27, 3] 27 #[.sv s1, .i (IntKind.i64.wrap (x1 - (IntKind.i64.wrap (x0.cap - x0.len))))]) [.lf .sl] fun v1 =>
 slc ⟨v1.1.a, v1.1.len, v1.1.cap⟩ 0 x0.len v1.1.cap 1 fun s2 =>
 K (.sv s2)) (
 K (.sv x0))) fun j1 =>
 ifB (decide ((x1 : Int) < 0)) (
 ff) (
 j1 (()))
theorem e290 (x0 : SlV) (x1 : Int) (K : Value -> HP) : A8 PP h290 Tryz.f290 [.sv x0, .i x1] K = t290 x0 x1 K := by kernel_rfl
def h291 : D1 := ⟨[(0, [(0, .lf (.int .u32)), (10, lI)]), (2, [(0, .lf (.int .u32)), (18, lI)])], [], []⟩
def t291 (x0 : Int) (x1 : SlV) (K : Value -> HP) : HP :=
 lp [.lf (.int .u32), lI] (x0, 0, ()) fun z1 go1 =>
 ifB (decide ((z1.2.1 : Int) < x1.len)) (
 A9 x1.a fun a1 =>
 ixn z1.2.1 x1.len <|
 ld (a1.add (z1.2.1.toNat * 1)) (.lf (.int .u8)) fun v1 =>
 lp [.lf (.int .u32), lI] (Ag7 .xor .u32 z1.1 (IntKind.u32.wrap v1), 0, ()) fun z2 go2 =>
 ifB (decide ((z2.2.1 : Int) < 8)) (
 req ((0 : Int) <= 1) <|
 go2 (Ag7 .xor .u32 (Int.fdiv z2.1 (2 ^ (min (1 : Int).toNat IntKind.u32.bits))) (Ag7 .and .u32 2197175160 (IntKind.u32.wrap (0 - (Ag7 .and .u32 z2.1 1)))), IntKind.i64.wrap (z2.2.1 + 1), ())) (
 go1 (z2.1, IntKind.i64.wrap (z1.2.1 + 1), ()))) (
 K (.int .u32 z1.1))
theorem e291 (x0 : Int) (x1 : SlV) (K : Value -> HP) : A8 PP h291 Tryz.f291 [.int .u32 x0, .sv x1] K = t291 x0 x1 K := by kernel_rfl
def t292 (x0 : SlV) (x1 : ShV (.agg [.int .i64, .int .i64, .int .i64])) (K : Value -> HP) : HP :=
 nw (.cells #[.i x1.1, .i x1.2.1, .i x1.2.2.1] 102) fun n1 =>
 ld ⟨n1, 0, none⟩ (.agg [.int .i64, .int .i64, .int .i64]) fun v1 =>
 cl PP 323 #[.sv x0, .agg #[.i v1.1, .i v1.2.1, .i v1.2.2.1]] [lI] fun r1 =>
 K (.bool (decide ((r1.1 : Int) ≥ 0)))
theorem e292 (x0 : SlV) (x1 : ShV (.agg [.int .i64, .int .i64, .int .i64])) (K : Value -> HP) : A8 PP Hn Tryz.f292 [.sv x0, .agg #[.i x1.1, .i x1.2.1, .i x1.2.2.1]] K = t292 x0 x1 K := by kernel_rfl
def t293 (x0 : Option Addr) (x1 : Int) (x2 : ShV (.agg [.int .i64, .int .i64, .int .i64])) (K : Value -> HP) : HP :=
 nw (.cells #[.i x2.1, .i x2.2.1, .i x2.2.2.1] 102) fun n1 =>
 nw (.cells #[.i 0] 3) fun n2 =>
 st ⟨n2, 0, none⟩ [.i 0] <|
 ld ⟨n1, 0, none⟩ (.agg [.int .i64, .int .i64, .int .i64]) fun v1 =>
 cl PP 124 #[.pointer x0, .int .u64 x1, .agg #[.i v1.1, .i v1.2.1, .i v1.2.2.1], .func (.func 324) #[] #[.pointer (some ⟨n2, 0, none⟩)]] [.lf .bool] fun r1 =>
 ld ⟨n2, 0, none⟩ (lI) fun v2 =>
 K (.i v2)
theorem e293 (x0 : Option Addr) (x1 : Int) (x2 : ShV (.agg [.int .i64, .int .i64, .int .i64])) (K : Value -> HP) : A8 PP Hn Tryz.f293 [.pointer x0, .int .u64 x1, .agg #[.i x2.1, .i x2.2.1, .i x2.2.2.1]] K = t293 x0 x1 x2 K := by kernel_rfl
def h294 : D1 := ⟨[], [], [(4, [0, 1, 2, 5, 3, 6, 7, 8, 4, 9, 10])]⟩
def t294 (x0 : Option Addr) (x1 : Int) (x2 : ShV (.agg [.int .i64, .int .i64, .int .i64])) (x3 : ShV (.agg [.int .i64, .int .i64, .int .i64])) (K : Value -> HP) : HP :=
 nw (.cells #[.i x2.1, .i x2.2.1, .i x2.2.2.1] 102) fun n1 =>
 nw (.cells #[.i x3.1, .i x3.2.1, .i x3.2.2.1] 102) fun n2 =>
 ld ⟨n1, 0, none⟩ (.agg [.int .i64, .int .i64, .int .i64]) fun v1 =>
 cl PP 176 #[.pointer x0, .int .u64 x1, .agg #[.i v1.1, .i v1.2.1, .i v1.2.2.1]] [.agg [.int .i64, .int .i64, .int .i64, .int .i64, .int .i64], .lf .bool] fun r1 =>
 nw (.cells #[.i 0, .i 0, .i 0, .i 0, .i 0] 204) fun n3 =>
 st ⟨n3, 0, none⟩ [.i r1.1.1, .i r1.1.2.1, .i r1.1.2.2.1, .i r1.1.2.2.2.1, .i r1.1.2.2.2.2.1] <|
 ifB r1.2.1 (
 ld ⟨n2, 0, none⟩ (.agg [.int .i64, .int .i64, .int .i64]) fun v2 =>
 cl PP 176 #[.pointer x0, .int .u64 x1, .agg #[.i v2.1, .i v2.2.1, .i v2.2.2.1]] [.agg [.int .i64, .int .i64, .int .i64, .int .i64, .int .i64], .lf .bool] fun r2 =>
 ld ⟨n2, 0, none⟩ (.agg [.int .i64, .int .i64, .int .i64]) fun v3 =>
 ld (Addr.add ⟨n3, 0, none⟩ 4) (lI) fun v4 =>
 cl PP 184 #[.int .u64 x1, .agg #[.i v3.1, .i v3.2.1, .i v3.2.2.1]] [.agg [.int .i64, .int .i64, .int .i64, .int .i64]] fun r3 =>
 keep (D0 (Addr.add ⟨n3, 0, none⟩ 4) [.i v4]) <|
 cl PP 230 #[.pointer x0, .int .u64 x1, .agg #[.i r3.1.1, .i r3.1.2.1, .i r3.1.2.2.1, .i r3.1.2.2.2.1, .i (Ab4 (IntKind.i64.wrap (v4 - 1)) 0)]] [] fun r4 =>
 K (.bool r1.2.1)) (
 K (.bool r1.2.1))
theorem e294 (x0 : Option Addr) (x1 : Int) (x2 : ShV (.agg [.int .i64, .int .i64, .int .i64])) (x3 : ShV (.agg [.int .i64, .int .i64, .int .i64])) (K : Value -> HP) : A8 PP h294 Tryz.f294 [.pointer x0, .int .u64 x1, .agg #[.i x2.1, .i x2.2.1, .i x2.2.2.1], .agg #[.i x3.1, .i x3.2.1, .i x3.2.2.1]] K = t294 x0 x1 x2 x3 K := by kernel_rfl
def h295 : D1 := ⟨[(0, [(8, lI)])], [], []⟩
def t295 (x0 : SlV) (x1 : FnV) (K : Value -> HP) : HP :=
 lp [lI] (0, ()) fun z1 go1 =>
 ifB (decide ((z1.1 : Int) < x0.len)) (
 A9 x0.a fun a1 =>
 ixn z1.1 x0.len <|
 ld (a1.add (z1.1.toNat * 3)) (.agg [.int .i64, .int .i64, .int .i64]) fun v1 =>
 clv PP x1.fn (x1.first ++ #[.agg #[.i v1.1, .i v1.2.1, .i v1.2.2.1]]) x1.captured [.lf .bool] fun r1 =>
 ifB r1.1 (
 K (.i z1.1)) (
 go1 (IntKind.i64.wrap (z1.1 + 1), ()))) (
 K (.i (-1)))
theorem e295 (x0 : SlV) (x1 : FnV) (K : Value -> HP) : A8 PP h295 Tryz.f295 [.slice x0.a x0.len x0.cap, .func x1.fn x1.first x1.captured] K = t295 x0 x1 K := by kernel_rfl
def t296 (x0 : Option Addr) (K : Value -> HP) : HP :=
 A9 x0 fun a1 =>
 ld a1 (lI) fun v1 =>
 ifB ((v1 : Int) == 0) (
 K (.bool false)) (
 A9 x0 fun a2 =>
 ld a2 (lI) fun v2 =>
 A9 x0 fun a3 =>
 st a3 [.i (IntKind.i64.wrap (v2 - 1))] <|
 A9 x0 fun a4 =>
 ld a4 (lI) fun v3 =>
 A9 x0 fun a5 =>
 st (a5.add 2) [.bool ((v3 : Int) == 0)] <|
 A9 x0 fun a6 =>
 ld (a6.add 2) (.lf .bool) fun v4 =>
 K (.bool v4))
theorem e296 (x0 : Option Addr) (K : Value -> HP) : A8 PP Hn Tryz.f296 [.pointer x0] K = t296 x0 K := by kernel_rfl
def t297 (x0 : Option Addr) (x1 : Int) (K : Value -> HP) : HP :=
 A9 x0 fun a1 =>
 ld (a1.add 1) (lI) fun v1 =>
 K (.i (Y1 (Ab4 v1 0) x1))
theorem e297 (x0 : Option Addr) (x1 : Int) (K : Value -> HP) : A8 PP Hn Tryz.f297 [.pointer x0, .i x1] K = t297 x0 x1 K := by kernel_rfl
def t298 (x0 : Option Addr) (x1 : Int) (K : Value -> HP) : HP :=
 A9 x0 fun a1 =>
 st (a1.add 1) [.i 0] <|
 A9 x0 fun a2 =>
 ld (a2.add 2) (lI) fun v1 =>
 A9 x0 fun a3 =>
 st (a3.add 2) [.i (IntKind.i64.wrap (v1 + 1))] <|
 A9 x0 fun a4 =>
 ld (a4.add 2) (lI) fun v2 =>
 A9 x0 fun a5 =>
 st (a5.add 3) [.bool ((v2 : Int) == x1)] <|
 A9 x0 fun a6 =>
 ld (a6.add 3) (.lf .bool) fun v3 =>
 K (.bool v3)
theorem e298 (x0 : Option Addr) (x1 : Int) (K : Value -> HP) : A8 PP Hn Tryz.f298 [.pointer x0, .i x1] K = t298 x0 x1 K := by kernel_rfl
def h299 : D1 := ⟨[], [], [(4, [0, 1, 2, 3, 4, 5, 6, 7])]⟩
def t299 (x0 : Option Addr) (x1 : Int) (x2 : FnV) (K : Value -> HP) : HP :=
 nw (.cells #[.i x1] 3) fun n1 =>
 ld ⟨n1, 0, none⟩ (lI) fun v1 =>
 cl PP 120 #[.pointer x0, .i v1] [.lf .bool] fun r1 =>
 ifB (!r1.1) (
 K (.bool false)) (
 A9 x0 fun a1 =>
 ld (a1.add 1) (.lf .sl) fun v2 =>
 cl PP 325 #[.sv v2, .func (.func 326) #[] #[.pointer (some ⟨n1, 0, none⟩)]] [.lf .sl] fun r2 =>
 A9 x0 fun a2 =>
 st (a2.add 1) [.slice r2.1.a r2.1.len r2.1.cap] <|
 A9 x0 fun a3 =>
 ld a3 (.lf .sl) fun v3 =>
 ld ⟨n1, 0, none⟩ (lI) fun v4 =>
 A9 v3.a fun a4 =>
 ixn v4 v3.len <|
 clv PP x2.fn (x2.first ++ #[.pointer (some (a4.add (v4.toNat * 3)))]) x2.captured [] fun r3 =>
 K (.bool true))
theorem e299 (x0 : Option Addr) (x1 : Int) (x2 : FnV) (K : Value -> HP) : A8 PP h299 Tryz.f299 [.pointer x0, .i x1, .func x2.fn x2.first x2.captured] K = t299 x0 x1 x2 K := by kernel_rfl
def t300 (x0 : Option Addr) (x1 : Option Addr) (K : Value -> HP) : HP :=
 A9 x0 fun a1 =>
 ld a1 (lI) fun v1 =>
 A9 x0 fun a2 =>
 st a2 [.i (IntKind.i64.wrap (v1 + 1))] <|
 A9 x1 fun a3 =>
 ld a3 (.lf .bool) fun v2 =>
 A9 x0 fun a4 =>
 st (a4.add 1) [.bool v2] <|
 A9 x0 fun a5 =>
 st (a5.add 2) [.bool false] <|
 K (.tuple #[])
theorem e300 (x0 : Option Addr) (x1 : Option Addr) (K : Value -> HP) : A8 PP Hn Tryz.f300 [.pointer x0, .pointer x1] K = t300 x0 x1 K := by kernel_rfl
def h301 : D1 := ⟨[(0, [(0, .lf .sl), (9, lI)])], [], []⟩
def t301 (x0 : SlV) (x1 : SlV) (K : Value -> HP) : HP :=
 lp [.lf .sl, lI] (⟨x0.a, x0.len, x0.cap⟩, 0, ()) fun z1 go1 =>
 ifB (decide ((z1.2.1 : Int) < x1.len)) (
 A9 x1.a fun a1 =>
 ixn z1.2.1 x1.len <|
 ld (a1.add (z1.2.1.toNat * 2)) (.agg [.int .i64, .int .i64]) fun v1 =>
 nw (.cells #[.i 0, .i 0] 399) fun n1 =>
 st ⟨n1, 0, none⟩ [.i v1.1, .i v1.2.1] <|
 ld ⟨n1, 0, none⟩ (lI) fun v2 =>
 ld (Addr.add ⟨n1, 0, none⟩ 1) (lI) fun v3 =>
 cl PP 132 #[.sv z1.1, .i v2, .i v3] [.lf .sl, lI] fun r1 =>
 go1 (⟨r1.1.a, r1.1.len, r1.1.cap⟩, IntKind.i64.wrap (z1.2.1 + 1), ())) (
 K (.sv z1.1))
theorem e301 (x0 : SlV) (x1 : SlV) (K : Value -> HP) : A8 PP h301 Tryz.f301 [.sv x0, .sv x1] K = t301 x0 x1 K := by kernel_rfl
set_option maxRecDepth 100000
def t320 (x0 : Int) (K : Value -> HP) : HP :=
 ifB ((x0 : Int) == 2) (
 K (.bool true)) (
 K (.bool ((x0 : Int) == 3)))
theorem e320 (x0 : Int) (K : Value -> HP) : A8 PP Hn Tryz.f320 [.i x0] K = t320 x0 K := by kernel_rfl
def h321 : D1 := ⟨[(0, [(8, lI)]), (2, [(9, lI)])], [(6, [])], [(6, [0, 1, 2, 3, 4, 5, 6, 7, 8, 10, 11, 12, 9, 13, 14, 15, 16, 17]), (4, [0, 1, 2, 3, 4, 5, 6, 7, 9, 10, 11, 12, 8, 13, 14, 15, 16])]⟩
def t321 (x0 : SlV) (x1 : Int) (x2 : Int) (x3 : FnV) (K : Value -> HP) : HP :=
 lp [lI] (IntKind.i64.wrap (x1 + 1), ()) fun z1 go1 =>
 ifB (decide ((z1.1 : Int) < x2)) (
 lp [lI] (z1.1, ()) fun z2 go2 =>
 jn (fun y1 : RsV [] =>
 A9 x0.a fun a3 =>
 ixn (IntKind.i64.wrap (z2.1 - 1)) x0.len <|
 A9 x0.a fun a4 =>
 ixn z2.1 x0.len <|
 ld (a3.add ((IntKind.i64.wrap (z2.1 - 1)).toNat * 3)) (.agg [.int .i64, .int .i64, .sl]) fun v3 =>
 ld (a4.add (z2.1.toNat * 3)) (.agg [.int .i64, .int .i64, .sl]) fun v4 =>
 A9 x0.a fun a5 =>
 ixn z2.1 x0.len <|
 st (a5.add (z2.1.toNat * 3)) [.i v3.1, .i v3.2.1, .slice v3.2.2.1.a v3.2.2.1.len v3.2.2.1.cap] <|
 A9 x0.a fun a6 =>
 ixn (IntKind.i64.wrap (z2.1 - 1)) x0.len <|
 st (a6.add ((IntKind.i64.wrap (z2.1 - 1)).toNat * 3)) [.i v4.1, .i v4.2.1, .slice v4.2.2.1.a v4.2.2.1.len v4.2.2.1.cap] <|
 go2 (IntKind.i64.wrap (z2.1 - 1), ())) fun j1 =>
 ifB (decide ((z2.1 : Int) > x1)) (
 A9 x0.a fun a1 =>
 ixn z2.1 x0.len <|
 A9 x0.a fun a2 =>
 ixn (IntKind.i64.wrap (z2.1 - 1)) x0.len <|
 ld (a1.add (z2.1.toNat * 3)) (.agg [.int .i64, .int .i64, .sl]) fun v1 =>
 ld (a2.add ((IntKind.i64.wrap (z2.1 - 1)).toNat * 3)) (.agg [.int .i64, .int .i64, .sl]) fun v2 =>
 clv PP x3.fn (x3.first ++ #[.agg #[.i v1.1, .i v1.2.1, .slice v1.2.2.1.a v1.2.2.1.len v1.2.2.1.cap], .agg #[.i v2.1, .i v2.2.1, .slice v2.2.2.1.a v2.2.2.1.len v2.2.2.1.cap]]) x3.captured [lI] fun r1 =>
 ifB (decide ((r1.1 : Int) < 0)) (
 j1 (())) (
 go1 (IntKind.i64.wrap (z1.1 + 1), ()))) (
 go1 (IntKind.i64.wrap (z1.1 + 1), ()))) (
 K (.tuple #[]))
theorem e321 (x0 : SlV) (x1 : Int) (x2 : Int) (x3 : FnV) (K : Value -> HP) : A8 PP h321 Tryz.f321 [.slice x0.a x0.len x0.cap, .i x1, .i x2, .func x3.fn x3.first x3.captured] K = t321 x0 x1 x2 x3 K := by kernel_rfl
def h323 : D1 := ⟨[(0, [(8, lI)])], [], [(4, [1, 2, 3, 0, 4, 5])]⟩
def t323 (x0 : SlV) (x1 : ShV (.agg [.int .i64, .int .i64, .int .i64])) (K : Value -> HP) : HP :=
 nw (.cells #[.i x1.1, .i x1.2.1, .i x1.2.2.1] 102) fun n1 =>
 lp [lI] (0, ()) fun z1 go1 =>
 ifB (decide ((z1.1 : Int) < x0.len)) (
 A9 x0.a fun a1 =>
 ixn z1.1 x0.len <|
 ld ⟨n1, 0, none⟩ (.agg [.int .i64, .int .i64, .int .i64]) fun v1 =>
 ld (a1.add (z1.1.toNat * 3)) (.agg [.int .i64, .int .i64, .int .i64]) fun v2 =>
 smP PP (binOp .eql 102 (.agg #[.i v1.1, .i v1.2.1, .i v1.2.2.1]) (.agg #[.i v2.1, .i v2.2.1, .i v2.2.2.1])) (.lf .bool) fun v3 =>
 ifB v3 (
 K (.i z1.1)) (
 go1 (IntKind.i64.wrap (z1.1 + 1), ()))) (
 K (.i (-1)))
theorem e323 (x0 : SlV) (x1 : ShV (.agg [.int .i64, .int .i64, .int .i64])) (K : Value -> HP) : A8 PP h323 Tryz.f323 [.sv x0, .agg #[.i x1.1, .i x1.2.1, .i x1.2.2.1]] K = t323 x0 x1 K := by kernel_rfl
def t324 (x0 : Option Addr) (x1 : Option Addr) (K : Value -> HP) : HP :=
 A9 x0 fun a1 =>
 ld (a1.add 4) (lI) fun v1 =>
 A9 x1 fun a2 =>
 st a2 [.i v1] <|
 K (.tuple #[])
theorem e324 (x0 : Option Addr) (x1 : Option Addr) (K : Value -> HP) : A8 PP Hn Tryz.f324 [.pointer x0, .pointer x1] K = t324 x0 x1 K := by kernel_rfl
def h325 : D1 := ⟨[(0, [(5, lI), (6, lI)])], [], []⟩
def t325 (x0 : SlV) (x1 : FnV) (K : Value -> HP) : HP :=
 cl PP 335 #[.slice x0.a x0.len x0.cap, .func x1.fn x1.first x1.captured] [lI] fun r1 =>
 ifB ((r1.1 : Int) == (-1)) (
 K (.sv x0)) (
 lp [lI, lI] (r1.1, IntKind.i64.wrap (r1.1 + 1), ()) fun z1 go1 =>
 ifB (decide ((z1.2.1 : Int) < x0.len)) (
 A9 x0.a fun a1 =>
 ixn z1.2.1 x0.len <|
 ld (a1.add (z1.2.1.toNat * 1)) (lI) fun v1 =>
 clv PP x1.fn (x1.first ++ #[.i v1]) x1.captured [.lf .bool] fun r2 =>
 ifB (!r2.1) (
 A9 x0.a fun a2 =>
 ixn z1.1 x0.len <|
 st (a2.add (z1.1.toNat * 1)) [.i v1] <|
 go1 (IntKind.i64.wrap (z1.1 + 1), IntKind.i64.wrap (z1.2.1 + 1), ())) (
 go1 (z1.1, IntKind.i64.wrap (z1.2.1 + 1), ()))) (
 slc ⟨x0.a, x0.len, x0.cap⟩ z1.1 x0.len x0.cap 1 fun s1 =>
 smW PP (Builtin.clear_ #[49] 0 #[.sv s1]) [] fun v2 =>
 slc ⟨x0.a, x0.len, x0.cap⟩ 0 z1.1 x0.cap 1 fun s2 =>
 K (.sv s2)))
theorem e325 (x0 : SlV) (x1 : FnV) (K : Value -> HP) : A8 PP h325 Tryz.f325 [.slice x0.a x0.len x0.cap, .func x1.fn x1.first x1.captured] K = t325 x0 x1 K := by kernel_rfl
def t326 (x0 : Int) (x1 : Option Addr) (K : Value -> HP) : HP :=
 A9 x1 fun a1 =>
 ld a1 (lI) fun v1 =>
 K (.bool ((x0 : Int) == v1))
theorem e326 (x0 : Int) (x1 : Option Addr) (K : Value -> HP) : A8 PP Hn Tryz.f326 [.i x0, .pointer x1] K = t326 x0 x1 K := by kernel_rfl
def h335 : D1 := ⟨[(0, [(8, lI)])], [], []⟩
def t335 (x0 : SlV) (x1 : FnV) (K : Value -> HP) : HP :=
 lp [lI] (0, ()) fun z1 go1 =>
 ifB (decide ((z1.1 : Int) < x0.len)) (
 A9 x0.a fun a1 =>
 ixn z1.1 x0.len <|
 ld (a1.add (z1.1.toNat * 1)) (lI) fun v1 =>
 clv PP x1.fn (x1.first ++ #[.i v1]) x1.captured [.lf .bool] fun r1 =>
 ifB r1.1 (
 K (.i z1.1)) (
 go1 (IntKind.i64.wrap (z1.1 + 1), ()))) (
 K (.i (-1)))
theorem e335 (x0 : SlV) (x1 : FnV) (K : Value -> HP) : A8 PP h335 Tryz.f335 [.slice x0.a x0.len x0.cap, .func x1.fn x1.first x1.captured] K = t335 x0 x1 K := by kernel_rfl
abbrev tB : TypeId := 27
abbrev eB : TypeId := 5
theorem undB : PP.underlying tB = some (.slice eB) := by kernel_rfl
theorem Aj0 : S2 PP tB eB 1 1 [.int .u8 0] := M0 (by kernel_rfl) (by kernel_rfl) rfl (by decide) (by decide)
theorem Ce8 : Ao1 PP tB := .inl ⟨eB, by kernel_rfl⟩
theorem srcS : Ao1 PP 9 := .inr (by kernel_rfl)
theorem constB {L : A4} {b : Nat} {l : List UInt8} {T : TypeId} {fz : Nat × Nat} (cap : Nat) (hc : l.length <= cap) (hm : (b, Obj.cells (bvs l).toArray T fz) ∈ L) : BSl L ⟨some ⟨b, 0, none⟩, l.length, cap⟩ l :=
 ⟨by rw [E6]; simp, hc, .inr ⟨_, rfl, .blk hm fun i v hv => by simpa using hv⟩⟩
theorem Ac4 {n : Nat} {e : TypeId} : Own ⟨some ⟨n, 0, none⟩, 0, 0⟩ 1 e [] [(n, Obj.cells #[] e)] := ⟨rfl, Nat.le_refl _, .inr ⟨n, 0, #[], (0, 0), rfl, rfl, by simp, .inl (Nat.le_refl _), fun i u hu => by simp at hu⟩⟩
theorem F7 {sz : Nat} {e : TypeId} : Own ⟨none, 0, 0⟩ sz e [] [] := ⟨by simp, Nat.le_refl _, .inl ⟨rfl, rfl, rfl⟩⟩
def dig (n i : Nat) : UInt8 := UInt8.ofNat (n / 256 ^ i)
def V6 (n w : Nat) : List UInt8 := (List.range w).map (dig n)
theorem Aa1 (n w : Nat) : (V6 n w).length = w := by simp [V6]
def num : List UInt8 -> Nat
 | [] => 0
 | x :: r => x.toNat + 256 * num r
theorem B32 : ∀ l : List UInt8, num l < 256 ^ l.length
 | [] => by simp [num]
 | x :: r => by
  have h1 := B32 r
  have h2 := x.toNat_lt
  rw [List.length_cons, Nat.pow_succ]
  simp only [num]
  omega
theorem Ci7 (l : List UInt8) (x : UInt8) : num (l ++ [x]) = num l + 256 ^ l.length * x.toNat := by
 induction l with
 | nil => simp [num]
 | cons y r ih =>
  rw [List.cons_append]
  simp only [num, ih, List.length_cons, Nat.pow_succ]
  rw [Nat.mul_add, <- Nat.add_assoc, Nat.mul_comm (256 ^ r.length) 256, Nat.mul_assoc]
def Ap7 (b : List UInt8) (n w : Int) : List UInt8 × Int :=
 if w < 1 \/ 7 < w then ([], 2) else if n < 0 \/ ((256 ^ w.toNat : Nat) : Int) <= n then ([], 3) else (b ++ V6 n.toNat w.toNat, 0)
theorem Co9 {b : List UInt8} {n w : Int} (h : w < 1 \/ 7 < w) : Ap7 b n w = ([], 2) := by unfold Ap7; rw [if_pos h]
theorem Cd3 {b : List UInt8} {n w : Int} (h : ¬ (w < 1 \/ 7 < w)) (h2 : n < 0) : Ap7 b n w = ([], 3) := by unfold Ap7; rw [if_neg h, if_pos (Or.inl h2)]
theorem Cd5 {b : List UInt8} {n w : Int} (h : ¬ (w < 1 \/ 7 < w)) (h2 : ((256 ^ w.toNat : Nat) : Int) <= n) : Ap7 b n w = ([], 3) := by unfold Ap7; rw [if_neg h, if_pos (Or.inr h2)]
theorem Af7 {b : List UInt8} {n w : Int} (h : ¬ (w < 1 \/ 7 < w)) (h1 : ¬ n < 0) (h2 : n.toNat < 256 ^ w.toNat) : Ap7 b n w = (b ++ V6 n.toNat w.toNat, 0) := by
 unfold Ap7
 rw [if_neg h, if_neg]
 rintro (h3 | h3)
 ·exact h1 h3
 ·generalize 256 ^ w.toNat = q at h2 h3
  omega
def PutK (b : List UInt8) (n w : Int) (A : A4) (v : Value) (L' : A4) : Prop := ∃ (s : SlV) (seg : A4), v = .tuple #[.slice s.a s.len s.cap, .i (Ap7 b n w).2] /\ L' = seg ++ A /\ Own s 1 eB (bvs (Ap7 b n w).1) seg
theorem PutK.err {b : List UInt8} {n w : Int} {A : A4} {e : Int} (h : Ap7 b n w = ([], e)) : PutK b n w A (.tuple #[.slice none 0 0, .i e]) A :=
 ⟨⟨none, 0, 0⟩, [], by rw [h], rfl, by rw [h]; exact F7⟩
theorem Bz5 (n : Nat) (i : Nat) : Int.fdiv (n : Int) (2 ^ (8 * i)) = ((n / 256 ^ i : Nat) : Int) := by
 rw [Int.fdiv_eq_ediv_of_nonneg _ (Int.le_of_lt (Int.pow_pos (by omega)))]
 have : (2 : Int) ^ (8 * i) = ((256 ^ i : Nat) : Int) := by rw [Int.pow_mul, Int.natCast_pow]; rfl
 rw [this, Int.natCast_ediv]
theorem Cd2 (n i : Nat) : IntKind.u8.wrap ((n / 256 ^ i : Nat) : Int) = ((dig n i).toNat : Int) := by
 rw [w8_bv, BitVec.toNat_ofInt]
 unfold dig
 have : (UInt8.ofNat (n / 256 ^ i)).toNat = n / 256 ^ i % 256 := by simp
 rw [this]
 omega
theorem digs8 (n : Nat) : V6 n 8 = [dig n 0, dig n 1, dig n 2, dig n 3, dig n 4, dig n 5, dig n 6, dig n 7] := rfl
theorem wr8 (c : Array Value) (hc : c.size = 8) (a b c' d e f g h : UInt8) : wr c 0 [.int .u8 a.toNat, .int .u8 b.toNat, .int .u8 c'.toNat, .int .u8 d.toNat, .int .u8 e.toNat, .int .u8 f.toNat, .int .u8 g.toNat, .int .u8 h.toNat] = (bvs [a, b, c', d, e, f, g, h]).toArray := Co8 _ _ (by rw [hc]; rfl)
def digA (n k : Nat) : Array Value := ((List.range 8).map fun j => Value.int .u8 (if j < k then (dig n j).toNat else 0)).toArray
theorem of_rd (L : A4) (n : Nat) : Reads PP 192 #[.i n] L (.agg (bvs (V6 n 8)).toArray) := by
 refine Reads.of (args := [.i n]) B5 B6 Tryz.func192 (e192 n _) ?_
 unfold t192
 refine C3 fun n1 _ => C3 fun n2 _ => ?_
 refine G0 (fun k z L' => ∃ i, i <= 8 /\ k = 8 - i /\ z = ((i : Int), ()) /\ L' = (n2, Obj.cells (digA n i) 282) :: (n1, Obj.cells #[.int .u8 0, .int .u8 0, .int .u8 0, .int .u8 0, .int .u8 0, .int .u8 0, .int .u8 0, .int .u8 0] 282) :: L) 8 ⟨0, by omega, by omega, rfl, rfl⟩ ?_
 rintro k z L' ⟨i, hi, rfl, rfl, rfl⟩
 refine B9 (fun (hlt : (i : Int) < 8) => ?_) (fun (hge : ¬ (i : Int) < 8) => ?_)
 ·have hw : IntKind.i64.wrap (8 * (i : Int)) = ((8 * i : Nat) : Int) := by rw [C1 (by omega) (by omega)]; omega
  have hm : min (8 * i) IntKind.i64.bits = 8 * i := Nat.min_eq_left (show 8 * i <= 64 by omega)
  simp only [hw, Int.toNat_natCast, hm, Bz5, Cd2, Nat.mul_one]
  refine Y3 (by omega) (E0 (by omega) hlt (E3 (n := n2) (off := i) [] _ (by rw [N2 (ad := ⟨n2, 0, none⟩) rfl, Nat.zero_add]) rfl ?_ (.inl (Nat.le_refl _)) (digA n (i + 1)) ?_ ?_))
  ·have : (digA n i).size = 8 := by simp [digA]
   rw [this]; simp only [List.length_cons, List.length_nil]; omega
  ·rcases (show i = 0 \/ i = 1 \/ i = 2 \/ i = 3 \/ i = 4 \/ i = 5 \/ i = 6 \/ i = 7 by omega) with rfl | rfl | rfl | rfl | rfl | rfl | rfl | rfl <;> rfl
  ·refine ⟨8 - (i + 1), by omega, i + 1, by omega, rfl, ?_, rfl⟩
   rw [C1 (by first | omega | (simp only; omega)) (by first | omega | (simp only; omega))]
   rfl
 ·obtain rfl : i = 8 := by omega
  refine A6 ((dig n 0).toNat, (dig n 1).toNat, (dig n 2).toNat, (dig n 3).toNat, (dig n 4).toNat, (dig n 5).toNat, (dig n 6).toNat, (dig n 7).toNat, ()) (ldB List.mem_cons_self rfl) ?_
  rw [digs8]
  refine E3 [(n2, Obj.cells (digA n 8) 282)] L rfl rfl (by simp) (.inl (Nat.le_refl _)) _ (wr8 _ rfl _ _ _ _ _ _ _ _) ?_
  refine A6 ((dig n 0).toNat, (dig n 1).toNat, (dig n 2).toNat, (dig n 3).toNat, (dig n 4).toNat, (dig n 5).toNat, (dig n 6).toNat, (dig n 7).toNat, ()) (ldB (List.mem_cons_of_mem _ List.mem_cons_self) rfl) ?_
  exact .drop (A := L) (J := [_, _]) ⟨rfl, rfl⟩ (List.perm_append_comm (l₁ := [_, _]))
theorem Bh6 {w : Nat} (h : w <= 7) : 256 ^ w <= 72057594037927936 := Nat.pow_le_pow_right (n := 256) (by omega) h
theorem A06 (A : A4) (v : SlV) (b : List UInt8) (hb : BSl A v b) (hl : b.length <= 1000000) (n w : Int) (hn : n <= 9223372036854775807) :
  CallF PP 132 #[.slice v.a v.len v.cap, .i n, .i w] A (PutK b n w A) := by
 refine CallF.of (args := [.slice v.a v.len v.cap, .i n, .i w]) B5 B6 Tryz.func132 (e132 v n w _) ?_
 unfold t132
 have hlen := hb.len
 refine B9 (fun (h1 : w < 1) => .of (.err (Co9 (by omega)))) (fun (h1 : ¬ w < 1) => ?_)
 refine B9 (fun (h2 : w > 7) => .of (.err (Co9 (by omega)))) (fun (h2 : ¬ w > 7) => ?_)
 refine B9 (fun (h3 : n < 0) => .of (.err (Cd3 (by omega) h3))) (fun (h3 : ¬ n < 0) => ?_)
 obtain ⟨m, rfl⟩ : ∃ m : Nat, n = m := ⟨n.toNat, by omega⟩
 obtain ⟨u, rfl⟩ : ∃ u : Nat, w = u := ⟨w.toNat, by omega⟩
 have hp7 := Bh6 (w := u) (by omega)
 have hw : IntKind.i64.wrap (8 * (u : Int)) = ((8 * u : Nat) : Int) := by rw [C1 (by omega) (by omega)]; omega
 have hm : min (8 * u) IntKind.i64.bits = 8 * u := Nat.min_eq_left (show 8 * u <= 64 by omega)
 simp only [hw, Int.toNat_natCast, hm, Bz5]
 refine Y3 (by omega) (N1 (fun (h4 : ((m / 256 ^ u : Nat) : Int) ≠ 0) => .of (.err ?_)) (fun (h4 : ((m / 256 ^ u : Nat) : Int) = 0) => ?_))
 ·refine Cd5 (by omega) ?_
  rw [Int.toNat_natCast]
  have : 256 ^ u <= m := by
   refine Nat.le_of_not_lt fun hlt => h4 ?_
   simp [Nat.div_eq_of_lt hlt]
  generalize 256 ^ u = q at this
  omega
 ·have hlt : m < 256 ^ u := by
   refine Nat.lt_of_not_le fun hle => ?_
   have := Nat.div_pos hle (Nat.pow_pos (by omega))
   omega
  have hput : Ap7 b m u = (b ++ V6 m u, 0) := by
   have := Af7 (b := b) (n := m) (w := u) (by omega) (by omega) (by simpa using hlt)
   simpa using this
  refine B3 (of_rd A m) (((dig m 0).toNat, (dig m 1).toNat, (dig m 2).toNat, (dig m 3).toNat, (dig m 4).toNat, (dig m 5).toNat, (dig m 6).toNat, (dig m 7).toNat, ()), ()) rfl ?_
  refine C3 fun n1 _ => E3 [] A rfl rfl (by simp) (.inl (Nat.le_refl _)) (bvs (V6 m 8)).toArray (by rw [digs8]; exact wr8 _ rfl _ _ _ _ _ _ _ _) ?_
  have hc : IntKind.i64.wrap ((v.len : Int) + (u : Int)) = ((v.len + u : Nat) : Int) := by rw [C1 (by omega) (by omega)]; omega
  rw [hc]
  refine At0 (l := 0) (c := v.len + u) Aj0 (by omega) (by omega) fun n2 ob own0 _ _ => ?_
  have z0 : Ab1 [Value.int .u8 0] 0 = [] := rfl
  rw [z0] at own0
  refine E5 Aj0 Ce8 [] ([(n1, Obj.cells (bvs (V6 m 8)).toArray 282)] ++ A) own0 (by simp) (.sl (hb.mono fun p hp => by simp [hp])) (K4 _) (by simp only; omega) fun s1 seg1 hs1 own1 => ?_
  simp only at hs1
  refine J5 (l' := 0) (h' := u) (m' := 8) rfl rfl rfl (by omega) (by omega) (Nat.le_refl _) ?_
  have hd : BSl ([] ++ seg1 ++ ([(n1, Obj.cells (bvs (V6 m 8)).toArray 282)] ++ A)) ⟨some ⟨n1, 0, none⟩, 8, 8⟩ (V6 m 8) := constB (l := V6 m 8) (T := 282) (fz := (0, 0)) 8 (by rw [Aa1]; exact Nat.le_refl _) (by simp)
  have hd2 := Sl.slc (l := 0) (h' := u) (m := 8) hd (by omega) (by omega) (by simp only; omega) (by omega)
  rw [Ad2] at hd2
  have e1 : ((V6 m 8).drop 0).take (u - 0) = V6 m u := by
   rcases (show u = 1 \/ u = 2 \/ u = 3 \/ u = 4 \/ u = 5 \/ u = 6 \/ u = 7 by omega) with rfl | rfl | rfl | rfl | rfl | rfl | rfl <;> rfl
  rw [e1] at hd2
  refine E5 Aj0 Ce8 [] ([(n1, Obj.cells (bvs (V6 m 8)).toArray 282)] ++ A) own1 rfl (.sl hd2) (K4 _) (by simp only [N9, Int.toNat_natCast]; omega) fun s2 seg2 hs2 own2 => ?_
  rw [List.nil_append, <- Ae2] at own2
  refine .drop (A := seg2 ++ A) (J := [(n1, Obj.cells (bvs (V6 m 8)).toArray 282)]) ⟨s2, seg2, by rw [hput], rfl, by rw [hput]; exact own2⟩ ?_
  have h1 : ([(n1, Obj.cells (bvs (V6 m 8)).toArray 282)] ++ A).Perm (A ++ [(n1, Obj.cells (bvs (V6 m 8)).toArray 282)]) := List.perm_append_comm
  simpa [List.append_assoc] using List.Perm.append_left seg2 h1
abbrev tPs : TypeId := 96
theorem Bd3 : S2 PP tPs tB 1 24 [.slice none 0 0] := M0 (by kernel_rfl) (by kernel_rfl) rfl (by decide) (by decide)
theorem Ce7 : Ao1 PP tPs := .inl ⟨tB, by kernel_rfl⟩
structure PG where
 v : SlV
 seg : A4
 l : List UInt8
def PG.Ok (g : PG) : Prop := Own g.v 1 eB (bvs g.l) g.seg
def PG.val (g : PG) : Value := .slice g.v.a g.v.len g.v.cap
def pgs (l : List PG) : A4 := l.flatMap PG.seg
theorem O4 (a b : List PG) : pgs (a ++ b) = pgs a ++ pgs b := List.flatMap_append
theorem Ah7 (a : PG) (b : List PG) : pgs (a :: b) = a.seg ++ pgs b := rfl
theorem As4 (a : PG) : pgs [a] = a.seg := by simp [pgs]
def pg0 : PG := ⟨⟨none, 0, 0⟩, [], []⟩
theorem A96 : pg0.Ok := F7
abbrev PV := SlV × List UInt8
def pvV (x : PV) : Value := .slice x.1.a x.1.len x.1.cap
def pvs (l : List PG) : List PV := l.map fun g => (g.v, g.l)
theorem Cx9 (l : List PG) : (pvs l).map pvV = l.map PG.val := by unfold pvs; rw [List.map_map]; rfl
def Ae7 (l : List PV) : List UInt8 := l.flatMap Prod.snd
structure U3 (L : A4) (v : SlV) (l : List PV) : Prop where
 sl : Sl L v 1 (l.map pvV)
 val : ∀ x ∈ l, BSl L x.1 x.2
theorem U3.mono {L R : A4} {v : SlV} {l : List PV} (h : U3 L v l) (hs : ∀ p ∈ L, p ∈ R) : U3 R v l := ⟨h.sl.mono hs, fun x hx => Sl.mono (h.val x hx) hs⟩
theorem U3.len {L : A4} {v : SlV} {l : List PV} (h : U3 L v l) : v.len = l.length := by have := h.sl.len; rw [List.length_map] at this; omega
theorem U3.at' {L : A4} {v : SlV} {l : List PV} (h : U3 L v l) {i : Nat} (hi : i < l.length) : ∃ a, v.a = some a /\ D0 (a.add ((i : Int).toNat * 1)) [pvV l[i]] L := by
 have hl := h.len
 obtain ⟨a, ha, hld⟩ := h.sl.at' (i := i) (by omega) (by decide)
 refine ⟨a, ha, ?_⟩
 rw [Int.toNat_natCast, Nat.mul_one]
 exact hld.one i (by rw [List.getElem?_map, List.getElem?_eq_getElem hi]; rfl)
theorem A20 {L : A4} {v : SlV} {gs : List PG} {seg : A4} (own : Own v 1 tB (gs.map PG.val) seg) (hg : ∀ g ∈ gs, g.Ok) (h1 : ∀ x ∈ seg, x ∈ L) (h2 : ∀ x ∈ pgs gs, x ∈ L) : U3 L v (pvs gs) := by
 refine ⟨by rw [Cx9]; exact own.sl.mono h1, fun x hx => ?_⟩
 obtain ⟨g, hgm, rfl⟩ := List.mem_map.1 hx
 exact Sl.mono (hg g hgm).sl fun y hy => h2 y (List.mem_flatMap.2 ⟨g, hgm, hy⟩)
theorem Am9 (l : List PV) (i : Nat) : (Ae7 (l.take i)).length <= (Ae7 l).length := by
 conv => rhs; rw [<- List.take_append_drop i l]
 unfold Ae7
 rw [List.flatMap_append, List.length_append]; omega
theorem Be0 (l : List PV) {i : Nat} (hi : i < l.length) : Ae7 (l.take (i + 1)) = Ae7 (l.take i) ++ l[i].2 := by
 unfold Ae7
 rw [List.take_succ_eq_append_getElem hi, List.flatMap_append, List.flatMap_singleton]
def T2 (b : List UInt8) (at' w : Int) : Int × Int :=
 if w < 1 \/ 7 < w then (0, 2) else if at' < 0 \/ (b.length : Int) < at' + w then (0, 6) else ((num ((b.drop at'.toNat).take w.toNat) : Int), 0)
theorem Cp1 {b : List UInt8} {a w : Int} (h : w < 1 \/ 7 < w) : T2 b a w = (0, 2) := by unfold T2; rw [if_pos h]
theorem Aj6 {b : List UInt8} {a w : Int} (h : ¬ (w < 1 \/ 7 < w)) (h2 : a < 0 \/ (b.length : Int) < a + w) : T2 b a w = (0, 6) := by unfold T2; rw [if_neg h, if_pos h2]
theorem Bf5 {b : List UInt8} {a w : Nat} (h : 1 <= w) (h7 : w <= 7) (h2 : a + w <= b.length) : T2 b a w = ((num ((b.drop a).take w) : Int), 0) := by
 unfold T2
 rw [if_neg (by omega), if_neg (by omega), Int.toNat_natCast, Int.toNat_natCast]
theorem Cr0 (w : Nat) (h : w <= 7) : 0 < 256 ^ w /\ 256 ^ w <= 72057594037927936 := ⟨Nat.pow_pos (by omega), Bh6 h⟩
theorem Cr1 {l : List UInt8} {w : Nat} (hl : l.length <= w) (hw : w <= 7) : num l < 256 ^ w := Nat.lt_of_lt_of_le (B32 l) (Nat.pow_le_pow_right (by omega) hl)
theorem Ah0 (b : List UInt8) (a w : Int) : 0 <= (T2 b a w).1 /\ (T2 b a w).1 < 72057594037927936 /\ ((T2 b a w).2 = 0 \/ (T2 b a w).2 = 2 \/ (T2 b a w).2 = 6) /\ ((T2 b a w).2 = 0 -> 0 <= a /\ 1 <= w /\ w <= 7 /\ a + w <= b.length) := by
 unfold T2
 split
 ·exact ⟨by simp, by simp, .inr (.inl rfl), fun h => absurd h (by decide)⟩
 ·split
  ·exact ⟨by simp, by simp, .inr (.inr rfl), fun h => absurd h (by decide)⟩
  ·have h1 := Cr1 (l := (b.drop a.toNat).take w.toNat) (w := w.toNat) (List.length_take_le _ _) (by omega)
   have h2 := Bh6 (w := w.toNat) (by omega)
   refine ⟨by simp only; omega, by simp only; omega, .inl rfl, fun _ => ⟨by omega, by omega, by omega, by omega⟩⟩
theorem By0 (b : List UInt8) (a i : Nat) (h : a + i < b.length) : (b.drop a).take (i + 1) = (b.drop a).take i ++ [b[a + i]] := by
 rw [List.take_succ_eq_append_getElem (by rw [List.length_drop]; omega)]
 congr 2
 simp
theorem A07 (L : A4) (v : SlV) (b : List UInt8) (hb : BSl L v b) (hl : b.length <= 1000000000) (a w : Int) :
  Reads PP 227 #[.slice v.a v.len v.cap, .i a, .i w] L (.tuple #[.i (T2 b a w).1, .i (T2 b a w).2]) := by
 refine Reads.of (args := [.slice v.a v.len v.cap, .i a, .i w]) B5 B6 Tryz.func227 (e227 v a w _) ?_
 unfold t227
 have hlen := hb.len
 refine B9 (fun (h1 : w < 1) => .of ⟨by rw [Cp1 (by omega)], rfl⟩) (fun (h1 : ¬ w < 1) => ?_)
 refine B9 (fun (h2 : w > 7) => .of ⟨by rw [Cp1 (by omega)], rfl⟩) (fun (h2 : ¬ w > 7) => ?_)
 refine B9 (fun (h3 : a < 0) => .of ⟨by rw [Aj6 (by omega) (.inl h3)], rfl⟩) (fun (h3 : ¬ a < 0) => ?_)
 refine B9 (fun (h4 : a > v.len) => .of ⟨by rw [Aj6 (by omega) (.inr (by omega))], rfl⟩) (fun (h4 : ¬ a > v.len) => ?_)
 rw [C1 (n := (v.len : Int) - a) (by omega) (by omega)]
 refine B9 (fun (h5 : w > (v.len : Int) - a) => .of ⟨by rw [Aj6 (by omega) (.inr (by omega))], rfl⟩) (fun (h5 : ¬ w > (v.len : Int) - a) => ?_)
 obtain ⟨a, rfl⟩ : ∃ u : Nat, a = u := ⟨a.toNat, by omega⟩
 obtain ⟨w, rfl⟩ : ∃ u : Nat, w = u := ⟨w.toNat, by omega⟩
 have hfit : a + w <= b.length := by omega
 rw [Bf5 (by omega) (by omega) hfit]
 refine G0 (fun k z L' => L' = L /\ ∃ i : Nat, i <= w /\ k = w - i /\ z = ((num ((b.drop a).take i) : Int), ((256 ^ i : Nat) : Int), (i : Int), ())) w ⟨rfl, 0, by omega, by omega, rfl⟩ ?_
 rintro k z L ⟨rfl, i, hi, rfl, rfl⟩
 refine B9 (fun (hlt : (i : Int) < w) => ?_) (fun (hge : ¬ (i : Int) < w) => ?_)
 ·have hai : a + i < b.length := by omega
  obtain ⟨ad, ha⟩ := hb.some hai
  have e1 : IntKind.i64.wrap ((a : Int) + i) = ((a + i : Nat) : Int) := by rw [C1 (by omega) (by omega)]; omega
  simp only [e1]
  refine A5 ha (E0 (by omega) (by omega) (A6 (b[a + i].toNat : Int) (hb.rd hai ha _ (by omega)) ?_))
  have hp := Cr0 i (by omega)
  have hx := b[a + i].toNat_lt
  have hn := Cr1 (l := (b.drop a).take i) (w := i) (List.length_take_le _ _) (by omega)
  have hlt6 : 256 ^ i <= 281474976710656 := Nat.le_trans (Nat.pow_le_pow_right (by omega) (show i <= 6 by omega)) (by decide)
  have hm : 256 ^ i * b[a + i].toNat <= 281474976710656 * 255 := Nat.mul_le_mul hlt6 (by omega)
  refine ⟨w - (i + 1), by omega, rfl, i + 1, by omega, rfl, ?_⟩
  have hli : ((b.drop a).take i).length = i := by rw [List.length_take, List.length_drop]; omega
  rw [By0 b a i hai, Ci7, hli]
  have e2 : ((256 ^ i : Nat) : Int) * (b[a + i].toNat : Int) = ((256 ^ i * b[a + i].toNat : Nat) : Int) := by rw [Int.natCast_mul]
  have e3 : ((256 ^ i : Nat) : Int) * 256 = ((256 ^ (i + 1) : Nat) : Int) := by rw [Nat.pow_succ, Int.natCast_mul]; rfl
  have hp1 := Cr0 (i + 1) (by omega)
  simp only [C1 (n := (b[a + i].toNat : Int)) (by omega) (by omega), e2, e3]
  generalize 256 ^ i * b[a + i].toNat = q at hm ⊢
  generalize 256 ^ (i + 1) = q2 at hp1 ⊢
  generalize 256 ^ i = q3 at hn hlt6
  rw [C1 (n := (q : Int)) (by omega) (by omega), C1 (n := (num ((b.drop a).take i) : Int) + q) (by omega) (by omega), C1 (n := (q2 : Int)) (by omega) (by omega), C1 (n := (i : Int) + 1) (by omega) (by omega)]
  simp only [Int.natCast_add, Int.cast_ofNat_Int]
 ·obtain rfl : i = w := by omega
  exact .of ⟨rfl, rfl⟩
end Go.Proofs.YtbaoieipijmakaaGreatDoor
