/-
  It is proved what conversions between strings and bytes, make and copy do, and how a contract becomes a call in a world. There are no further conditions than those that each theorem names.
-/
import Derived.Test.YtaniefdpjommnaaDoorHL14
import Derived.Laws.BytesString
import Derived.Laws.MakeOwn
set_option linter.unusedVariables false
set_option linter.unusedSimpArgs false
namespace Go.HL
section
variable {P : Program} {L : HList}

theorem freeze_heap {w : World} {b off : Nat} {c : Array Value} {T : TypeId} (h : w.heap[b]? = some (.cells c T (0, 0))) :
    w.freeze ⟨b, off, none⟩ 1 = { w with heap := w.heap.setIfInBounds b (.cells c T (off, off + 1)) } := by
  unfold World.freeze
  rw [if_neg (by decide)]
  congr 1
  apply Array.ext_getElem?
  intro j
  rw [Array.getElem?_modify]
  obtain ⟨hb, hg⟩ := Array.getElem?_eq_some_iff.1 h
  by_cases hj : b = j
  · subst hj
    simp [hb, hg]
  · rw [if_neg hj, Array.getElem?_setIfInBounds_ne hj]

/-- '[]byte("constant")'. -/
theorem mark_of {t e : TypeId} (hu : P.underlying t = some (.slice e)) (he : P.underlying e = some (.int .u8)) {b off len cap : Nat} {c : Array Value} {T : TypeId} {k : RsV [.lf .sl] → HP}
    (hk : k (⟨some ⟨b, off, none⟩, len, cap⟩, ()) ((b, .cells c T (c.size, c.size + 1)) :: L)) :
    smW P (convert t t (.slice (some ⟨b, off, none⟩) len cap)) [.lf .sl] k ((b, .cells c T (0, 0)) :: L) := by
  intro E F w hw
  have hblk := hw.blk (b, .cells c T (0, 0)) (by simp)
  simp only at hblk
  have hw' := Hold.put (A := []) (B := L ++ F) (b := b) (o := .cells c T (0, 0)) (by simpa using hw) (.cells c T (c.size, c.size + 1))
  refine ⟨.slice (some ⟨b, off, none⟩) len cap, _, (b, .cells c T (c.size, c.size + 1)) :: L, ?_, by simpa using hw', (⟨some ⟨b, off, none⟩, len, cap⟩, ()), rfl, hk⟩
  have hsh : w.shape? b = some (T, c.size) := by simp [World.shape?, hblk]
  simp only [convert, Sem.run_bind, run_und hu, Result.andThen_ok, run_und he, beq_self_eq_true, markStringish, run_shape, hsh, run_freeze, Sem.run_pure]
  rw [freeze_heap hblk]

/-- 'string(b)'. -/
theorem b2s_rd {v : SlV} {l : List UInt8} (h : BSl L v l) : RdV P (Conv.bytesToString (.slice v.a v.len v.cap)) (.string ⟨l.toArray⟩) L := by
  intro E F w hw
  have hfold : ∀ (l : List UInt8) (s : ByteArray), (l.map fun b => (b.toNat : Int)).foldl (fun r n => r.push (UInt8.ofNat n.toNat)) s = ⟨s.data ++ l.toArray⟩ := by
    intro l
    induction l with
    | nil => intro s; simp
    | cons b r ih =>
      intro s
      rw [List.map_cons, List.foldl_cons, ih]
      congr 1
      apply Array.ext'
      simp
  rcases h.ld with hnil | ⟨ad, ha, hl⟩
  · have hl0 : l = [] := by simpa [bvs] using hnil
    subst hl0
    have h0 : v.len = 0 := h.len
    rw [h0]
    cases hva : v.a with
    | none => rfl
    | some ad =>
      have := run_bytesToString (P := P) w ad 0 v.cap [] (by simp [loadCells, loadCellsFrom])
      exact this
  · rw [ha]
    have hr := run_loadCells_list (P := P) w ad (bvs l) (hl.cells hw)
    rw [bvs_length] at hr
    have hm : (l.map fun b => (b.toNat : Int)).map (Value.int .u8) = bvs l := by simp [bvs, bv]
    have := run_bytesToString (P := P) w ad l.length v.cap (l.map fun b => (b.toNat : Int)) (by rw [hm]; exact hr)
    rw [h.len, this, hfold]
    have h0 : (ByteArray.empty).data = #[] := rfl
    rw [h0, Array.empty_append]
theorem b2s_of {v : SlV} {l : List UInt8} (h : BSl L v l) {k : RsV [.lf .str] → HP} (hk : k (⟨l.toArray⟩, ()) L) : smR P (Conv.bytesToString (.slice v.a v.len v.cap)) [.lf .str] k L :=
  ⟨(⟨l.toArray⟩, ()), b2s_rd h, hk⟩

theorem run_s2b (e : TypeId) (s : ByteArray) (w : World) : ∃ cap ob, s.size ≤ cap ∧ ob = Obj.cells (s.data.map (fun b => Value.int .u8 b.toNat) ++ Array.replicate (cap - s.size) (.int .u8 0)) e (cap, cap + 1) ∧
    (Conv.stringToBytes e s).run P w = .ok (.slice (some ⟨w.heap.size, 0, none⟩) s.size cap) { w with heap := w.heap.push ob, drawn := w.drawn + 1 } := by
  have hge := grownCap_ge w s.size 0 e
  refine ⟨grownCap w s.size 0 e, _, hge, rfl, ?_⟩
  have hsz : (s.data.map (fun b => Value.int .u8 b.toNat) ++ Array.replicate (grownCap w s.size 0 e - s.size) (Value.int .u8 0)).size = grownCap w s.size 0 e := by
    have h1 : s.data.size = s.size := rfl
    rw [Array.size_append, Array.size_map, Array.size_replicate, h1]
    omega
  simp only [Conv.stringToBytes, Sem.run_bind, run_choose, Question.forced, Bool.false_eq_true, if_false, Result.andThen_ok, newRow, run_newObj, Sem.run_pure, markStringish, run_shape]
  have hgc : (Question.appendCap s.size 0 e).cut (w.tape w.drawn (Question.appendCap s.size 0 e)) = grownCap w s.size 0 e := rfl
  rw [hgc]
  have hsh : ({ w with heap := w.heap.push (.cells (s.data.map (fun b => Value.int .u8 b.toNat) ++ Array.replicate (grownCap w s.size 0 e - s.size) (Value.int .u8 0)) e), drawn := w.drawn + 1 } : World).shape? w.heap.size = some (e, grownCap w s.size 0 e) := by
    simp only [World.shape?, Array.getElem?_push_size, hsz]
  rw [hsh]
  simp only [run_freeze, Result.andThen_ok, Sem.run_pure]
  rw [freeze_heap (c := s.data.map (fun b => Value.int .u8 b.toNat) ++ Array.replicate (grownCap w s.size 0 e - s.size) (Value.int .u8 0)) (T := e) (by simp)]
  congr 2
  apply Array.ext_getElem?
  intro j
  by_cases hj : w.heap.size = j
  · subst hj; simp
  · rw [Array.getElem?_setIfInBounds_ne hj, Array.getElem?_push, Array.getElem?_push, if_neg (fun e => hj e.symm), if_neg (fun e => hj e.symm)]

/-- '[]byte(s)'. -/
theorem s2b_of {e : TypeId} {s : ByteArray} {k : ShV (.lf .sl) → HP}
    (hk : ∀ n ob v, v.len = s.size → Own v 1 e (bvs s.data.toList) [(n, ob)] → Sat ((n, ob) :: L) → k v ((n, ob) :: L)) : smA P (Conv.stringToBytes e s) (.lf .sl) k L := by
  refine ⟨fun w => ?_, fun n ob v ⟨w, d, hn, hr⟩ hs => ?_⟩
  · obtain ⟨cap, ob, _, _, hr⟩ := run_s2b (P := P) e s w
    exact ⟨ob, _, _, hr⟩
  · obtain ⟨cap, ob', hcap, hob, hr'⟩ := run_s2b (P := P) e s w
    rw [hr] at hr'
    injection hr' with h1 h2
    have h3 := push_inj h2
    subst h3 h1 hn
    refine ⟨⟨some ⟨w.heap.size, 0, none⟩, s.size, cap⟩, rfl, hk _ _ ⟨some ⟨w.heap.size, 0, none⟩, s.size, cap⟩ rfl ⟨?_, hcap, .inr ⟨w.heap.size, 0, _, (cap, cap + 1), rfl, by rw [hob], ?_, .inr ?_, fun i u hu => ?_⟩⟩ hs⟩
    · rw [bvs_length, Array.length_toList, Nat.mul_one]; rfl
    · have h1 : s.data.size = s.size := rfl
      rw [Array.size_append, Array.size_map, Array.size_replicate, h1]
      show 0 + cap * 1 ≤ _
      omega
    · have h1 : s.data.size = s.size := rfl
      rw [Array.size_append, Array.size_map, Array.size_replicate, h1]
      show _ ≤ cap
      omega
    · have hi := (List.getElem?_eq_some_iff.1 hu).1
      rw [bvs_length, Array.length_toList] at hi
      rw [Nat.zero_add, Array.getElem?_append_left (by simpa using hi)]
      rw [← hu]
      simp only [bvs, List.getElem?_map, Array.getElem?_map, Array.getElem?_toList]
      rfl

/-- 'make([]T, l, c)'. -/
def zeros (z : List Value) (n : Nat) : List Value := (List.replicate n z).flatten
theorem zeros_length (z : List Value) (n : Nat) : (zeros z n).length = n * z.length := by simp [zeros]
theorem zeros_get (z : List Value) (n i : Nat) (h : i < n * z.length) : (zeros z n)[i]? = z[i % z.length]? := by
  induction n generalizing i with
  | zero => simp at h
  | succ n ih =>
    have hz : 0 < z.length := by
      rcases Nat.eq_zero_or_pos z.length with h0 | h0
      · rw [h0] at h; simp at h
      · exact h0
    have : zeros z (n + 1) = z ++ zeros z n := by simp [zeros, List.replicate_succ]
    rw [this]
    by_cases hi : i < z.length
    · rw [List.getElem?_append_left hi, Nat.mod_eq_of_lt hi]
    · rw [List.getElem?_append_right (by omega), ih (i - z.length) (by rw [Nat.succ_mul] at h; omega)]
      congr 1
      rw [← Nat.mod_eq_sub_mod (by omega)]
theorem make_of {t e : TypeId} {sz bytes : Nat} {z : List Value} (hT : ElemT P t e sz bytes z) {l c : Nat} (hlc : l ≤ c) (hb : bytes * c ≤ 281474976710656) {kl kc : IntKind} {k : ShV (.lf .sl) → HP}
    (hk : ∀ n ob, Own ⟨some ⟨n, 0, none⟩, l, c⟩ sz e (zeros z l) [(n, ob)] → (∃ cs, ob = .cells cs e (0, 0) ∧ cs.size = c * sz ∧ ∀ (i : Nat) (u : Value), (zeros z c)[i]? = some u → cs[i]? = some u) → Sat ((n, ob) :: L) → k ⟨some ⟨n, 0, none⟩, l, c⟩ ((n, ob) :: L)) :
    smA P (Instr.makeSlice t (.int kl (l : Int)) (.int kc (c : Int))) (.lf .sl) k L := by
  obtain ⟨i, hi, his, hib, zv, hz, hzl⟩ := hT.info
  subst his hib
  have h63 : (c : Int) ≤ 9223372036854775807 := by
    have : c ≤ i.bytes * c := Nat.le_mul_of_pos_left _ hT.bpos
    omega
  have hrun := fun w => run_make (P := P) w t e i zv hT.und hi hz kl kc l c (by omega) (by omega) (by
    have h : ((i.bytes * c : Nat) : Int) ≤ 281474976710656 := by omega
    rwa [Int.natCast_mul] at h) h63
  simp only [Int.toNat_natCast] at hrun
  refine ⟨fun w => ⟨_, _, w.drawn, hrun w⟩, fun n ob v ⟨w, d, hn, hr⟩ hs => ?_⟩
  rw [hrun w] at hr
  injection hr with h1 h2
  have h3 : Obj.cells (madeCells zv.cells (c * i.size)) e = ob := push_inj (d := w.drawn) h2
  subst h1 hn
  have hzs : zv.cells.size = i.size := by rw [← hT.zlen, ← hzl]; simp
  have hget : ∀ (j : Nat) (u : Value), (zeros z c)[j]? = some u → (madeCells zv.cells (c * i.size))[j]? = some u := by
    intro j u hu
    have hj := (List.getElem?_eq_some_iff.1 hu).1
    rw [zeros_length, hT.zlen] at hj
    rw [zeros_get z c j (by rw [hT.zlen]; exact hj), hT.zlen] at hu
    have hp := hT.pos
    have hm : j % i.size < zv.cells.size := by rw [hzs]; exact Nat.mod_lt _ hp
    simp only [madeCells, Array.getElem?_map, Array.getElem?_range, hj, if_true, Option.map_some]
    rw [hzs, ← hu, ← hzl]
    simp [hm]
  refine ⟨⟨some ⟨w.heap.size, 0, none⟩, l, c⟩, rfl, hk _ _ ⟨?_, hlc, .inr ⟨w.heap.size, 0, _, (0, 0), rfl, by rw [← h3], ?_, .inl (Nat.le_refl _), fun j u hu => ?_⟩⟩ ⟨_, h3.symm, size_madeCells _ _, hget⟩ hs⟩
  · rw [zeros_length, hT.zlen]
  · rw [size_madeCells]; simp
  · rw [Nat.zero_add]
    refine hget j u ?_
    have hj := (List.getElem?_eq_some_iff.1 hu).1
    rw [zeros_length] at hj
    rw [zeros_get z c j (Nat.lt_of_lt_of_le hj (Nat.mul_le_mul_right _ hlc)), ← zeros_get z l j hj]
    exact hu

/-- 'copy' into a block that is known. -/
theorem copy_of {t t2 ty e : TypeId} {sz : Nat} (hu : P.underlying t = some (.slice e)) (hs : sizeOfT P e = some sz) {A B : HList} {b off : Nat} {c : Array Value} {T : TypeId} {fz : Nat × Nat} {v : SlV} (ha : v.a = some ⟨b, off, none⟩)
    {vs : SlV} {ws : List Value} (src : Sl (A ++ (b, Obj.cells c T fz) :: B) vs sz ws) (hpl : ws.all plainV = true) (hfit : off + v.len * sz ≤ c.size) (hfz : fz.2 ≤ fz.1 ∨ c.size ≤ fz.1) {k : RsV [.lf (.int .i64)] → HP}
    (hk : k (((min vs.len v.len : Nat) : Int), ()) (A ++ (b, Obj.cells (wr c off (ws.take (min vs.len v.len * sz))) T fz) :: B)) :
    smW P (Builtin.copy_ #[t, t2] ty #[.slice v.a v.len v.cap, .slice vs.a vs.len vs.cap]) [.lf (.int .i64)] k (A ++ (b, Obj.cells c T fz) :: B) := by
  intro E F w hw
  have hf := Src.take (P := P) src (m := min vs.len v.len) (Nat.min_le_left _ _) hw
  have hle : min vs.len v.len * sz ≤ v.len * sz := Nat.mul_le_mul_right _ (Nat.min_le_right _ _)
  have hlt : (ws.take (min vs.len v.len * sz)).length ≤ min vs.len v.len * sz := List.length_take_le _ _
  have hpl' : (ws.take (min vs.len v.len * sz)).all plainV = true := by
    rw [List.all_eq_true] at hpl ⊢
    exact fun x hx => hpl x (List.mem_of_mem_take hx)
  obtain ⟨w', hr, hw'⟩ := run_storeCells (P := P) (E := E) (A := A) (B := B) (F := F) (b := b) (T := T) (fz := fz) (ws.take (min vs.len v.len * sz)) c off 0 w hpl' (by simpa using hw) (by omega) (by intro j hj; omega)
  refine ⟨_, w', _, ?_, by simpa using hw', (((min vs.len v.len : Nat) : Int), ()), rfl, hk⟩
  rw [ha]
  have hf2 : (Builtin.firstCells sz (vs.len.min v.len) (.slice vs.a vs.len vs.cap)).run P w = .ok (ws.take (min vs.len v.len * sz)).toArray w := hf
  have hsz : (sizeOf e).run P w = .ok sz w := sizeOfT_spec hs w
  have key : ∀ (x : Value), (Builtin.lenOf x).run P w = .ok vs.len w → (Builtin.firstCells sz (vs.len.min v.len) x).run P w = .ok (ws.take (min vs.len v.len * sz)).toArray w →
      (Builtin.copy_ #[t, t2] ty #[.slice (some ⟨b, off, none⟩) v.len v.cap, x]).run P w = .ok (.int .i64 ((vs.len.min v.len : Nat) : Int)) w' := by
    intro x h1 h2
    have hr2 : (storeCells ⟨b, off, none⟩ (ws.take (min vs.len v.len * sz))).run P w = .ok () w' := hr
    simp only [Builtin.copy_, List.getElem?_toArray, List.getElem?_cons_zero, List.getElem?_cons_succ, Sem.run_bind, run_und hu, Result.andThen_ok, h1, hsz, h2, hr2, Sem.run_pure, goInt]
  exact key _ rfl hf2

/-! ### 12. From a contract to a call in a world -/
def allB (w : World) : HList := w.heap.toList.zipIdx.map fun p => (p.2, p.1)
theorem mem_allB {w : World} {b : Nat} {o : Obj} : (b, o) ∈ allB w ↔ w.heap[b]? = some o := by
  unfold allB
  simp only [List.mem_map, Prod.exists, Prod.mk.injEq]
  constructor
  · rintro ⟨x, i, hm, rfl, rfl⟩
    have := List.mem_zipIdx_iff_getElem?.1 hm
    simpa using this
  · intro h
    exact ⟨o, b, List.mem_zipIdx_iff_getElem?.2 (by simpa using h), rfl, rfl⟩
theorem hold_allB (w : World) : Hold w w (allB w) := by
  refine ⟨?_, fun p hp => mem_allB.1 hp, rfl, rfl, rfl⟩
  have : (allB w).map Prod.fst = List.range w.heap.size := by
    unfold allB
    rw [List.map_map]
    have h2 : (Prod.fst ∘ fun (p : Obj × Nat) => (p.2, p.1)) = Prod.snd := rfl
    rw [h2, List.zipIdx_map_snd]
    simp [List.range_eq_range']
  rw [this]
  exact List.nodup_range
theorem below_of {w w' : World} {L' : HList} (h : Hold w w' L') (hs : ∀ p ∈ allB w, p ∈ L') : Go.RowKit.Below w.heap.size w w' := by
  have hb : ∀ k, k < w.heap.size → w'.heap[k]? = w.heap[k]? := by
    intro k hk
    have h1 : w.heap[k]? = some w.heap[k] := by simp [hk]
    rw [h1]
    exact h.blk (k, w.heap[k]) (hs _ (mem_allB.2 h1))
  refine ⟨h.os, h.tape, h.output, ?_, hb⟩
  rcases Nat.eq_zero_or_pos w.heap.size with h0 | h0
  · omega
  · have := hb (w.heap.size - 1) (by omega)
    have h1 : w.heap[w.heap.size - 1]? = some (w.heap[w.heap.size - 1]'(by omega)) := by
      rw [Array.getElem?_eq_getElem (by omega)]
    rw [h1] at this
    have := (Array.getElem?_eq_some_iff.1 this).1
    omega
theorem law_calls {f : FuncId} {args : Array Value} {w : World} (h : Reads P f args (allB w) (.bool true)) : Calls P f args w fun e w' => e = .returned (.bool true) ∧ Go.RowKit.Below w.heap.size w w' := by
  refine Calls.mono (h w [] w (by simpa using hold_allB w)) ?_
  rintro e w' ⟨v, L', rfl, hw', rfl, rfl⟩
  exact ⟨rfl, below_of hw' (fun p hp => by simpa using hp)⟩
end
end Go.HL
