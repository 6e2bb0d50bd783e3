/-
  It is proved what the functions that the law RebuildOnce reaches compute, part 1. There are no further conditions than those that each theorem names.
-/
import Derived.Test.YtlabcgnegbdlfaaDoorMRebuildOnce0
import Derived.Laws.StructEq
import Derived.ChangeKeysEq
import Derived.Test.YtlabcgnegbdlfaaDoorProg
import Derived.KernelRfl
set_option linter.unusedVariables false
set_option linter.unusedSimpArgs false
namespace Go.HL
section
variable {P : Program} {L : HList}

theorem CallF.at' {f : FuncId} {args : Array Value} {K : Value → HP} {A X Y : HList} (h : CallF P f args A K) : CallF P f args (X ++ A ++ Y) fun v L' => ∃ A', L' = X ++ A' ++ Y ∧ K v A' :=
  fun E F w hw => Calls.mono (CallF.frame (R := X ++ Y) h E F w (hw.perm (by
      refine List.Perm.append_right F ?_
      have : (X ++ A ++ Y).Perm (A ++ X ++ Y) := List.Perm.append_right Y List.perm_append_comm
      simpa [List.append_assoc] using this))) fun e w' ⟨v, L', he, hw', A', hL, hK⟩ => by
    subst hL
    refine ⟨v, X ++ A' ++ Y, he, hw'.perm (List.Perm.append_right F ?_), A', rfl, hK⟩
    have : (A' ++ X ++ Y).Perm (X ++ A' ++ Y) := List.Perm.append_right Y List.perm_append_comm
    simpa [List.append_assoc] using this
theorem cl_in {f : FuncId} {args : Array Value} {rs : List Sh} {k : RsV rs → HP} {K : Value → HP} {A : HList} (X Y : HList) (h : CallF P f args A K) (hL : L = X ++ A ++ Y)
    (hk : ∀ v A', Sat (X ++ A' ++ Y) → K v A' → ∃ r, v = rsVal rs r ∧ k r (X ++ A' ++ Y)) : cl P f args rs k L := by
  subst hL
  refine CallF.mono (CallF.at' h) ?_
  rintro v L' hs ⟨A', rfl, hK⟩
  exact hk v A' hs hK
/-- A contract on a piece, read only. -/
theorem Reads.in {f : FuncId} {args : Array Value} {A X Y : HList} {v : Value} (h : Reads P f args A v) : Reads P f args (X ++ A ++ Y) v :=
  CallF.mono (CallF.at' h) (by rintro _ _ _ ⟨A', rfl, rfl, rfl⟩; exact ⟨rfl, rfl⟩)

theorem SemF.permL {s : Sem Value} {K : Value → HP} {L' : HList} (hp : L.Perm L') (h : SemF P s K L') : SemF P s K L :=
  fun E F w hw => h E F w (hw.perm (hp.append_right F))
theorem SemF.permK {s : Sem Value} {K K' : Value → HP} (h : SemF P s K L) (hk : ∀ v L', K v L' → ∃ L'', L'.Perm L'' ∧ K' v L'') : SemF P s K' L := by
  intro E F w hw
  obtain ⟨v, w', L', hr, hw', hK⟩ := h E F w hw
  obtain ⟨L'', hp, hK'⟩ := hk v L' hK
  exact ⟨v, w', L'', hr, hw'.perm (hp.append_right F), hK'⟩
/-- 'append' to a slice that has its array for itself, in its place. -/
theorem append_in' {t t2 ty e : TypeId} {sz bytes : Nat} {z : List Value} (hT : ElemT P t e sz bytes z) (h2 : SrcT P t2)
    {v : SlV} {vs ws : List Value} {x : Value} {n : Nat} {seg : HList} (X Y : HList) (own : Own v sz e vs seg) (hL : L = X ++ seg ++ Y) (src : Src L x sz n ws) (hws : ws.all plainV = true)
    (hb : (v.len + n) * bytes ≤ 140737488355328) {k : RsV [.lf .sl] → HP} (hk : ∀ v' seg', v'.len = v.len + n → (v.len + n ≤ v.cap → v'.cap = v.cap ∧ v'.a = v.a) → v.cap ≤ v'.cap → Own v' sz e (vs ++ ws) seg' → k (v', ()) (X ++ seg' ++ Y)) :
    smW P (Builtin.append_ #[t, t2] ty #[.slice v.a v.len v.cap, x]) [.lf .sl] k L := by
  subst hL
  have hp : (X ++ seg ++ Y).Perm (seg ++ (X ++ Y)) := by
    have : (X ++ seg ++ Y).Perm (seg ++ X ++ Y) := List.Perm.append_right Y List.perm_append_comm
    simpa [List.append_assoc] using this
  have src' : Src (seg ++ (X ++ Y)) x sz n ws := by
    cases src with
    | sl h => exact .sl (h.mono fun p hq => hp.subset hq)
    | str s => exact .str s
  refine SemF.permL hp (SemF.permK (append_own' (R := X ++ Y) hT h2 own src' hws hb (k := fun r L' => ∃ seg', L' = seg' ++ (X ++ Y) ∧ k r (X ++ seg' ++ Y)) fun v' seg' h1 h2 h3 h4 => ⟨seg', rfl, hk v' seg' h1 h2 h3 h4⟩) ?_)
  rintro v' L' ⟨r, hr, seg', rfl, hk'⟩
  refine ⟨X ++ seg' ++ Y, ?_, r, hr, hk'⟩
  have : (seg' ++ X ++ Y).Perm (X ++ seg' ++ Y) := List.Perm.append_right Y List.perm_append_comm
  simpa [List.append_assoc] using this
theorem append_in {t t2 ty e : TypeId} {sz bytes : Nat} {z : List Value} (hT : ElemT P t e sz bytes z) (h2 : SrcT P t2)
    {v : SlV} {vs ws : List Value} {x : Value} {n : Nat} {seg : HList} (X Y : HList) (own : Own v sz e vs seg) (hL : L = X ++ seg ++ Y) (src : Src L x sz n ws) (hws : ws.all plainV = true)
    (hb : (v.len + n) * bytes ≤ 140737488355328) {k : RsV [.lf .sl] → HP} (hk : ∀ v' seg', v'.len = v.len + n → Own v' sz e (vs ++ ws) seg' → k (v', ()) (X ++ seg' ++ Y)) :
    smW P (Builtin.append_ #[t, t2] ty #[.slice v.a v.len v.cap, x]) [.lf .sl] k L :=
  append_in' hT h2 X Y own hL src hws hb fun v' seg' h _ _ h3 => hk v' seg' h h3
theorem ifP {p : Prop} [Decidable p] {A B : HP} (h : p) (hk : A L) : ifB (decide p) A B L := ifT (decide_eq_true h) hk
theorem ifN {p : Prop} [Decidable p] {A B : HP} (h : ¬ p) (hk : B L) : ifB (decide p) A B L := ifF (decide_eq_false h) hk
theorem elemT_of {t e : TypeId} {sz bytes : Nat} {z : List Value} (hu : P.underlying t = some (.slice e)) (h : ((P.info? e).bind fun i => i.zero.map fun v => (i.size, i.bytes, v.cells.toList)) = some (sz, bytes, z))
    (hz : z.length = sz) (hs : 0 < sz) (hb : 0 < bytes) : ElemT P t e sz bytes z := by
  refine ⟨hu, ?_, hz, hs, hb⟩
  cases hi : P.info? e with
  | none => rw [hi] at h; cases h
  | some i =>
    rw [hi] at h
    cases hv : i.zero with
    | none => simp [hv] at h
    | some v =>
      simp only [Option.bind_some, hv, Option.map_some, Option.some.injEq, Prod.mk.injEq] at h
      exact ⟨i, rfl, h.1, h.2.1, v, hv, h.2.2⟩

theorem ldB {n off : Nat} {c : Array Value} {T : TypeId} {fz : Nat × Nat} {vs : List Value} (hm : (n, Obj.cells c T fz) ∈ L) (h : (c.toList.drop off).take vs.length = vs) : LdAt ⟨n, off, none⟩ vs L := by
  refine .blk hm fun i v hv => ?_
  rw [← h, List.getElem?_take] at hv
  split at hv
  · rw [List.getElem?_drop] at hv
    simpa using hv
  · cases hv
theorem st_of {ad : Addr} {ws : List Value} {k : HP} {n off : Nat} {c : Array Value} {T : TypeId} {fz : Nat × Nat} (A B : HList) (had : ad = ⟨n, off, none⟩) (hL : L = A ++ (n, Obj.cells c T fz) :: B) (hsz : off + ws.length ≤ c.size)
    (hfz : fz.2 ≤ fz.1 ∨ c.size ≤ fz.1) (c' : Array Value) (hc : wr c off ws = c') (hk : k (A ++ (n, Obj.cells c' T fz) :: B)) : st ad ws k L := by
  subst had hL hc
  exact ⟨A, B, c, T, fz, rfl, rfl, hsz, fun i hi => by simp only; omega, hk⟩

def putL (vs : List Value) (p : Nat) (ws : List Value) : List Value := vs.take p ++ ws ++ vs.drop (p + ws.length)
theorem putL_len (vs : List Value) (p : Nat) (ws : List Value) (h : p + ws.length ≤ vs.length) : (putL vs p ws).length = vs.length := by
  simp only [putL, List.length_append, List.length_take, List.length_drop]; omega
theorem putL_get (vs : List Value) (p : Nat) (ws : List Value) (h : p + ws.length ≤ vs.length) (i : Nat) : (putL vs p ws)[i]? = if p ≤ i ∧ i < p + ws.length then ws[i - p]? else vs[i]? := by
  unfold putL
  rw [List.append_assoc, List.getElem?_append]
  have hl : (vs.take p).length = p := by rw [List.length_take]; omega
  rw [hl]
  by_cases h1 : i < p
  · rw [if_pos h1, if_neg (by omega), List.getElem?_take, if_pos h1]
  · rw [if_neg h1, List.getElem?_append]
    by_cases h2 : i - p < ws.length
    · rw [if_pos h2, if_pos (by omega)]
    · rw [if_neg h2, if_neg (by omega), List.getElem?_drop]
      congr 1; omega
theorem putL_one {vs : List Value} {p : Nat} {w : Value} (h : p < vs.length) : putL vs p [w] = vs.set p w := by
  apply List.ext_getElem?
  intro i
  rw [putL_get _ _ _ (by simp only [List.length_cons, List.length_nil]; omega), List.getElem?_set]
  by_cases hi : p = i
  · subst hi; simp [h]
  · rw [if_neg (by simp only [List.length_cons, List.length_nil]; omega), if_neg hi]
theorem Own.st {v : SlV} {sz : Nat} {T : TypeId} {vs ws : List Value} {seg : HList} (own : Own v sz T vs seg) (X Y : HList) {p : Nat} (hp : p + ws.length ≤ vs.length) (hws : 0 < ws.length) {a ad : Addr} (ha : v.a = some a) (had : ad = Addr.add a p) {k : HP}
    (hL : L = X ++ seg ++ Y) (hk : ∀ seg', Own v sz T (putL vs p ws) seg' → k (X ++ seg' ++ Y)) : st ad ws k L := by
  subst hL had
  rcases own.row with ⟨ha', _, _⟩ | ⟨b, off, c, fz, ha', rfl, hsz, hfz, hc⟩
  · rw [ha] at ha'; cases ha'
  · rw [ha] at ha'
    obtain rfl := Option.some.inj ha'
    have hlen := own.len
    have hcap := own.cap
    have hle := Nat.mul_le_mul_right sz hcap
    refine st_of (n := b) (off := off + p) (c := c) (T := T) (fz := fz) X Y (addr_add (ad := ⟨b, off, none⟩) rfl p) (by simp) (by omega) (by omega) _ rfl ?_
    have := hk [(b, Obj.cells (wr c (off + p) ws) T fz)] ⟨by rw [putL_len _ _ _ hp]; exact hlen, hcap, .inr ⟨b, off, _, fz, ha, rfl, by rw [wr_size]; exact hsz, by rw [wr_size]; exact hfz, fun i u hu => ?_⟩⟩
    · simpa using this
    · rw [putL_get _ _ _ hp] at hu
      rw [wr_get _ _ _ _ (by omega)]
      split at hu
      · rw [if_pos (by omega), show off + i - (off + p) = i - p by omega]; exact hu
      · rw [if_neg (by omega)]; exact hc i u hu
theorem bvs_set (l : List UInt8) (i : Nat) (x : UInt8) : (bvs l).set i (.int .u8 (x.toNat : Int)) = bvs (l.set i x) := by
  simp [bvs, List.map_set, bv]

/-- s[l:h] of a slice whose elements are known: l ≤ h ≤ len. -/
theorem Sl.slc {v : SlV} {sz : Nat} {vs : List Value} (h : Sl L v sz vs) (hsz : 0 < sz) {l h' m : Nat} (hl : l ≤ h') (hh : h' ≤ v.len) (hm : h' ≤ m) : Sl L (slcV v l h' m sz) sz ((vs.drop (l * sz)).take ((h' - l) * sz)) := by
  have hlen := h.len
  have h1 := Nat.mul_le_mul_right sz hh
  have h2 := Nat.mul_le_mul_right sz hl
  refine ⟨?_, ?_, ?_⟩
  · simp only [slcV, Int.toNat_natCast, List.length_take, List.length_drop]
    rw [Nat.min_eq_left]
    rw [Nat.sub_mul]; omega
  · simp only [slcV, Int.toNat_natCast]; omega
  · by_cases h0 : (vs.drop (l * sz)).take ((h' - l) * sz) = []
    · exact .inl h0
    · have hlt : l < h' := by
        rcases Nat.lt_or_ge l h' with h3 | h3
        · exact h3
        · exfalso; apply h0
          rw [Nat.sub_eq_zero_of_le h3, Nat.zero_mul]; rfl
      obtain ⟨ad, ha, hld⟩ := h.at' (i := l) (by omega) hsz
      refine .inr ?_
      simp only [slcV, Int.toNat_natCast]
      rw [if_neg (by omega), ha]
      refine ⟨_, rfl, hld.sub (l * sz) fun i u hu => ?_⟩
      rw [List.getElem?_take] at hu
      split at hu
      · rw [List.getElem?_drop] at hu; exact hu
      · cases hu
theorem slc_of {v : SlV} {l h m : Int} {sz : Nat} {k : SlV → HP} {l' h' m' : Nat} (hl : l = l') (hh : h = h') (hm : m = m') (h1 : l' ≤ h') (h2 : h' ≤ m') (h3 : m' ≤ v.cap) (hk : k (slcV v l' h' m' sz) L) : slc v l h m sz k L := by
  subst hl hh hm
  exact ⟨⟨by omega, by omega, by omega, by omega⟩, hk⟩
theorem bvs_slc (l : List UInt8) (i j : Nat) : ((bvs l).drop (i * 1)).take ((j - i) * 1) = bvs ((l.drop i).take (j - i)) := by
  simp [bvs, List.map_drop, List.map_take]
theorem flat_at {α : Type} {enc : α → List Value} {sz : Nat} (hsz : ∀ x, (enc x).length = sz) : ∀ (l : List α) (i : Nat) (h : i < l.length) (j : Nat), j < sz → (l.flatMap enc)[i * sz + j]? = (enc l[i])[j]?
  | [], i, h, j, _ => by simp at h
  | x :: r, 0, h, j, hj => by
    rw [List.flatMap_cons, List.getElem?_append_left (by rw [hsz]; omega), Nat.zero_mul, Nat.zero_add]
    rfl
  | x :: r, i + 1, h, j, hj => by
    rw [List.flatMap_cons, List.getElem?_append_right (by rw [hsz, Nat.succ_mul]; omega)]
    have : (i + 1) * sz + j - (enc x).length = i * sz + j := by rw [hsz, Nat.succ_mul]; omega
    rw [this, flat_at hsz r i (by simpa using h) j hj]
    rfl
theorem Sl.els_len {α : Type} {enc : α → List Value} {sz : Nat} {v : SlV} {l : List α} (hsz : ∀ x, (enc x).length = sz) (hpos : 0 < sz) (h : Sl L v sz (l.flatMap enc)) : v.len = l.length := by
  have h1 := h.len
  rw [flat_len hsz] at h1
  exact Nat.eq_of_mul_eq_mul_right hpos h1
theorem Sl.el {α : Type} {enc : α → List Value} {sz : Nat} {v : SlV} {l : List α} (hsz : ∀ x, (enc x).length = sz) (hpos : 0 < sz) (h : Sl L v sz (l.flatMap enc)) {i : Nat} (hi : i < l.length) :
    ∃ a, v.a = some a ∧ LdAt (Addr.add a (i * sz)) (enc l[i]) L := by
  obtain ⟨a, ha, hl⟩ := h.at' (i := i) (by rw [h.els_len hsz hpos]; exact hi) hpos
  refine ⟨a, ha, hl.sub (i * sz) fun j u hu => ?_⟩
  have hj := (List.getElem?_eq_some_iff.1 hu).1
  rw [hsz] at hj
  rw [flat_at hsz l i hi j hj]; exact hu
def ivs (k : IntKind) (l : List Int) : List Value := l.map (Value.int k)
theorem ivs_length (k : IntKind) (l : List Int) : (ivs k l).length = l.length := by simp [ivs]
theorem ivs_append (k : IntKind) (l m : List Int) : ivs k (l ++ m) = ivs k l ++ ivs k m := by simp [ivs]
theorem ivs_get {k : IntKind} {l : List Int} {i : Nat} (h : i < l.length) : (ivs k l)[i]? = some (.int k l[i]) := by
  simp [ivs, h]
abbrev ISl (L : HList) (v : SlV) (k : IntKind) (l : List Int) : Prop := Sl L v 1 (ivs k l)
theorem ISl.len {L : HList} {v : SlV} {k : IntKind} {l : List Int} (h : ISl L v k l) : v.len = l.length := by
  have := Sl.len h; rw [ivs_length] at this; omega
theorem ISl.some {L : HList} {v : SlV} {k : IntKind} {l : List Int} (h : ISl L v k l) {i : Nat} (hi : i < l.length) : ∃ a, v.a = some a := by
  obtain ⟨ad, ha', hl⟩ := h.at' (i := i) (by rw [h.len]; exact hi) (by omega)
  exact ⟨ad, ha'⟩
theorem ISl.rd {L : HList} {v : SlV} {k : IntKind} {l : List Int} (h : ISl L v k l) {i : Nat} (hi : i < l.length) {a : Addr} (ha : v.a = Option.some a) (j : Nat) (hj : j = i * 1) : LdAt (Addr.add a j) [.int k l[i]] L := by
  subst hj
  obtain ⟨ad, ha', hl⟩ := h.at' (i := i) (by rw [h.len]; exact hi) (by omega)
  rw [ha] at ha'
  obtain rfl := Option.some.inj ha'
  rw [Nat.mul_one]
  exact hl.one i (ivs_get hi)
theorem ivs_set (k : IntKind) (l : List Int) (i : Nat) (x : Int) : (ivs k l).set i (.int k x) = ivs k (l.set i x) := by
  simp [ivs, List.map_set]
theorem SlOk.bytes {w : World} {wf : UInt8 → Prop} {p : SlV × List UInt8} (h : SlOk w (fun b => [bv b]) wf 1 p) : BSl (allB w) p.1 p.2 := by
  have h1 := h.sl
  have h2 : p.2.flatMap (fun b => [bv b]) = bvs p.2 := by
    generalize p.2 = l
    induction l with
    | nil => rfl
    | cons x r ih => rw [List.flatMap_cons, ih]; rfl
  rw [h2] at h1
  exact h1
end
end Go.HL
set_option linter.unusedVariables false
set_option linter.unusedSimpArgs false
namespace Go.HL
section
variable {P : Program} {L : HList}

theorem Ends.app {K : Value → HP} {v : Value} {J L : HList} (h : Ends K v L) : Ends K v (J ++ L) := by
  obtain ⟨A, J', hp, hK⟩ := h
  refine ⟨A, J' ++ J, ?_, hK⟩
  have h1 : (J ++ L).Perm (L ++ J) := List.perm_append_comm
  exact h1.trans (by simpa [List.append_assoc] using hp.append_right J)
theorem Ends.cons {K : Value → HP} {v : Value} {p : Nat × Obj} {L : HList} (h : Ends K v L) : Ends K v (p :: L) := Ends.app (J := [p]) h
/-- A store over a whole block. -/
theorem wr_all (c : Array Value) (vs : List Value) (h : vs.length = c.size) : wr c 0 vs = vs.toArray := by
  apply Array.ext_getElem?
  intro i
  rw [wr_get _ _ _ _ (by omega)]
  split
  · simp
  · rename_i hi
    rw [Array.getElem?_eq_none (by omega), List.getElem?_toArray, List.getElem?_eq_none (by omega)]
end
end Go.HL
set_option linter.unusedVariables false
set_option linter.unusedSimpArgs false
set_option linter.unusedSectionVars false
namespace Go.HL
section
variable {P : Program} {L : HList} {κ : Type} [DecidableEq κ]

theorem run_getO {w : World} {r : Nat} {es : Array MapEntry} {c : Nat} (h : w.heap[r]? = some (.map es c)) : (getObj r).run P w = .ok (.map es c) w := by simp [getObj, Sem.run, h]
theorem run_setO {w : World} {r : Nat} {es : Array MapEntry} {c : Nat} (o : Obj) (h : w.heap[r]? = some (.map es c)) : (setObj r o).run P w = .ok () { w with heap := w.heap.setIfInBounds r o } := by simp [setObj, Sem.run, h]
theorem ba_beq (a b : ByteArray) : (a == b) = decide (a = b) := by
  cases a with | mk x => cases b with | mk y =>
    show (x == y) = decide (ByteArray.mk x = ByteArray.mk y)
    by_cases h : x = y
    · subst h; simp
    · rw [beq_eq_false_iff_ne.2 h, decide_eq_false (by simpa using h)]
theorem chk_plain {kt : TypeId} {v : Value} (hu : P.underlying kt = some .string ∨ ∃ k, P.underlying kt = some (.int k)) (e : Bool) (n : Nat) (w : World) : (Instr.checkKey e (n + 1) kt v).run P w = .ok () w := by
  rcases hu with hu | ⟨k, hu⟩ <;> simp only [Instr.checkKey, Sem.run_bind, run_und hu, Result.andThen_ok, Sem.run_pure]
/-- What a map's entries are. -/
def Mp (kv : κ → Value) (es : Array MapEntry) (m : List (κ × Value)) : Prop := es.toList.map (fun e => (e.key, e.val)) = m.map fun p => (kv p.1, p.2)
def mget (m : List (κ × Value)) (k : κ) : Option Value := (m.find? fun p => decide (k = p.1)).map Prod.snd
def midx (m : List (κ × Value)) (k : κ) (i : Nat) : Option (Nat × Value) :=
  match m with
  | [] => none
  | p :: r => if k = p.1 then some (i, p.2) else midx r k (i + 1)
theorem midx_get : ∀ (m : List (κ × Value)) (k : κ) (i : Nat), (midx m k i).map Prod.snd = mget m k
  | [], k, i => rfl
  | p :: r, k, i => by
    unfold midx mget
    by_cases h : k = p.1
    · rw [if_pos h, List.find?_cons_of_pos (by simpa using h)]; rfl
    · rw [if_neg h, List.find?_cons_of_neg (by simpa using h)]; exact midx_get r k (i + 1)
theorem findNow_midx {kv : κ → Value} {d : TypeDesc} (hs : ∀ a b, Instr.sameNow d (kv a) (kv b) = some (decide (a = b))) (k : κ) : ∀ (es : List MapEntry) (m : List (κ × Value)) (i : Nat), es.map (fun e => (e.key, e.val)) = m.map (fun p => (kv p.1, p.2)) →
    Instr.findNow d (kv k) es i = some (midx m k i)
  | [], [], i, _ => rfl
  | [], p :: r, i, h => by simp at h
  | e :: es, [], i, h => by simp at h
  | e :: es, p :: r, i, h => by
    simp only [List.map_cons, List.cons.injEq, Prod.mk.injEq] at h
    unfold Instr.findNow midx
    rw [h.1.1, hs, h.1.2]
    by_cases hk : k = p.1
    · simp [hk]
    · simp only [hk, decide_false, if_false]
      exact findNow_midx hs k es r (i + 1) h.2
/-- Keys of one kind. -/
structure KeyT (P : Program) (kt : TypeId) (kv : κ → Value) : Prop where
  fnd : ∀ (k : κ) (es : List MapEntry) (m : List (κ × Value)) (w : World), es.map (fun e => (e.key, e.val)) = m.map (fun p => (kv p.1, p.2)) → (Instr.findKey kt (kv k) es).run P w = .ok (midx m k 0) w
  chk : ∀ e k w, (Instr.checkKey e 10000 kt (kv k)).run P w = .ok () w
  bits : ∀ a, Instr.sameBits 10000 (kv a) (kv a) = true
theorem fnd_und {kt : TypeId} {kv : κ → Value} {d : TypeDesc} (hu : P.underlying kt = some d) (hs : ∀ a b, Instr.sameNow d (kv a) (kv b) = some (decide (a = b))) (k : κ) (es : List MapEntry) (m : List (κ × Value)) (w : World) (h : es.map (fun e => (e.key, e.val)) = m.map (fun p => (kv p.1, p.2))) : (Instr.findKey kt (kv k) es).run P w = .ok (midx m k 0) w := by
  simp only [Instr.findKey, Sem.run_bind, run_und hu, Result.andThen_ok, findNow_midx hs k es m 0 h, Sem.run_pure]
theorem keyStr {kt : TypeId} (hu : P.underlying kt = some .string) : KeyT P kt Value.string := by
  refine ⟨fnd_und hu fun a b => ?_, fun e k w => chk_plain (.inl hu) e 9999 w, fun a => ?_⟩
  · show some (a == b) = _
    rw [ba_beq]
  · show (a == a) = true
    rw [ba_beq]; simp
theorem run_findKey {kt : TypeId} {kv : κ → Value} (K : KeyT P kt kv) {es : Array MapEntry} {m : List (κ × Value)} (h : Mp kv es m) (k : κ) (w : World) : (Instr.findKey kt (kv k) es.toList).run P w = .ok (midx m k 0) w := K.fnd k es.toList m w h

/-- A map's type. -/
structure MapT (P : Program) (t kt et : TypeId) (kv : κ → Value) (z : Value) : Prop where
  und : P.underlying t = some (.map kt et)
  key : KeyT P kt kv
  zero : ∃ i, P.info? et = some i ∧ i.zero = some z
theorem mapT_of {t kt et : TypeId} {kv : κ → Value} {z : Value} (hu : P.underlying t = some (.map kt et)) (hk : KeyT P kt kv) (hz : ((P.info? et).bind fun i => i.zero) = some z) : MapT P t kt et kv z := by
  refine ⟨hu, hk, ?_⟩
  cases hi : P.info? et with
  | none => rw [hi] at hz; cases hz
  | some i => exact ⟨i, rfl, by rw [hi] at hz; exact hz⟩
theorem lookup_rd {t kt et : TypeId} {kv : κ → Value} {z : Value} (hT : MapT P t kt et kv z) {r : Nat} {es : Array MapEntry} {clock : Nat} {m : List (κ × Value)} (hm : (r, Obj.map es clock) ∈ L) (h : Mp kv es m) (k : κ) :
    RdV P (Instr.lookup t (.map (some r)) (kv k) false) ((mget m k).getD z) L := by
  intro E F w hw
  have hb : w.heap[r]? = some (Obj.map es clock) := hw.blk _ (List.mem_append_left F hm)
  obtain ⟨i, hi, hz⟩ := hT.zero
  rw [← midx_get m k 0]
  simp only [Instr.lookup, Sem.run_bind, run_und hT.und, Result.andThen_ok, run_getO hb, Sem.run_pure, hT.key.chk, run_findKey hT.key h]
  cases midx m k 0 with
  | none => simp [zeroValue, typeInfo, hi, hz]
  | some p => simp
theorem lookup2_rd {t kt et : TypeId} {kv : κ → Value} {z : Value} (hT : MapT P t kt et kv z) {r : Nat} {es : Array MapEntry} {clock : Nat} {m : List (κ × Value)} (hm : (r, Obj.map es clock) ∈ L) (h : Mp kv es m) (k : κ) :
    RdV P (Instr.lookup t (.map (some r)) (kv k) true) (.tuple #[(mget m k).getD z, .bool (mget m k).isSome]) L := by
  intro E F w hw
  have hb : w.heap[r]? = some (Obj.map es clock) := hw.blk _ (List.mem_append_left F hm)
  obtain ⟨i, hi, hz⟩ := hT.zero
  rw [← midx_get m k 0]
  simp only [Instr.lookup, Sem.run_bind, run_und hT.und, Result.andThen_ok, run_getO hb, Sem.run_pure, hT.key.chk, run_findKey hT.key h]
  cases midx m k 0 with
  | none => simp [zeroValue, typeInfo, hi, hz]
  | some p => simp
def mput (m : List (κ × Value)) (k : κ) (v : Value) : List (κ × Value) :=
  match m with
  | [] => [(k, v)]
  | p :: r => if k = p.1 then (k, v) :: r else p :: mput r k v
def mdel (m : List (κ × Value)) (k : κ) : List (κ × Value) :=
  match m with
  | [] => []
  | p :: r => if k = p.1 then r else p :: mdel r k
theorem put_entries {kv : κ → Value} (k : κ) (v : Value) : ∀ (es : List MapEntry) (m : List (κ × Value)) (j : Nat), es.map (fun e => (e.key, e.val)) = m.map (fun p => (kv p.1, p.2)) →
    (midx m k j = none → mput m k v = m ++ [(k, v)]) ∧ (∀ i u, midx m k j = some (i, u) → j ≤ i ∧ i - j < es.length ∧ (es[i - j]?).map (·.key) = some (kv k) ∧ (es.modify (i - j) fun e => { e with key := kv k, val := v }).map (fun e => (e.key, e.val)) = (mput m k v).map fun p => (kv p.1, p.2))
  | [], [], j, _ => ⟨fun _ => rfl, fun i u h => by simp [midx] at h⟩
  | [], p :: r, j, h => by simp at h
  | e :: es, [], j, h => by simp at h
  | e :: es, p :: r, j, h => by
    have h0 := h
    simp only [List.map_cons, List.cons.injEq, Prod.mk.injEq] at h
    obtain ⟨i1, i2⟩ := put_entries k v es r (j + 1) h.2
    unfold midx mput
    by_cases hk : k = p.1
    · rw [if_pos hk, if_pos hk]
      refine ⟨fun h => (by cases h), fun i u hi => ?_⟩
      simp only [Option.some.injEq, Prod.mk.injEq] at hi
      obtain ⟨rfl, rfl⟩ := hi
      refine ⟨Nat.le_refl _, by simp, by simp [h.1.1, hk], ?_⟩
      simp [h.2]
    · rw [if_neg hk, if_neg hk]
      refine ⟨fun h => by rw [i1 h]; rfl, fun i u hi => ?_⟩
      obtain ⟨a1, a2, a3, a4⟩ := i2 i u hi
      have e1 : i - j = (i - (j + 1)) + 1 := by omega
      rw [e1]
      refine ⟨by omega, by simp only [List.length_cons]; omega, by simpa using a3, ?_⟩
      simp only [List.modify_succ_cons, List.map_cons, h.1.1, h.1.2, a4]
theorem update_of {t kt et : TypeId} {kv : κ → Value} {z : Value} (hT : MapT P t kt et kv z) {r : Nat} {es : Array MapEntry} {clock : Nat} {m : List (κ × Value)} (A B : HList) (hL : L = A ++ (r, Obj.map es clock) :: B) (h : Mp kv es m) (k : κ) (v : Value) {K : HP}
    (hk : ∀ es' clock', Mp kv es' (mput m k v) → K (A ++ (r, Obj.map es' clock') :: B)) : smU P (Instr.mapUpdate t (.map (some r)) (kv k) v) K L := by
  subst hL
  intro E F w hw
  have hb : w.heap[r]? = some (Obj.map es clock) := hw.blk (r, Obj.map es clock) (by simp)
  have hw0 : Hold E w (A ++ (r, Obj.map es clock) :: (B ++ F)) := by simpa using hw
  obtain ⟨i1, i2⟩ := put_entries (kv := kv) k v es.toList m 0 h
  cases hf : midx m k 0 with
  | none =>
    refine ⟨{ w with heap := w.heap.setIfInBounds r (Obj.map (es.push { key := kv k, val := v, born := clock }) (clock + 1)) }, A ++ (r, Obj.map (es.push { key := kv k, val := v, born := clock }) (clock + 1)) :: B, ?_, ?_, hk _ _ ?_⟩
    · simp only [Instr.mapUpdate, Sem.run_bind, run_und hT.und, Result.andThen_ok, run_getO hb, hT.key.chk, run_findKey hT.key h, hf]
      exact run_setO _ hb
    · simpa using hw0.put (Obj.map (es.push { key := kv k, val := v, born := clock }) (clock + 1))
    · unfold Mp at h ⊢
      rw [i1 hf, Array.toList_push, List.map_append, List.map_append, h]
      rfl
  | some p =>
    obtain ⟨i, u⟩ := p
    obtain ⟨a1, a2, a3, a4⟩ := i2 i u hf
    rw [Nat.sub_zero] at a2 a3 a4
    have hkey : ((es[i]?).map (·.key)).getD (kv k) = kv k := by
      rw [Array.getElem?_toList] at a3
      rw [a3]; rfl
    refine ⟨{ w with heap := w.heap.setIfInBounds r (Obj.map (es.modify i fun e => { e with key := kv k, val := v }) clock) }, A ++ (r, Obj.map (es.modify i fun e => { e with key := kv k, val := v }) clock) :: B, ?_, ?_, hk _ _ ?_⟩
    · simp only [Instr.mapUpdate, Sem.run_bind, run_und hT.und, Result.andThen_ok, run_getO hb, hT.key.chk, run_findKey hT.key h, hf, hkey, Instr.keyThatStays, hT.key.bits, if_true, Sem.run_pure]
      exact run_setO _ hb
    · simpa using hw0.put (Obj.map (es.modify i fun e => { e with key := kv k, val := v }) clock)
    · unfold Mp
      rw [Array.toList_modify]
      exact a4
theorem del_entries {kv : κ → Value} (k : κ) : ∀ (es : List MapEntry) (m : List (κ × Value)) (j : Nat), es.map (fun e => (e.key, e.val)) = m.map (fun p => (kv p.1, p.2)) →
    (midx m k j = none → mdel m k = m) ∧ (∀ i u, midx m k j = some (i, u) → j ≤ i ∧ (es.eraseIdx (i - j)).map (fun e => (e.key, e.val)) = (mdel m k).map fun p => (kv p.1, p.2))
  | [], [], j, _ => ⟨fun _ => rfl, fun i u h => by simp [midx] at h⟩
  | [], p :: r, j, h => by simp at h
  | e :: es, [], j, h => by simp at h
  | e :: es, p :: r, j, h => by
    simp only [List.map_cons, List.cons.injEq, Prod.mk.injEq] at h
    obtain ⟨i1, i2⟩ := del_entries k es r (j + 1) h.2
    unfold midx mdel
    by_cases hk : k = p.1
    · rw [if_pos hk, if_pos hk]
      refine ⟨fun h => (by cases h), fun i u hi => ?_⟩
      simp only [Option.some.injEq, Prod.mk.injEq] at hi
      obtain ⟨rfl, rfl⟩ := hi
      exact ⟨Nat.le_refl _, by simpa using h.2⟩
    · rw [if_neg hk, if_neg hk]
      refine ⟨fun h => by rw [i1 h], fun i u hi => ?_⟩
      obtain ⟨a1, a4⟩ := i2 i u hi
      have e1 : i - j = (i - (j + 1)) + 1 := by omega
      rw [e1]
      refine ⟨by omega, ?_⟩
      simp only [List.eraseIdx_cons_succ, List.map_cons, h.1.1, h.1.2, a4]
theorem delete_of {t t2 ty kt et : TypeId} {kv : κ → Value} {z : Value} (hT : MapT P t kt et kv z) {r : Nat} {es : Array MapEntry} {clock : Nat} {m : List (κ × Value)} (A B : HList) (hL : L = A ++ (r, Obj.map es clock) :: B) (h : Mp kv es m) (k : κ) {K : RsV [] → HP}
    (hk : ∀ es' clock', Mp kv es' (mdel m k) → K () (A ++ (r, Obj.map es' clock') :: B)) : smW P (Builtin.delete_ #[t, t2] ty #[.map (some r), kv k]) [] K L := by
  subst hL
  intro E F w hw
  have hb : w.heap[r]? = some (Obj.map es clock) := hw.blk (r, Obj.map es clock) (by simp)
  have hw0 : Hold E w (A ++ (r, Obj.map es clock) :: (B ++ F)) := by simpa using hw
  obtain ⟨i1, i2⟩ := del_entries (kv := kv) k es.toList m 0 h
  have key : ∀ (o : Obj), (match midx m k 0 with | some (i, _) => setObj r (.map (es.eraseIdxIfInBounds i) clock) | none => setObj r (.map es clock)).run P w = .ok () { w with heap := w.heap.setIfInBounds r o } →
      (Builtin.delete_ #[t, t2] ty #[.map (some r), kv k]).run P w = .ok (.tuple #[]) { w with heap := w.heap.setIfInBounds r o } := by
    intro o ho
    simp only [Builtin.delete_, List.getElem?_toArray, List.getElem?_cons_zero, List.getElem?_cons_succ, Sem.run_bind, run_und hT.und, Result.andThen_ok, run_getO hb, hT.key.chk, run_findKey hT.key h]
    cases hf : midx m k 0 with
    | none =>
      rw [hf] at ho
      simp only [Sem.run_bind]
      rw [ho]
      rfl
    | some p =>
      rw [hf] at ho
      simp only [Sem.run_bind]
      rw [ho]
      rfl
  cases hf : midx m k 0 with
  | none =>
    refine ⟨_, _, A ++ (r, Obj.map es clock) :: B, key (.map es clock) (by rw [hf]; exact run_setO _ hb), ?_, (), rfl, hk _ _ ?_⟩
    · simpa using hw0.put (Obj.map es clock)
    · rw [i1 hf]; exact h
  | some p =>
    obtain ⟨i, u⟩ := p
    obtain ⟨a1, a4⟩ := i2 i u hf
    rw [Nat.sub_zero] at a4
    refine ⟨_, _, A ++ (r, Obj.map (es.eraseIdxIfInBounds i) clock) :: B, key (.map (es.eraseIdxIfInBounds i) clock) (by rw [hf]; exact run_setO _ hb), ?_, (), rfl, hk _ _ ?_⟩
    · simpa using hw0.put (Obj.map (es.eraseIdxIfInBounds i) clock)
    · unfold Mp
      have e : (es.eraseIdxIfInBounds i).toList = es.toList.eraseIdx i := by
        unfold Array.eraseIdxIfInBounds
        split
        · simp
        · rename_i hge
          rw [List.eraseIdx_of_length_le (by simpa using hge)]
      rw [e]; exact a4
/-- A call, with what it leaves in an order of one's own. -/
theorem cl_pm {f : FuncId} {args : Array Value} {rs : List Sh} {k : RsV rs → HP} {K : Value → HP} {A R : HList} (h : CallF P f args A K) (hp : L.Perm (A ++ R))
    (hk : ∀ v A', K v A' → ∃ L'', (A' ++ R).Perm L'' ∧ ∃ r, v = rsVal rs r ∧ k r L'') : cl P f args rs k L := by
  intro E F w hw
  refine Calls.mono (CallF.frame (R := R) h E F w (hw.perm (hp.append_right F))) ?_
  rintro e w' ⟨v, L', he, hw', A', rfl, hK⟩
  obtain ⟨L'', hp2, hk2⟩ := hk v A' hK
  exact ⟨v, L'', he, hw'.perm (hp2.append_right F), hk2⟩
end
theorem ba_loop (b : ByteArray) : ∀ (n i : Nat) (r : List UInt8), b.size - i = n → ByteArray.toList.loop b i r = r.reverse ++ b.data.toList.drop i := by
  intro n
  induction n with
  | zero =>
    intro i r h
    unfold ByteArray.toList.loop
    rw [if_neg (by omega), List.drop_of_length_le (by rw [Array.length_toList]; show b.size ≤ i; omega)]
    simp
  | succ n ih =>
    intro i r h
    unfold ByteArray.toList.loop
    have hi : i < b.size := by omega
    rw [if_pos hi, ih (i + 1) _ (by omega)]
    have hi2 : i < b.data.toList.length := by rw [Array.length_toList]; exact hi
    rw [List.drop_eq_getElem_cons hi2]
    simp [ByteArray.get!, hi]
theorem ba_toList (b : ByteArray) : b.toList = b.data.toList := by
  unfold ByteArray.toList
  rw [ba_loop b _ 0 [] rfl]; simp
theorem str_beq (a b : ByteArray) : (a.toList == b.toList) = decide (a = b) := by
  rw [ba_toList, ba_toList]
  by_cases h : a = b
  · subst h; simp
  · rw [decide_eq_false h, beq_eq_false_iff_ne]
    intro he
    apply h
    cases a with | mk x => cases b with | mk y =>
      have : x = y := Array.toList_inj.1 he
      rw [this]
end Go.HL
set_option linter.unusedVariables false
set_option linter.unusedSimpArgs false
namespace Go.HL
section
variable {P : Program} {L : HList}

/-- What '==' says of two values of a type, by their cells. -/
def eqAt (P : Program) : Nat → TypeId → List Value → List Value → Option Bool
  | 0, _, _, _ => none
  | d + 1, t, xs, ys =>
    match P.underlying t with
    | some .bool => match xs, ys with | [.bool a], [.bool b] => some (a == b) | _, _ => none
    | some (.int _) => match xs, ys with | [.int k a], [.int k' b] => if k = k' then some (a == b) else none | _, _ => none
    | some .string => match xs, ys with | [.string a], [.string b] => some (a.toList == b.toList) | _, _ => none
    | some (.struct fs) =>
      if P.stoodInHeld t = false then
        fs.toList.foldr (fun f acc => if f.name = "_" then none else acc.bind fun r => (eqAt P d f.type ((xs.drop f.offset).take (P.cellsOf f.type)) ((ys.drop f.offset).take (P.cellsOf f.type))).map (· && r)) (some true)
      else none
    | _ => none
def RepC (P : Program) (t : TypeId) (x : Value) (xs : List Value) : Prop :=
  match P.underlying t with
  | some (.struct _) => x = .agg xs.toArray
  | _ => xs = [x]
theorem take_one {xs : List Value} {off s : Nat} {v : Value} (h : (xs.drop off).take s = [v]) : xs.toArray[off]? = some v := by
  have h0 : ((xs.drop off).take s)[0]? = some v := by rw [h]; rfl
  rw [List.getElem?_take] at h0
  split at h0
  · rw [List.getElem?_drop] at h0
    simpa using h0
  · cases h0
theorem run_part_eq {t : TypeId} {n : Nat} {xs ys : List Value} {off : Nat} {r : Bool} (h : eqAt P n t ((xs.drop off).take (P.cellsOf t)) ((ys.drop off).take (P.cellsOf t)) = some r) (w : World) :
    ∃ a b, (part t xs.toArray off).run P w = .ok a w ∧ (part t ys.toArray off).run P w = .ok b w ∧ RepC P t a ((xs.drop off).take (P.cellsOf t)) ∧ RepC P t b ((ys.drop off).take (P.cellsOf t)) := by
  cases n with
  | zero => simp [eqAt] at h
  | succ n =>
    unfold eqAt at h
    have plainP : ∀ {d : TypeDesc}, P.underlying t = some d → (match d with | .struct _ | .array _ _ => true | _ => false) = false → ∀ {a b : Value}, (xs.drop off).take (P.cellsOf t) = [a] → (ys.drop off).take (P.cellsOf t) = [b] →
        ∃ a b, (part t xs.toArray off).run P w = .ok a w ∧ (part t ys.toArray off).run P w = .ok b w ∧ RepC P t a ((xs.drop off).take (P.cellsOf t)) ∧ RepC P t b ((ys.drop off).take (P.cellsOf t)) := by
      intro d hu hd a b ha hb
      have hr : ∀ {v : Value} {l : List Value}, l = [v] → RepC P t v l := by
        intro v l hl
        unfold RepC
        rw [hu]
        cases d <;> simp_all
      have hp : ∀ {zs : List Value} {v : Value}, (zs.drop off).take (P.cellsOf t) = [v] → (part t zs.toArray off).run P w = .ok v w := by
        intro zs v hv
        have hg : (isAgg t).run P w = .ok false w := by
          unfold isAgg
          rw [Sem.run_bind, run_underlying hu]
          cases d <;> simp_all
        unfold part
        rw [Sem.run_bind, hg]
        simp only [Result.andThen_ok, Bool.false_eq_true, if_false, take_one hv, Sem.run_pure]
      exact ⟨a, b, hp ha, hp hb, hr ha, hr hb⟩
    cases hu : P.underlying t with
    | none => rw [hu] at h; simp at h
    | some d =>
      rw [hu] at h
      cases d with
      | bool =>
        simp only at h
        split at h
        · exact plainP hu rfl (by assumption) (by assumption)
        · cases h
      | int k =>
        simp only at h
        split at h
        · exact plainP hu rfl (by assumption) (by assumption)
        · cases h
      | string =>
        simp only at h
        split at h
        · exact plainP hu rfl (by assumption) (by assumption)
        · cases h
      | struct fs =>
        obtain ⟨i, hi⟩ : ∃ i, P.info? t = some i := by
          cases hi : P.info? t with
          | none => unfold Program.underlying at hu; simp [hi] at hu
          | some i => exact ⟨i, rfl⟩
        have hp : ∀ zs : List Value, (part t zs.toArray off).run P w = .ok (.agg ((zs.drop off).take (P.cellsOf t)).toArray) w := by
          intro zs
          have hg : (isAgg t).run P w = .ok true w := by
            unfold isAgg
            rw [Sem.run_bind, run_underlying hu]
            simp
          unfold part
          rw [Sem.run_bind, hg]
          simp only [Result.andThen_ok, if_true, Sem.run_bind, run_sizeOf w hi, Sem.run_pure]
          rw [List.extract_toArray, List.extract_eq_take_drop, Nat.add_sub_cancel_left]
        refine ⟨_, _, hp xs, hp ys, ?_, ?_⟩ <;> (unfold RepC; rw [hu])
      | _ => simp at h
theorem run_eqAt (d : Nat) : ∀ (n : Nat) (t : TypeId) (xs ys : List Value) (r : Bool), eqAt P n t xs ys = some r → ∀ (x y : Value), RepC P t x xs → RepC P t y ys → ∀ w, (Op.equalIn (d + n) t x y).run P w = .ok r w
  | 0, _, _, _, _, h, _, _, _, _, _ => by simp [eqAt] at h
  | n + 1, t, xs, ys, r, h, x, y, hx, hy, w => by
    unfold eqAt at h
    unfold RepC at hx hy
    cases hu : P.underlying t with
    | none => rw [hu] at h; simp at h
    | some q =>
      rw [hu] at h hx hy
      cases q with
      | bool =>
        simp only at h hx hy
        subst hx hy
        split at h
        · rename_i a b e1 e2
          cases e1; cases e2
          cases h
          exact run_equalIn_bool' w (d + n) t a b hu
        · cases h
      | int k =>
        simp only at h hx hy
        subst hx hy
        split at h
        · rename_i k a k' b e1 e2
          cases e1; cases e2
          split at h
          · rename_i hk
            subst hk
            cases h
            exact run_equalIn_int w (d + n) t k _ a b hu
          · cases h
        · cases h
      | string =>
        simp only at h hx hy
        subst hx hy
        split at h
        · rename_i a b e1 e2
          cases e1; cases e2
          cases h
          exact run_equalIn_string w (d + n) t a b hu
        · cases h
      | struct fs =>
        simp only at h hx hy
        subst hx hy
        split at h
        · rename_i hst
          have hf : P.underlying t = some (.struct (P.fieldsOf t)) := by unfold Program.fieldsOf; rw [hu]
          have hfs : P.fieldsOf t = fs := by unfold Program.fieldsOf; rw [hu]
          show (Op.equalIn ((d + n) + 1) t (.agg xs.toArray) (.agg ys.toArray)).run P w = .ok r w
          rw [run_equalIn_agg w (d + n) t _ _ hf hst, hfs]
          revert h
          generalize fs.toList = l
          clear hu hf hfs hst
          induction l generalizing r with
          | nil => intro h; cases h; simp [Op.eqFields]
          | cons f l ih =>
            intro h
            rw [List.foldr_cons] at h
            split at h
            · cases h
            · rename_i hn
              rw [Option.bind_eq_some_iff] at h
              obtain ⟨r', h1, h2⟩ := h
              rw [Option.map_eq_some_iff] at h2
              obtain ⟨q, h3, rfl⟩ := h2
              obtain ⟨a, b, p1, p2, ra, rb⟩ := run_part_eq h3 w
              have h4 := run_eqAt d n f.type _ _ q h3 a b ra rb w
              have h5 := ih r' h1
              unfold Op.eqFields
              simp only [hn, ne_eq, not_false_eq_true, if_true, Sem.run_bind, p1, p2, h4, Result.andThen_ok]
              cases q
              · simp
              · simpa using h5
        · cases h
      | _ => simp at h
def isStr (P : Program) (t : TypeId) : Bool := match P.underlying t with | some (.struct _) => true | _ => false
theorem isStr_rep {t : TypeId} (h : isStr P t = true) (xs : Array Value) : RepC P t (.agg xs) xs.toList := by
  unfold isStr at h
  unfold RepC
  split at h
  · simp
  · cases h
theorem eqS_of {t : TypeId} {xs ys : Array Value} {r : Bool} (hu : isStr P t = true) (h : eqAt P 100 t xs.toList ys.toList = some r) {k : ShV (.lf .bool) → HP} (hk : k r L) :
    smP P (binOp .eql t (.agg xs) (.agg ys)) (.lf .bool) k L := by
  refine ⟨r, fun w => ?_, hk⟩
  rw [run_eql_struct, run_eqAt 9900 100 t _ _ r h (.agg xs) (.agg ys) (isStr_rep hu xs) (isStr_rep hu ys) w]
  rfl
theorem neS_of {t : TypeId} {xs ys : Array Value} {r : Bool} (hu : isStr P t = true) (h : eqAt P 100 t xs.toList ys.toList = some r) {k : ShV (.lf .bool) → HP} (hk : k (!r) L) :
    smP P (binOp .neq t (.agg xs) (.agg ys)) (.lf .bool) k L := by
  refine ⟨!r, fun w => ?_, hk⟩
  rw [run_neq_struct, run_eqAt 9900 100 t _ _ r h (.agg xs) (.agg ys) (isStr_rep hu xs) (isStr_rep hu ys) w]
  rfl
/-- A function value that is called. -/
theorem clv_of {f : FuncId} {args captured : Array Value} {rs : List Sh} {k : RsV rs → HP} (ho : calleeOk P f = true) (h : cl P f (args ++ captured) rs k L) : clv P (.func f) args captured rs k L := ⟨f, rfl, ho, h⟩
theorem run_chkAt (em : Bool) (d : Nat) : ∀ (n : Nat) (t : TypeId) (xs : List Value) (r : Bool), eqAt P n t xs xs = some r → ∀ (x : Value), RepC P t x xs → ∀ w, (Instr.checkKey em (d + n) t x).run P w = .ok () w
  | 0, _, _, _, h, _, _, _ => by simp [eqAt] at h
  | n + 1, t, xs, r, h, x, hx, w => by
    unfold eqAt at h
    unfold RepC at hx
    show (Instr.checkKey em ((d + n) + 1) t x).run P w = .ok () w
    cases hu : P.underlying t with
    | none => rw [hu] at h; simp at h
    | some q =>
      rw [hu] at h hx
      cases q with
      | bool => simp only [Instr.checkKey, Sem.run_bind, run_und hu, Result.andThen_ok, Sem.run_pure]
      | int k => simp only [Instr.checkKey, Sem.run_bind, run_und hu, Result.andThen_ok, Sem.run_pure]
      | string => simp only [Instr.checkKey, Sem.run_bind, run_und hu, Result.andThen_ok, Sem.run_pure]
      | struct fs =>
        simp only at h hx
        subst hx
        split at h
        · rw [Instr.checkKey]
          simp only [Sem.run_bind, run_und hu, Result.andThen_ok]
          rw [← Array.forIn_toList]
          revert h
          generalize fs.toList = l
          clear hu
          induction l generalizing r with
          | nil => intro h; simp
          | cons f l ih =>
            intro h
            rw [List.foldr_cons] at h
            split at h
            · cases h
            · rename_i hn
              rw [Option.bind_eq_some_iff] at h
              obtain ⟨r', h1, h2⟩ := h
              rw [Option.map_eq_some_iff] at h2
              obtain ⟨q, h3, rfl⟩ := h2
              obtain ⟨a, b, p1, p2, ra, rb⟩ := run_part_eq h3 w
              have h4 := run_chkAt em d n f.type _ q h3 a ra w
              have h5 := ih r' h1
              simp only [List.forIn_cons, hn, ne_eq, not_false_eq_true, if_true, Sem.run_bind, p1, h4, Result.andThen_ok, Sem.run_pure]
              exact h5
        · cases h
      | _ => simp at h
variable {κ : Type} [DecidableEq κ]
theorem run_findAsk {kt : TypeId} {kv : κ → Value} (hq : ∀ a b w, (Op.equal kt (kv a) (kv b)).run P w = .ok (decide (a = b)) w) (k : κ) : ∀ (es : List MapEntry) (m : List (κ × Value)) (i : Nat) (w : World), es.map (fun e => (e.key, e.val)) = m.map (fun p => (kv p.1, p.2)) → (Instr.findAsking kt (kv k) es i).run P w = .ok (midx m k i) w
  | [], [], i, w, _ => by simp [Instr.findAsking, midx]
  | [], p :: r, i, w, h => by simp at h
  | e :: es, [], i, w, h => by simp at h
  | e :: es, p :: r, i, w, h => by
    simp only [List.map_cons, List.cons.injEq, Prod.mk.injEq] at h
    unfold Instr.findAsking midx
    rw [Sem.run_bind, h.1.1, hq, h.1.2]
    by_cases hk : k = p.1
    · simp [hk]
    · simp only [Result.andThen_ok, hk, decide_false, if_false, Bool.false_eq_true]
      exact run_findAsk hq k es r (i + 1) w h.2
/-- A struct's key. -/
theorem keyStruct {kt : TypeId} {kv : κ → Value} (enc : κ → List Value) (hkv : ∀ a, kv a = .agg (enc a).toArray) (hu : isStr P kt = true) (he : ∀ a b, eqAt P 100 kt (enc a) (enc b) = some (decide (a = b)))
    (hb : ∀ a, Instr.sameBits 10000 (kv a) (kv a) = true) : KeyT P kt kv := by
  refine ⟨fun k es m w h => ?_, fun e k w => ?_, hb⟩
  · have hf : Instr.findKey kt (kv k) es = (do match Instr.findNow (← underlying kt) (kv k) es 0 with | some r => pure r | none => Instr.findAsking kt (kv k) es) := rfl
    obtain ⟨fs, hs⟩ : ∃ fs, P.underlying kt = some (.struct fs) := by
      unfold isStr at hu
      split at hu
      · exact ⟨_, by assumption⟩
      · cases hu
    rw [hf, Sem.run_bind, run_und hs]
    simp only [Result.andThen_ok]
    have hask : (Instr.findAsking kt (kv k) es).run P w = .ok (midx m k 0) w := run_findAsk (fun a b w => by
      rw [hkv a, hkv b]
      exact run_eqAt 9900 100 kt _ _ _ (he a b) _ _ (isStr_rep hu (enc a).toArray) (isStr_rep hu (enc b).toArray) w) k es m 0 w h
    cases es with
    | nil =>
      cases m with
      | nil => simp [Instr.findNow, midx]
      | cons p r => simp at h
    | cons e es =>
      have hn : Instr.findNow (.struct fs) (kv k) (e :: es) 0 = none := by
        unfold Instr.findNow
        have : Instr.sameNow (.struct fs) (kv k) e.key = none := by
          unfold Instr.sameNow
          rw [hkv k]
        rw [this]
      rw [hn]
      exact hask
  · rw [hkv k]
    exact run_chkAt e 9900 100 kt _ _ (he k k) _ (isStr_rep hu (enc k).toArray) w
end
end Go.HL
set_option linter.unusedVariables false
set_option linter.unusedSimpArgs false
namespace Go.HL
section
variable {P : Program} {L : HList}
/-- 'copy' into a part of a slice of one's own. -/
theorem copy_own {t t2 ty e T : TypeId} {sz : Nat} (hu : P.underlying t = some (.slice e)) (hs : sizeOfT P e = some sz) {v : SlV} {vs : List Value} {seg : HList} (X Y : HList) (own : Own v sz T vs seg) (hL : L = X ++ seg ++ Y)
    {d : SlV} {l : Nat} {a : Addr} (ha : v.a = some a) (hd : d.a = some (Addr.add a (l * sz))) (hdl : l + d.len ≤ v.len) {u : SlV} {ws : List Value} (src : Sl L u sz ws) (hpl : ws.all plainV = true) {k : RsV [.lf (.int .i64)] → HP}
    (hk : ∀ seg', Own v sz T (putL vs (l * sz) (ws.take (min u.len d.len * sz))) seg' → k (((min u.len d.len : Nat) : Int), ()) (X ++ seg' ++ Y)) :
    smW P (Builtin.copy_ #[t, t2] ty #[.slice d.a d.len d.cap, .slice u.a u.len u.cap]) [.lf (.int .i64)] k L := by
  subst hL
  rcases own.row with ⟨ha', _, _⟩ | ⟨b, off, c, fz, ha', rfl, hsz, hfz, hc⟩
  · rw [ha] at ha'; cases ha'
  · rw [ha] at ha'
    obtain rfl := Option.some.inj ha'
    have hlen := own.len
    have hcap := own.cap
    have h1 := Nat.mul_le_mul_right sz (show l + d.len ≤ v.cap by omega)
    have h2 := Nat.mul_le_mul_right sz hdl
    rw [Nat.add_mul] at h1 h2
    have hle : min u.len d.len * sz ≤ d.len * sz := Nat.mul_le_mul_right _ (Nat.min_le_right _ _)
    have hlt : (ws.take (min u.len d.len * sz)).length ≤ min u.len d.len * sz := List.length_take_le _ _
    have hp : l * sz + (ws.take (min u.len d.len * sz)).length ≤ vs.length := by omega
    have hL2 : X ++ [(b, Obj.cells c T fz)] ++ Y = X ++ (b, Obj.cells c T fz) :: Y := by simp
    rw [hL2] at src ⊢
    refine copy_of (off := off + l * sz) hu hs (by rw [hd]; exact congrArg some (addr_add (ad := ⟨b, off, none⟩) rfl (l * sz))) src hpl (by omega) hfz ?_
    have := hk [(b, Obj.cells (wr c (off + l * sz) (ws.take (min u.len d.len * sz))) T fz)] ⟨by rw [putL_len _ _ _ hp]; exact hlen, hcap, .inr ⟨b, off, _, fz, ha, rfl, by rw [wr_size]; exact hsz, by rw [wr_size]; exact hfz, fun i x hx => ?_⟩⟩
    · simpa using this
    · rw [putL_get _ _ _ hp] at hx
      rw [wr_get _ _ _ _ (by omega)]
      split at hx
      · rw [if_pos (by omega), show off + i - (off + l * sz) = i - l * sz by omega]; exact hx
      · rw [if_neg (by omega)]; exact hc i x hx
theorem bvs_put (l : List UInt8) (p : Nat) (ws : List UInt8) : putL (bvs l) p (bvs ws) = bvs (l.take p ++ ws ++ l.drop (p + ws.length)) := by
  simp [putL, bvs, List.map_append, List.map_take, List.map_drop]
theorem bvs_take (l : List UInt8) (n : Nat) : (bvs l).take n = bvs (l.take n) := by simp [bvs, List.map_take]
theorem zeros_bvs (n : Nat) : zeros [.int .u8 0] n = bvs (List.replicate n 0) := by
  induction n with
  | zero => rfl
  | succ n ih => rw [List.replicate_succ]; simp only [zeros] at ih ⊢; rw [List.replicate_succ, List.flatten_cons, ih]; rfl
end
end Go.HL
set_option linter.unusedVariables false
set_option maxRecDepth 100000
namespace Go.Proofs.YtlabcgnegbdlfaaDoor
open Go.HL
noncomputable abbrev PP : Program := Tryd.prog
theorem noNum : NoNum PP := by unfold NoNum; kernel_rfl
theorem mixed : PP.follows .mixedOrders = true := by kernel_rfl

/-- depot/depotlaw30.RebuildOnce -/
def h3 : Hints := ⟨[(0, [(10, .lf (.int .i64))]), (2, [(9, .lf (.int .i64)), (11, .lf (.int .i64))]), (4, [(12, .lf (.int .i64))]), (6, [(9, .lf (.int .i64))])], [(27, [(9, .lf (.int .i64))])], [(27, [0, 1, 2, 3, 4, 5, 6, 8, 12, 7, 9, 10, 11, 13, 14, 15]), (25, [0, 1, 2, 3, 4, 5, 6, 8, 12, 7, 9, 10, 11, 13, 14, 15]), (19, [0, 2, 6, 8, 1, 3, 4, 5, 7, 9, 10, 11, 12]), (11, [0, 1, 2, 3, 5, 9, 11, 12, 4, 6, 7, 8, 10, 13, 14, 15, 16, 17, 18, 19, 21, 25, 20, 22, 23, 24, 26, 27, 28])]⟩
def t3 (x0 : ShV (.agg [.int .i64, .int .i64, .int .i64, .int .i64])) (x1 : SlV) (K : Value → HP) : HP :=
  nw (.cells #[.int .i64 x0.1, .int .i64 x0.2.1, .int .i64 x0.2.2.1, .int .i64 x0.2.2.2.1] 23) fun n1 =>
  ld ⟨n1, 0, none⟩ (.agg [.int .i64, .int .i64, .int .i64, .int .i64]) fun v1 =>
  cl PP 4 #[.agg #[.int .i64 v1.1, .int .i64 v1.2.1, .int .i64 v1.2.2.1, .int .i64 v1.2.2.2.1], .slice x1.a x1.len x1.cap] [.lf .ptr, .lf .ptr] fun r1 =>
  ifB (Option.isNone r1.1) (
   cl PP 5 #[] [.lf .bool] fun r2 =>
   K (.bool r2.1)) (
   cl PP 6 #[.pointer r1.1] [.agg [.sl, .sl, .int .i64], .lf (.int .i64)] fun r3 =>
   nw (.cells #[.slice none 0 0, .slice none 0 0, .int .i64 0] 33) fun n2 =>
   st ⟨n2, 0, none⟩ [.slice r3.1.1.a r3.1.1.len r3.1.1.cap, .slice r3.1.2.1.a r3.1.2.1.len r3.1.2.1.cap, .int .i64 r3.1.2.2.1] <|
   ifB ((r3.2.1 : Int) != 0) (
    cl PP 7 #[.pointer r1.1] [.lf .bool] fun r4 =>
    ifB r4.1 (
     ld ⟨n2, 0, none⟩ (.lf .sl) fun v2 =>
     ld (Addr.add ⟨n2, 0, none⟩ 1) (.lf .sl) fun v3 =>
     ld (Addr.add ⟨n2, 0, none⟩ 2) (.lf (.int .i64)) fun v4 =>
     ifB ((IntKind.i64.wrap ((IntKind.i64.wrap (v2.len + v3.len)) + v4) : Int) == 0) (
      cl PP 5 #[] [.lf .bool] fun r5 =>
      K (.bool r5.1)) (
      K (.bool false))) (
     K (.bool false))) (
    lp [.lf (.int .i64)] (0, ()) fun z1 go1 =>   -- i
     ld ⟨n2, 0, none⟩ (.lf .sl) fun v5 =>
     ifB (decide ((z1.1 : Int) < v5.len)) (
      ifB (decide ((z1.1 : Int) > 0)) (
       ld ⟨n2, 0, none⟩ (.lf .sl) fun v6 =>
       nilc v6.a fun a1 =>
       ixn z1.1 v6.len <|
       ld (Addr.add (Addr.add a1 (z1.1.toNat * 3)) 1) (.lf (.int .i64)) fun v7 =>
       ld ⟨n2, 0, none⟩ (.lf .sl) fun v8 =>
       nilc v8.a fun a2 =>
       ixn (IntKind.i64.wrap (z1.1 - 1)) v8.len <|
       ld (Addr.add (Addr.add a2 ((IntKind.i64.wrap (z1.1 - 1)).toNat * 3)) 1) (.lf (.int .i64)) fun v9 =>
       ifB (decide ((v7 : Int) < v9)) (
        K (.bool false)) (
        ld ⟨n2, 0, none⟩ (.lf .sl) fun v10 =>
        nilc v10.a fun a3 =>
        ixn z1.1 v10.len <|
        ld (Addr.add (Addr.add a3 (z1.1.toNat * 3)) 1) (.lf (.int .i64)) fun v11 =>
        ld (Addr.add ⟨n2, 0, none⟩ 2) (.lf (.int .i64)) fun v12 =>
        ifB (decide ((v11 : Int) > v12)) (
         K (.bool false)) (
         go1 (IntKind.i64.wrap (z1.1 + 1), ())))) (
       ld ⟨n2, 0, none⟩ (.lf .sl) fun v13 =>
       nilc v13.a fun a4 =>
       ixn z1.1 v13.len <|
       ld (Addr.add (Addr.add a4 (z1.1.toNat * 3)) 1) (.lf (.int .i64)) fun v14 =>
       ld (Addr.add ⟨n2, 0, none⟩ 2) (.lf (.int .i64)) fun v15 =>
       ifB (decide ((v14 : Int) > v15)) (
        K (.bool false)) (
        go1 (IntKind.i64.wrap (z1.1 + 1), ())))) (
      lp [.lf (.int .i64), .lf (.int .i64)] (0, 0, ()) fun z2 go2 =>   -- at, i
       ld (Addr.add ⟨n2, 0, none⟩ 1) (.lf .sl) fun v16 =>
       ifB (decide ((z2.2.1 : Int) < v16.len)) (
        lp [.lf (.int .i64)] (0, ()) fun z3 go3 =>   -- k
         ifB (decide ((z3.1 : Int) < z2.2.1)) (
          ld (Addr.add ⟨n2, 0, none⟩ 1) (.lf .sl) fun v17 =>
          nilc v17.a fun a5 =>
          ixn z3.1 v17.len <|
          ld (Addr.add a5 (z3.1.toNat * 4)) (.lf .str) fun v18 =>
          ld (Addr.add ⟨n2, 0, none⟩ 1) (.lf .sl) fun v19 =>
          nilc v19.a fun a6 =>
          ixn z2.2.1 v19.len <|
          ld (Addr.add a6 (z2.2.1.toNat * 4)) (.lf .str) fun v20 =>
          ifB (ByteArray.toList v18 == ByteArray.toList v20) (
           K (.bool false)) (
           go3 (IntKind.i64.wrap (z3.1 + 1), ()))) (
          ld (Addr.add ⟨n2, 0, none⟩ 1) (.lf .sl) fun v21 =>
          nilc v21.a fun a7 =>
          ixn z2.2.1 v21.len <|
          ld (Addr.add (Addr.add a7 (z2.2.1.toNat * 4)) 1) (.agg [.int .i64, .int .i64, .int .i64]) fun v22 =>
          nw (.cells #[.int .i64 0, .int .i64 0, .int .i64 0] 41) fun n3 =>
          st ⟨n3, 0, none⟩ [.int .i64 v22.1, .int .i64 v22.2.1, .int .i64 v22.2.2.1] <|
          ld ⟨n3, 0, none⟩ (.agg [.int .i64, .int .i64, .int .i64]) fun v23 =>
          cl PP 8 #[.pointer r1.1, .agg #[.int .i64 v23.1, .int .i64 v23.2.1, .int .i64 v23.2.2.1]] [.lf .str, .lf .sl, .lf (.int .i64)] fun r6 =>
          ld (Addr.add ⟨n2, 0, none⟩ 1) (.lf .sl) fun v24 =>
          nilc v24.a fun a8 =>
          ixn z2.2.1 v24.len <|
          ld (Addr.add a8 (z2.2.1.toNat * 4)) (.lf .str) fun v25 =>
          ifB (!(ByteArray.toList r6.1 == ByteArray.toList v25)) (
           K (.bool false)) (
           ifB ((r6.2.2.1 : Int) != 0) (
            K (.bool false)) (
            jn (fun y1 : RsV [.lf (.int .i64)] =>
             ld ⟨n2, 0, none⟩ (.lf .sl) fun v30 =>
             ifB ((y1.1 : Int) == v30.len) (
              K (.bool false)) (
              ld ⟨n2, 0, none⟩ (.lf .sl) fun v31 =>
              nilc v31.a fun a10 =>
              ixn y1.1 v31.len <|
              ld (Addr.add (Addr.add a10 (y1.1.toNat * 3)) 1) (.lf (.int .i64)) fun v32 =>
              ld (Addr.add ⟨n3, 0, none⟩ 2) (.lf (.int .i64)) fun v33 =>
              ifB ((v32 : Int) != v33) (
               K (.bool false)) (
               go2 (y1.1, IntKind.i64.wrap (z2.2.1 + 1), ())))) fun j1 =>
            lp [.lf (.int .i64)] (z2.1, ()) fun z4 go4 =>   -- at
              ld ⟨n2, 0, none⟩ (.lf .sl) fun v26 =>
              ifB (decide ((z4.1 : Int) < v26.len)) (
               ld ⟨n2, 0, none⟩ (.lf .sl) fun v27 =>
               nilc v27.a fun a9 =>
               ixn z4.1 v27.len <|
               ld (Addr.add a9 (z4.1.toNat * 3)) (.lf (.int .i64)) fun v28 =>
               ld ⟨n3, 0, none⟩ (.lf (.int .i64)) fun v29 =>
               ifB ((v28 : Int) != v29) (
                go4 (IntKind.i64.wrap (z4.1 + 1), ())) (
                j1 (z4.1, ()))) (
               j1 (z4.1, ())))))) (
        cl PP 5 #[] [.lf .bool] fun r7 =>
        K (.bool r7.1)))))
theorem e3 (x0 : ShV (.agg [.int .i64, .int .i64, .int .i64, .int .i64])) (x1 : SlV) (K : Value → HP) : flatFn PP h3 Tryd.f3 [.agg #[.int .i64 x0.1, .int .i64 x0.2.1, .int .i64 x0.2.2.1, .int .i64 x0.2.2.2.1], .slice x1.a x1.len x1.cap] K = t3 x0 x1 K := by kernel_rfl

/-- depot/depotlaw30.played -/
def h4 : Hints := ⟨[(0, [(10, .lf (.int .i64))])], [(5, [])], []⟩
def t4 (x0 : ShV (.agg [.int .i64, .int .i64, .int .i64, .int .i64])) (x1 : SlV) (K : Value → HP) : HP :=
  nw (.cells #[.int .i64 x0.1, .int .i64 x0.2.1, .int .i64 x0.2.2.1, .int .i64 x0.2.2.2.1] 23) fun n1 =>
  ld ⟨n1, 0, none⟩ (.agg [.int .i64, .int .i64, .int .i64, .int .i64]) fun v1 =>
  cl PP 9 #[.agg #[.int .i64 v1.1, .int .i64 v1.2.1, .int .i64 v1.2.2.1, .int .i64 v1.2.2.2.1]] [.lf .ptr, .lf (.int .i64)] fun r1 =>
  ld ⟨n1, 0, none⟩ (.agg [.int .i64, .int .i64, .int .i64, .int .i64]) fun v2 =>
  cl PP 10 #[.agg #[.int .i64 v2.1, .int .i64 v2.2.1, .int .i64 v2.2.2.1, .int .i64 v2.2.2.2.1]] [.lf .ptr, .lf (.int .i64)] fun r2 =>
  jn (fun y1 : RsV [] =>
   lp [.lf (.int .i64)] (0, ()) fun z1 go1 =>   -- i
    ifB (decide ((z1.1 : Int) < x1.len)) (
     nilc x1.a fun a1 =>
     ixn z1.1 x1.len <|
     ld (Addr.add a1 (z1.1.toNat * 6)) (.agg [.int .i64, .int .i64, .int .i64, .sl, .int .i64, .int .i64]) fun v3 =>
     nw (.cells #[.int .i64 0, .int .i64 0, .int .i64 0, .slice none 0 0, .int .i64 0, .int .i64 0] 53) fun n2 =>
     st ⟨n2, 0, none⟩ [.int .i64 v3.1, .int .i64 v3.2.1, .int .i64 v3.2.2.1, .slice v3.2.2.2.1.a v3.2.2.2.1.len v3.2.2.2.1.cap, .int .i64 v3.2.2.2.2.1, .int .i64 v3.2.2.2.2.2.1] <|
     ld (Addr.add ⟨n2, 0, none⟩ 3) (.lf .sl) fun v4 =>
     ifB (decide ((v4.len : Int) > 600)) (
      K (.tuple #[.pointer none, .pointer none])) (
      ld ⟨n2, 0, none⟩ (.lf (.int .i64)) fun v5 =>
      ifB ((v5 : Int) == 0) (
       ld (Addr.add ⟨n2, 0, none⟩ 1) (.lf (.int .i64)) fun v6 =>
       ld (Addr.add ⟨n2, 0, none⟩ 2) (.lf (.int .i64)) fun v7 =>
       ld (Addr.add ⟨n2, 0, none⟩ 3) (.lf .sl) fun v8 =>
       cl PP 11 #[.pointer r1.1, .int .i64 v6, .int .i64 v7, .slice v8.a v8.len v8.cap] [.lf (.int .i64)] fun r3 =>
       ld (Addr.add ⟨n2, 0, none⟩ 1) (.lf (.int .i64)) fun v9 =>
       ld (Addr.add ⟨n2, 0, none⟩ 2) (.lf (.int .i64)) fun v10 =>
       ld (Addr.add ⟨n2, 0, none⟩ 3) (.lf .sl) fun v11 =>
       cl PP 12 #[.pointer r2.1, .int .i64 v9, .int .i64 v10, .slice v11.a v11.len v11.cap] [.lf (.int .i64)] fun r4 =>
       go1 (IntKind.i64.wrap (z1.1 + 1), ())) (
       ifB ((v5 : Int) == 2) (
        ld (Addr.add ⟨n2, 0, none⟩ 1) (.lf (.int .i64)) fun v12 =>
        cl PP 13 #[.pointer r1.1, .int .i64 v12] [.lf (.int .i64)] fun r5 =>
        ld (Addr.add ⟨n2, 0, none⟩ 1) (.lf (.int .i64)) fun v13 =>
        cl PP 14 #[.pointer r2.1, .int .i64 v13] [.lf (.int .i64)] fun r6 =>
        go1 (IntKind.i64.wrap (z1.1 + 1), ())) (
        ifB ((v5 : Int) == 3) (
         ld (Addr.add ⟨n2, 0, none⟩ 4) (.lf (.int .i64)) fun v14 =>
         ld (Addr.add ⟨n2, 0, none⟩ 5) (.lf (.int .i64)) fun v15 =>
         cl PP 15 #[.pointer r1.1, .int .i64 v14, .int .i64 v15] [] fun r7 =>
         ld (Addr.add ⟨n2, 0, none⟩ 4) (.lf (.int .i64)) fun v16 =>
         ld (Addr.add ⟨n2, 0, none⟩ 5) (.lf (.int .i64)) fun v17 =>
         cl PP 16 #[.pointer r2.1, .int .i64 v16, .int .i64 v17] [] fun r8 =>
         go1 (IntKind.i64.wrap (z1.1 + 1), ())) (
         cl PP 17 #[.pointer r1.1] [] fun r9 =>
         cl PP 18 #[.pointer r2.1] [] fun r10 =>
         go1 (IntKind.i64.wrap (z1.1 + 1), ())))))) (
     K (.tuple #[.pointer r1.1, .pointer r2.1]))) fun j1 =>
  ifB ((r1.2.1 : Int) != 0) (
    K (.tuple #[.pointer none, .pointer none])) (
    ifB (decide ((x1.len : Int) > 200)) (
     K (.tuple #[.pointer none, .pointer none])) (
     j1 (())))
theorem e4 (x0 : ShV (.agg [.int .i64, .int .i64, .int .i64, .int .i64])) (x1 : SlV) (K : Value → HP) : flatFn PP h4 Tryd.f4 [.agg #[.int .i64 x0.1, .int .i64 x0.2.1, .int .i64 x0.2.2.1, .int .i64 x0.2.2.2.1], .slice x1.a x1.len x1.cap] K = t4 x0 x1 K := by kernel_rfl

/-- depot/depotlaw30.finds -/
def h5 : Hints := ⟨[], [], []⟩
def t5 (K : Value → HP) : HP :=
  cl PP 19 #[] [.agg [.int .i64, .int .i64, .int .i64, .int .i64]] fun r1 =>
  cl PP 9 #[.agg #[.int .i64 r1.1.1, .int .i64 r1.1.2.1, .int .i64 r1.1.2.2.1, .int .i64 r1.1.2.2.2.1]] [.lf .ptr, .lf (.int .i64)] fun r2 =>
  ifB ((r2.2.1 : Int) != 0) (
   K (.bool false)) (
   cl PP 20 #[.pointer r2.1, .int .i64 2, .int .i64 1] [.lf (.int .i64)] fun r3 =>
   cl PP 20 #[.pointer r2.1, .int .i64 0, .int .i64 2] [.lf (.int .i64)] fun r4 =>
   cl PP 21 #[.pointer r2.1, .int .i64 2, .int .i64 1, .string (ByteArray.mk #[97]), .string (ByteArray.mk #[49])] [.lf .bool] fun r5 =>
   ifB r5.1 (
    cl PP 21 #[.pointer r2.1, .int .i64 2, .int .i64 1, .string (ByteArray.mk #[98]), .string (ByteArray.mk #[50])] [.lf .bool] fun r6 =>
    ifB r6.1 (
     cl PP 21 #[.pointer r2.1, .int .i64 0, .int .i64 2, .string (ByteArray.mk #[97]), .string (ByteArray.mk #[51])] [.lf .bool] fun r7 =>
     nw (.cells #[.int .i64 0, .int .i64 1, .int .i64 2] 41) fun n1 =>
     cl PP 22 #[.slice (some ⟨n1, 0, none⟩) 1 1] [.lf .sl, .lf (.int .i64)] fun r8 =>
     nw (.cells #[.slice r8.1.a r8.1.len r8.1.cap] 44) fun n2 =>
     cl PP 23 #[.pointer r2.1, .int .i64 0, .int .i64 2, .int .i64 2, .int .i64 3, .slice (some ⟨n2, 0, none⟩) 1 1] [.lf (.int .i64)] fun r9 =>
     cl PP 6 #[.pointer r2.1] [.agg [.sl, .sl, .int .i64], .lf (.int .i64)] fun r10 =>
     nw (.cells #[.slice none 0 0, .slice none 0 0, .int .i64 0] 33) fun n3 =>
     st ⟨n3, 0, none⟩ [.slice r10.1.1.a r10.1.1.len r10.1.1.cap, .slice r10.1.2.1.a r10.1.2.1.len r10.1.2.1.cap, .int .i64 r10.1.2.2.1] <|
     cl PP 8 #[.pointer r2.1, .agg #[.int .i64 2, .int .i64 2, .int .i64 1]] [.lf .str, .lf .sl, .lf (.int .i64)] fun r11 =>
     cl PP 8 #[.pointer r2.1, .agg #[.int .i64 2, .int .i64 2, .int .i64 2]] [.lf .str, .lf .sl, .lf (.int .i64)] fun r12 =>
     cl PP 6 #[.pointer none] [.agg [.sl, .sl, .int .i64], .lf (.int .i64)] fun r13 =>
     nw (.cells #[.slice none 0 0, .slice none 0 0, .int .i64 0] 33) fun n4 =>
     st ⟨n4, 0, none⟩ [.slice r13.1.1.a r13.1.1.len r13.1.1.cap, .slice r13.1.2.1.a r13.1.2.1.len r13.1.2.1.cap, .int .i64 r13.1.2.2.1] <|
     ifB ((r3.1 : Int) == 0) (
      ifB ((r4.1 : Int) == 0) (
       ifB r7.1 (
        ifB ((r9.1 : Int) == 0) (
         ifB ((r10.2.1 : Int) == 0) (
          ld (Addr.add ⟨n3, 0, none⟩ 2) (.lf (.int .i64)) fun v1 =>
          ifB ((v1 : Int) == 2) (
           ld ⟨n3, 0, none⟩ (.lf .sl) fun v2 =>
           ifB ((v2.len : Int) == 2) (
            ld ⟨n3, 0, none⟩ (.lf .sl) fun v3 =>
            nilc v3.a fun a1 =>
            ixn 0 v3.len <|
            ld (Addr.add a1 ((0 : Int).toNat * 3)) (.lf (.int .i64)) fun v4 =>
            ifB ((v4 : Int) == 2) (
             ld (Addr.add ⟨n3, 0, none⟩ 1) (.lf .sl) fun v5 =>
             ifB ((v5.len : Int) == 1) (
              ld (Addr.add ⟨n3, 0, none⟩ 1) (.lf .sl) fun v6 =>
              nilc v6.a fun a2 =>
              ixn 0 v6.len <|
              ld (Addr.add a2 ((0 : Int).toNat * 4)) (.lf .str) fun v7 =>
              ifB (ByteArray.toList v7 == ByteArray.toList (ByteArray.mk #[98])) (
               ifB (ByteArray.toList r11.1 == ByteArray.toList (ByteArray.mk #[98])) (
                smR PP (Conv.bytesToString (.slice r11.2.1.a r11.2.1.len r11.2.1.cap)) [.lf .str] fun v8 =>
                ifB (ByteArray.toList v8.1 == ByteArray.toList (ByteArray.mk #[50])) (
                 ifB ((r11.2.2.1 : Int) == 0) (
                  ifB ((r12.2.2.1 : Int) == 8) (
                   K (.bool ((r13.2.1 : Int) == 1))) (
                   K (.bool false))) (
                  K (.bool false))) (
                 K (.bool false))) (
                K (.bool false))) (
               K (.bool false))) (
              K (.bool false))) (
             K (.bool false))) (
            K (.bool false))) (
           K (.bool false))) (
          K (.bool false))) (
         K (.bool false))) (
        K (.bool false))) (
       K (.bool false))) (
      K (.bool false))) (
     nw (.cells #[.int .i64 0, .int .i64 1, .int .i64 2] 41) fun n5 =>
     cl PP 22 #[.slice (some ⟨n5, 0, none⟩) 1 1] [.lf .sl, .lf (.int .i64)] fun r14 =>
     nw (.cells #[.slice r14.1.a r14.1.len r14.1.cap] 44) fun n6 =>
     cl PP 23 #[.pointer r2.1, .int .i64 0, .int .i64 2, .int .i64 2, .int .i64 3, .slice (some ⟨n6, 0, none⟩) 1 1] [.lf (.int .i64)] fun r15 =>
     cl PP 6 #[.pointer r2.1] [.agg [.sl, .sl, .int .i64], .lf (.int .i64)] fun r16 =>
     nw (.cells #[.slice none 0 0, .slice none 0 0, .int .i64 0] 33) fun n7 =>
     st ⟨n7, 0, none⟩ [.slice r16.1.1.a r16.1.1.len r16.1.1.cap, .slice r16.1.2.1.a r16.1.2.1.len r16.1.2.1.cap, .int .i64 r16.1.2.2.1] <|
     cl PP 8 #[.pointer r2.1, .agg #[.int .i64 2, .int .i64 2, .int .i64 1]] [.lf .str, .lf .sl, .lf (.int .i64)] fun r17 =>
     cl PP 8 #[.pointer r2.1, .agg #[.int .i64 2, .int .i64 2, .int .i64 2]] [.lf .str, .lf .sl, .lf (.int .i64)] fun r18 =>
     cl PP 6 #[.pointer none] [.agg [.sl, .sl, .int .i64], .lf (.int .i64)] fun r19 =>
     nw (.cells #[.slice none 0 0, .slice none 0 0, .int .i64 0] 33) fun n8 =>
     st ⟨n8, 0, none⟩ [.slice r19.1.1.a r19.1.1.len r19.1.1.cap, .slice r19.1.2.1.a r19.1.2.1.len r19.1.2.1.cap, .int .i64 r19.1.2.2.1] <|
     ifB ((r3.1 : Int) == 0) (
      ifB ((r4.1 : Int) == 0) (
       K (.bool false)) (
       K (.bool false))) (
      K (.bool false)))) (
    nw (.cells #[.int .i64 0, .int .i64 1, .int .i64 2] 41) fun n9 =>
    cl PP 22 #[.slice (some ⟨n9, 0, none⟩) 1 1] [.lf .sl, .lf (.int .i64)] fun r20 =>
    nw (.cells #[.slice r20.1.a r20.1.len r20.1.cap] 44) fun n10 =>
    cl PP 23 #[.pointer r2.1, .int .i64 0, .int .i64 2, .int .i64 2, .int .i64 3, .slice (some ⟨n10, 0, none⟩) 1 1] [.lf (.int .i64)] fun r21 =>
    cl PP 6 #[.pointer r2.1] [.agg [.sl, .sl, .int .i64], .lf (.int .i64)] fun r22 =>
    nw (.cells #[.slice none 0 0, .slice none 0 0, .int .i64 0] 33) fun n11 =>
    st ⟨n11, 0, none⟩ [.slice r22.1.1.a r22.1.1.len r22.1.1.cap, .slice r22.1.2.1.a r22.1.2.1.len r22.1.2.1.cap, .int .i64 r22.1.2.2.1] <|
    cl PP 8 #[.pointer r2.1, .agg #[.int .i64 2, .int .i64 2, .int .i64 1]] [.lf .str, .lf .sl, .lf (.int .i64)] fun r23 =>
    cl PP 8 #[.pointer r2.1, .agg #[.int .i64 2, .int .i64 2, .int .i64 2]] [.lf .str, .lf .sl, .lf (.int .i64)] fun r24 =>
    cl PP 6 #[.pointer none] [.agg [.sl, .sl, .int .i64], .lf (.int .i64)] fun r25 =>
    nw (.cells #[.slice none 0 0, .slice none 0 0, .int .i64 0] 33) fun n12 =>
    st ⟨n12, 0, none⟩ [.slice r25.1.1.a r25.1.1.len r25.1.1.cap, .slice r25.1.2.1.a r25.1.2.1.len r25.1.2.1.cap, .int .i64 r25.1.2.2.1] <|
    ifB ((r3.1 : Int) == 0) (
     ifB ((r4.1 : Int) == 0) (
      K (.bool false)) (
      K (.bool false))) (
     K (.bool false))))
theorem e5 (K : Value → HP) : flatFn PP h5 Tryd.f5 [] K = t5 K := by kernel_rfl

/-- depot/rebuild.Read -/
def h6 : Hints := ⟨[(1, [(41, .lf (.int .i64))]), (3, [(62, .lf (.int .i64))]), (5, [(78, .lf (.int .i64))])], [], []⟩
def t6 (x0 : Option Addr) (K : Value → HP) : HP :=
  nw (.cells #[.pointer x0] 25) fun n1 =>
  nw (.cells #[.slice none 0 0, .slice none 0 0, .int .i64 0] 33) fun n2 =>
  ld ⟨n1, 0, none⟩ (.lf .ptr) fun v1 =>
  ifB (Option.isNone v1) (
   st ⟨n2, 0, none⟩ [.slice none 0 0, .slice none 0 0, .int .i64 0] <|
   ld ⟨n2, 0, none⟩ (.agg [.sl, .sl, .int .i64]) fun v2 =>
   K (.tuple #[.agg #[.slice v2.1.a v2.1.len v2.1.cap, .slice v2.2.1.a v2.2.1.len v2.2.1.cap, .int .i64 v2.2.2.1], .int .i64 1])) (
   ld ⟨n1, 0, none⟩ (.lf .ptr) fun v3 =>
   cl PP 7 #[.pointer v3] [.lf .bool] fun r1 =>
   ifB r1.1 (
    st ⟨n2, 0, none⟩ [.slice none 0 0, .slice none 0 0, .int .i64 0] <|
    ld ⟨n2, 0, none⟩ (.agg [.sl, .sl, .int .i64]) fun v4 =>
    K (.tuple #[.agg #[.slice v4.1.a v4.1.len v4.1.cap, .slice v4.2.1.a v4.2.1.len v4.2.1.cap, .int .i64 v4.2.2.1], .int .i64 11])) (
    ld ⟨n1, 0, none⟩ (.lf .ptr) fun v5 =>
    cl PP 24 #[.pointer v5] [.lf .sl, .lf .sl, .lf (.int .i64)] fun r2 =>
    nw (.cells #[.slice none 0 0] 67) fun n3 =>
    st ⟨n3, 0, none⟩ [.slice r2.2.1.a r2.2.1.len r2.2.1.cap] <|
    ifB ((r2.2.2.1 : Int) != 0) (
     st ⟨n2, 0, none⟩ [.slice none 0 0, .slice none 0 0, .int .i64 0] <|
     ld ⟨n2, 0, none⟩ (.agg [.sl, .sl, .int .i64]) fun v6 =>
     K (.tuple #[.agg #[.slice v6.1.a v6.1.len v6.1.cap, .slice v6.2.1.a v6.2.1.len v6.2.1.cap, .int .i64 v6.2.2.1], .int .i64 r2.2.2.1])) (
     nw (.cells #[.slice none 0 0, .slice none 0 0, .int .i64 0] 33) fun n4 =>
     st ⟨n4, 0, none⟩ [.slice r2.1.a r2.1.len r2.1.cap, .slice none 0 0, .int .i64 0] <|
     lp [.lf (.int .i64)] (0, ()) fun z1 go1 =>   -- 
      ifB (decide ((z1.1 : Int) < r2.1.len)) (
       nilc r2.1.a fun a1 =>
       ixn z1.1 r2.1.len <|
       ld (Addr.add a1 (z1.1.toNat * 3)) (.agg [.int .i64, .int .i64, .sl]) fun v7 =>
       nw (.cells #[.int .i64 0, .int .i64 0, .slice none 0 0] 39) fun n5 =>
       st ⟨n5, 0, none⟩ [.int .i64 v7.1, .int .i64 v7.2.1, .slice v7.2.2.1.a v7.2.2.1.len v7.2.2.1.cap] <|
       ld (Addr.add ⟨n4, 0, none⟩ 2) (.lf (.int .i64)) fun v8 =>
       ld (Addr.add ⟨n5, 0, none⟩ 1) (.lf (.int .i64)) fun v9 =>
       st (Addr.add ⟨n4, 0, none⟩ 2) [.int .i64 (imax v8 v9)] <|
       go1 (IntKind.i64.wrap (z1.1 + 1), ())) (
       nw (.cells #[.slice none 0 0] 31) fun n6 =>
       nw (.map #[] 0) fun n7 =>
       nw (.cells #[.map none] 70) fun n8 =>
       st ⟨n8, 0, none⟩ [.map (some n7)] <|
       cl PP 25 #[.slice r2.1.a r2.1.len r2.1.cap, .int .i64 2, .func (.func 26) #[] #[.pointer (some ⟨n1, 0, none⟩), .pointer (some ⟨n6, 0, none⟩), .pointer (some ⟨n8, 0, none⟩)]] [] fun r3 =>
       nw (.map #[] 0) fun n9 =>
       nw (.cells #[.map none] 75) fun n10 =>
       st ⟨n10, 0, none⟩ [.map (some n9)] <|
       cl PP 25 #[.slice r2.1.a r2.1.len r2.1.cap, .int .i64 3, .func (.func 27) #[] #[.pointer (some ⟨n3, 0, none⟩), .pointer (some ⟨n10, 0, none⟩)]] [] fun r4 =>
       ld ⟨n6, 0, none⟩ (.lf .sl) fun v10 =>
       lp [.lf (.int .i64)] (0, ()) fun z2 go2 =>   -- 
        ifB (decide ((z2.1 : Int) < v10.len)) (
         nilc v10.a fun a2 =>
         ixn z2.1 v10.len <|
         ld (Addr.add a2 (z2.1.toNat * 4)) (.agg [.str, .int .i64, .int .i64, .int .i64]) fun v11 =>
         nw (.cells #[.string ByteArray.empty, .int .i64 0, .int .i64 0, .int .i64 0] 43) fun n11 =>
         st ⟨n11, 0, none⟩ [.string v11.1, .int .i64 v11.2.1, .int .i64 v11.2.2.1, .int .i64 v11.2.2.2.1] <|
         ld ⟨n10, 0, none⟩ (.lf .map) fun v12 =>
         ld ⟨n8, 0, none⟩ (.lf .map) fun v13 =>
         ld ⟨n11, 0, none⟩ (.lf .str) fun v14 =>
         smR PP (Instr.lookup 70 (.map v13) (.string v14) false) [.agg [.int .i64, .int .i64, .int .i64]] fun v15 =>
         smR PP (Instr.lookup 75 (.map v12) (.agg #[.int .i64 v15.1.1, .int .i64 v15.1.2.1, .int .i64 v15.1.2.2.1]) false) [.lf .bool] fun v16 =>
         ifB v16.1 (
          ld ⟨n8, 0, none⟩ (.lf .map) fun v17 =>
          ld ⟨n11, 0, none⟩ (.lf .str) fun v18 =>
          smW PP (Builtin.delete_ #[70, 9] 0 #[.map v17, .string v18]) [] fun v19 =>
          go2 (IntKind.i64.wrap (z2.1 + 1), ())) (
          go2 (IntKind.i64.wrap (z2.1 + 1), ()))) (
         ld ⟨n6, 0, none⟩ (.lf .sl) fun v20 =>
         lp [.lf (.int .i64)] (0, ()) fun z3 go3 =>   -- 
          ifB (decide ((z3.1 : Int) < v20.len)) (
           nilc v20.a fun a3 =>
           ixn z3.1 v20.len <|
           ld (Addr.add a3 (z3.1.toNat * 4)) (.agg [.str, .int .i64, .int .i64, .int .i64]) fun v21 =>
           nw (.cells #[.string ByteArray.empty, .int .i64 0, .int .i64 0, .int .i64 0] 43) fun n12 =>
           st ⟨n12, 0, none⟩ [.string v21.1, .int .i64 v21.2.1, .int .i64 v21.2.2.1, .int .i64 v21.2.2.2.1] <|
           ld ⟨n8, 0, none⟩ (.lf .map) fun v22 =>
           ld ⟨n12, 0, none⟩ (.lf .str) fun v23 =>
           smR PP (Instr.lookup 70 (.map v22) (.string v23) true) [.agg [.int .i64, .int .i64, .int .i64], .lf .bool] fun v24 =>
           nw (.cells #[.int .i64 0, .int .i64 0, .int .i64 0] 41) fun n13 =>
           st ⟨n13, 0, none⟩ [.int .i64 v24.1.1, .int .i64 v24.1.2.1, .int .i64 v24.1.2.2.1] <|
           ifB v24.2.1 (
            ld ⟨n13, 0, none⟩ (.agg [.int .i64, .int .i64, .int .i64]) fun v25 =>
            ld (Addr.add ⟨n12, 0, none⟩ 1) (.agg [.int .i64, .int .i64, .int .i64]) fun v26 =>
            smP PP (binOp .eql 41 (.agg #[.int .i64 v25.1, .int .i64 v25.2.1, .int .i64 v25.2.2.1]) (.agg #[.int .i64 v26.1, .int .i64 v26.2.1, .int .i64 v26.2.2.1])) (.lf .bool) fun v27 =>
            ifB v27 (
             ld (Addr.add ⟨n4, 0, none⟩ 1) (.lf .sl) fun v28 =>
             ld ⟨n12, 0, none⟩ (.agg [.str, .int .i64, .int .i64, .int .i64]) fun v29 =>
             nw (.cells #[.string v29.1, .int .i64 v29.2.1, .int .i64 v29.2.2.1, .int .i64 v29.2.2.2.1] 43) fun n14 =>
             smW PP (Builtin.append_ #[31, 31] 31 #[.slice v28.a v28.len v28.cap, .slice (some ⟨n14, 0, none⟩) 1 1]) [.lf .sl] fun v30 =>
             st (Addr.add ⟨n4, 0, none⟩ 1) [.slice v30.1.a v30.1.len v30.1.cap] <|
             go3 (IntKind.i64.wrap (z3.1 + 1), ())) (
             go3 (IntKind.i64.wrap (z3.1 + 1), ()))) (
            go3 (IntKind.i64.wrap (z3.1 + 1), ()))) (
           ld ⟨n4, 0, none⟩ (.agg [.sl, .sl, .int .i64]) fun v31 =>
           st ⟨n2, 0, none⟩ [.slice v31.1.a v31.1.len v31.1.cap, .slice v31.2.1.a v31.2.1.len v31.2.1.cap, .int .i64 v31.2.2.1] <|
           ld ⟨n2, 0, none⟩ (.agg [.sl, .sl, .int .i64]) fun v32 =>
           K (.tuple #[.agg #[.slice v32.1.a v32.1.len v32.1.cap, .slice v32.2.1.a v32.2.1.len v32.2.1.cap, .int .i64 v32.2.2.1], .int .i64 0])))))))
theorem e6 (x0 : Option Addr) (K : Value → HP) : flatFn PP h6 Tryd.f6 [.pointer x0] K = t6 x0 K := by kernel_rfl

/-- (*depot/flash.Flash).Down -/
def h7 : Hints := ⟨[], [], []⟩
def t7 (x0 : Option Addr) (K : Value → HP) : HP :=
  ifB (!(Option.isNone x0)) (
   nilc x0 fun a1 =>
   ld (Addr.add a1 2) (.lf .bool) fun v1 =>
   K (.bool v1)) (
   K (.bool false))
theorem e7 (x0 : Option Addr) (K : Value → HP) : flatFn PP h7 Tryd.f7 [.pointer x0] K = t7 x0 K := by kernel_rfl

/-- depot/rebuild.Fetch -/
def h8 : Hints := ⟨[(0, [(9, .lf .sl), (10, .lf (.int .i64))])], [(17, [(10, .lf (.int .i64))])], []⟩
def t8 (x0 : Option Addr) (x1 : ShV (.agg [.int .i64, .int .i64, .int .i64])) (K : Value → HP) : HP :=
  nw (.cells #[.int .i64 x1.1, .int .i64 x1.2.1, .int .i64 x1.2.2.1] 41) fun n1 =>
  ld ⟨n1, 0, none⟩ (.lf (.int .i64)) fun v1 =>
  cl PP 30 #[.pointer x0, .int .i64 v1, .int .i64 0] [.lf .sl, .lf (.int .i64)] fun r1 =>
  ifB ((r1.2.1 : Int) != 0) (
   K (.tuple #[.string (ByteArray.mk #[]), .slice none 0 0, .int .i64 r1.2.1])) (
   lp [.lf .sl, .lf (.int .i64)] (⟨none, 0, 0⟩, 1, ()) fun z1 go1 =>   -- l, n
    ifB (decide ((z1.1.len : Int) < z1.2.1)) (
     ld ⟨n1, 0, none⟩ (.lf (.int .i64)) fun v2 =>
     ld (Addr.add ⟨n1, 0, none⟩ 1) (.lf (.int .i64)) fun v3 =>
     cl PP 30 #[.pointer x0, .int .i64 v2, .int .i64 (IntKind.i64.wrap (v3 + z1.1.len))] [.lf .sl, .lf (.int .i64)] fun r2 =>
     ifB ((r2.2.1 : Int) != 0) (
      K (.tuple #[.string (ByteArray.mk #[]), .slice none 0 0, .int .i64 8])) (
      cl PP 31 #[.slice r2.1.a r2.1.len r2.1.cap] [.agg [.int .i64, .int .i64, .int .i64, .int .i64, .int .i64], .lf .sl, .lf (.int .i64)] fun r3 =>
      nw (.cells #[.int .i64 0, .int .i64 0, .int .i64 0, .int .i64 0, .int .i64 0] 88) fun n2 =>
      st ⟨n2, 0, none⟩ [.int .i64 r3.1.1, .int .i64 r3.1.2.1, .int .i64 r3.1.2.2.1, .int .i64 r3.1.2.2.2.1, .int .i64 r3.1.2.2.2.2.1] <|
      ifB ((r3.2.2.1 : Int) != 0) (
       K (.tuple #[.string (ByteArray.mk #[]), .slice none 0 0, .int .i64 8])) (
       jn (fun y1 : RsV [.lf (.int .i64)] =>
        nw (.cells #[.slice r3.2.1.a r3.2.1.len r3.2.1.cap] 44) fun n3 =>
        smW PP (Builtin.append_ #[66, 66] 66 #[.slice z1.1.a z1.1.len z1.1.cap, .slice (some ⟨n3, 0, none⟩) 1 1]) [.lf .sl] fun v11 =>
        go1 (⟨v11.1.a, v11.1.len, v11.1.cap⟩, y1.1, ())) fun j1 =>
       ifB ((z1.1.len : Int) == 0) (
         ld ⟨n2, 0, none⟩ (.lf (.int .i64)) fun v4 =>
         ifB ((v4 : Int) != 2) (
          K (.tuple #[.string (ByteArray.mk #[]), .slice none 0 0, .int .i64 8])) (
          ld (Addr.add ⟨n2, 0, none⟩ 1) (.lf (.int .i64)) fun v5 =>
          ifB ((v5 : Int) != 0) (
           K (.tuple #[.string (ByteArray.mk #[]), .slice none 0 0, .int .i64 8])) (
           ld (Addr.add ⟨n2, 0, none⟩ 3) (.lf (.int .i64)) fun v6 =>
           ld (Addr.add ⟨n1, 0, none⟩ 2) (.lf (.int .i64)) fun v7 =>
           ifB ((v6 : Int) != v7) (
            K (.tuple #[.string (ByteArray.mk #[]), .slice none 0 0, .int .i64 8])) (
            ld (Addr.add ⟨n2, 0, none⟩ 4) (.lf (.int .i64)) fun v8 =>
            ld (Addr.add ⟨n1, 0, none⟩ 1) (.lf (.int .i64)) fun v9 =>
            ifB ((v8 : Int) != v9) (
             K (.tuple #[.string (ByteArray.mk #[]), .slice none 0 0, .int .i64 8])) (
             ld (Addr.add ⟨n2, 0, none⟩ 2) (.lf (.int .i64)) fun v10 =>
             j1 (v10, ())))))) (
         j1 (z1.2.1, ()))))) (
     cl PP 32 #[.slice z1.1.a z1.1.len z1.1.cap] [.lf .str, .lf .sl, .lf (.int .i64)] fun r4 =>
     K (.tuple #[.string r4.1, .slice r4.2.1.a r4.2.1.len r4.2.1.cap, .int .i64 r4.2.2.1])))
theorem e8 (x0 : Option Addr) (x1 : ShV (.agg [.int .i64, .int .i64, .int .i64])) (K : Value → HP) : flatFn PP h8 Tryd.f8 [.pointer x0, .agg #[.int .i64 x1.1, .int .i64 x1.2.1, .int .i64 x1.2.2.1]] K = t8 x0 x1 K := by kernel_rfl

/-- depot/flash.New -/
def h9 : Hints := ⟨[(0, [(34, .lf (.int .i64))])], [], []⟩
def t9 (x0 : ShV (.agg [.int .i64, .int .i64, .int .i64, .int .i64])) (K : Value → HP) : HP :=
  nw (.cells #[.int .i64 x0.1, .int .i64 x0.2.1, .int .i64 x0.2.2.1, .int .i64 x0.2.2.2.1] 23) fun n1 =>
  ld ⟨n1, 0, none⟩ (.lf (.int .i64)) fun v1 =>
  cl PP 33 #[.int .i64 v1, .int .i64 2, .int .i64 16] [.lf .bool] fun r1 =>
  ifB r1.1 (
   ld (Addr.add ⟨n1, 0, none⟩ 1) (.lf (.int .i64)) fun v2 =>
   cl PP 33 #[.int .i64 v2, .int .i64 4, .int .i64 16] [.lf .bool] fun r2 =>
   ifB (!r2.1) (
    K (.tuple #[.pointer none, .int .i64 30])) (
    ld (Addr.add ⟨n1, 0, none⟩ 2) (.lf (.int .i64)) fun v3 =>
    cl PP 33 #[.int .i64 v3, .int .i64 64, .int .i64 512] [.lf .bool] fun r3 =>
    ifB (!r3.1) (
     K (.tuple #[.pointer none, .int .i64 30])) (
     ld (Addr.add ⟨n1, 0, none⟩ 3) (.lf (.int .i64)) fun v4 =>
     cl PP 33 #[.int .i64 v4, .int .i64 1, .int .i64 1048576] [.lf .bool] fun r4 =>
     ifB (!r4.1) (
      K (.tuple #[.pointer none, .int .i64 30])) (
      ld ⟨n1, 0, none⟩ (.agg [.int .i64, .int .i64, .int .i64, .int .i64]) fun v5 =>
      nw (.cells #[.int .i64 0, .int .i64 0, .bool false, .int .i64 v5.1, .int .i64 v5.2.1, .int .i64 v5.2.2.1, .int .i64 v5.2.2.2.1, .slice none 0 0, .int .i64 0, .slice none 0 0] 85) fun n2 =>
      ld ⟨n1, 0, none⟩ (.lf (.int .i64)) fun v6 =>
      lp [.lf (.int .i64)] (0, ()) fun z1 go1 =>   -- 
       ifB (decide ((z1.1 : Int) < v6)) (
        ld (Addr.add ⟨n1, 0, none⟩ 1) (.lf (.int .i64)) fun v7 =>
        smA PP (Instr.makeSlice 66 (.int .i64 v7) (.int .i64 v7)) (.lf .sl) fun v8 =>
        nw (.cells #[.slice v8.a v8.len v8.cap, .int .i64 0, .int .i64 0, .bool false] 95) fun n3 =>
        ld (Addr.add ⟨n1, 0, none⟩ 1) (.lf (.int .i64)) fun v9 =>
        ld (Addr.add ⟨n1, 0, none⟩ 2) (.lf (.int .i64)) fun v10 =>
        cl PP 34 #[.pointer (some ⟨n3, 0, none⟩), .int .i64 v9, .int .i64 v10] [] fun r5 =>
        ld (Addr.add ⟨n2, 0, none⟩ 7) (.lf .sl) fun v11 =>
        nw (.cells #[.pointer (some ⟨n3, 0, none⟩)] 93) fun n4 =>
        smW PP (Builtin.append_ #[82, 82] 82 #[.slice v11.a v11.len v11.cap, .slice (some ⟨n4, 0, none⟩) 1 1]) [.lf .sl] fun v12 =>
        st (Addr.add ⟨n2, 0, none⟩ 7) [.slice v12.1.a v12.1.len v12.1.cap] <|
        go1 (IntKind.i64.wrap (z1.1 + 1), ())) (
        K (.tuple #[.pointer (some ⟨n2, 0, none⟩), .int .i64 0])))))) (
   K (.tuple #[.pointer none, .int .i64 30]))
theorem e9 (x0 : ShV (.agg [.int .i64, .int .i64, .int .i64, .int .i64])) (K : Value → HP) : flatFn PP h9 Tryd.f9 [.agg #[.int .i64 x0.1, .int .i64 x0.2.1, .int .i64 x0.2.2.1, .int .i64 x0.2.2.2.1]] K = t9 x0 K := by kernel_rfl

/-- depot/depotref21.New -/
def h10 : Hints := ⟨[(0, [(5, .lf (.int .i64))]), (2, [(6, .lf .sl), (7, .lf (.int .i64))])], [], []⟩
def t10 (x0 : ShV (.agg [.int .i64, .int .i64, .int .i64, .int .i64])) (K : Value → HP) : HP :=
  nw (.cells #[.int .i64 x0.1, .int .i64 x0.2.1, .int .i64 x0.2.2.1, .int .i64 x0.2.2.2.1] 23) fun n1 =>
  ld ⟨n1, 0, none⟩ (.agg [.int .i64, .int .i64, .int .i64, .int .i64]) fun v1 =>
  cl PP 35 #[.agg #[.int .i64 v1.1, .int .i64 v1.2.1, .int .i64 v1.2.2.1, .int .i64 v1.2.2.2.1]] [.lf .bool] fun r1 =>
  ifB (!r1.1) (
   K (.tuple #[.pointer none, .int .i64 30])) (
   ld ⟨n1, 0, none⟩ (.agg [.int .i64, .int .i64, .int .i64, .int .i64]) fun v2 =>
   nw (.cells #[.int .i64 v2.1, .int .i64 v2.2.1, .int .i64 v2.2.2.1, .int .i64 v2.2.2.2.1, .slice none 0 0, .slice none 0 0, .slice none 0 0, .slice none 0 0, .int .i64 0, .bool false, .int .i64 0, .int .i64 0, .slice none 0 0] 101) fun n2 =>
   lp [.lf (.int .i64)] (0, ()) fun z1 go1 =>   -- b
    ld ⟨n1, 0, none⟩ (.lf (.int .i64)) fun v3 =>
    ifB (decide ((z1.1 : Int) < v3)) (
     lp [.lf .sl, .lf (.int .i64)] (⟨none, 0, 0⟩, 0, ()) fun z2 go2 =>   -- l, p
      ld (Addr.add ⟨n1, 0, none⟩ 1) (.lf (.int .i64)) fun v4 =>
      ifB (decide ((z2.2.1 : Int) < v4)) (
       ld (Addr.add ⟨n1, 0, none⟩ 2) (.lf (.int .i64)) fun v5 =>
       cl PP 36 #[.int .i64 v5] [.lf .str] fun r2 =>
       nw (.cells #[.string r2.1] 9) fun n3 =>
       smW PP (Builtin.append_ #[102, 102] 102 #[.slice z2.1.a z2.1.len z2.1.cap, .slice (some ⟨n3, 0, none⟩) 1 1]) [.lf .sl] fun v6 =>
       go2 (⟨v6.1.a, v6.1.len, v6.1.cap⟩, IntKind.i64.wrap (z2.2.1 + 1), ())) (
       ld (Addr.add ⟨n2, 0, none⟩ 4) (.lf .sl) fun v7 =>
       nw (.cells #[.slice z2.1.a z2.1.len z2.1.cap] 102) fun n4 =>
       smW PP (Builtin.append_ #[97, 97] 97 #[.slice v7.a v7.len v7.cap, .slice (some ⟨n4, 0, none⟩) 1 1]) [.lf .sl] fun v8 =>
       st (Addr.add ⟨n2, 0, none⟩ 4) [.slice v8.1.a v8.1.len v8.1.cap] <|
       ld (Addr.add ⟨n2, 0, none⟩ 5) (.lf .sl) fun v9 =>
       nw (.cells #[.int .i64 0] 3) fun n5 =>
       smW PP (Builtin.append_ #[98, 98] 98 #[.slice v9.a v9.len v9.cap, .slice (some ⟨n5, 0, none⟩) 1 1]) [.lf .sl] fun v10 =>
       st (Addr.add ⟨n2, 0, none⟩ 5) [.slice v10.1.a v10.1.len v10.1.cap] <|
       ld (Addr.add ⟨n2, 0, none⟩ 6) (.lf .sl) fun v11 =>
       nw (.cells #[.int .i64 0] 3) fun n6 =>
       smW PP (Builtin.append_ #[98, 98] 98 #[.slice v11.a v11.len v11.cap, .slice (some ⟨n6, 0, none⟩) 1 1]) [.lf .sl] fun v12 =>
       st (Addr.add ⟨n2, 0, none⟩ 6) [.slice v12.1.a v12.1.len v12.1.cap] <|
       ld (Addr.add ⟨n2, 0, none⟩ 7) (.lf .sl) fun v13 =>
       nw (.cells #[.bool false] 4) fun n7 =>
       smW PP (Builtin.append_ #[99, 99] 99 #[.slice v13.a v13.len v13.cap, .slice (some ⟨n7, 0, none⟩) 1 1]) [.lf .sl] fun v14 =>
       st (Addr.add ⟨n2, 0, none⟩ 7) [.slice v14.1.a v14.1.len v14.1.cap] <|
       go1 (IntKind.i64.wrap (z1.1 + 1), ()))) (
     K (.tuple #[.pointer (some ⟨n2, 0, none⟩), .int .i64 0])))
theorem e10 (x0 : ShV (.agg [.int .i64, .int .i64, .int .i64, .int .i64])) (K : Value → HP) : flatFn PP h10 Tryd.f10 [.agg #[.int .i64 x0.1, .int .i64 x0.2.1, .int .i64 x0.2.2.1, .int .i64 x0.2.2.2.1]] K = t10 x0 K := by kernel_rfl

/-- (*depot/flash.Flash).Program -/
def h11 : Hints := ⟨[], [], [(18, [0, 1, 2, 3, 5, 6, 8, 11, 4, 7, 9, 10, 12, 13, 14, 15, 16, 17, 18]), (17, [0, 1, 2, 3, 4, 5, 6, 7, 8, 9, 10, 11, 12]), (13, [0, 1, 2, 4, 5, 6, 7, 3, 8, 9, 10, 11, 12])]⟩
def t11 (x0 : Option Addr) (x1 : Int) (x2 : Int) (x3 : SlV) (K : Value → HP) : HP :=
  cl PP 37 #[.pointer x0, .int .i64 x1, .int .i64 x2] [.lf .ptr, .lf (.int .i64)] fun r1 =>
  ifB ((r1.2.1 : Int) != 0) (
   K (.int .i64 r1.2.1)) (
   nilc x0 fun a1 =>
   ld (Addr.add (Addr.add a1 3) 2) (.lf (.int .i64)) fun v1 =>
   ifB ((x3.len : Int) != v1) (
    K (.int .i64 2)) (
    nilc r1.1 fun a2 =>
    ld (Addr.add a2 3) (.lf .bool) fun v2 =>
    ifB v2 (
     K (.int .i64 10)) (
     nilc r1.1 fun a3 =>
     ld (Addr.add a3 1) (.lf (.int .i64)) fun v3 =>
     ifB ((v3 : Int) != x2) (
      K (.int .i64 9)) (
      nilc x0 fun a4 =>
      ld (Addr.add (Addr.add a4 3) 2) (.lf (.int .i64)) fun v4 =>
      cl PP 38 #[.int .i64 v4] [.lf .sl] fun r2 =>
      nilc r1.1 fun a5 =>
      ld a5 (.lf .sl) fun v5 =>
      nilc v5.a fun a6 =>
      ixn x2 v5.len <|
      st (Addr.add a6 (x2.toNat * 1)) [.slice r2.1.a r2.1.len r2.1.cap] <|
      nilc r1.1 fun a7 =>
      ld (Addr.add a7 1) (.lf (.int .i64)) fun v6 =>
      nilc r1.1 fun a8 =>
      st (Addr.add a8 1) [.int .i64 (IntKind.i64.wrap (v6 + 1))] <|
      nilc x0 fun a9 =>
      nilc x0 fun a10 =>
      ld (Addr.add a9 8) (.lf (.int .i64)) fun v7 =>
      ld (Addr.add (Addr.add a10 3) 2) (.lf (.int .i64)) fun v8 =>
      nilc x0 fun a11 =>
      st (Addr.add a11 8) [.int .i64 (IntKind.i64.wrap (v7 + v8))] <|
      nilc x0 fun a12 =>
      cl PP 39 #[.pointer (some a12)] [.lf .bool] fun r3 =>
      ifB (!r3.1) (
       smW PP (Builtin.copy_ #[44, 44] 3 #[.slice r2.1.a r2.1.len r2.1.cap, .slice x3.a x3.len x3.cap]) [.lf (.int .i64)] fun v9 =>
       K (.int .i64 0)) (
       nilc x0 fun a13 =>
       nilc x0 fun a14 =>
       ld (Addr.add (Addr.add a14 3) 2) (.lf (.int .i64)) fun v10 =>
       cl PP 40 #[.pointer (some a13), .int .i64 v10] [.lf (.int .i64)] fun r4 =>
       slc ⟨x3.a, x3.len, x3.cap⟩ 0 r4.1 x3.cap 1 fun s1 =>
       smW PP (Builtin.copy_ #[44, 44] 3 #[.slice r2.1.a r2.1.len r2.1.cap, .slice s1.a s1.len s1.cap]) [.lf (.int .i64)] fun v11 =>
       nilc x0 fun a15 =>
       ld (Addr.add a15 9) (.lf .sl) fun v12 =>
       nw (.cells #[] 5) fun n1 =>
       smW PP (Builtin.append_ #[44, 44] 44 #[.slice (some ⟨n1, 0, none⟩) 0 0, .slice x3.a x3.len x3.cap]) [.lf .sl] fun v13 =>
       keep (LdAt (Addr.add a15 9) [.slice v12.a v12.len v12.cap]) <|
       nw (.cells #[] 5) fun n2 =>
       smW PP (Builtin.append_ #[44, 44] 44 #[.slice (some ⟨n2, 0, none⟩) 0 0, .slice r2.1.a r2.1.len r2.1.cap]) [.lf .sl] fun v14 =>
       keep (LdAt (Addr.add a15 9) [.slice v12.a v12.len v12.cap]) <|
       nw (.cells #[.int .i64 x1, .int .i64 x2, .slice v13.1.a v13.1.len v13.1.cap, .slice v14.1.a v14.1.len v14.1.cap] 108) fun n3 =>
       smW PP (Builtin.append_ #[83, 83] 83 #[.slice v12.a v12.len v12.cap, .slice (some ⟨n3, 0, none⟩) 1 1]) [.lf .sl] fun v15 =>
       nilc x0 fun a16 =>
       st (Addr.add a16 9) [.slice v15.1.a v15.1.len v15.1.cap] <|
       K (.int .i64 11))))))
theorem e11 (x0 : Option Addr) (x1 : Int) (x2 : Int) (x3 : SlV) (K : Value → HP) : flatFn PP h11 Tryd.f11 [.pointer x0, .int .i64 x1, .int .i64 x2, .slice x3.a x3.len x3.cap] K = t11 x0 x1 x2 x3 K := by kernel_rfl

/-- (*depot/depotref21.Flash).Program -/
def h12 : Hints := ⟨[], [], [(16, [0, 1, 2, 3, 5, 6, 8, 10, 11, 12, 14, 17, 4, 13, 15, 16, 18, 19, 7, 9, 20, 21, 22, 23, 24, 25, 26]), (15, [0, 1, 2, 4, 7, 8, 9, 10, 12, 13, 14, 15, 17, 3, 5, 6, 11, 16, 18, 19, 20, 21, 22]), (14, [0, 1, 2, 5, 6, 7, 8, 3, 4, 9, 10, 11]), (11, [0, 1, 2, 4, 7, 8, 3, 5, 6, 9, 10, 11]), (10, [0, 1, 2, 3, 5, 6, 7, 8, 4, 9, 10, 11, 12, 13])]⟩
def t12 (x0 : Option Addr) (x1 : Int) (x2 : Int) (x3 : SlV) (K : Value → HP) : HP :=
  nilc x0 fun a1 =>
  ld (Addr.add a1 9) (.lf .bool) fun v1 =>
  ifB v1 (
   K (.int .i64 11)) (
   cl PP 41 #[.pointer x0, .int .i64 x1, .int .i64 x2] [.lf .bool] fun r1 =>
   ifB (!r1.1) (
    K (.int .i64 2)) (
    nilc x0 fun a2 =>
    ld (Addr.add a2 2) (.lf (.int .i64)) fun v2 =>
    ifB ((x3.len : Int) != v2) (
     K (.int .i64 2)) (
     nilc x0 fun a3 =>
     ld (Addr.add a3 7) (.lf .sl) fun v3 =>
     nilc v3.a fun a4 =>
     ixn x1 v3.len <|
     ld (Addr.add a4 (x1.toNat * 1)) (.lf .bool) fun v4 =>
     ifB v4 (
      K (.int .i64 10)) (
      nilc x0 fun a5 =>
      ld (Addr.add a5 5) (.lf .sl) fun v5 =>
      nilc v5.a fun a6 =>
      ixn x1 v5.len <|
      ld (Addr.add a6 (x1.toNat * 1)) (.lf (.int .i64)) fun v6 =>
      ifB ((v6 : Int) != x2) (
       K (.int .i64 9)) (
       nilc x0 fun a7 =>
       ld (Addr.add a7 5) (.lf .sl) fun v7 =>
       nilc v7.a fun a8 =>
       ixn x1 v7.len <|
       st (Addr.add a8 (x1.toNat * 1)) [.int .i64 (IntKind.i64.wrap (x2 + 1))] <|
       nilc x0 fun a9 =>
       nilc x0 fun a10 =>
       ld (Addr.add a9 8) (.lf (.int .i64)) fun v8 =>
       ld (Addr.add a10 2) (.lf (.int .i64)) fun v9 =>
       nilc x0 fun a11 =>
       st (Addr.add a11 8) [.int .i64 (IntKind.i64.wrap (v8 + v9))] <|
       nilc x0 fun a12 =>
       ld (Addr.add a12 4) (.lf .sl) fun v10 =>
       nilc v10.a fun a13 =>
       ixn x1 v10.len <|
       ld (Addr.add a13 (x1.toNat * 1)) (.lf .sl) fun v11 =>
       smR PP (Conv.bytesToString (.slice x3.a x3.len x3.cap)) [.lf .str] fun v12 =>
       nilc v11.a fun a14 =>
       ixn x2 v11.len <|
       st (Addr.add a14 (x2.toNat * 1)) [.string v12.1] <|
       cl PP 42 #[.pointer x0] [.lf .bool] fun r2 =>
       ifB (!r2.1) (
        K (.int .i64 0)) (
        nilc x0 fun a15 =>
        nilc x0 fun a16 =>
        ld (Addr.add a15 11) (.lf (.int .i64)) fun v13 =>
        ld (Addr.add a16 2) (.lf (.int .i64)) fun v14 =>
        nilc x0 fun a17 =>
        slc ⟨x3.a, x3.len, x3.cap⟩ 0 (imin (imax v13 0) v14) x3.cap 1 fun s1 =>
        nilc x0 fun a18 =>
        ld (Addr.add a17 4) (.lf .sl) fun v15 =>
        nilc v15.a fun a19 =>
        ixn x1 v15.len <|
        ld (Addr.add a19 (x1.toNat * 1)) (.lf .sl) fun v16 =>
        smR PP (Conv.bytesToString (.slice s1.a s1.len s1.cap)) [.lf .str] fun v17 =>
        ld (Addr.add a18 2) (.lf (.int .i64)) fun v18 =>
        cl PP 36 #[.int .i64 (IntKind.i64.wrap (v18 - (imin (imax v13 0) v14)))] [.lf .str] fun r3 =>
        keep (RdV PP (Conv.bytesToString (.slice s1.a s1.len s1.cap)) (.string v17.1)) <|
        keep (LdAt (Addr.add a19 (x1.toNat * 1)) [.slice v16.a v16.len v16.cap]) <|
        keep (LdAt (Addr.add a17 4) [.slice v15.a v15.len v15.cap]) <|
        req (((v17.1.size + r3.1.size : Nat) : Int) ≤ IntKind.i64.max) <|
        nilc v16.a fun a20 =>
        ixn x2 v16.len <|
        st (Addr.add a20 (x2.toNat * 1)) [.string (v17.1 ++ r3.1)] <|
        nilc x0 fun a21 =>
        nilc x0 fun a22 =>
        ld (Addr.add a21 12) (.lf .sl) fun v19 =>
        ld (Addr.add a22 4) (.lf .sl) fun v20 =>
        nilc v20.a fun a23 =>
        ixn x1 v20.len <|
        ld (Addr.add a23 (x1.toNat * 1)) (.lf .sl) fun v21 =>
        nilc v21.a fun a24 =>
        ixn x2 v21.len <|
        ld (Addr.add a24 (x2.toNat * 1)) (.lf .str) fun v22 =>
        nw (.cells #[] 5) fun n1 =>
        smW PP (Builtin.append_ #[44, 44] 44 #[.slice (some ⟨n1, 0, none⟩) 0 0, .slice x3.a x3.len x3.cap]) [.lf .sl] fun v23 =>
        keep (LdAt (Addr.add a24 (x2.toNat * 1)) [.string v22]) <|
        keep (LdAt (Addr.add a23 (x1.toNat * 1)) [.slice v21.a v21.len v21.cap]) <|
        keep (LdAt (Addr.add a22 4) [.slice v20.a v20.len v20.cap]) <|
        keep (LdAt (Addr.add a21 12) [.slice v19.a v19.len v19.cap]) <|
        smA PP (Conv.stringToBytes 5 v22) (.lf .sl) fun v24 =>
        nw (.cells #[.int .i64 x1, .int .i64 x2, .slice v23.1.a v23.1.len v23.1.cap, .slice v24.a v24.len v24.cap] 108) fun n2 =>
        smW PP (Builtin.append_ #[83, 83] 83 #[.slice v19.a v19.len v19.cap, .slice (some ⟨n2, 0, none⟩) 1 1]) [.lf .sl] fun v25 =>
        nilc x0 fun a25 =>
        st (Addr.add a25 12) [.slice v25.1.a v25.1.len v25.1.cap] <|
        K (.int .i64 11)))))))
theorem e12 (x0 : Option Addr) (x1 : Int) (x2 : Int) (x3 : SlV) (K : Value → HP) : flatFn PP h12 Tryd.f12 [.pointer x0, .int .i64 x1, .int .i64 x2, .slice x3.a x3.len x3.cap] K = t12 x0 x1 x2 x3 K := by kernel_rfl

/-- (*depot/flash.Flash).Erase -/
def h13 : Hints := ⟨[], [], [(10, [0, 1, 2, 3, 4, 6, 7, 8, 9, 5, 10, 11]), (7, [0, 1, 2, 3, 4, 5, 6, 7, 10, 11, 12, 13, 8, 14, 9, 15])]⟩
def t13 (x0 : Option Addr) (x1 : Int) (K : Value → HP) : HP :=
  cl PP 37 #[.pointer x0, .int .i64 x1, .int .i64 0] [.lf .ptr, .lf (.int .i64)] fun r1 =>
  ifB ((r1.2.1 : Int) != 0) (
   K (.int .i64 r1.2.1)) (
   nilc r1.1 fun a1 =>
   ld (Addr.add a1 3) (.lf .bool) fun v1 =>
   ifB v1 (
    K (.int .i64 10)) (
    nilc x0 fun a2 =>
    cl PP 39 #[.pointer (some a2)] [.lf .bool] fun r2 =>
    ifB r2.1 (
     nilc x0 fun a3 =>
     nilc x0 fun a4 =>
     nilc x0 fun a5 =>
     ld (Addr.add (Addr.add a4 3) 1) (.lf (.int .i64)) fun v2 =>
     ld (Addr.add (Addr.add a5 3) 2) (.lf (.int .i64)) fun v3 =>
     cl PP 40 #[.pointer (some a3), .int .i64 v2] [.lf (.int .i64)] fun r3 =>
     keep (LdAt (Addr.add (Addr.add a5 3) 2) [.int .i64 v3]) <|
     cl PP 34 #[.pointer r1.1, .int .i64 r3.1, .int .i64 v3] [] fun r4 =>
     nilc x0 fun a6 =>
     ld (Addr.add (Addr.add a6 3) 1) (.lf (.int .i64)) fun v4 =>
     nilc r1.1 fun a7 =>
     st (Addr.add a7 1) [.int .i64 v4] <|
     K (.int .i64 11)) (
     nilc x0 fun a8 =>
     nilc x0 fun a9 =>
     ld (Addr.add (Addr.add a8 3) 1) (.lf (.int .i64)) fun v5 =>
     ld (Addr.add (Addr.add a9 3) 2) (.lf (.int .i64)) fun v6 =>
     cl PP 34 #[.pointer r1.1, .int .i64 v5, .int .i64 v6] [] fun r5 =>
     nilc x0 fun a10 =>
     ld (Addr.add (Addr.add a10 3) 3) (.lf (.int .i64)) fun v7 =>
     cl PP 43 #[.pointer r1.1, .int .i64 v7] [.lf .bool] fun r6 =>
     ifB r6.1 (
      K (.int .i64 10)) (
      K (.int .i64 0)))))
theorem e13 (x0 : Option Addr) (x1 : Int) (K : Value → HP) : flatFn PP h13 Tryd.f13 [.pointer x0, .int .i64 x1] K = t13 x0 x1 K := by kernel_rfl

/-- (*depot/depotref21.Flash).Erase -/
def h14 : Hints := ⟨[(0, [(7, .lf (.int .i64))])], [(11, [(6, .lf (.int .i64))])], [(20, [0, 1, 2, 4, 5, 6, 7, 9, 12, 13, 14, 15, 3, 8, 10, 11, 16, 17, 18, 19]), (19, [0, 1, 2, 4, 5, 6, 7, 9, 3, 8, 10, 11, 12, 13, 14]), (16, [0, 1, 2, 4, 5, 6, 7, 8, 3, 9, 10, 11]), (14, [0, 1, 2, 4, 7, 8, 9, 10, 11, 3, 5, 6, 12, 13, 14, 15])]⟩
def t14 (x0 : Option Addr) (x1 : Int) (K : Value → HP) : HP :=
  nilc x0 fun a1 =>
  ld (Addr.add a1 9) (.lf .bool) fun v1 =>
  ifB v1 (
   K (.int .i64 11)) (
   cl PP 41 #[.pointer x0, .int .i64 x1, .int .i64 0] [.lf .bool] fun r1 =>
   ifB (!r1.1) (
    K (.int .i64 2)) (
    nilc x0 fun a2 =>
    ld (Addr.add a2 7) (.lf .sl) fun v2 =>
    nilc v2.a fun a3 =>
    ixn x1 v2.len <|
    ld (Addr.add a3 (x1.toNat * 1)) (.lf .bool) fun v3 =>
    ifB v3 (
     K (.int .i64 10)) (
     cl PP 42 #[.pointer x0] [.lf .bool] fun r2 =>
     nilc x0 fun a4 =>
     ld (Addr.add a4 1) (.lf (.int .i64)) fun v4 =>
     jn (fun y1 : RsV [.lf (.int .i64)] =>
      lp [.lf (.int .i64)] (0, ()) fun z1 go1 =>   -- p
       ifB (decide ((z1.1 : Int) < y1.1)) (
        nilc x0 fun a6 =>
        nilc x0 fun a7 =>
        ld (Addr.add a6 4) (.lf .sl) fun v6 =>
        nilc v6.a fun a8 =>
        ixn x1 v6.len <|
        ld (Addr.add a8 (x1.toNat * 1)) (.lf .sl) fun v7 =>
        ld (Addr.add a7 2) (.lf (.int .i64)) fun v8 =>
        cl PP 36 #[.int .i64 v8] [.lf .str] fun r3 =>
        keep (LdAt (Addr.add a8 (x1.toNat * 1)) [.slice v7.a v7.len v7.cap]) <|
        keep (LdAt (Addr.add a6 4) [.slice v6.a v6.len v6.cap]) <|
        nilc v7.a fun a9 =>
        ixn z1.1 v7.len <|
        st (Addr.add a9 (z1.1.toNat * 1)) [.string r3.1] <|
        go1 (IntKind.i64.wrap (z1.1 + 1), ())) (
        ifB r2.1 (
         nilc x0 fun a10 =>
         nilc x0 fun a11 =>
         ld (Addr.add a10 5) (.lf .sl) fun v9 =>
         ld (Addr.add a11 1) (.lf (.int .i64)) fun v10 =>
         nilc v9.a fun a12 =>
         ixn x1 v9.len <|
         st (Addr.add a12 (x1.toNat * 1)) [.int .i64 v10] <|
         K (.int .i64 11)) (
         nilc x0 fun a13 =>
         ld (Addr.add a13 5) (.lf .sl) fun v11 =>
         nilc v11.a fun a14 =>
         ixn x1 v11.len <|
         st (Addr.add a14 (x1.toNat * 1)) [.int .i64 0] <|
         nilc x0 fun a15 =>
         nilc x0 fun a16 =>
         ld (Addr.add a15 6) (.lf .sl) fun v12 =>
         ld (Addr.add a16 6) (.lf .sl) fun v13 =>
         nilc v13.a fun a17 =>
         ixn x1 v13.len <|
         ld (Addr.add a17 (x1.toNat * 1)) (.lf (.int .i64)) fun v14 =>
         nilc v12.a fun a18 =>
         ixn x1 v12.len <|
         st (Addr.add a18 (x1.toNat * 1)) [.int .i64 (IntKind.i64.wrap (v14 + 1))] <|
         nilc x0 fun a19 =>
         nilc x0 fun a20 =>
         nilc x0 fun a21 =>
         ld (Addr.add a19 7) (.lf .sl) fun v15 =>
         ld (Addr.add a20 6) (.lf .sl) fun v16 =>
         nilc v16.a fun a22 =>
         ixn x1 v16.len <|
         ld (Addr.add a22 (x1.toNat * 1)) (.lf (.int .i64)) fun v17 =>
         ld (Addr.add a21 3) (.lf (.int .i64)) fun v18 =>
         nilc v15.a fun a23 =>
         ixn x1 v15.len <|
         st (Addr.add a23 (x1.toNat * 1)) [.bool ((v17 : Int) == v18)] <|
         nilc x0 fun a24 =>
         ld (Addr.add a24 7) (.lf .sl) fun v19 =>
         nilc v19.a fun a25 =>
         ixn x1 v19.len <|
         ld (Addr.add a25 (x1.toNat * 1)) (.lf .bool) fun v20 =>
         ifB v20 (
          K (.int .i64 10)) (
          K (.int .i64 0))))) fun j1 =>
     ifB r2.1 (
       nilc x0 fun a5 =>
       ld (Addr.add a5 11) (.lf (.int .i64)) fun v5 =>
       j1 (imin (imax v5 0) v4, ())) (
       j1 (v4, ())))))
theorem e14 (x0 : Option Addr) (x1 : Int) (K : Value → HP) : flatFn PP h14 Tryd.f14 [.pointer x0, .int .i64 x1] K = t14 x0 x1 K := by kernel_rfl

/-- (*depot/flash.Flash).Arm -/
def h15 : Hints := ⟨[], [], []⟩
def t15 (x0 : Option Addr) (x1 : Int) (x2 : Int) (K : Value → HP) : HP :=
  ifB (!(Option.isNone x0)) (
   nilc x0 fun a1 =>
   ld (Addr.add a1 2) (.lf .bool) fun v1 =>
   ifB (!v1) (
    nilc x0 fun a2 =>
    st a2 [.int .i64 (imax x1 0)] <|
    nilc x0 fun a3 =>
    st (Addr.add a3 1) [.int .i64 x2] <|
    K (.tuple #[])) (
    K (.tuple #[]))) (
   K (.tuple #[]))
theorem e15 (x0 : Option Addr) (x1 : Int) (x2 : Int) (K : Value → HP) : flatFn PP h15 Tryd.f15 [.pointer x0, .int .i64 x1, .int .i64 x2] K = t15 x0 x1 x2 K := by kernel_rfl

/-- (*depot/depotref21.Flash).Arm -/
def h16 : Hints := ⟨[], [], []⟩
def t16 (x0 : Option Addr) (x1 : Int) (x2 : Int) (K : Value → HP) : HP :=
  nilc x0 fun a1 =>
  ld (Addr.add a1 9) (.lf .bool) fun v1 =>
  ifB (!v1) (
   nilc x0 fun a2 =>
   st (Addr.add a2 10) [.int .i64 (imax x1 0)] <|
   nilc x0 fun a3 =>
   st (Addr.add a3 11) [.int .i64 x2] <|
   K (.tuple #[])) (
   K (.tuple #[]))
theorem e16 (x0 : Option Addr) (x1 : Int) (x2 : Int) (K : Value → HP) : flatFn PP h16 Tryd.f16 [.pointer x0, .int .i64 x1, .int .i64 x2] K = t16 x0 x1 x2 K := by kernel_rfl

/-- (*depot/flash.Flash).Restart -/
def h17 : Hints := ⟨[], [], []⟩
def t17 (x0 : Option Addr) (K : Value → HP) : HP :=
  ifB (!(Option.isNone x0)) (
   nilc x0 fun a1 =>
   st (Addr.add a1 2) [.bool false] <|
   nilc x0 fun a2 =>
   st a2 [.int .i64 0] <|
   K (.tuple #[])) (
   K (.tuple #[]))
theorem e17 (x0 : Option Addr) (K : Value → HP) : flatFn PP h17 Tryd.f17 [.pointer x0] K = t17 x0 K := by kernel_rfl

/-- (*depot/depotref21.Flash).Restart -/
def h18 : Hints := ⟨[], [], []⟩
def t18 (x0 : Option Addr) (K : Value → HP) : HP :=
  nilc x0 fun a1 =>
  st (Addr.add a1 9) [.bool false] <|
  nilc x0 fun a2 =>
  st (Addr.add a2 10) [.int .i64 0] <|
  K (.tuple #[])
theorem e18 (x0 : Option Addr) (K : Value → HP) : flatFn PP h18 Tryd.f18 [.pointer x0] K = t18 x0 K := by kernel_rfl

/-- depot/depotlaw30.device -/
def h19 : Hints := ⟨[], [], []⟩
def t19 (K : Value → HP) : HP :=
  nw (.cells #[.int .i64 0, .int .i64 0, .int .i64 0, .int .i64 0] 23) fun n1 =>
  st ⟨n1, 0, none⟩ [.int .i64 4, .int .i64 8, .int .i64 64, .int .i64 9] <|
  ld ⟨n1, 0, none⟩ (.agg [.int .i64, .int .i64, .int .i64, .int .i64]) fun v1 =>
  K (.agg #[.int .i64 v1.1, .int .i64 v1.2.1, .int .i64 v1.2.2.1, .int .i64 v1.2.2.2.1])
theorem e19 (K : Value → HP) : flatFn PP h19 Tryd.f19 [] K = t19 K := by kernel_rfl

/-- depot/region.Open -/
def h20 : Hints := ⟨[], [], []⟩
def t20 (x0 : Option Addr) (x1 : Int) (x2 : Int) (K : Value → HP) : HP :=
  cl PP 44 #[.pointer x0, .int .i64 x1, .agg #[.int .i64 1, .int .i64 0, .int .i64 1, .int .i64 x2, .int .i64 0], .slice none 0 0] [.lf (.int .i64)] fun r1 =>
  K (.int .i64 r1.1)
theorem e20 (x0 : Option Addr) (x1 : Int) (x2 : Int) (K : Value → HP) : flatFn PP h20 Tryd.f20 [.pointer x0, .int .i64 x1, .int .i64 x2] K = t20 x0 x1 x2 K := by kernel_rfl

/-- depot/depotlaw30.put -/
def h21 : Hints := ⟨[], [], []⟩
def t21 (x0 : Option Addr) (x1 : Int) (x2 : Int) (x3 : ByteArray) (x4 : ByteArray) (K : Value → HP) : HP :=
  smA PP (Conv.stringToBytes 5 x4) (.lf .sl) fun v1 =>
  cl PP 19 #[] [.agg [.int .i64, .int .i64, .int .i64, .int .i64]] fun r1 =>
  cl PP 45 #[.string x3, .slice v1.a v1.len v1.cap, .agg #[.int .i64 r1.1.1, .int .i64 r1.1.2.1, .int .i64 r1.1.2.2.1, .int .i64 r1.1.2.2.2.1]] [.lf .sl, .lf (.int .i64)] fun r2 =>
  ifB ((r2.2.1 : Int) == 0) (
   cl PP 46 #[.pointer x0, .int .i64 x1] [.lf (.int .i64)] fun r3 =>
   cl PP 23 #[.pointer x0, .int .i64 x1, .int .i64 x2, .int .i64 r3.1, .int .i64 2, .slice r2.1.a r2.1.len r2.1.cap] [.lf (.int .i64)] fun r4 =>
   K (.bool ((r4.1 : Int) == 0))) (
   K (.bool false))
theorem e21 (x0 : Option Addr) (x1 : Int) (x2 : Int) (x3 : ByteArray) (x4 : ByteArray) (K : Value → HP) : flatFn PP h21 Tryd.f21 [.pointer x0, .int .i64 x1, .int .i64 x2, .string x3, .string x4] K = t21 x0 x1 x2 x3 x4 K := by kernel_rfl

/-- depot/region.KillLoad -/
def h22 : Hints := ⟨[(0, [(4, .lf .sl), (9, .lf (.int .i64))])], [], []⟩
def t22 (x0 : SlV) (K : Value → HP) : HP :=
  lp [.lf .sl, .lf (.int .i64)] (⟨none, 0, 0⟩, 0, ()) fun z1 go1 =>   -- b, 
   ifB (decide ((z1.2.1 : Int) < x0.len)) (
    nilc x0.a fun a1 =>
    ixn z1.2.1 x0.len <|
    ld (Addr.add a1 (z1.2.1.toNat * 3)) (.agg [.int .i64, .int .i64, .int .i64]) fun v1 =>
    nw (.cells #[.int .i64 0, .int .i64 0, .int .i64 0] 41) fun n1 =>
    st ⟨n1, 0, none⟩ [.int .i64 v1.1, .int .i64 v1.2.1, .int .i64 v1.2.2.1] <|
    ld ⟨n1, 0, none⟩ (.agg [.int .i64, .int .i64, .int .i64]) fun v2 =>
    cl PP 47 #[.agg #[.int .i64 v2.1, .int .i64 v2.2.1, .int .i64 v2.2.2.1]] [.lf .bool] fun r1 =>
    ifB (!r1.1) (
     K (.tuple #[.slice none 0 0, .int .i64 3])) (
     ld ⟨n1, 0, none⟩ (.lf (.int .i64)) fun v3 =>
     ld (Addr.add ⟨n1, 0, none⟩ 1) (.lf (.int .i64)) fun v4 =>
     nw (.cells #[.int .i64 v3, .int .i64 v4] 3) fun n2 =>
     cl PP 48 #[.slice z1.1.a z1.1.len z1.1.cap, .slice (some ⟨n2, 0, none⟩) 2 2] [.lf .sl, .lf .bool] fun r2 =>
     ld (Addr.add ⟨n1, 0, none⟩ 2) (.lf (.int .i64)) fun v5 =>
     cl PP 49 #[.slice r2.1.a r2.1.len r2.1.cap, .int .i64 v5, .int .i64 4] [.lf .sl, .lf (.int .i64)] fun r3 =>
     go1 (⟨r3.1.a, r3.1.len, r3.1.cap⟩, IntKind.i64.wrap (z1.2.1 + 1), ()))) (
    K (.tuple #[.slice z1.1.a z1.1.len z1.1.cap, .int .i64 0]))
theorem e22 (x0 : SlV) (K : Value → HP) : flatFn PP h22 Tryd.f22 [.slice x0.a x0.len x0.cap] K = t22 x0 K := by kernel_rfl

/-- depot/region.Append -/
def h23 : Hints := ⟨[(0, [(28, .lf (.int .i64))])], [], []⟩
def t23 (x0 : Option Addr) (x1 : Int) (x2 : Int) (x3 : Int) (x4 : Int) (x5 : SlV) (K : Value → HP) : HP :=
  ifB ((x5.len : Int) == 0) (
   K (.int .i64 2)) (
   nw (.cells #[.int .i64 0, .int .i64 0, .int .i64 0, .int .i64 0, .int .i64 0] 88) fun n1 =>
   st ⟨n1, 0, none⟩ [.int .i64 x4, .int .i64 0, .int .i64 x5.len, .int .i64 x2, .int .i64 x3] <|
   lp [.lf (.int .i64)] (0, ()) fun z1 go1 =>   -- 
    ifB (decide ((z1.1 : Int) < x5.len)) (
     nilc x5.a fun a1 =>
     ixn z1.1 x5.len <|
     ld (Addr.add a1 (z1.1.toNat * 1)) (.lf .sl) fun v1 =>
     st (Addr.add ⟨n1, 0, none⟩ 1) [.int .i64 z1.1] <|
     ld ⟨n1, 0, none⟩ (.agg [.int .i64, .int .i64, .int .i64, .int .i64, .int .i64]) fun v2 =>
     cl PP 44 #[.pointer x0, .int .i64 x1, .agg #[.int .i64 v2.1, .int .i64 v2.2.1, .int .i64 v2.2.2.1, .int .i64 v2.2.2.2.1, .int .i64 v2.2.2.2.2.1], .slice v1.a v1.len v1.cap] [.lf (.int .i64)] fun r1 =>
     ifB ((r1.1 : Int) != 0) (
      K (.int .i64 r1.1)) (
      ld (Addr.add ⟨n1, 0, none⟩ 4) (.lf (.int .i64)) fun v3 =>
      st (Addr.add ⟨n1, 0, none⟩ 4) [.int .i64 (IntKind.i64.wrap (v3 + 1))] <|
      go1 (IntKind.i64.wrap (z1.1 + 1), ()))) (
     K (.int .i64 0)))
theorem e23 (x0 : Option Addr) (x1 : Int) (x2 : Int) (x3 : Int) (x4 : Int) (x5 : SlV) (K : Value → HP) : flatFn PP h23 Tryd.f23 [.pointer x0, .int .i64 x1, .int .i64 x2, .int .i64 x3, .int .i64 x4, .slice x5.a x5.len x5.cap] K = t23 x0 x1 x2 x3 x4 x5 K := by kernel_rfl

/-- depot/rebuild.hold -/
def h24 : Hints := ⟨[(0, [(5, .lf .sl), (6, .lf .sl), (15, .lf (.int .i64))])], [], []⟩
def t24 (x0 : Option Addr) (K : Value → HP) : HP :=
  cl PP 50 #[.pointer x0] [.agg [.int .i64, .int .i64, .int .i64, .int .i64]] fun r1 =>
  lp [.lf .sl, .lf .sl, .lf (.int .i64)] (⟨none, 0, 0⟩, ⟨none, 0, 0⟩, 0, ()) fun z1 go1 =>   -- l, pages, 
   ifB (decide ((z1.2.2.1 : Int) < r1.1.1)) (
    cl PP 51 #[.pointer x0, .int .i64 z1.2.2.1] [.lf .sl, .lf (.int .i64)] fun r2 =>
    ifB ((r2.2.1 : Int) != 0) (
     K (.tuple #[.slice none 0 0, .slice none 0 0, .int .i64 r2.2.1])) (
     nw (.cells #[.slice r2.1.a r2.1.len r2.1.cap] 66) fun n1 =>
     smW PP (Builtin.append_ #[67, 67] 67 #[.slice z1.2.1.a z1.2.1.len z1.2.1.cap, .slice (some ⟨n1, 0, none⟩) 1 1]) [.lf .sl] fun v1 =>
     cl PP 52 #[.slice r2.1.a r2.1.len r2.1.cap] [.agg [.int .i64, .bool, .sl], .lf .bool] fun r3 =>
     nw (.cells #[.int .i64 0, .bool false, .slice none 0 0] 120) fun n2 =>
     st ⟨n2, 0, none⟩ [.int .i64 r3.1.1, .bool r3.1.2.1, .slice r3.1.2.2.1.a r3.1.2.2.1.len r3.1.2.2.1.cap] <|
     ifB r3.2.1 (
      ld ⟨n2, 0, none⟩ (.lf (.int .i64)) fun v2 =>
      ld (Addr.add ⟨n2, 0, none⟩ 2) (.lf .sl) fun v3 =>
      nw (.cells #[.int .i64 z1.2.2.1, .int .i64 v2, .slice v3.a v3.len v3.cap] 39) fun n3 =>
      smW PP (Builtin.append_ #[30, 30] 30 #[.slice z1.1.a z1.1.len z1.1.cap, .slice (some ⟨n3, 0, none⟩) 1 1]) [.lf .sl] fun v4 =>
      go1 (⟨v4.1.a, v4.1.len, v4.1.cap⟩, ⟨v1.1.a, v1.1.len, v1.1.cap⟩, IntKind.i64.wrap (z1.2.2.1 + 1), ())) (
      go1 (⟨z1.1.a, z1.1.len, z1.1.cap⟩, ⟨v1.1.a, v1.1.len, v1.1.cap⟩, IntKind.i64.wrap (z1.2.2.1 + 1), ())))) (
    cl PP 53 #[.slice z1.1.a z1.1.len z1.1.cap, .func (.func 54) #[] #[]] [] fun r4 =>
    K (.tuple #[.slice z1.1.a z1.1.len z1.1.cap, .slice z1.2.1.a z1.2.1.len z1.2.1.cap, .int .i64 0]))
theorem e24 (x0 : Option Addr) (K : Value → HP) : flatFn PP h24 Tryd.f24 [.pointer x0] K = t24 x0 K := by kernel_rfl

/-- depot/rebuild.each -/
def h25 : Hints := ⟨[(0, [(12, .lf (.int .i64))]), (2, [(19, .lf (.int .i64))])], [], []⟩
def t25 (x0 : SlV) (x1 : Int) (x2 : FnV) (K : Value → HP) : HP :=
  lp [.lf (.int .i64)] (0, ()) fun z1 go1 =>   -- 
   ifB (decide ((z1.1 : Int) < x0.len)) (
    nilc x0.a fun a1 =>
    ixn z1.1 x0.len <|
    ld (Addr.add a1 (z1.1.toNat * 3)) (.agg [.int .i64, .int .i64, .sl]) fun v1 =>
    nw (.cells #[.int .i64 0, .int .i64 0, .slice none 0 0] 39) fun n1 =>
    st ⟨n1, 0, none⟩ [.int .i64 v1.1, .int .i64 v1.2.1, .slice v1.2.2.1.a v1.2.2.1.len v1.2.2.1.cap] <|
    ld (Addr.add ⟨n1, 0, none⟩ 2) (.lf .sl) fun v2 =>
    lp [.lf (.int .i64)] (0, ()) fun z2 go2 =>   -- 
     ifB (decide ((z2.1 : Int) < v2.len)) (
      nilc v2.a fun a2 =>
      ixn z2.1 v2.len <|
      ld (Addr.add a2 (z2.1.toNat * 3)) (.agg [.int .i64, .int .i64, .int .i64]) fun v3 =>
      nw (.cells #[.int .i64 0, .int .i64 0, .int .i64 0] 73) fun n2 =>
      st ⟨n2, 0, none⟩ [.int .i64 v3.1, .int .i64 v3.2.1, .int .i64 v3.2.2.1] <|
      ld ⟨n2, 0, none⟩ (.lf (.int .i64)) fun v4 =>
      ifB ((v4 : Int) == x1) (
       ld ⟨n1, 0, none⟩ (.agg [.int .i64, .int .i64, .sl]) fun v5 =>
       ld ⟨n2, 0, none⟩ (.agg [.int .i64, .int .i64, .int .i64]) fun v6 =>
       clv PP x2.fn (x2.first ++ #[.agg #[.int .i64 v5.1, .int .i64 v5.2.1, .slice v5.2.2.1.a v5.2.2.1.len v5.2.2.1.cap], .agg #[.int .i64 v6.1, .int .i64 v6.2.1, .int .i64 v6.2.2.1]]) x2.captured [] fun r1 =>
       go2 (IntKind.i64.wrap (z2.1 + 1), ())) (
       go2 (IntKind.i64.wrap (z2.1 + 1), ()))) (
      go1 (IntKind.i64.wrap (z1.1 + 1), ()))) (
    K (.tuple #[]))
theorem e25 (x0 : SlV) (x1 : Int) (x2 : FnV) (K : Value → HP) : flatFn PP h25 Tryd.f25 [.slice x0.a x0.len x0.cap, .int .i64 x1, .func x2.fn x2.first x2.captured] K = t25 x0 x1 x2 K := by kernel_rfl

end Go.Proofs.YtlabcgnegbdlfaaDoor
set_option linter.unusedVariables false
set_option maxRecDepth 100000
namespace Go.Proofs.YtlabcgnegbdlfaaDoor
open Go.HL
/-- depot/rebuild.Read$1 -/
def h26 : Hints := ⟨[], [], []⟩
def t26 (x0 : ShV (.agg [.int .i64, .int .i64, .sl])) (x1 : ShV (.agg [.int .i64, .int .i64, .int .i64])) (x2 : Option Addr) (x3 : Option Addr) (x4 : Option Addr) (K : Value → HP) : HP :=
  nw (.cells #[.int .i64 x0.1, .int .i64 x0.2.1, .slice x0.2.2.1.a x0.2.2.1.len x0.2.2.1.cap] 39) fun n1 =>
  nw (.cells #[.int .i64 x1.1, .int .i64 x1.2.1, .int .i64 x1.2.2.1] 73) fun n2 =>
  ld ⟨n1, 0, none⟩ (.lf (.int .i64)) fun v1 =>
  ld (Addr.add ⟨n2, 0, none⟩ 1) (.lf (.int .i64)) fun v2 =>
  ld (Addr.add ⟨n1, 0, none⟩ 1) (.lf (.int .i64)) fun v3 =>
  nw (.cells #[.int .i64 0, .int .i64 0, .int .i64 0] 41) fun n3 =>
  st ⟨n3, 0, none⟩ [.int .i64 v1, .int .i64 v2, .int .i64 v3] <|
  nilc x2 fun a1 =>
  ld a1 (.lf .ptr) fun v4 =>
  ld ⟨n3, 0, none⟩ (.agg [.int .i64, .int .i64, .int .i64]) fun v5 =>
  cl PP 8 #[.pointer v4, .agg #[.int .i64 v5.1, .int .i64 v5.2.1, .int .i64 v5.2.2.1]] [.lf .str, .lf .sl, .lf (.int .i64)] fun r1 =>
  ifB ((r1.2.2.1 : Int) == 0) (
   nilc x3 fun a2 =>
   ld a2 (.lf .sl) fun v6 =>
   ld ⟨n3, 0, none⟩ (.agg [.int .i64, .int .i64, .int .i64]) fun v7 =>
   nw (.cells #[.string r1.1, .int .i64 v7.1, .int .i64 v7.2.1, .int .i64 v7.2.2.1] 43) fun n4 =>
   smW PP (Builtin.append_ #[31, 31] 31 #[.slice v6.a v6.len v6.cap, .slice (some ⟨n4, 0, none⟩) 1 1]) [.lf .sl] fun v8 =>
   nilc x3 fun a3 =>
   st a3 [.slice v8.1.a v8.1.len v8.1.cap] <|
   nilc x4 fun a4 =>
   ld a4 (.lf .map) fun v9 =>
   ld ⟨n3, 0, none⟩ (.agg [.int .i64, .int .i64, .int .i64]) fun v10 =>
   smU PP (Instr.mapUpdate 70 (.map v9) (.string r1.1) (.agg #[.int .i64 v10.1, .int .i64 v10.2.1, .int .i64 v10.2.2.1])) <|
   K (.tuple #[])) (
   K (.tuple #[]))
theorem e26 (x0 : ShV (.agg [.int .i64, .int .i64, .sl])) (x1 : ShV (.agg [.int .i64, .int .i64, .int .i64])) (x2 : Option Addr) (x3 : Option Addr) (x4 : Option Addr) (K : Value → HP) : flatFn PP h26 Tryd.f26 [.agg #[.int .i64 x0.1, .int .i64 x0.2.1, .slice x0.2.2.1.a x0.2.2.1.len x0.2.2.1.cap], .agg #[.int .i64 x1.1, .int .i64 x1.2.1, .int .i64 x1.2.2.1], .pointer x2, .pointer x3, .pointer x4] K = t26 x0 x1 x2 x3 x4 K := by kernel_rfl

/-- depot/rebuild.Read$2 -/
def h27 : Hints := ⟨[(0, [(20, .lf (.int .i64))]), (2, [(31, .lf (.int .i64))])], [], [(1, [1, 8, 0, 2, 3, 4, 5, 6, 7])]⟩
def t27 (x0 : ShV (.agg [.int .i64, .int .i64, .sl])) (x1 : ShV (.agg [.int .i64, .int .i64, .int .i64])) (x2 : Option Addr) (x3 : Option Addr) (K : Value → HP) : HP :=
  nw (.cells #[.int .i64 x0.1, .int .i64 x0.2.1, .slice x0.2.2.1.a x0.2.2.1.len x0.2.2.1.cap] 39) fun n1 =>
  nw (.cells #[.int .i64 x1.1, .int .i64 x1.2.1, .int .i64 x1.2.2.1] 73) fun n2 =>
  nilc x2 fun a1 =>
  ld a1 (.lf .sl) fun v1 =>
  ld ⟨n1, 0, none⟩ (.lf (.int .i64)) fun v2 =>
  nilc v1.a fun a2 =>
  ixn v2 v1.len <|
  ld (Addr.add a2 (v2.toNat * 1)) (.lf .sl) fun v3 =>
  ld ⟨n2, 0, none⟩ (.agg [.int .i64, .int .i64, .int .i64]) fun v4 =>
  cl PP 28 #[.slice v3.a v3.len v3.cap, .agg #[.int .i64 v4.1, .int .i64 v4.2.1, .int .i64 v4.2.2.1]] [.lf .sl] fun r1 =>
  lp [.lf (.int .i64)] (0, ()) fun z1 go1 =>   -- 
   ifB (decide ((z1.1 : Int) < r1.1.len)) (
    nilc r1.1.a fun a3 =>
    ixn z1.1 r1.1.len <|
    ld (Addr.add a3 (z1.1.toNat * 1)) (.lf .sl) fun v5 =>
    cl PP 29 #[.slice v5.a v5.len v5.cap] [.lf .sl, .lf (.int .i64)] fun r2 =>
    lp [.lf (.int .i64)] (0, ()) fun z2 go2 =>   -- 
     ifB (decide ((z2.1 : Int) < r2.1.len)) (
      nilc r2.1.a fun a4 =>
      ixn z2.1 r2.1.len <|
      ld (Addr.add a4 (z2.1.toNat * 3)) (.agg [.int .i64, .int .i64, .int .i64]) fun v6 =>
      nw (.cells #[.int .i64 0, .int .i64 0, .int .i64 0] 41) fun n3 =>
      st ⟨n3, 0, none⟩ [.int .i64 v6.1, .int .i64 v6.2.1, .int .i64 v6.2.2.1] <|
      nilc x3 fun a5 =>
      ld a5 (.lf .map) fun v7 =>
      ld ⟨n3, 0, none⟩ (.agg [.int .i64, .int .i64, .int .i64]) fun v8 =>
      smU PP (Instr.mapUpdate 75 (.map v7) (.agg #[.int .i64 v8.1, .int .i64 v8.2.1, .int .i64 v8.2.2.1]) (.bool true)) <|
      go2 (IntKind.i64.wrap (z2.1 + 1), ())) (
      go1 (IntKind.i64.wrap (z1.1 + 1), ()))) (
    K (.tuple #[]))
theorem e27 (x0 : ShV (.agg [.int .i64, .int .i64, .sl])) (x1 : ShV (.agg [.int .i64, .int .i64, .int .i64])) (x2 : Option Addr) (x3 : Option Addr) (K : Value → HP) : flatFn PP h27 Tryd.f27 [.agg #[.int .i64 x0.1, .int .i64 x0.2.1, .slice x0.2.2.1.a x0.2.2.1.len x0.2.2.1.cap], .agg #[.int .i64 x1.1, .int .i64 x1.2.1, .int .i64 x1.2.2.1], .pointer x2, .pointer x3] K = t27 x0 x1 x2 x3 K := by kernel_rfl

/-- depot/region.Parts -/
def h28 : Hints := ⟨[(0, [(5, .lf .sl), (6, .lf (.int .i64))])], [], []⟩
def t28 (x0 : SlV) (x1 : ShV (.agg [.int .i64, .int .i64, .int .i64])) (K : Value → HP) : HP :=
  nw (.cells #[.int .i64 x1.1, .int .i64 x1.2.1, .int .i64 x1.2.2.1] 73) fun n1 =>
  lp [.lf .sl, .lf (.int .i64)] (⟨none, 0, 0⟩, 0, ()) fun z1 go1 =>   -- l, i
   ld (Addr.add ⟨n1, 0, none⟩ 2) (.lf (.int .i64)) fun v1 =>
   ifB (decide ((z1.2.1 : Int) < v1)) (
    ld (Addr.add ⟨n1, 0, none⟩ 1) (.lf (.int .i64)) fun v2 =>
    ifB (decide ((v2 : Int) < 0)) (
     K (.slice none 0 0)) (
     ld (Addr.add ⟨n1, 0, none⟩ 1) (.lf (.int .i64)) fun v3 =>
     ifB (decide ((v3 : Int) ≥ (IntKind.i64.wrap (x0.len - z1.2.1)))) (
      K (.slice none 0 0)) (
      ld (Addr.add ⟨n1, 0, none⟩ 1) (.lf (.int .i64)) fun v4 =>
      nilc x0.a fun a1 =>
      ixn (IntKind.i64.wrap (v4 + z1.2.1)) x0.len <|
      ld (Addr.add a1 ((IntKind.i64.wrap (v4 + z1.2.1)).toNat * 1)) (.lf .sl) fun v5 =>
      cl PP 31 #[.slice v5.a v5.len v5.cap] [.agg [.int .i64, .int .i64, .int .i64, .int .i64, .int .i64], .lf .sl, .lf (.int .i64)] fun r1 =>
      nw (.cells #[.int .i64 0, .int .i64 0, .int .i64 0, .int .i64 0, .int .i64 0] 88) fun n2 =>
      st ⟨n2, 0, none⟩ [.int .i64 r1.1.1, .int .i64 r1.1.2.1, .int .i64 r1.1.2.2.1, .int .i64 r1.1.2.2.2.1, .int .i64 r1.1.2.2.2.2.1] <|
      ifB ((r1.2.2.1 : Int) != 0) (
       K (.slice none 0 0)) (
       nw (.cells #[.slice r1.2.1.a r1.2.1.len r1.2.1.cap] 44) fun n3 =>
       smW PP (Builtin.append_ #[66, 66] 66 #[.slice z1.1.a z1.1.len z1.1.cap, .slice (some ⟨n3, 0, none⟩) 1 1]) [.lf .sl] fun v6 =>
       go1 (⟨v6.1.a, v6.1.len, v6.1.cap⟩, IntKind.i64.wrap (z1.2.1 + 1), ()))))) (
    K (.slice z1.1.a z1.1.len z1.1.cap))
theorem e28 (x0 : SlV) (x1 : ShV (.agg [.int .i64, .int .i64, .int .i64])) (K : Value → HP) : flatFn PP h28 Tryd.f28 [.slice x0.a x0.len x0.cap, .agg #[.int .i64 x1.1, .int .i64 x1.2.1, .int .i64 x1.2.2.1]] K = t28 x0 x1 K := by kernel_rfl

/-- depot/region.Kills -/
def h29 : Hints := ⟨[(0, [(4, .lf .sl), (5, .lf .sl)])], [], [(8, [0, 1, 4, 5, 8, 2, 3, 6, 7, 9, 10, 11])]⟩
def t29 (x0 : SlV) (K : Value → HP) : HP :=
  req ((6 : Int) ≠ 0) <|
  ifB ((Int.tmod x0.len 6 : Int) != 0) (
   K (.tuple #[.slice none 0 0, .int .i64 5])) (
   lp [.lf .sl, .lf .sl] (⟨none, 0, 0⟩, ⟨x0.a, x0.len, x0.cap⟩, ()) fun z1 go1 =>   -- l, b
    ifB (decide ((z1.2.1.len : Int) > 0)) (
     cl PP 55 #[.slice z1.2.1.a z1.2.1.len z1.2.1.cap, .int .i64 2, .int .i64 4] [.lf (.int .i64), .lf (.int .i64)] fun r1 =>
     nilc z1.2.1.a fun a1 =>
     ixn 0 z1.2.1.len <|
     nilc z1.2.1.a fun a2 =>
     ixn 1 z1.2.1.len <|
     ld (Addr.add a1 ((0 : Int).toNat * 1)) (.lf (.int .u8)) fun v1 =>
     ld (Addr.add a2 ((1 : Int).toNat * 1)) (.lf (.int .u8)) fun v2 =>
     nw (.cells #[.int .i64 0, .int .i64 0, .int .i64 0] 41) fun n1 =>
     st ⟨n1, 0, none⟩ [.int .i64 (IntKind.i64.wrap v1), .int .i64 (IntKind.i64.wrap v2), .int .i64 r1.1] <|
     ld ⟨n1, 0, none⟩ (.agg [.int .i64, .int .i64, .int .i64]) fun v3 =>
     cl PP 47 #[.agg #[.int .i64 v3.1, .int .i64 v3.2.1, .int .i64 v3.2.2.1]] [.lf .bool] fun r2 =>
     ifB (!r2.1) (
      K (.tuple #[.slice none 0 0, .int .i64 5])) (
      ld ⟨n1, 0, none⟩ (.agg [.int .i64, .int .i64, .int .i64]) fun v4 =>
      nw (.cells #[.int .i64 v4.1, .int .i64 v4.2.1, .int .i64 v4.2.2.1] 41) fun n2 =>
      smW PP (Builtin.append_ #[64, 64] 64 #[.slice z1.1.a z1.1.len z1.1.cap, .slice (some ⟨n2, 0, none⟩) 1 1]) [.lf .sl] fun v5 =>
      slc ⟨z1.2.1.a, z1.2.1.len, z1.2.1.cap⟩ 6 z1.2.1.len z1.2.1.cap 1 fun s1 =>
      go1 (⟨v5.1.a, v5.1.len, v5.1.cap⟩, ⟨s1.a, s1.len, s1.cap⟩, ()))) (
     K (.tuple #[.slice z1.1.a z1.1.len z1.1.cap, .int .i64 0])))
theorem e29 (x0 : SlV) (K : Value → HP) : flatFn PP h29 Tryd.f29 [.slice x0.a x0.len x0.cap] K = t29 x0 K := by kernel_rfl

/-- (*depot/flash.Flash).Read -/
def h30 : Hints := ⟨[], [], []⟩
def t30 (x0 : Option Addr) (x1 : Int) (x2 : Int) (K : Value → HP) : HP :=
  cl PP 37 #[.pointer x0, .int .i64 x1, .int .i64 x2] [.lf .ptr, .lf (.int .i64)] fun r1 =>
  ifB ((r1.2.1 : Int) != 0) (
   K (.tuple #[.slice none 0 0, .int .i64 r1.2.1])) (
   nilc r1.1 fun a1 =>
   ld (Addr.add a1 3) (.lf .bool) fun v1 =>
   ifB v1 (
    nilc x0 fun a2 =>
    ld (Addr.add (Addr.add a2 3) 2) (.lf (.int .i64)) fun v2 =>
    cl PP 38 #[.int .i64 v2] [.lf .sl] fun r2 =>
    K (.tuple #[.slice r2.1.a r2.1.len r2.1.cap, .int .i64 0])) (
    nw (.cells #[] 5) fun n1 =>
    nilc r1.1 fun a3 =>
    ld a3 (.lf .sl) fun v3 =>
    nilc v3.a fun a4 =>
    ixn x2 v3.len <|
    ld (Addr.add a4 (x2.toNat * 1)) (.lf .sl) fun v4 =>
    smW PP (Builtin.append_ #[44, 44] 44 #[.slice (some ⟨n1, 0, none⟩) 0 0, .slice v4.a v4.len v4.cap]) [.lf .sl] fun v5 =>
    K (.tuple #[.slice v5.1.a v5.1.len v5.1.cap, .int .i64 0])))
theorem e30 (x0 : Option Addr) (x1 : Int) (x2 : Int) (K : Value → HP) : flatFn PP h30 Tryd.f30 [.pointer x0, .int .i64 x1, .int .i64 x2] K = t30 x0 x1 x2 K := by kernel_rfl

/-- depot/page.Parse -/
def h31 : Hints := ⟨[(1, [(84, .lf (.int .i64))])], [], [(19, [2, 3, 4, 0, 1, 5, 6, 7, 8]), (8, [0, 1, 4, 5, 8, 9, 12, 14, 15, 2, 3, 6, 7, 10, 11, 16, 17, 13, 18, 19, 20]), (6, [0, 1, 2, 3, 4, 5, 6, 7])]⟩
def t31 (x0 : SlV) (K : Value → HP) : HP :=
  nw (.cells #[.int .i64 0, .int .i64 0, .int .i64 0, .int .i64 0, .int .i64 0] 88) fun n1 =>
  cl PP 56 #[.int .i64 x0.len] [.lf .bool] fun r1 =>
  ifB (!r1.1) (
   st ⟨n1, 0, none⟩ [.int .i64 0, .int .i64 0, .int .i64 0, .int .i64 0, .int .i64 0] <|
   ld ⟨n1, 0, none⟩ (.agg [.int .i64, .int .i64, .int .i64, .int .i64, .int .i64]) fun v1 =>
   K (.tuple #[.agg #[.int .i64 v1.1, .int .i64 v1.2.1, .int .i64 v1.2.2.1, .int .i64 v1.2.2.2.1, .int .i64 v1.2.2.2.2.1], .slice none 0 0, .int .i64 2])) (
   cl PP 57 #[.slice x0.a x0.len x0.cap] [.lf .bool] fun r2 =>
   ifB r2.1 (
    st ⟨n1, 0, none⟩ [.int .i64 0, .int .i64 0, .int .i64 0, .int .i64 0, .int .i64 0] <|
    ld ⟨n1, 0, none⟩ (.agg [.int .i64, .int .i64, .int .i64, .int .i64, .int .i64]) fun v2 =>
    K (.tuple #[.agg #[.int .i64 v2.1, .int .i64 v2.2.1, .int .i64 v2.2.2.1, .int .i64 v2.2.2.2.1, .int .i64 v2.2.2.2.2.1], .slice none 0 0, .int .i64 15])) (
    slc ⟨x0.a, x0.len, x0.cap⟩ 0 (IntKind.i64.wrap (x0.len - 4)) x0.cap 1 fun s1 =>
    cl PP 59 #[.slice x0.a x0.len x0.cap, .int .i64 (IntKind.i64.wrap (x0.len - 4)), .int .i64 4] [.lf (.int .i64)] fun r3 =>
    cl PP 58 #[.slice s1.a s1.len s1.cap, .int .i64 r3.1] [.lf .bool] fun r4 =>
    ifB (!r4.1) (
     st ⟨n1, 0, none⟩ [.int .i64 0, .int .i64 0, .int .i64 0, .int .i64 0, .int .i64 0] <|
     ld ⟨n1, 0, none⟩ (.agg [.int .i64, .int .i64, .int .i64, .int .i64, .int .i64]) fun v3 =>
     K (.tuple #[.agg #[.int .i64 v3.1, .int .i64 v3.2.1, .int .i64 v3.2.2.1, .int .i64 v3.2.2.2.1, .int .i64 v3.2.2.2.2.1], .slice none 0 0, .int .i64 12])) (
     nilc x0.a fun a1 =>
     ixn 0 x0.len <|
     nilc x0.a fun a2 =>
     ixn 1 x0.len <|
     nilc x0.a fun a3 =>
     ixn 2 x0.len <|
     nilc x0.a fun a4 =>
     ixn 8 x0.len <|
     ld (Addr.add a1 ((0 : Int).toNat * 1)) (.lf (.int .u8)) fun v4 =>
     ld (Addr.add a2 ((1 : Int).toNat * 1)) (.lf (.int .u8)) fun v5 =>
     ld (Addr.add a3 ((2 : Int).toNat * 1)) (.lf (.int .u8)) fun v6 =>
     ld (Addr.add a4 ((8 : Int).toNat * 1)) (.lf (.int .u8)) fun v7 =>
     cl PP 59 #[.slice x0.a x0.len x0.cap, .int .i64 4, .int .i64 4] [.lf (.int .i64)] fun r5 =>
     keep (LdAt (Addr.add a4 ((8 : Int).toNat * 1)) [.int .u8 v7]) <|
     keep (LdAt (Addr.add a3 ((2 : Int).toNat * 1)) [.int .u8 v6]) <|
     keep (LdAt (Addr.add a2 ((1 : Int).toNat * 1)) [.int .u8 v5]) <|
     keep (LdAt (Addr.add a1 ((0 : Int).toNat * 1)) [.int .u8 v4]) <|
     nw (.cells #[.int .i64 0, .int .i64 0, .int .i64 0, .int .i64 0, .int .i64 0] 88) fun n2 =>
     st ⟨n2, 0, none⟩ [.int .i64 (IntKind.i64.wrap v4), .int .i64 (IntKind.i64.wrap v5), .int .i64 (IntKind.i64.wrap v6), .int .i64 r5.1, .int .i64 (IntKind.i64.wrap v7)] <|
     cl PP 59 #[.slice x0.a x0.len x0.cap, .int .i64 10, .int .i64 2] [.lf (.int .i64)] fun r6 =>
     nilc x0.a fun a5 =>
     ixn 3 x0.len <|
     ld (Addr.add a5 ((3 : Int).toNat * 1)) (.lf (.int .u8)) fun v8 =>
     ifB ((v8 : Int) != 165) (
      st ⟨n1, 0, none⟩ [.int .i64 0, .int .i64 0, .int .i64 0, .int .i64 0, .int .i64 0] <|
      ld ⟨n1, 0, none⟩ (.agg [.int .i64, .int .i64, .int .i64, .int .i64, .int .i64]) fun v9 =>
      K (.tuple #[.agg #[.int .i64 v9.1, .int .i64 v9.2.1, .int .i64 v9.2.2.1, .int .i64 v9.2.2.2.1, .int .i64 v9.2.2.2.2.1], .slice none 0 0, .int .i64 5])) (
      nilc x0.a fun a6 =>
      ixn 9 x0.len <|
      ld (Addr.add a6 ((9 : Int).toNat * 1)) (.lf (.int .u8)) fun v10 =>
      ifB ((v10 : Int) != 0) (
       st ⟨n1, 0, none⟩ [.int .i64 0, .int .i64 0, .int .i64 0, .int .i64 0, .int .i64 0] <|
       ld ⟨n1, 0, none⟩ (.agg [.int .i64, .int .i64, .int .i64, .int .i64, .int .i64]) fun v11 =>
       K (.tuple #[.agg #[.int .i64 v11.1, .int .i64 v11.2.1, .int .i64 v11.2.2.1, .int .i64 v11.2.2.2.1, .int .i64 v11.2.2.2.2.1], .slice none 0 0, .int .i64 5])) (
       cl PP 60 #[.int .i64 x0.len] [.lf (.int .i64)] fun r7 =>
       ifB (decide ((r6.1 : Int) > r7.1)) (
        st ⟨n1, 0, none⟩ [.int .i64 0, .int .i64 0, .int .i64 0, .int .i64 0, .int .i64 0] <|
        ld ⟨n1, 0, none⟩ (.agg [.int .i64, .int .i64, .int .i64, .int .i64, .int .i64]) fun v12 =>
        K (.tuple #[.agg #[.int .i64 v12.1, .int .i64 v12.2.1, .int .i64 v12.2.2.1, .int .i64 v12.2.2.2.1, .int .i64 v12.2.2.2.2.1], .slice none 0 0, .int .i64 5])) (
        ld ⟨n2, 0, none⟩ (.agg [.int .i64, .int .i64, .int .i64, .int .i64, .int .i64]) fun v13 =>
        cl PP 61 #[.agg #[.int .i64 v13.1, .int .i64 v13.2.1, .int .i64 v13.2.2.1, .int .i64 v13.2.2.2.1, .int .i64 v13.2.2.2.2.1]] [.lf (.int .i64)] fun r8 =>
        ifB ((r8.1 : Int) != 0) (
         st ⟨n1, 0, none⟩ [.int .i64 0, .int .i64 0, .int .i64 0, .int .i64 0, .int .i64 0] <|
         ld ⟨n1, 0, none⟩ (.agg [.int .i64, .int .i64, .int .i64, .int .i64, .int .i64]) fun v14 =>
         K (.tuple #[.agg #[.int .i64 v14.1, .int .i64 v14.2.1, .int .i64 v14.2.2.1, .int .i64 v14.2.2.2.1, .int .i64 v14.2.2.2.2.1], .slice none 0 0, .int .i64 5])) (
         slc ⟨x0.a, x0.len, x0.cap⟩ (IntKind.i64.wrap (12 + r6.1)) (IntKind.i64.wrap (x0.len - 4)) x0.cap 1 fun s2 =>
         lp [.lf (.int .i64)] (0, ()) fun z1 go1 =>   -- 
          ifB (decide ((z1.1 : Int) < s2.len)) (
           nilc s2.a fun a7 =>
           ixn z1.1 s2.len <|
           ld (Addr.add a7 (z1.1.toNat * 1)) (.lf (.int .u8)) fun v15 =>
           ifB ((v15 : Int) != 0) (
            st ⟨n1, 0, none⟩ [.int .i64 0, .int .i64 0, .int .i64 0, .int .i64 0, .int .i64 0] <|
            ld ⟨n1, 0, none⟩ (.agg [.int .i64, .int .i64, .int .i64, .int .i64, .int .i64]) fun v16 =>
            K (.tuple #[.agg #[.int .i64 v16.1, .int .i64 v16.2.1, .int .i64 v16.2.2.1, .int .i64 v16.2.2.2.1, .int .i64 v16.2.2.2.2.1], .slice none 0 0, .int .i64 5])) (
            go1 (IntKind.i64.wrap (z1.1 + 1), ()))) (
           slc ⟨x0.a, x0.len, x0.cap⟩ 12 (IntKind.i64.wrap (12 + r6.1)) x0.cap 1 fun s3 =>
           ld ⟨n2, 0, none⟩ (.agg [.int .i64, .int .i64, .int .i64, .int .i64, .int .i64]) fun v17 =>
           nw (.cells #[] 5) fun n3 =>
           smW PP (Builtin.append_ #[44, 44] 44 #[.slice (some ⟨n3, 0, none⟩) 0 0, .slice s3.a s3.len s3.cap]) [.lf .sl] fun v18 =>
           keep (LdAt ⟨n2, 0, none⟩ [.int .i64 v17.1, .int .i64 v17.2.1, .int .i64 v17.2.2.1, .int .i64 v17.2.2.2.1, .int .i64 v17.2.2.2.2.1]) <|
           st ⟨n1, 0, none⟩ [.int .i64 v17.1, .int .i64 v17.2.1, .int .i64 v17.2.2.1, .int .i64 v17.2.2.2.1, .int .i64 v17.2.2.2.2.1] <|
           ld ⟨n1, 0, none⟩ (.agg [.int .i64, .int .i64, .int .i64, .int .i64, .int .i64]) fun v19 =>
           K (.tuple #[.agg #[.int .i64 v19.1, .int .i64 v19.2.1, .int .i64 v19.2.2.1, .int .i64 v19.2.2.2.1, .int .i64 v19.2.2.2.2.1], .slice v18.1.a v18.1.len v18.1.cap, .int .i64 0])))))))))
theorem e31 (x0 : SlV) (K : Value → HP) : flatFn PP h31 Tryd.f31 [.slice x0.a x0.len x0.cap] K = t31 x0 K := by kernel_rfl

/-- depot/entry.Join -/
def h32 : Hints := ⟨[], [], []⟩
def t32 (x0 : SlV) (K : Value → HP) : HP :=
  cl PP 62 #[.slice x0.a x0.len x0.cap] [.lf .sl] fun r1 =>
  cl PP 63 #[.slice r1.1.a r1.1.len r1.1.cap] [.lf .ptr] fun r2 =>
  cl PP 64 #[.pointer r2.1] [.lf .str, .lf (.int .i64)] fun r3 =>
  ifB ((r3.2.1 : Int) != 0) (
   K (.tuple #[.string (ByteArray.mk #[]), .slice none 0 0, .int .i64 r3.2.1])) (
   cl PP 64 #[.pointer r2.1] [.lf .str, .lf (.int .i64)] fun r4 =>
   ifB ((r4.2.1 : Int) != 0) (
    K (.tuple #[.string (ByteArray.mk #[]), .slice none 0 0, .int .i64 r4.2.1])) (
    cl PP 65 #[.pointer r2.1] [.lf (.int .i64)] fun r5 =>
    cl PP 66 #[.pointer r2.1, .int .i64 4] [.lf (.int .i64), .lf (.int .i64)] fun r6 =>
    ifB ((r6.2.1 : Int) != 0) (
     K (.tuple #[.string (ByteArray.mk #[]), .slice none 0 0, .int .i64 r6.2.1])) (
     cl PP 65 #[.pointer r2.1] [.lf (.int .i64)] fun r7 =>
     ifB (decide ((r7.1 : Int) > 0)) (
      K (.tuple #[.string (ByteArray.mk #[]), .slice none 0 0, .int .i64 5])) (
      cl PP 67 #[.int .i64 r3.1.size] [.lf .bool] fun r8 =>
      ifB (!r8.1) (
       K (.tuple #[.string (ByteArray.mk #[]), .slice none 0 0, .int .i64 5])) (
       slc ⟨r1.1.a, r1.1.len, r1.1.cap⟩ 0 (IntKind.i64.wrap (r1.1.len - r5.1)) r1.1.cap 1 fun s1 =>
       cl PP 58 #[.slice s1.a s1.len s1.cap, .int .i64 r6.1] [.lf .bool] fun r9 =>
       ifB (!r9.1) (
        K (.tuple #[.string (ByteArray.mk #[]), .slice none 0 0, .int .i64 12])) (
        smA PP (Conv.stringToBytes 5 r4.1) (.lf .sl) fun v1 =>
        K (.tuple #[.string r3.1, .slice v1.a v1.len v1.cap, .int .i64 0])))))))
theorem e32 (x0 : SlV) (K : Value → HP) : flatFn PP h32 Tryd.f32 [.slice x0.a x0.len x0.cap] K = t32 x0 K := by kernel_rfl

/-- depot/flash.within -/
def h33 : Hints := ⟨[], [], []⟩
def t33 (x0 : Int) (x1 : Int) (x2 : Int) (K : Value → HP) : HP :=
  ifB (decide ((x0 : Int) ≥ x1)) (
   K (.bool (decide ((x0 : Int) ≤ x2)))) (
   K (.bool false))
theorem e33 (x0 : Int) (x1 : Int) (x2 : Int) (K : Value → HP) : flatFn PP h33 Tryd.f33 [.int .i64 x0, .int .i64 x1, .int .i64 x2] K = t33 x0 x1 x2 K := by kernel_rfl

/-- (*depot/flash.block).wipe -/
def h34 : Hints := ⟨[(0, [(8, .lf (.int .i64))])], [], [(3, [0, 1, 2, 4, 5, 3, 6, 7, 8])]⟩
def t34 (x0 : Option Addr) (x1 : Int) (x2 : Int) (K : Value → HP) : HP :=
  lp [.lf (.int .i64)] (0, ()) fun z1 go1 =>   -- 
   ifB (decide ((z1.1 : Int) < x1)) (
    nilc x0 fun a1 =>
    ld a1 (.lf .sl) fun v1 =>
    cl PP 38 #[.int .i64 x2] [.lf .sl] fun r1 =>
    keep (LdAt a1 [.slice v1.a v1.len v1.cap]) <|
    nilc v1.a fun a2 =>
    ixn z1.1 v1.len <|
    st (Addr.add a2 (z1.1.toNat * 1)) [.slice r1.1.a r1.1.len r1.1.cap] <|
    go1 (IntKind.i64.wrap (z1.1 + 1), ())) (
    K (.tuple #[]))
theorem e34 (x0 : Option Addr) (x1 : Int) (x2 : Int) (K : Value → HP) : flatFn PP h34 Tryd.f34 [.pointer x0, .int .i64 x1, .int .i64 x2] K = t34 x0 x1 x2 K := by kernel_rfl

/-- depot/depotref21.Right -/
def h35 : Hints := ⟨[], [], []⟩
def t35 (x0 : ShV (.agg [.int .i64, .int .i64, .int .i64, .int .i64])) (K : Value → HP) : HP :=
  nw (.cells #[.int .i64 x0.1, .int .i64 x0.2.1, .int .i64 x0.2.2.1, .int .i64 x0.2.2.2.1] 23) fun n1 =>
  ld ⟨n1, 0, none⟩ (.lf (.int .i64)) fun v1 =>
  ifB (decide ((v1 : Int) ≥ 2)) (
   ld ⟨n1, 0, none⟩ (.lf (.int .i64)) fun v2 =>
   ifB (decide ((v2 : Int) ≤ 16)) (
    ld (Addr.add ⟨n1, 0, none⟩ 1) (.lf (.int .i64)) fun v3 =>
    ifB (decide ((v3 : Int) ≥ 4)) (
     ld (Addr.add ⟨n1, 0, none⟩ 1) (.lf (.int .i64)) fun v4 =>
     ifB (decide ((v4 : Int) ≤ 16)) (
      ld (Addr.add ⟨n1, 0, none⟩ 2) (.lf (.int .i64)) fun v5 =>
      ifB (decide ((v5 : Int) ≥ 64)) (
       ld (Addr.add ⟨n1, 0, none⟩ 2) (.lf (.int .i64)) fun v6 =>
       ifB (decide ((v6 : Int) ≤ 512)) (
        ld (Addr.add ⟨n1, 0, none⟩ 3) (.lf (.int .i64)) fun v7 =>
        ifB (decide ((v7 : Int) ≥ 1)) (
         ld (Addr.add ⟨n1, 0, none⟩ 3) (.lf (.int .i64)) fun v8 =>
         K (.bool (decide ((v8 : Int) ≤ 1048576)))) (
         K (.bool false))) (
        K (.bool false))) (
       K (.bool false))) (
      K (.bool false))) (
     K (.bool false))) (
    K (.bool false))) (
   K (.bool false))
theorem e35 (x0 : ShV (.agg [.int .i64, .int .i64, .int .i64, .int .i64])) (K : Value → HP) : flatFn PP h35 Tryd.f35 [.agg #[.int .i64 x0.1, .int .i64 x0.2.1, .int .i64 x0.2.2.1, .int .i64 x0.2.2.2.1]] K = t35 x0 K := by kernel_rfl

/-- depot/depotref21.blank -/
def h36 : Hints := ⟨[(0, [(4, .lf (.int .i64))])], [], []⟩
def t36 (x0 : Int) (K : Value → HP) : HP :=
  smA PP (Instr.makeSlice 44 (.int .i64 x0) (.int .i64 x0)) (.lf .sl) fun v1 =>
  lp [.lf (.int .i64)] (0, ()) fun z1 go1 =>   -- i
   ifB (decide ((z1.1 : Int) < x0)) (
    nilc v1.a fun a1 =>
    ixn z1.1 v1.len <|
    st (Addr.add a1 (z1.1.toNat * 1)) [.int .u8 255] <|
    go1 (IntKind.i64.wrap (z1.1 + 1), ())) (
    smR PP (Conv.bytesToString (.slice v1.a v1.len v1.cap)) [.lf .str] fun v2 =>
    K (.string v2.1))
theorem e36 (x0 : Int) (K : Value → HP) : flatFn PP h36 Tryd.f36 [.int .i64 x0] K = t36 x0 K := by kernel_rfl

/-- (*depot/flash.Flash).find -/
def h37 : Hints := ⟨[], [], []⟩
def t37 (x0 : Option Addr) (x1 : Int) (x2 : Int) (K : Value → HP) : HP :=
  ifB (Option.isNone x0) (
   K (.tuple #[.pointer none, .int .i64 1])) (
   nilc x0 fun a1 =>
   ld (Addr.add a1 2) (.lf .bool) fun v1 =>
   ifB v1 (
    K (.tuple #[.pointer none, .int .i64 11])) (
    cl PP 68 #[.pointer x0, .int .i64 x1] [.lf .ptr] fun r1 =>
    ifB (Option.isNone r1.1) (
     K (.tuple #[.pointer none, .int .i64 2])) (
     nilc x0 fun a2 =>
     ld (Addr.add (Addr.add a2 3) 1) (.lf (.int .i64)) fun v2 =>
     cl PP 33 #[.int .i64 x2, .int .i64 0, .int .i64 (IntKind.i64.wrap (v2 - 1))] [.lf .bool] fun r2 =>
     ifB (!r2.1) (
      K (.tuple #[.pointer none, .int .i64 2])) (
      K (.tuple #[.pointer r1.1, .int .i64 0])))))
theorem e37 (x0 : Option Addr) (x1 : Int) (x2 : Int) (K : Value → HP) : flatFn PP h37 Tryd.f37 [.pointer x0, .int .i64 x1, .int .i64 x2] K = t37 x0 x1 x2 K := by kernel_rfl

/-- depot/flash.blank -/
def h38 : Hints := ⟨[(0, [(9, .lf (.int .i64))])], [], []⟩
def t38 (x0 : Int) (K : Value → HP) : HP :=
  smA PP (Instr.makeSlice 44 (.int .i64 x0) (.int .i64 x0)) (.lf .sl) fun v1 =>
  lp [.lf (.int .i64)] (0, ()) fun z1 go1 =>   -- 
   ifB (decide ((z1.1 : Int) < v1.len)) (
    nilc v1.a fun a1 =>
    ixn z1.1 v1.len <|
    st (Addr.add a1 (z1.1.toNat * 1)) [.int .u8 255] <|
    go1 (IntKind.i64.wrap (z1.1 + 1), ())) (
    K (.slice v1.a v1.len v1.cap))
theorem e38 (x0 : Int) (K : Value → HP) : flatFn PP h38 Tryd.f38 [.int .i64 x0] K = t38 x0 K := by kernel_rfl

/-- (*depot/flash.tearer).tears -/
def h39 : Hints := ⟨[], [], []⟩
def t39 (x0 : Option Addr) (K : Value → HP) : HP :=
  nilc x0 fun a1 =>
  ld a1 (.lf (.int .i64)) fun v1 =>
  ifB ((v1 : Int) == 0) (
   K (.bool false)) (
   nilc x0 fun a2 =>
   ld a2 (.lf (.int .i64)) fun v2 =>
   nilc x0 fun a3 =>
   st a3 [.int .i64 (IntKind.i64.wrap (v2 - 1))] <|
   nilc x0 fun a4 =>
   ld a4 (.lf (.int .i64)) fun v3 =>
   nilc x0 fun a5 =>
   st (Addr.add a5 2) [.bool ((v3 : Int) == 0)] <|
   nilc x0 fun a6 =>
   ld (Addr.add a6 2) (.lf .bool) fun v4 =>
   K (.bool v4))
theorem e39 (x0 : Option Addr) (K : Value → HP) : flatFn PP h39 Tryd.f39 [.pointer x0] K = t39 x0 K := by kernel_rfl

/-- (*depot/flash.tearer).kept -/
def h40 : Hints := ⟨[], [], []⟩
def t40 (x0 : Option Addr) (x1 : Int) (K : Value → HP) : HP :=
  nilc x0 fun a1 =>
  ld (Addr.add a1 1) (.lf (.int .i64)) fun v1 =>
  K (.int .i64 (imin (imax v1 0) x1))
theorem e40 (x0 : Option Addr) (x1 : Int) (K : Value → HP) : flatFn PP h40 Tryd.f40 [.pointer x0, .int .i64 x1] K = t40 x0 x1 K := by kernel_rfl

/-- (*depot/depotref21.Flash).there -/
def h41 : Hints := ⟨[], [], []⟩
def t41 (x0 : Option Addr) (x1 : Int) (x2 : Int) (K : Value → HP) : HP :=
  ifB (decide ((x1 : Int) ≥ 0)) (
   nilc x0 fun a1 =>
   ld a1 (.lf (.int .i64)) fun v1 =>
   ifB (decide ((x1 : Int) < v1)) (
    ifB (decide ((x2 : Int) ≥ 0)) (
     nilc x0 fun a2 =>
     ld (Addr.add a2 1) (.lf (.int .i64)) fun v2 =>
     K (.bool (decide ((x2 : Int) < v2)))) (
     K (.bool false))) (
    K (.bool false))) (
   K (.bool false))
theorem e41 (x0 : Option Addr) (x1 : Int) (x2 : Int) (K : Value → HP) : flatFn PP h41 Tryd.f41 [.pointer x0, .int .i64 x1, .int .i64 x2] K = t41 x0 x1 x2 K := by kernel_rfl

/-- (*depot/depotref21.Flash).tears -/
def h42 : Hints := ⟨[], [], []⟩
def t42 (x0 : Option Addr) (K : Value → HP) : HP :=
  nilc x0 fun a1 =>
  ld (Addr.add a1 10) (.lf (.int .i64)) fun v1 =>
  ifB (decide ((v1 : Int) < 1)) (
   K (.bool false)) (
   nilc x0 fun a2 =>
   ld (Addr.add a2 10) (.lf (.int .i64)) fun v2 =>
   nilc x0 fun a3 =>
   st (Addr.add a3 10) [.int .i64 (IntKind.i64.wrap (v2 - 1))] <|
   nilc x0 fun a4 =>
   ld (Addr.add a4 10) (.lf (.int .i64)) fun v3 =>
   nilc x0 fun a5 =>
   st (Addr.add a5 9) [.bool ((v3 : Int) == 0)] <|
   nilc x0 fun a6 =>
   ld (Addr.add a6 9) (.lf .bool) fun v4 =>
   K (.bool v4))
theorem e42 (x0 : Option Addr) (K : Value → HP) : flatFn PP h42 Tryd.f42 [.pointer x0] K = t42 x0 K := by kernel_rfl

/-- (*depot/flash.block).worn -/
def h43 : Hints := ⟨[], [], []⟩
def t43 (x0 : Option Addr) (x1 : Int) (K : Value → HP) : HP :=
  nilc x0 fun a1 =>
  st (Addr.add a1 1) [.int .i64 0] <|
  nilc x0 fun a2 =>
  ld (Addr.add a2 2) (.lf (.int .i64)) fun v1 =>
  nilc x0 fun a3 =>
  st (Addr.add a3 2) [.int .i64 (IntKind.i64.wrap (v1 + 1))] <|
  nilc x0 fun a4 =>
  ld (Addr.add a4 2) (.lf (.int .i64)) fun v2 =>
  nilc x0 fun a5 =>
  st (Addr.add a5 3) [.bool ((v2 : Int) == x1)] <|
  nilc x0 fun a6 =>
  ld (Addr.add a6 3) (.lf .bool) fun v3 =>
  K (.bool v3)
theorem e43 (x0 : Option Addr) (x1 : Int) (K : Value → HP) : flatFn PP h43 Tryd.f43 [.pointer x0, .int .i64 x1] K = t43 x0 x1 K := by kernel_rfl

/-- depot/region.program -/
def h44 : Hints := ⟨[], [], [(1, [1, 2, 0, 3, 4, 5, 6, 7, 8, 9, 10])]⟩
def t44 (x0 : Option Addr) (x1 : Int) (x2 : ShV (.agg [.int .i64, .int .i64, .int .i64, .int .i64, .int .i64])) (x3 : SlV) (K : Value → HP) : HP :=
  nw (.cells #[.int .i64 x2.1, .int .i64 x2.2.1, .int .i64 x2.2.2.1, .int .i64 x2.2.2.2.1, .int .i64 x2.2.2.2.2.1] 88) fun n1 =>
  ld ⟨n1, 0, none⟩ (.agg [.int .i64, .int .i64, .int .i64, .int .i64, .int .i64]) fun v1 =>
  cl PP 50 #[.pointer x0] [.agg [.int .i64, .int .i64, .int .i64, .int .i64]] fun r1 =>
  keep (LdAt ⟨n1, 0, none⟩ [.int .i64 v1.1, .int .i64 v1.2.1, .int .i64 v1.2.2.1, .int .i64 v1.2.2.2.1, .int .i64 v1.2.2.2.2.1]) <|
  cl PP 69 #[.agg #[.int .i64 v1.1, .int .i64 v1.2.1, .int .i64 v1.2.2.1, .int .i64 v1.2.2.2.1, .int .i64 v1.2.2.2.2.1], .slice x3.a x3.len x3.cap, .int .i64 r1.1.2.2.1] [.lf .sl, .lf (.int .i64)] fun r2 =>
  ifB ((r2.2.1 : Int) != 0) (
   K (.int .i64 r2.2.1)) (
   ld (Addr.add ⟨n1, 0, none⟩ 4) (.lf (.int .i64)) fun v2 =>
   cl PP 11 #[.pointer x0, .int .i64 x1, .int .i64 v2, .slice r2.1.a r2.1.len r2.1.cap] [.lf (.int .i64)] fun r3 =>
   K (.int .i64 r3.1))
theorem e44 (x0 : Option Addr) (x1 : Int) (x2 : ShV (.agg [.int .i64, .int .i64, .int .i64, .int .i64, .int .i64])) (x3 : SlV) (K : Value → HP) : flatFn PP h44 Tryd.f44 [.pointer x0, .int .i64 x1, .agg #[.int .i64 x2.1, .int .i64 x2.2.1, .int .i64 x2.2.2.1, .int .i64 x2.2.2.2.1, .int .i64 x2.2.2.2.2.1], .slice x3.a x3.len x3.cap] K = t44 x0 x1 x2 x3 K := by kernel_rfl

/-- depot/entry.Cut -/
def h45 : Hints := ⟨[(1, [(13, .lf .sl), (14, .lf .sl), (56, .lf (.int .i64))])], [], []⟩
def t45 (x0 : ByteArray) (x1 : SlV) (x2 : ShV (.agg [.int .i64, .int .i64, .int .i64, .int .i64])) (K : Value → HP) : HP :=
  nw (.cells #[.int .i64 x2.1, .int .i64 x2.2.1, .int .i64 x2.2.2.1, .int .i64 x2.2.2.2.1] 23) fun n1 =>
  cl PP 67 #[.int .i64 x0.size] [.lf .bool] fun r1 =>
  ifB (!r1.1) (
   K (.tuple #[.slice none 0 0, .int .i64 2])) (
   ifB (decide ((x1.len : Int) > 65536)) (
    K (.tuple #[.slice none 0 0, .int .i64 4])) (
    ld ⟨n1, 0, none⟩ (.agg [.int .i64, .int .i64, .int .i64, .int .i64]) fun v1 =>
    cl PP 70 #[.int .i64 x0.size, .int .i64 x1.len, .agg #[.int .i64 v1.1, .int .i64 v1.2.1, .int .i64 v1.2.2.1, .int .i64 v1.2.2.2.1]] [.lf (.int .i64)] fun r2 =>
    ifB ((r2.1 : Int) == 0) (
     K (.tuple #[.slice none 0 0, .int .i64 14])) (
     cl PP 71 #[.slice none 0 0, .string x0] [.lf .sl, .lf (.int .i64)] fun r3 =>
     smR PP (Conv.bytesToString (.slice x1.a x1.len x1.cap)) [.lf .str] fun v2 =>
     cl PP 71 #[.slice none 0 0, .string v2.1] [.lf .sl, .lf (.int .i64)] fun r4 =>
     nw (.cells #[.slice r3.1.a r3.1.len r3.1.cap, .slice r4.1.a r4.1.len r4.1.cap] 44) fun n2 =>
     cl PP 62 #[.slice (some ⟨n2, 0, none⟩) 2 2] [.lf .sl] fun r5 =>
     cl PP 72 #[.slice r5.1.a r5.1.len r5.1.cap] [.lf (.int .i64)] fun r6 =>
     cl PP 49 #[.slice r5.1.a r5.1.len r5.1.cap, .int .i64 r6.1, .int .i64 4] [.lf .sl, .lf (.int .i64)] fun r7 =>
     lp [.lf .sl, .lf .sl, .lf (.int .i64)] (⟨r7.1.a, r7.1.len, r7.1.cap⟩, ⟨none, 0, 0⟩, 0, ()) fun z1 go1 =>   -- all, l, 
      ifB (decide ((z1.2.2.1 : Int) < r2.1)) (
       ld (Addr.add ⟨n1, 0, none⟩ 2) (.lf (.int .i64)) fun v3 =>
       cl PP 60 #[.int .i64 v3] [.lf (.int .i64)] fun r8 =>
       slc ⟨z1.1.a, z1.1.len, z1.1.cap⟩ 0 (imin z1.1.len r8.1) z1.1.cap 1 fun s1 =>
       nw (.cells #[.slice s1.a s1.len s1.cap] 44) fun n3 =>
       cl PP 62 #[.slice (some ⟨n3, 0, none⟩) 1 1] [.lf .sl] fun r9 =>
       nw (.cells #[.slice r9.1.a r9.1.len r9.1.cap] 44) fun n4 =>
       smW PP (Builtin.append_ #[66, 66] 66 #[.slice z1.2.1.a z1.2.1.len z1.2.1.cap, .slice (some ⟨n4, 0, none⟩) 1 1]) [.lf .sl] fun v4 =>
       slc ⟨z1.1.a, z1.1.len, z1.1.cap⟩ (imin z1.1.len r8.1) z1.1.len z1.1.cap 1 fun s2 =>
       go1 (⟨s2.a, s2.len, s2.cap⟩, ⟨v4.1.a, v4.1.len, v4.1.cap⟩, IntKind.i64.wrap (z1.2.2.1 + 1), ())) (
       K (.tuple #[.slice z1.2.1.a z1.2.1.len z1.2.1.cap, .int .i64 0])))))
theorem e45 (x0 : ByteArray) (x1 : SlV) (x2 : ShV (.agg [.int .i64, .int .i64, .int .i64, .int .i64])) (K : Value → HP) : flatFn PP h45 Tryd.f45 [.string x0, .slice x1.a x1.len x1.cap, .agg #[.int .i64 x2.1, .int .i64 x2.2.1, .int .i64 x2.2.2.1, .int .i64 x2.2.2.2.1]] K = t45 x0 x1 x2 K := by kernel_rfl

/-- (*depot/flash.Flash).Next -/
def h46 : Hints := ⟨[], [], []⟩
def t46 (x0 : Option Addr) (x1 : Int) (K : Value → HP) : HP :=
  cl PP 68 #[.pointer x0, .int .i64 x1] [.lf .ptr] fun r1 =>
  ifB (!(Option.isNone r1.1)) (
   nilc r1.1 fun a1 =>
   ld (Addr.add a1 1) (.lf (.int .i64)) fun v1 =>
   K (.int .i64 v1)) (
   K (.int .i64 0))
theorem e46 (x0 : Option Addr) (x1 : Int) (K : Value → HP) : flatFn PP h46 Tryd.f46 [.pointer x0, .int .i64 x1] K = t46 x0 x1 K := by kernel_rfl

/-- depot/region.right -/
def h47 : Hints := ⟨[], [], []⟩
def t47 (x0 : ShV (.agg [.int .i64, .int .i64, .int .i64])) (K : Value → HP) : HP :=
  nw (.cells #[.int .i64 x0.1, .int .i64 x0.2.1, .int .i64 x0.2.2.1] 41) fun n1 =>
  ld ⟨n1, 0, none⟩ (.lf (.int .i64)) fun v1 =>
  ifB (decide ((v1 : Int) ≥ 0)) (
   ld ⟨n1, 0, none⟩ (.lf (.int .i64)) fun v2 =>
   ifB (decide ((v2 : Int) < 16)) (
    ld (Addr.add ⟨n1, 0, none⟩ 1) (.lf (.int .i64)) fun v3 =>
    ifB (decide ((v3 : Int) ≥ 0)) (
     ld (Addr.add ⟨n1, 0, none⟩ 1) (.lf (.int .i64)) fun v4 =>
     ifB (decide ((v4 : Int) < 16)) (
      ld (Addr.add ⟨n1, 0, none⟩ 2) (.lf (.int .i64)) fun v5 =>
      ifB (decide ((v5 : Int) ≥ 1)) (
       ld (Addr.add ⟨n1, 0, none⟩ 2) (.lf (.int .i64)) fun v6 =>
       K (.bool (decide ((v6 : Int) ≤ 1073741824)))) (
       K (.bool false))) (
      K (.bool false))) (
     K (.bool false))) (
    K (.bool false))) (
   K (.bool false))
theorem e47 (x0 : ShV (.agg [.int .i64, .int .i64, .int .i64])) (K : Value → HP) : flatFn PP h47 Tryd.f47 [.agg #[.int .i64 x0.1, .int .i64 x0.2.1, .int .i64 x0.2.2.1]] K = t47 x0 K := by kernel_rfl

/-- depot/region.bytes -/
def h48 : Hints := ⟨[(0, [(0, .lf .sl), (10, .lf (.int .i64))])], [], []⟩
def t48 (x0 : SlV) (x1 : SlV) (K : Value → HP) : HP :=
  lp [.lf .sl, .lf (.int .i64)] (⟨x0.a, x0.len, x0.cap⟩, 0, ()) fun z1 go1 =>   -- b, 
   ifB (decide ((z1.2.1 : Int) < x1.len)) (
    nilc x1.a fun a1 =>
    ixn z1.2.1 x1.len <|
    ld (Addr.add a1 (z1.2.1.toNat * 1)) (.lf (.int .i64)) fun v1 =>
    ifB (decide ((v1 : Int) < 0)) (
     K (.tuple #[.slice none 0 0, .bool false])) (
     ifB (decide ((v1 : Int) > 255)) (
      K (.tuple #[.slice none 0 0, .bool false])) (
      nw (.cells #[.int .u8 (IntKind.u8.wrap v1)] 5) fun n1 =>
      smW PP (Builtin.append_ #[44, 44] 44 #[.slice z1.1.a z1.1.len z1.1.cap, .slice (some ⟨n1, 0, none⟩) 1 1]) [.lf .sl] fun v2 =>
      go1 (⟨v2.1.a, v2.1.len, v2.1.cap⟩, IntKind.i64.wrap (z1.2.1 + 1), ())))) (
    K (.tuple #[.slice z1.1.a z1.1.len z1.1.cap, .bool true]))
theorem e48 (x0 : SlV) (x1 : SlV) (K : Value → HP) : flatFn PP h48 Tryd.f48 [.slice x0.a x0.len x0.cap, .slice x1.a x1.len x1.cap] K = t48 x0 x1 K := by kernel_rfl

/-- depot/wire.Put -/
def h49 : Hints := ⟨[], [], []⟩
def t49 (x0 : SlV) (x1 : Int) (x2 : Int) (K : Value → HP) : HP :=
  ifB (decide ((x2 : Int) < 1)) (
   K (.tuple #[.slice none 0 0, .int .i64 2])) (
   ifB (decide ((x2 : Int) > 7)) (
    K (.tuple #[.slice none 0 0, .int .i64 2])) (
    ifB (decide ((x1 : Int) < 0)) (
     K (.tuple #[.slice none 0 0, .int .i64 3])) (
     req ((0 : Int) ≤ (IntKind.i64.wrap (8 * x2))) <|
     ifB ((Int.fdiv x1 (2 ^ (min (IntKind.i64.wrap (8 * x2) : Int).toNat IntKind.i64.bits)) : Int) != 0) (
      K (.tuple #[.slice none 0 0, .int .i64 3])) (
      cl PP 73 #[.int .i64 x1] [.agg [.int .u8, .int .u8, .int .u8, .int .u8, .int .u8, .int .u8, .int .u8, .int .u8]] fun r1 =>
      nw (.cells #[.int .u8 0, .int .u8 0, .int .u8 0, .int .u8 0, .int .u8 0, .int .u8 0, .int .u8 0, .int .u8 0] 145) fun n1 =>
      st ⟨n1, 0, none⟩ [.int .u8 r1.1.1, .int .u8 r1.1.2.1, .int .u8 r1.1.2.2.1, .int .u8 r1.1.2.2.2.1, .int .u8 r1.1.2.2.2.2.1, .int .u8 r1.1.2.2.2.2.2.1, .int .u8 r1.1.2.2.2.2.2.2.1, .int .u8 r1.1.2.2.2.2.2.2.2.1] <|
      smA PP (Instr.makeSlice 44 (.int .i64 0) (.int .i64 (IntKind.i64.wrap (x0.len + x2)))) (.lf .sl) fun v1 =>
      smW PP (Builtin.append_ #[44, 44] 44 #[.slice v1.a v1.len v1.cap, .slice x0.a x0.len x0.cap]) [.lf .sl] fun v2 =>
      slc ⟨some ⟨n1, 0, none⟩, 8, 8⟩ 0 x2 8 1 fun s1 =>
      smW PP (Builtin.append_ #[44, 44] 44 #[.slice v2.1.a v2.1.len v2.1.cap, .slice s1.a s1.len s1.cap]) [.lf .sl] fun v3 =>
      K (.tuple #[.slice v3.1.a v3.1.len v3.1.cap, .int .i64 0])))))
theorem e49 (x0 : SlV) (x1 : Int) (x2 : Int) (K : Value → HP) : flatFn PP h49 Tryd.f49 [.slice x0.a x0.len x0.cap, .int .i64 x1, .int .i64 x2] K = t49 x0 x1 x2 K := by kernel_rfl

/-- (*depot/flash.Flash).Config -/
def h50 : Hints := ⟨[], [], []⟩
def t50 (x0 : Option Addr) (K : Value → HP) : HP :=
  nw (.cells #[.int .i64 0, .int .i64 0, .int .i64 0, .int .i64 0] 23) fun n1 =>
  ifB (Option.isNone x0) (
   st ⟨n1, 0, none⟩ [.int .i64 0, .int .i64 0, .int .i64 0, .int .i64 0] <|
   ld ⟨n1, 0, none⟩ (.agg [.int .i64, .int .i64, .int .i64, .int .i64]) fun v1 =>
   K (.agg #[.int .i64 v1.1, .int .i64 v1.2.1, .int .i64 v1.2.2.1, .int .i64 v1.2.2.2.1])) (
   nilc x0 fun a1 =>
   ld (Addr.add a1 3) (.agg [.int .i64, .int .i64, .int .i64, .int .i64]) fun v2 =>
   st ⟨n1, 0, none⟩ [.int .i64 v2.1, .int .i64 v2.2.1, .int .i64 v2.2.2.1, .int .i64 v2.2.2.2.1] <|
   ld ⟨n1, 0, none⟩ (.agg [.int .i64, .int .i64, .int .i64, .int .i64]) fun v3 =>
   K (.agg #[.int .i64 v3.1, .int .i64 v3.2.1, .int .i64 v3.2.2.1, .int .i64 v3.2.2.2.1]))
theorem e50 (x0 : Option Addr) (K : Value → HP) : flatFn PP h50 Tryd.f50 [.pointer x0] K = t50 x0 K := by kernel_rfl

/-- depot/region.Load -/
def h51 : Hints := ⟨[(0, [(6, .lf .sl), (15, .lf (.int .i64))])], [], []⟩
def t51 (x0 : Option Addr) (x1 : Int) (K : Value → HP) : HP :=
  ifB (Option.isNone x0) (
   K (.tuple #[.slice none 0 0, .int .i64 1])) (
   cl PP 50 #[.pointer x0] [.agg [.int .i64, .int .i64, .int .i64, .int .i64]] fun r1 =>
   lp [.lf .sl, .lf (.int .i64)] (⟨none, 0, 0⟩, 0, ()) fun z1 go1 =>   -- l, 
    ifB (decide ((z1.2.1 : Int) < r1.1.2.1)) (
     cl PP 30 #[.pointer x0, .int .i64 x1, .int .i64 z1.2.1] [.lf .sl, .lf (.int .i64)] fun r2 =>
     ifB ((r2.2.1 : Int) != 0) (
      K (.tuple #[.slice none 0 0, .int .i64 r2.2.1])) (
      nw (.cells #[.slice r2.1.a r2.1.len r2.1.cap] 44) fun n1 =>
      smW PP (Builtin.append_ #[66, 66] 66 #[.slice z1.1.a z1.1.len z1.1.cap, .slice (some ⟨n1, 0, none⟩) 1 1]) [.lf .sl] fun v1 =>
      go1 (⟨v1.1.a, v1.1.len, v1.1.cap⟩, IntKind.i64.wrap (z1.2.1 + 1), ()))) (
     K (.tuple #[.slice z1.1.a z1.1.len z1.1.cap, .int .i64 0])))
theorem e51 (x0 : Option Addr) (x1 : Int) (K : Value → HP) : flatFn PP h51 Tryd.f51 [.pointer x0, .int .i64 x1] K = t51 x0 x1 K := by kernel_rfl

/-- depot/region.Scan -/
def h52 : Hints := ⟨[], [(12, [])], [(12, [0, 1, 2, 4, 5, 6, 3, 7, 8, 9, 10])]⟩
def t52 (x0 : SlV) (K : Value → HP) : HP :=
  nw (.cells #[.int .i64 0, .bool false, .slice none 0 0] 120) fun n1 =>
  cl PP 74 #[.slice x0.a x0.len x0.cap] [.lf .ptr] fun r1 =>
  nilc r1.1 fun a1 =>
  ld a1 (.lf .sl) fun v1 =>
  ifB ((v1.len : Int) == 0) (
   st ⟨n1, 0, none⟩ [.int .i64 0, .bool false, .slice none 0 0] <|
   ld ⟨n1, 0, none⟩ (.agg [.int .i64, .bool, .sl]) fun v2 =>
   K (.tuple #[.agg #[.int .i64 v2.1, .bool v2.2.1, .slice v2.2.2.1.a v2.2.2.1.len v2.2.2.1.cap], .bool false])) (
   nilc r1.1 fun a2 =>
   ld a2 (.lf .sl) fun v3 =>
   nilc v3.a fun a3 =>
   ixn 0 v3.len <|
   ld (Addr.add (Addr.add a3 ((0 : Int).toNat * 7)) 3) (.lf (.int .i64)) fun v4 =>
   nilc r1.1 fun a4 =>
   st (Addr.add a4 1) [.int .i64 v4] <|
   cl PP 75 #[.pointer r1.1, .int .i64 0, .agg #[.int .i64 1, .int .i64 0, .int .i64 1, .int .i64 0, .int .i64 0]] [.lf .sl, .lf .bool] fun r2 =>
   ifB (!r2.2.1) (
    st ⟨n1, 0, none⟩ [.int .i64 0, .bool false, .slice none 0 0] <|
    ld ⟨n1, 0, none⟩ (.agg [.int .i64, .bool, .sl]) fun v5 =>
    K (.tuple #[.agg #[.int .i64 v5.1, .bool v5.2.1, .slice v5.2.2.1.a v5.2.2.1.len v5.2.2.1.cap], .bool false])) (
    ifB (decide ((r2.1.len : Int) > 0)) (
     st ⟨n1, 0, none⟩ [.int .i64 0, .bool false, .slice none 0 0] <|
     ld ⟨n1, 0, none⟩ (.agg [.int .i64, .bool, .sl]) fun v6 =>
     K (.tuple #[.agg #[.int .i64 v6.1, .bool v6.2.1, .slice v6.2.2.1.a v6.2.2.1.len v6.2.2.1.cap], .bool false])) (
     jn (fun y1 : RsV [] =>
      nilc r1.1 fun a7 =>
      ld (Addr.add a7 1) (.lf (.int .i64)) fun v10 =>
      cl PP 77 #[.pointer r1.1, .func (.func 78) #[.pointer r1.1] #[]] [.lf .sl] fun r4 =>
      keep (LdAt (Addr.add a7 1) [.int .i64 v10]) <|
      st ⟨n1, 0, none⟩ [.int .i64 v10, .bool false, .slice r4.1.a r4.1.len r4.1.cap] <|
      ld ⟨n1, 0, none⟩ (.agg [.int .i64, .bool, .sl]) fun v11 =>
      K (.tuple #[.agg #[.int .i64 v11.1, .bool v11.2.1, .slice v11.2.2.1.a v11.2.2.1.len v11.2.2.1.cap], .bool true])) fun j1 =>
     nilc r1.1 fun a5 =>
      ld (Addr.add a5 2) (.lf (.int .i64)) fun v7 =>
      ifB (decide ((v7 : Int) > 0)) (
       cl PP 76 #[.pointer r1.1] [.lf .sl, .lf .bool] fun r3 =>
       ifB r3.2.1 (
        nilc r1.1 fun a6 =>
        ld (Addr.add a6 1) (.lf (.int .i64)) fun v8 =>
        st ⟨n1, 0, none⟩ [.int .i64 v8, .bool true, .slice r3.1.a r3.1.len r3.1.cap] <|
        ld ⟨n1, 0, none⟩ (.agg [.int .i64, .bool, .sl]) fun v9 =>
        K (.tuple #[.agg #[.int .i64 v9.1, .bool v9.2.1, .slice v9.2.2.1.a v9.2.2.1.len v9.2.2.1.cap], .bool true])) (
        j1 (()))) (
       j1 (())))))
theorem e52 (x0 : SlV) (K : Value → HP) : flatFn PP h52 Tryd.f52 [.slice x0.a x0.len x0.cap] K = t52 x0 K := by kernel_rfl

/-- slices.SortStableFunc[[]depot/rebuild.Held,depot/rebuild.Held] -/
def h53 : Hints := ⟨[], [], []⟩
def t53 (x0 : SlV) (x1 : FnV) (K : Value → HP) : HP :=
  cl PP 79 #[.slice x0.a x0.len x0.cap, .int .i64 x0.len, .func x1.fn x1.first x1.captured] [] fun r1 =>
  K (.tuple #[])
theorem e53 (x0 : SlV) (x1 : FnV) (K : Value → HP) : flatFn PP h53 Tryd.f53 [.slice x0.a x0.len x0.cap, .func x1.fn x1.first x1.captured] K = t53 x0 x1 K := by kernel_rfl

/-- depot/rebuild.hold$1 -/
def h54 : Hints := ⟨[], [], []⟩
def t54 (x0 : ShV (.agg [.int .i64, .int .i64, .sl])) (x1 : ShV (.agg [.int .i64, .int .i64, .sl])) (K : Value → HP) : HP :=
  nw (.cells #[.int .i64 x0.1, .int .i64 x0.2.1, .slice x0.2.2.1.a x0.2.2.1.len x0.2.2.1.cap] 39) fun n1 =>
  nw (.cells #[.int .i64 x1.1, .int .i64 x1.2.1, .slice x1.2.2.1.a x1.2.2.1.len x1.2.2.1.cap] 39) fun n2 =>
  ld (Addr.add ⟨n1, 0, none⟩ 1) (.lf (.int .i64)) fun v1 =>
  ld (Addr.add ⟨n2, 0, none⟩ 1) (.lf (.int .i64)) fun v2 =>
  K (.int .i64 (IntKind.i64.wrap (v1 - v2)))
theorem e54 (x0 : ShV (.agg [.int .i64, .int .i64, .sl])) (x1 : ShV (.agg [.int .i64, .int .i64, .sl])) (K : Value → HP) : flatFn PP h54 Tryd.f54 [.agg #[.int .i64 x0.1, .int .i64 x0.2.1, .slice x0.2.2.1.a x0.2.2.1.len x0.2.2.1.cap], .agg #[.int .i64 x1.1, .int .i64 x1.2.1, .slice x1.2.2.1.a x1.2.2.1.len x1.2.2.1.cap]] K = t54 x0 x1 K := by kernel_rfl

/-- depot/wire.Get -/
def h55 : Hints := ⟨[(1, [(8, .lf (.int .i64)), (9, .lf (.int .i64)), (36, .lf (.int .i64))])], [], []⟩
def t55 (x0 : SlV) (x1 : Int) (x2 : Int) (K : Value → HP) : HP :=
  ifB (decide ((x2 : Int) < 1)) (
   K (.tuple #[.int .i64 0, .int .i64 2])) (
   ifB (decide ((x2 : Int) > 7)) (
    K (.tuple #[.int .i64 0, .int .i64 2])) (
    ifB (decide ((x1 : Int) < 0)) (
     K (.tuple #[.int .i64 0, .int .i64 6])) (
     ifB (decide ((x1 : Int) > x0.len)) (
      K (.tuple #[.int .i64 0, .int .i64 6])) (
      ifB (decide ((x2 : Int) > (IntKind.i64.wrap (x0.len - x1)))) (
       K (.tuple #[.int .i64 0, .int .i64 6])) (
       lp [.lf (.int .i64), .lf (.int .i64), .lf (.int .i64)] (0, 1, 0, ()) fun z1 go1 =>   -- n, unit, 
        ifB (decide ((z1.2.2.1 : Int) < x2)) (
         nilc x0.a fun a1 =>
         ixn (IntKind.i64.wrap (x1 + z1.2.2.1)) x0.len <|
         ld (Addr.add a1 ((IntKind.i64.wrap (x1 + z1.2.2.1)).toNat * 1)) (.lf (.int .u8)) fun v1 =>
         go1 (IntKind.i64.wrap (z1.1 + (IntKind.i64.wrap (z1.2.1 * (IntKind.i64.wrap v1)))), IntKind.i64.wrap (z1.2.1 * 256), IntKind.i64.wrap (z1.2.2.1 + 1), ())) (
         K (.tuple #[.int .i64 z1.1, .int .i64 0])))))))
theorem e55 (x0 : SlV) (x1 : Int) (x2 : Int) (K : Value → HP) : flatFn PP h55 Tryd.f55 [.slice x0.a x0.len x0.cap, .int .i64 x1, .int .i64 x2] K = t55 x0 x1 x2 K := by kernel_rfl

/-- depot/page.sized -/
def h56 : Hints := ⟨[], [], []⟩
def t56 (x0 : Int) (K : Value → HP) : HP :=
  ifB (decide ((x0 : Int) ≥ 64)) (
   K (.bool (decide ((x0 : Int) ≤ 512)))) (
   K (.bool false))
theorem e56 (x0 : Int) (K : Value → HP) : flatFn PP h56 Tryd.f56 [.int .i64 x0] K = t56 x0 K := by kernel_rfl

/-- depot/page.Blank -/
def h57 : Hints := ⟨[(0, [(7, .lf (.int .i64))])], [], []⟩
def t57 (x0 : SlV) (K : Value → HP) : HP :=
  lp [.lf (.int .i64)] (0, ()) fun z1 go1 =>   -- 
   ifB (decide ((z1.1 : Int) < x0.len)) (
    nilc x0.a fun a1 =>
    ixn z1.1 x0.len <|
    ld (Addr.add a1 (z1.1.toNat * 1)) (.lf (.int .u8)) fun v1 =>
    ifB ((v1 : Int) != 255) (
     K (.bool false)) (
     go1 (IntKind.i64.wrap (z1.1 + 1), ()))) (
    K (.bool true))
theorem e57 (x0 : SlV) (K : Value → HP) : flatFn PP h57 Tryd.f57 [.slice x0.a x0.len x0.cap] K = t57 x0 K := by kernel_rfl

/-- depot/crc.Check -/
def h58 : Hints := ⟨[], [], []⟩
def t58 (x0 : SlV) (x1 : Int) (K : Value → HP) : HP :=
  cl PP 72 #[.slice x0.a x0.len x0.cap] [.lf (.int .i64)] fun r1 =>
  K (.bool ((r1.1 : Int) == x1))
theorem e58 (x0 : SlV) (x1 : Int) (K : Value → HP) : flatFn PP h58 Tryd.f58 [.slice x0.a x0.len x0.cap, .int .i64 x1] K = t58 x0 x1 K := by kernel_rfl

/-- depot/page.at -/
def h59 : Hints := ⟨[], [], []⟩
def t59 (x0 : SlV) (x1 : Int) (x2 : Int) (K : Value → HP) : HP :=
  cl PP 55 #[.slice x0.a x0.len x0.cap, .int .i64 x1, .int .i64 x2] [.lf (.int .i64), .lf (.int .i64)] fun r1 =>
  K (.int .i64 r1.1)
theorem e59 (x0 : SlV) (x1 : Int) (x2 : Int) (K : Value → HP) : flatFn PP h59 Tryd.f59 [.slice x0.a x0.len x0.cap, .int .i64 x1, .int .i64 x2] K = t59 x0 x1 x2 K := by kernel_rfl

/-- depot/page.Room -/
def h60 : Hints := ⟨[], [], []⟩
def t60 (x0 : Int) (K : Value → HP) : HP :=
  cl PP 56 #[.int .i64 x0] [.lf .bool] fun r1 =>
  ifB (!r1.1) (
   K (.int .i64 0)) (
   K (.int .i64 (IntKind.i64.wrap (x0 - 16))))
theorem e60 (x0 : Int) (K : Value → HP) : flatFn PP h60 Tryd.f60 [.int .i64 x0] K = t60 x0 K := by kernel_rfl

/-- depot/page.check -/
def h61 : Hints := ⟨[], [], []⟩
def t61 (x0 : ShV (.agg [.int .i64, .int .i64, .int .i64, .int .i64, .int .i64])) (K : Value → HP) : HP :=
  nw (.cells #[.int .i64 x0.1, .int .i64 x0.2.1, .int .i64 x0.2.2.1, .int .i64 x0.2.2.2.1, .int .i64 x0.2.2.2.2.1] 88) fun n1 =>
  ld ⟨n1, 0, none⟩ (.lf (.int .i64)) fun v1 =>
  ifB (decide ((v1 : Int) < 1)) (
   K (.int .i64 16)) (
   ld ⟨n1, 0, none⟩ (.lf (.int .i64)) fun v2 =>
   ifB (decide ((v2 : Int) > 4)) (
    K (.int .i64 16)) (
    ld (Addr.add ⟨n1, 0, none⟩ 2) (.lf (.int .i64)) fun v3 =>
    ifB (decide ((v3 : Int) < 1)) (
     K (.int .i64 3)) (
     ld (Addr.add ⟨n1, 0, none⟩ 2) (.lf (.int .i64)) fun v4 =>
     ifB (decide ((v4 : Int) > 16)) (
      K (.int .i64 3)) (
      ld (Addr.add ⟨n1, 0, none⟩ 1) (.lf (.int .i64)) fun v5 =>
      ifB (decide ((v5 : Int) < 0)) (
       K (.int .i64 3)) (
       ld (Addr.add ⟨n1, 0, none⟩ 1) (.lf (.int .i64)) fun v6 =>
       ld (Addr.add ⟨n1, 0, none⟩ 2) (.lf (.int .i64)) fun v7 =>
       ifB (decide ((v6 : Int) ≥ v7)) (
        K (.int .i64 3)) (
        ld (Addr.add ⟨n1, 0, none⟩ 3) (.lf (.int .i64)) fun v8 =>
        ifB (decide ((v8 : Int) < 1)) (
         K (.int .i64 3)) (
         ld (Addr.add ⟨n1, 0, none⟩ 3) (.lf (.int .i64)) fun v9 =>
         ifB (decide ((v9 : Int) > 1073741824)) (
          K (.int .i64 3)) (
          ld (Addr.add ⟨n1, 0, none⟩ 4) (.lf (.int .i64)) fun v10 =>
          ifB (decide ((v10 : Int) < 0)) (
           K (.int .i64 3)) (
           ld (Addr.add ⟨n1, 0, none⟩ 4) (.lf (.int .i64)) fun v11 =>
           ifB (decide ((v11 : Int) ≥ 16)) (
            K (.int .i64 3)) (
            K (.int .i64 0)))))))))))
theorem e61 (x0 : ShV (.agg [.int .i64, .int .i64, .int .i64, .int .i64, .int .i64])) (K : Value → HP) : flatFn PP h61 Tryd.f61 [.agg #[.int .i64 x0.1, .int .i64 x0.2.1, .int .i64 x0.2.2.1, .int .i64 x0.2.2.2.1, .int .i64 x0.2.2.2.2.1]] K = t61 x0 K := by kernel_rfl

/-- depot/entry.joined -/
def h62 : Hints := ⟨[], [], []⟩
def t62 (x0 : SlV) (K : Value → HP) : HP :=
  cl PP 80 #[.slice x0.a x0.len x0.cap] [.lf .sl] fun r1 =>
  K (.slice r1.1.a r1.1.len r1.1.cap)
theorem e62 (x0 : SlV) (K : Value → HP) : flatFn PP h62 Tryd.f62 [.slice x0.a x0.len x0.cap] K = t62 x0 K := by kernel_rfl

/-- depot/wire.New -/
def h63 : Hints := ⟨[], [], []⟩
def t63 (x0 : SlV) (K : Value → HP) : HP :=
  nw (.cells #[] 5) fun n1 =>
  smW PP (Builtin.append_ #[44, 44] 44 #[.slice (some ⟨n1, 0, none⟩) 0 0, .slice x0.a x0.len x0.cap]) [.lf .sl] fun v1 =>
  nw (.cells #[.slice v1.1.a v1.1.len v1.1.cap, .int .i64 0] 161) fun n2 =>
  K (.pointer (some ⟨n2, 0, none⟩))
theorem e63 (x0 : SlV) (K : Value → HP) : flatFn PP h63 Tryd.f63 [.slice x0.a x0.len x0.cap] K = t63 x0 K := by kernel_rfl

/-- (*depot/wire.Reader).Text -/
def h64 : Hints := ⟨[], [], [(12, [0, 1, 2, 4, 5, 6, 7, 3, 8, 9, 10, 11, 12]), (3, [0, 1, 2, 4, 5, 6, 3, 7, 8, 9, 10, 11, 12, 13])]⟩
def t64 (x0 : Option Addr) (K : Value → HP) : HP :=
  ifB (Option.isNone x0) (
   K (.tuple #[.string (ByteArray.mk #[]), .int .i64 1])) (
   nilc x0 fun a1 =>
   nilc x0 fun a2 =>
   ld a1 (.lf .sl) fun v1 =>
   ld (Addr.add a2 1) (.lf (.int .i64)) fun v2 =>
   cl PP 55 #[.slice v1.a v1.len v1.cap, .int .i64 v2, .int .i64 4] [.lf (.int .i64), .lf (.int .i64)] fun r1 =>
   ifB ((r1.2.1 : Int) != 0) (
    K (.tuple #[.string (ByteArray.mk #[]), .int .i64 r1.2.1])) (
    nilc x0 fun a3 =>
    ld (Addr.add a3 1) (.lf (.int .i64)) fun v3 =>
    ifB (decide ((r1.1 : Int) > 65536)) (
     K (.tuple #[.string (ByteArray.mk #[]), .int .i64 4])) (
     nilc x0 fun a4 =>
     ld a4 (.lf .sl) fun v4 =>
     ifB (decide ((r1.1 : Int) > (IntKind.i64.wrap (v4.len - (IntKind.i64.wrap (v3 + 4)))))) (
      K (.tuple #[.string (ByteArray.mk #[]), .int .i64 6])) (
      nilc x0 fun a5 =>
      st (Addr.add a5 1) [.int .i64 (IntKind.i64.wrap ((IntKind.i64.wrap (v3 + 4)) + r1.1))] <|
      nilc x0 fun a6 =>
      nilc x0 fun a7 =>
      ld a6 (.lf .sl) fun v5 =>
      ld (Addr.add a7 1) (.lf (.int .i64)) fun v6 =>
      slc ⟨v5.a, v5.len, v5.cap⟩ (IntKind.i64.wrap (v3 + 4)) v6 v5.cap 1 fun s1 =>
      smR PP (Conv.bytesToString (.slice s1.a s1.len s1.cap)) [.lf .str] fun v7 =>
      K (.tuple #[.string v7.1, .int .i64 0])))))
theorem e64 (x0 : Option Addr) (K : Value → HP) : flatFn PP h64 Tryd.f64 [.pointer x0] K = t64 x0 K := by kernel_rfl

/-- (*depot/wire.Reader).Left -/
def h65 : Hints := ⟨[], [], [(3, [0, 1, 2, 5, 6, 7, 3, 4, 8, 9, 10])]⟩
def t65 (x0 : Option Addr) (K : Value → HP) : HP :=
  ifB (Option.isNone x0) (
   K (.int .i64 0)) (
   nilc x0 fun a1 =>
   nilc x0 fun a2 =>
   ld a1 (.lf .sl) fun v1 =>
   ld (Addr.add a2 1) (.lf (.int .i64)) fun v2 =>
   K (.int .i64 (IntKind.i64.wrap (v1.len - v2))))
theorem e65 (x0 : Option Addr) (K : Value → HP) : flatFn PP h65 Tryd.f65 [.pointer x0] K = t65 x0 K := by kernel_rfl

/-- (*depot/wire.Reader).Num -/
def h66 : Hints := ⟨[], [], [(3, [0, 1, 2, 4, 5, 6, 8, 3, 7, 9, 10, 11, 12, 13, 14])]⟩
def t66 (x0 : Option Addr) (x1 : Int) (K : Value → HP) : HP :=
  ifB (Option.isNone x0) (
   K (.tuple #[.int .i64 0, .int .i64 1])) (
   nilc x0 fun a1 =>
   nilc x0 fun a2 =>
   ld a1 (.lf .sl) fun v1 =>
   ld (Addr.add a2 1) (.lf (.int .i64)) fun v2 =>
   cl PP 55 #[.slice v1.a v1.len v1.cap, .int .i64 v2, .int .i64 x1] [.lf (.int .i64), .lf (.int .i64)] fun r1 =>
   ifB ((r1.2.1 : Int) == 0) (
    nilc x0 fun a3 =>
    ld (Addr.add a3 1) (.lf (.int .i64)) fun v3 =>
    nilc x0 fun a4 =>
    st (Addr.add a4 1) [.int .i64 (IntKind.i64.wrap (v3 + x1))] <|
    K (.tuple #[.int .i64 r1.1, .int .i64 r1.2.1])) (
    K (.tuple #[.int .i64 r1.1, .int .i64 r1.2.1])))
theorem e66 (x0 : Option Addr) (x1 : Int) (K : Value → HP) : flatFn PP h66 Tryd.f66 [.pointer x0, .int .i64 x1] K = t66 x0 x1 K := by kernel_rfl

/-- depot/entry.keyed -/
def h67 : Hints := ⟨[], [], []⟩
def t67 (x0 : Int) (K : Value → HP) : HP :=
  ifB (decide ((x0 : Int) ≥ 1)) (
   K (.bool (decide ((x0 : Int) ≤ 255)))) (
   K (.bool false))
theorem e67 (x0 : Int) (K : Value → HP) : flatFn PP h67 Tryd.f67 [.int .i64 x0] K = t67 x0 K := by kernel_rfl

/-- (*depot/flash.Flash).at -/
def h68 : Hints := ⟨[], [], []⟩
def t68 (x0 : Option Addr) (x1 : Int) (K : Value → HP) : HP :=
  ifB (Option.isNone x0) (
   K (.pointer none)) (
   nilc x0 fun a1 =>
   ld (Addr.add a1 7) (.lf .sl) fun v1 =>
   cl PP 33 #[.int .i64 x1, .int .i64 0, .int .i64 (IntKind.i64.wrap (v1.len - 1))] [.lf .bool] fun r1 =>
   ifB (!r1.1) (
    K (.pointer none)) (
    nilc x0 fun a2 =>
    ld (Addr.add a2 7) (.lf .sl) fun v2 =>
    nilc v2.a fun a3 =>
    ixn x1 v2.len <|
    ld (Addr.add a3 (x1.toNat * 1)) (.lf .ptr) fun v3 =>
    K (.pointer v3)))
theorem e68 (x0 : Option Addr) (x1 : Int) (K : Value → HP) : flatFn PP h68 Tryd.f68 [.pointer x0, .int .i64 x1] K = t68 x0 x1 K := by kernel_rfl

/-- depot/page.Image -/
def h69 : Hints := ⟨[], [], []⟩
def t69 (x0 : ShV (.agg [.int .i64, .int .i64, .int .i64, .int .i64, .int .i64])) (x1 : SlV) (x2 : Int) (K : Value → HP) : HP :=
  nw (.cells #[.int .i64 x0.1, .int .i64 x0.2.1, .int .i64 x0.2.2.1, .int .i64 x0.2.2.2.1, .int .i64 x0.2.2.2.2.1] 88) fun n1 =>
  cl PP 56 #[.int .i64 x2] [.lf .bool] fun r1 =>
  ifB (!r1.1) (
   K (.tuple #[.slice none 0 0, .int .i64 2])) (
   ld ⟨n1, 0, none⟩ (.agg [.int .i64, .int .i64, .int .i64, .int .i64, .int .i64]) fun v1 =>
   cl PP 61 #[.agg #[.int .i64 v1.1, .int .i64 v1.2.1, .int .i64 v1.2.2.1, .int .i64 v1.2.2.2.1, .int .i64 v1.2.2.2.2.1]] [.lf (.int .i64)] fun r2 =>
   ifB ((r2.1 : Int) != 0) (
    K (.tuple #[.slice none 0 0, .int .i64 r2.1])) (
    cl PP 60 #[.int .i64 x2] [.lf (.int .i64)] fun r3 =>
    ifB (decide ((x1.len : Int) > r3.1)) (
     K (.tuple #[.slice none 0 0, .int .i64 4])) (
     ld ⟨n1, 0, none⟩ (.lf (.int .i64)) fun v2 =>
     ld (Addr.add ⟨n1, 0, none⟩ 1) (.lf (.int .i64)) fun v3 =>
     ld (Addr.add ⟨n1, 0, none⟩ 2) (.lf (.int .i64)) fun v4 =>
     ld (Addr.add ⟨n1, 0, none⟩ 3) (.lf (.int .i64)) fun v5 =>
     ld (Addr.add ⟨n1, 0, none⟩ 4) (.lf (.int .i64)) fun v6 =>
     nw (.cells #[.int .i64 v2, .int .i64 1, .int .i64 v3, .int .i64 1, .int .i64 v4, .int .i64 1, .int .i64 165, .int .i64 1, .int .i64 v5, .int .i64 4, .int .i64 v6, .int .i64 1, .int .i64 0, .int .i64 1, .int .i64 x1.len, .int .i64 2] 164) fun n2 =>
     cl PP 81 #[.slice none 0 0, .slice (some ⟨n2, 0, none⟩) 8 8] [.lf .sl] fun r4 =>
     smA PP (Instr.makeSlice 44 (.int .i64 (IntKind.i64.wrap (x2 - 4))) (.int .i64 (IntKind.i64.wrap (x2 - 4)))) (.lf .sl) fun v7 =>
     smW PP (Builtin.copy_ #[44, 44] 3 #[.slice v7.a v7.len v7.cap, .slice r4.1.a r4.1.len r4.1.cap]) [.lf (.int .i64)] fun v8 =>
     slc ⟨v7.a, v7.len, v7.cap⟩ v8.1 v7.len v7.cap 1 fun s1 =>
     smW PP (Builtin.copy_ #[44, 44] 3 #[.slice s1.a s1.len s1.cap, .slice x1.a x1.len x1.cap]) [.lf (.int .i64)] fun v9 =>
     cl PP 72 #[.slice v7.a v7.len v7.cap] [.lf (.int .i64)] fun r5 =>
     nw (.cells #[.int .i64 r5.1, .int .i64 4] 164) fun n3 =>
     cl PP 81 #[.slice v7.a v7.len v7.cap, .slice (some ⟨n3, 0, none⟩) 1 1] [.lf .sl] fun r6 =>
     K (.tuple #[.slice r6.1.a r6.1.len r6.1.cap, .int .i64 0]))))
theorem e69 (x0 : ShV (.agg [.int .i64, .int .i64, .int .i64, .int .i64, .int .i64])) (x1 : SlV) (x2 : Int) (K : Value → HP) : flatFn PP h69 Tryd.f69 [.agg #[.int .i64 x0.1, .int .i64 x0.2.1, .int .i64 x0.2.2.1, .int .i64 x0.2.2.2.1, .int .i64 x0.2.2.2.2.1], .slice x1.a x1.len x1.cap, .int .i64 x2] K = t69 x0 x1 x2 K := by kernel_rfl

/-- depot/entry.Pages -/
def h70 : Hints := ⟨[], [], [(4, [0, 1, 2, 3, 4, 5, 6, 7, 8, 9, 10, 11, 12])]⟩
def t70 (x0 : Int) (x1 : Int) (x2 : ShV (.agg [.int .i64, .int .i64, .int .i64, .int .i64])) (K : Value → HP) : HP :=
  nw (.cells #[.int .i64 x2.1, .int .i64 x2.2.1, .int .i64 x2.2.2.1, .int .i64 x2.2.2.2.1] 23) fun n1 =>
  ld (Addr.add ⟨n1, 0, none⟩ 2) (.lf (.int .i64)) fun v1 =>
  cl PP 60 #[.int .i64 v1] [.lf (.int .i64)] fun r1 =>
  cl PP 67 #[.int .i64 x0] [.lf .bool] fun r2 =>
  ifB (!r2.1) (
   K (.int .i64 0)) (
   ifB (decide ((x1 : Int) < 0)) (
    K (.int .i64 0)) (
    ifB (decide ((x1 : Int) > 65536)) (
     K (.int .i64 0)) (
     ifB ((r1.1 : Int) == 0) (
      K (.int .i64 0)) (
      req ((r1.1 : Int) ≠ 0) <|
      ld (Addr.add ⟨n1, 0, none⟩ 1) (.lf (.int .i64)) fun v2 =>
      cl PP 82 #[.int .i64 (IntKind.i64.wrap (Int.tdiv (IntKind.i64.wrap ((IntKind.i64.wrap ((IntKind.i64.wrap ((IntKind.i64.wrap (x0 + x1)) + 12)) + r1.1)) - 1)) r1.1)), .int .i64 v2] [.lf (.int .i64)] fun r3 =>
      K (.int .i64 r3.1)))))
theorem e70 (x0 : Int) (x1 : Int) (x2 : ShV (.agg [.int .i64, .int .i64, .int .i64, .int .i64])) (K : Value → HP) : flatFn PP h70 Tryd.f70 [.int .i64 x0, .int .i64 x1, .agg #[.int .i64 x2.1, .int .i64 x2.2.1, .int .i64 x2.2.2.1, .int .i64 x2.2.2.2.1]] K = t70 x0 x1 x2 K := by kernel_rfl

/-- depot/wire.PutText -/
def h71 : Hints := ⟨[], [], []⟩
def t71 (x0 : SlV) (x1 : ByteArray) (K : Value → HP) : HP :=
  ifB (decide ((x1.size : Int) > 65536)) (
   K (.tuple #[.slice none 0 0, .int .i64 4])) (
   cl PP 49 #[.slice x0.a x0.len x0.cap, .int .i64 x1.size, .int .i64 4] [.lf .sl, .lf (.int .i64)] fun r1 =>
   smW PP (Builtin.append_ #[44, 9] 44 #[.slice r1.1.a r1.1.len r1.1.cap, .string x1]) [.lf .sl] fun v1 =>
   K (.tuple #[.slice v1.1.a v1.1.len v1.1.cap, .int .i64 r1.2.1]))
theorem e71 (x0 : SlV) (x1 : ByteArray) (K : Value → HP) : flatFn PP h71 Tryd.f71 [.slice x0.a x0.len x0.cap, .string x1] K = t71 x0 x1 K := by kernel_rfl

/-- depot/crc.Sum -/
def h72 : Hints := ⟨[], [], []⟩
def t72 (x0 : SlV) (K : Value → HP) : HP :=
  cl PP 83 #[.int .i64 0, .slice x0.a x0.len x0.cap] [.lf (.int .i64)] fun r1 =>
  K (.int .i64 r1.1)
theorem e72 (x0 : SlV) (K : Value → HP) : flatFn PP h72 Tryd.f72 [.slice x0.a x0.len x0.cap] K = t72 x0 K := by kernel_rfl

/-- depot/wire.of -/
def h73 : Hints := ⟨[(0, [(5, .lf (.int .i64))])], [], []⟩
def t73 (x0 : Int) (K : Value → HP) : HP :=
  nw (.cells #[.int .u8 0, .int .u8 0, .int .u8 0, .int .u8 0, .int .u8 0, .int .u8 0, .int .u8 0, .int .u8 0] 145) fun n1 =>
  nw (.cells #[.int .u8 0, .int .u8 0, .int .u8 0, .int .u8 0, .int .u8 0, .int .u8 0, .int .u8 0, .int .u8 0] 145) fun n2 =>
  lp [.lf (.int .i64)] (0, ()) fun z1 go1 =>   -- 
   ifB (decide ((z1.1 : Int) < 8)) (
    req ((0 : Int) ≤ (IntKind.i64.wrap (8 * z1.1))) <|
    ixn z1.1 8 <|
    st (Addr.add ⟨n2, 0, none⟩ (z1.1.toNat * 1)) [.int .u8 (IntKind.u8.wrap (Int.fdiv x0 (2 ^ (min (IntKind.i64.wrap (8 * z1.1) : Int).toNat IntKind.i64.bits))))] <|
    go1 (IntKind.i64.wrap (z1.1 + 1), ())) (
    ld ⟨n2, 0, none⟩ (.agg [.int .u8, .int .u8, .int .u8, .int .u8, .int .u8, .int .u8, .int .u8, .int .u8]) fun v1 =>
    st ⟨n1, 0, none⟩ [.int .u8 v1.1, .int .u8 v1.2.1, .int .u8 v1.2.2.1, .int .u8 v1.2.2.2.1, .int .u8 v1.2.2.2.2.1, .int .u8 v1.2.2.2.2.2.1, .int .u8 v1.2.2.2.2.2.2.1, .int .u8 v1.2.2.2.2.2.2.2.1] <|
    ld ⟨n1, 0, none⟩ (.agg [.int .u8, .int .u8, .int .u8, .int .u8, .int .u8, .int .u8, .int .u8, .int .u8]) fun v2 =>
    K (.agg #[.int .u8 v2.1, .int .u8 v2.2.1, .int .u8 v2.2.2.1, .int .u8 v2.2.2.2.1, .int .u8 v2.2.2.2.2.1, .int .u8 v2.2.2.2.2.2.1, .int .u8 v2.2.2.2.2.2.2.1, .int .u8 v2.2.2.2.2.2.2.2.1]))
theorem e73 (x0 : Int) (K : Value → HP) : flatFn PP h73 Tryd.f73 [.int .i64 x0] K = t73 x0 K := by kernel_rfl

end Go.Proofs.YtlabcgnegbdlfaaDoor
set_option linter.unusedVariables false
set_option maxRecDepth 100000
namespace Go.Proofs.YtlabcgnegbdlfaaDoor
open Go.HL
/-- depot/region.look -/
def h74 : Hints := ⟨[(0, [(17, .lf (.int .i64))])], [], [(6, [0, 1, 2, 3, 6, 7, 8, 4, 5, 9, 10, 11, 12, 13, 14])]⟩
def t74 (x0 : SlV) (K : Value → HP) : HP :=
  nw (.cells #[.slice none 0 0, .int .i64 0, .int .i64 0] 151) fun n1 =>
  slc ⟨x0.a, x0.len, x0.cap⟩ 0 (imin x0.len 16) x0.cap 1 fun s1 =>
  lp [.lf (.int .i64)] (0, ()) fun z1 go1 =>   -- 
   ifB (decide ((z1.1 : Int) < s1.len)) (
    nilc s1.a fun a1 =>
    ixn z1.1 s1.len <|
    ld (Addr.add a1 (z1.1.toNat * 1)) (.lf .sl) fun v1 =>
    cl PP 31 #[.slice v1.a v1.len v1.cap] [.agg [.int .i64, .int .i64, .int .i64, .int .i64, .int .i64], .lf .sl, .lf (.int .i64)] fun r1 =>
    nw (.cells #[.int .i64 0, .int .i64 0, .int .i64 0, .int .i64 0, .int .i64 0] 88) fun n2 =>
    st ⟨n2, 0, none⟩ [.int .i64 r1.1.1, .int .i64 r1.1.2.1, .int .i64 r1.1.2.2.1, .int .i64 r1.1.2.2.2.1, .int .i64 r1.1.2.2.2.2.1] <|
    ld ⟨n1, 0, none⟩ (.lf .sl) fun v2 =>
    ld ⟨n2, 0, none⟩ (.agg [.int .i64, .int .i64, .int .i64, .int .i64, .int .i64]) fun v3 =>
    nw (.cells #[.int .i64 v3.1, .int .i64 v3.2.1, .int .i64 v3.2.2.1, .int .i64 v3.2.2.2.1, .int .i64 v3.2.2.2.2.1, .slice r1.2.1.a r1.2.1.len r1.2.1.cap, .bool ((r1.2.2.1 : Int) == 0)] 153) fun n3 =>
    smW PP (Builtin.append_ #[149, 149] 149 #[.slice v2.a v2.len v2.cap, .slice (some ⟨n3, 0, none⟩) 1 1]) [.lf .sl] fun v4 =>
    st ⟨n1, 0, none⟩ [.slice v4.1.a v4.1.len v4.1.cap] <|
    cl PP 57 #[.slice v1.a v1.len v1.cap] [.lf .bool] fun r2 =>
    ifB (!r2.1) (
     st (Addr.add ⟨n1, 0, none⟩ 2) [.int .i64 z1.1] <|
     go1 (IntKind.i64.wrap (z1.1 + 1), ())) (
     go1 (IntKind.i64.wrap (z1.1 + 1), ()))) (
    K (.pointer (some ⟨n1, 0, none⟩)))
theorem e74 (x0 : SlV) (K : Value → HP) : flatFn PP h74 Tryd.f74 [.slice x0.a x0.len x0.cap] K = t74 x0 K := by kernel_rfl

/-- (*depot/region.scanner).says -/
def h75 : Hints := ⟨[], [], [(2, [0, 1, 2, 3, 4, 5, 6, 7, 8, 9, 10, 11, 12, 13, 14, 16, 15, 17, 18, 19, 20, 21, 22, 23, 24, 25, 27, 26, 28, 29, 30, 31, 32, 33])]⟩
def t75 (x0 : Option Addr) (x1 : Int) (x2 : ShV (.agg [.int .i64, .int .i64, .int .i64, .int .i64, .int .i64])) (K : Value → HP) : HP :=
  nw (.cells #[.int .i64 x2.1, .int .i64 x2.2.1, .int .i64 x2.2.2.1, .int .i64 x2.2.2.2.1, .int .i64 x2.2.2.2.2.1] 88) fun n1 =>
  nilc x0 fun a1 =>
  ld (Addr.add a1 1) (.lf (.int .i64)) fun v1 =>
  st (Addr.add ⟨n1, 0, none⟩ 3) [.int .i64 v1] <|
  st (Addr.add ⟨n1, 0, none⟩ 4) [.int .i64 x1] <|
  ifB (decide ((x1 : Int) < 0)) (
   K (.tuple #[.slice none 0 0, .bool false])) (
   nilc x0 fun a2 =>
   ld a2 (.lf .sl) fun v2 =>
   ifB (decide ((x1 : Int) ≥ v2.len)) (
    K (.tuple #[.slice none 0 0, .bool false])) (
    nilc x0 fun a3 =>
    ld a3 (.lf .sl) fun v3 =>
    nilc v3.a fun a4 =>
    ixn x1 v3.len <|
    ld (Addr.add (Addr.add a4 (x1.toNat * 7)) 6) (.lf .bool) fun v4 =>
    ifB (!v4) (
     K (.tuple #[.slice none 0 0, .bool false])) (
     nilc x0 fun a5 =>
     ld a5 (.lf .sl) fun v5 =>
     nilc v5.a fun a6 =>
     ixn x1 v5.len <|
     ld (Addr.add a6 (x1.toNat * 7)) (.agg [.int .i64, .int .i64, .int .i64, .int .i64, .int .i64]) fun v6 =>
     ld ⟨n1, 0, none⟩ (.agg [.int .i64, .int .i64, .int .i64, .int .i64, .int .i64]) fun v7 =>
     smP PP (binOp .neq 88 (.agg #[.int .i64 v6.1, .int .i64 v6.2.1, .int .i64 v6.2.2.1, .int .i64 v6.2.2.2.1, .int .i64 v6.2.2.2.2.1]) (.agg #[.int .i64 v7.1, .int .i64 v7.2.1, .int .i64 v7.2.2.1, .int .i64 v7.2.2.2.1, .int .i64 v7.2.2.2.2.1])) (.lf .bool) fun v8 =>
     ifB v8 (
      K (.tuple #[.slice none 0 0, .bool false])) (
      nilc x0 fun a7 =>
      ld a7 (.lf .sl) fun v9 =>
      nilc v9.a fun a8 =>
      ixn x1 v9.len <|
      ld (Addr.add (Addr.add a8 (x1.toNat * 7)) 5) (.lf .sl) fun v10 =>
      K (.tuple #[.slice v10.a v10.len v10.cap, .bool true])))))
theorem e75 (x0 : Option Addr) (x1 : Int) (x2 : ShV (.agg [.int .i64, .int .i64, .int .i64, .int .i64, .int .i64])) (K : Value → HP) : flatFn PP h75 Tryd.f75 [.pointer x0, .int .i64 x1, .agg #[.int .i64 x2.1, .int .i64 x2.2.1, .int .i64 x2.2.2.1, .int .i64 x2.2.2.2.1, .int .i64 x2.2.2.2.2.1]] K = t75 x0 x1 x2 K := by kernel_rfl

/-- (*depot/region.scanner).seal -/
def h76 : Hints := ⟨[(0, [(4, .lf .sl), (6, .lf .sl), (7, .lf (.int .i64))])], [], [(13, [0, 1, 2, 3, 4, 7, 5, 6, 8]), (8, [0, 1, 4, 5, 8, 9, 2, 3, 6, 7, 10, 11, 12, 13, 14])]⟩
def t76 (x0 : Option Addr) (K : Value → HP) : HP :=
  nilc x0 fun a1 =>
  ld (Addr.add a1 2) (.lf (.int .i64)) fun v1 =>
  cl PP 75 #[.pointer x0, .int .i64 v1, .agg #[.int .i64 4, .int .i64 0, .int .i64 1, .int .i64 0, .int .i64 0]] [.lf .sl, .lf .bool] fun r1 =>
  ifB (!r1.2.1) (
   K (.tuple #[.slice none 0 0, .bool false])) (
   req ((3 : Int) ≠ 0) <|
   ifB ((Int.tmod r1.1.len 3 : Int) != 0) (
    K (.tuple #[.slice none 0 0, .bool false])) (
    lp [.lf .sl, .lf .sl, .lf (.int .i64)] (⟨r1.1.a, r1.1.len, r1.1.cap⟩, ⟨none, 0, 0⟩, 1, ()) fun z1 go1 =>   -- b, l, next
     ifB (decide ((z1.1.len : Int) > 0)) (
      nilc z1.1.a fun a2 =>
      ixn 0 z1.1.len <|
      nilc z1.1.a fun a3 =>
      ixn 1 z1.1.len <|
      nilc z1.1.a fun a4 =>
      ixn 2 z1.1.len <|
      ld (Addr.add a2 ((0 : Int).toNat * 1)) (.lf (.int .u8)) fun v2 =>
      ld (Addr.add a3 ((1 : Int).toNat * 1)) (.lf (.int .u8)) fun v3 =>
      ld (Addr.add a4 ((2 : Int).toNat * 1)) (.lf (.int .u8)) fun v4 =>
      nw (.cells #[.int .i64 0, .int .i64 0, .int .i64 0] 73) fun n1 =>
      st ⟨n1, 0, none⟩ [.int .i64 (IntKind.i64.wrap v2), .int .i64 (IntKind.i64.wrap v3), .int .i64 (IntKind.i64.wrap v4)] <|
      ld ⟨n1, 0, none⟩ (.lf (.int .i64)) fun v5 =>
      cl PP 84 #[.int .i64 v5] [.lf .bool] fun r2 =>
      ifB (!r2.1) (
       K (.tuple #[.slice none 0 0, .bool false])) (
       ld (Addr.add ⟨n1, 0, none⟩ 2) (.lf (.int .i64)) fun v6 =>
       ifB ((v6 : Int) == 0) (
        K (.tuple #[.slice none 0 0, .bool false])) (
        ld (Addr.add ⟨n1, 0, none⟩ 1) (.lf (.int .i64)) fun v7 =>
        ifB ((v7 : Int) != z1.2.2.1) (
         K (.tuple #[.slice none 0 0, .bool false])) (
         ld (Addr.add ⟨n1, 0, none⟩ 2) (.lf (.int .i64)) fun v8 =>
         ld ⟨n1, 0, none⟩ (.agg [.int .i64, .int .i64, .int .i64]) fun v9 =>
         nw (.cells #[.int .i64 v9.1, .int .i64 v9.2.1, .int .i64 v9.2.2.1] 73) fun n2 =>
         smW PP (Builtin.append_ #[37, 37] 37 #[.slice z1.2.1.a z1.2.1.len z1.2.1.cap, .slice (some ⟨n2, 0, none⟩) 1 1]) [.lf .sl] fun v10 =>
         slc ⟨z1.1.a, z1.1.len, z1.1.cap⟩ 3 z1.1.len z1.1.cap 1 fun s1 =>
         go1 (⟨s1.a, s1.len, s1.cap⟩, ⟨v10.1.a, v10.1.len, v10.1.cap⟩, IntKind.i64.wrap (z1.2.2.1 + v8), ()))))) (
      nilc x0 fun a5 =>
      ld (Addr.add a5 2) (.lf (.int .i64)) fun v11 =>
      K (.tuple #[.slice z1.2.1.a z1.2.1.len z1.2.1.cap, .bool ((z1.2.2.1 : Int) == v11)]))))
theorem e76 (x0 : Option Addr) (K : Value → HP) : flatFn PP h76 Tryd.f76 [.pointer x0] K = t76 x0 K := by kernel_rfl

/-- (*depot/region.scanner).each -/
def h77 : Hints := ⟨[(0, [(5, .lf .sl), (6, .lf (.int .i64))])], [], []⟩
def t77 (x0 : Option Addr) (x1 : FnV) (K : Value → HP) : HP :=
  lp [.lf .sl, .lf (.int .i64)] (⟨none, 0, 0⟩, 1, ()) fun z1 go1 =>   -- l, p
   nilc x0 fun a1 =>
   ld (Addr.add a1 2) (.lf (.int .i64)) fun v1 =>
   ifB (decide ((z1.2.1 : Int) ≤ v1)) (
    clv PP x1.fn (x1.first ++ #[.int .i64 z1.2.1]) x1.captured [.agg [.int .i64, .int .i64, .int .i64], .lf .bool] fun r1 =>
    nw (.cells #[.int .i64 0, .int .i64 0, .int .i64 0] 73) fun n1 =>
    st ⟨n1, 0, none⟩ [.int .i64 r1.1.1, .int .i64 r1.1.2.1, .int .i64 r1.1.2.2.1] <|
    ifB (!r1.2.1) (
     go1 (⟨z1.1.a, z1.1.len, z1.1.cap⟩, IntKind.i64.wrap (z1.2.1 + 1), ())) (
     ld ⟨n1, 0, none⟩ (.agg [.int .i64, .int .i64, .int .i64]) fun v2 =>
     nw (.cells #[.int .i64 v2.1, .int .i64 v2.2.1, .int .i64 v2.2.2.1] 73) fun n2 =>
     smW PP (Builtin.append_ #[37, 37] 37 #[.slice z1.1.a z1.1.len z1.1.cap, .slice (some ⟨n2, 0, none⟩) 1 1]) [.lf .sl] fun v3 =>
     ld (Addr.add ⟨n1, 0, none⟩ 2) (.lf (.int .i64)) fun v4 =>
     go1 (⟨v3.1.a, v3.1.len, v3.1.cap⟩, IntKind.i64.wrap ((IntKind.i64.wrap (z1.2.1 + (IntKind.i64.wrap (v4 - 1)))) + 1), ()))) (
    K (.slice z1.1.a z1.1.len z1.1.cap))
theorem e77 (x0 : Option Addr) (x1 : FnV) (K : Value → HP) : flatFn PP h77 Tryd.f77 [.pointer x0, .func x1.fn x1.first x1.captured] K = t77 x0 x1 K := by kernel_rfl

/-- (*depot/region.scanner).at -/
def h78 : Hints := ⟨[(0, [(31, .lf (.int .i64))])], [], []⟩
def t78 (x0 : Option Addr) (x1 : Int) (K : Value → HP) : HP :=
  nw (.cells #[.int .i64 0, .int .i64 0, .int .i64 0] 73) fun n1 =>
  nilc x0 fun a1 =>
  ld a1 (.lf .sl) fun v1 =>
  nilc v1.a fun a2 =>
  ixn x1 v1.len <|
  ld (Addr.add a2 (x1.toNat * 7)) (.agg [.int .i64, .int .i64, .int .i64, .int .i64, .int .i64, .sl, .bool]) fun v2 =>
  nw (.cells #[.int .i64 0, .int .i64 0, .int .i64 0, .int .i64 0, .int .i64 0, .slice none 0 0, .bool false] 153) fun n2 =>
  st ⟨n2, 0, none⟩ [.int .i64 v2.1, .int .i64 v2.2.1, .int .i64 v2.2.2.1, .int .i64 v2.2.2.2.1, .int .i64 v2.2.2.2.2.1, .slice v2.2.2.2.2.2.1.a v2.2.2.2.2.2.1.len v2.2.2.2.2.2.1.cap, .bool v2.2.2.2.2.2.2.1] <|
  ld (Addr.add ⟨n2, 0, none⟩ 6) (.lf .bool) fun v3 =>
  ifB (!v3) (
   st ⟨n1, 0, none⟩ [.int .i64 0, .int .i64 0, .int .i64 0] <|
   ld ⟨n1, 0, none⟩ (.agg [.int .i64, .int .i64, .int .i64]) fun v4 =>
   K (.tuple #[.agg #[.int .i64 v4.1, .int .i64 v4.2.1, .int .i64 v4.2.2.1], .bool false])) (
   ld ⟨n2, 0, none⟩ (.lf (.int .i64)) fun v5 =>
   cl PP 84 #[.int .i64 v5] [.lf .bool] fun r1 =>
   ifB (!r1.1) (
    st ⟨n1, 0, none⟩ [.int .i64 0, .int .i64 0, .int .i64 0] <|
    ld ⟨n1, 0, none⟩ (.agg [.int .i64, .int .i64, .int .i64]) fun v6 =>
    K (.tuple #[.agg #[.int .i64 v6.1, .int .i64 v6.2.1, .int .i64 v6.2.2.1], .bool false])) (
    ld (Addr.add ⟨n2, 0, none⟩ 2) (.lf (.int .i64)) fun v7 =>
    lp [.lf (.int .i64)] (0, ()) fun z1 go1 =>   -- 
     ifB (decide ((z1.1 : Int) < v7)) (
      ld ⟨n2, 0, none⟩ (.lf (.int .i64)) fun v8 =>
      ld (Addr.add ⟨n2, 0, none⟩ 2) (.lf (.int .i64)) fun v9 =>
      cl PP 75 #[.pointer x0, .int .i64 (IntKind.i64.wrap (x1 + z1.1)), .agg #[.int .i64 v8, .int .i64 z1.1, .int .i64 v9, .int .i64 0, .int .i64 0]] [.lf .sl, .lf .bool] fun r2 =>
      ifB (!r2.2.1) (
       st ⟨n1, 0, none⟩ [.int .i64 0, .int .i64 0, .int .i64 0] <|
       ld ⟨n1, 0, none⟩ (.agg [.int .i64, .int .i64, .int .i64]) fun v10 =>
       K (.tuple #[.agg #[.int .i64 v10.1, .int .i64 v10.2.1, .int .i64 v10.2.2.1], .bool false])) (
       go1 (IntKind.i64.wrap (z1.1 + 1), ()))) (
      ld ⟨n2, 0, none⟩ (.lf (.int .i64)) fun v11 =>
      ld (Addr.add ⟨n2, 0, none⟩ 2) (.lf (.int .i64)) fun v12 =>
      st ⟨n1, 0, none⟩ [.int .i64 v11, .int .i64 x1, .int .i64 v12] <|
      ld ⟨n1, 0, none⟩ (.agg [.int .i64, .int .i64, .int .i64]) fun v13 =>
      K (.tuple #[.agg #[.int .i64 v13.1, .int .i64 v13.2.1, .int .i64 v13.2.2.1], .bool true]))))
theorem e78 (x0 : Option Addr) (x1 : Int) (K : Value → HP) : flatFn PP h78 Tryd.f78 [.pointer x0, .int .i64 x1] K = t78 x0 x1 K := by kernel_rfl

/-- slices.stableCmpFunc[depot/rebuild.Held] -/
def h79 : Hints := ⟨[(0, [(7, .lf (.int .i64)), (8, .lf (.int .i64))]), (2, [(6, .lf (.int .i64))]), (4, [(7, .lf (.int .i64)), (8, .lf (.int .i64))])], [], []⟩
def t79 (x0 : SlV) (x1 : Int) (x2 : FnV) (K : Value → HP) : HP :=
  lp [.lf (.int .i64), .lf (.int .i64)] (0, 20, ()) fun z1 go1 =>   -- a, b
   ifB (decide ((z1.2.1 : Int) ≤ x1)) (
    cl PP 85 #[.slice x0.a x0.len x0.cap, .int .i64 z1.1, .int .i64 z1.2.1, .func x2.fn x2.first x2.captured] [] fun r1 =>
    go1 (z1.2.1, IntKind.i64.wrap (z1.2.1 + 20), ())) (
    cl PP 85 #[.slice x0.a x0.len x0.cap, .int .i64 z1.1, .int .i64 x1, .func x2.fn x2.first x2.captured] [] fun r2 =>
    lp [.lf (.int .i64)] (20, ()) fun z2 go2 =>   -- blockSize
     ifB (decide ((z2.1 : Int) < x1)) (
      lp [.lf (.int .i64), .lf (.int .i64)] (0, IntKind.i64.wrap (2 * z2.1), ()) fun z3 go3 =>   -- a, b
       ifB (decide ((z3.2.1 : Int) ≤ x1)) (
        cl PP 86 #[.slice x0.a x0.len x0.cap, .int .i64 z3.1, .int .i64 (IntKind.i64.wrap (z3.1 + z2.1)), .int .i64 z3.2.1, .func x2.fn x2.first x2.captured] [] fun r3 =>
        go3 (z3.2.1, IntKind.i64.wrap (z3.2.1 + (IntKind.i64.wrap (2 * z2.1))), ())) (
        ifB (decide ((IntKind.i64.wrap (z3.1 + z2.1) : Int) < x1)) (
         cl PP 86 #[.slice x0.a x0.len x0.cap, .int .i64 z3.1, .int .i64 (IntKind.i64.wrap (z3.1 + z2.1)), .int .i64 x1, .func x2.fn x2.first x2.captured] [] fun r4 =>
         go2 (IntKind.i64.wrap (z2.1 * 2), ())) (
         go2 (IntKind.i64.wrap (z2.1 * 2), ())))) (
      K (.tuple #[])))
theorem e79 (x0 : SlV) (x1 : Int) (x2 : FnV) (K : Value → HP) : flatFn PP h79 Tryd.f79 [.slice x0.a x0.len x0.cap, .int .i64 x1, .func x2.fn x2.first x2.captured] K = t79 x0 x1 x2 K := by kernel_rfl

/-- slices.Concat[[]byte,byte] -/
def h80 : Hints := ⟨[(0, [(3, .lf (.int .i64)), (11, .lf (.int .i64))]), (2, [(6, .lf .sl), (27, .lf (.int .i64))])], [], []⟩
def t80 (x0 : SlV) (K : Value → HP) : HP :=
  lp [.lf (.int .i64), .lf (.int .i64)] (0, 0, ()) fun z1 go1 =>   -- size, 
   ifB (decide ((z1.2.1 : Int) < x0.len)) (
    nilc x0.a fun a1 =>
    ixn z1.2.1 x0.len <|
    ld (Addr.add a1 (z1.2.1.toNat * 1)) (.lf .sl) fun v1 =>
    ifB (decide ((IntKind.i64.wrap (z1.1 + v1.len) : Int) < 0)) (
     ff) (
     go1 (IntKind.i64.wrap (z1.1 + v1.len), IntKind.i64.wrap (z1.2.1 + 1), ()))) (
    cl PP 87 #[.slice none 0 0, .int .i64 z1.1] [.lf .sl] fun r1 =>
    lp [.lf .sl, .lf (.int .i64)] (⟨r1.1.a, r1.1.len, r1.1.cap⟩, 0, ()) fun z2 go2 =>   -- newslice, 
     ifB (decide ((z2.2.1 : Int) < x0.len)) (
      nilc x0.a fun a2 =>
      ixn z2.2.1 x0.len <|
      ld (Addr.add a2 (z2.2.1.toNat * 1)) (.lf .sl) fun v2 =>
      smW PP (Builtin.append_ #[44, 44] 44 #[.slice z2.1.a z2.1.len z2.1.cap, .slice v2.a v2.len v2.cap]) [.lf .sl] fun v3 =>
      go2 (⟨v3.1.a, v3.1.len, v3.1.cap⟩, IntKind.i64.wrap (z2.2.1 + 1), ())) (
      K (.slice z2.1.a z2.1.len z2.1.cap)))
theorem e80 (x0 : SlV) (K : Value → HP) : flatFn PP h80 Tryd.f80 [.slice x0.a x0.len x0.cap] K = t80 x0 K := by kernel_rfl

/-- depot/page.put -/
def h81 : Hints := ⟨[(0, [(0, .lf .sl), (9, .lf (.int .i64))])], [], []⟩
def t81 (x0 : SlV) (x1 : SlV) (K : Value → HP) : HP :=
  lp [.lf .sl, .lf (.int .i64)] (⟨x0.a, x0.len, x0.cap⟩, 0, ()) fun z1 go1 =>   -- b, 
   ifB (decide ((z1.2.1 : Int) < x1.len)) (
    nilc x1.a fun a1 =>
    ixn z1.2.1 x1.len <|
    ld (Addr.add a1 (z1.2.1.toNat * 2)) (.agg [.int .i64, .int .i64]) fun v1 =>
    nw (.cells #[.int .i64 0, .int .i64 0] 164) fun n1 =>
    st ⟨n1, 0, none⟩ [.int .i64 v1.1, .int .i64 v1.2.1] <|
    ld ⟨n1, 0, none⟩ (.lf (.int .i64)) fun v2 =>
    ld (Addr.add ⟨n1, 0, none⟩ 1) (.lf (.int .i64)) fun v3 =>
    cl PP 49 #[.slice z1.1.a z1.1.len z1.1.cap, .int .i64 v2, .int .i64 v3] [.lf .sl, .lf (.int .i64)] fun r1 =>
    go1 (⟨r1.1.a, r1.1.len, r1.1.cap⟩, IntKind.i64.wrap (z1.2.1 + 1), ())) (
    K (.slice z1.1.a z1.1.len z1.1.cap))
theorem e81 (x0 : SlV) (x1 : SlV) (K : Value → HP) : flatFn PP h81 Tryd.f81 [.slice x0.a x0.len x0.cap, .slice x1.a x1.len x1.cap] K = t81 x0 x1 K := by kernel_rfl

/-- depot/entry.Class -/
def h82 : Hints := ⟨[(0, [(14, .lf (.int .i64))])], [], []⟩
def t82 (x0 : Int) (x1 : Int) (K : Value → HP) : HP :=
  ifB (decide ((x0 : Int) < 1)) (
   K (.int .i64 0)) (
   ifB (decide ((x1 : Int) < 2)) (
    K (.int .i64 0)) (
    ld ⟨0, 0, none⟩ (.agg [.int .i64, .int .i64, .int .i64, .int .i64]) fun v1 =>
    lp [.lf (.int .i64)] (0, ()) fun z1 go1 =>   -- 
     ifB (decide ((z1.1 : Int) < 4)) (
      smP PP (Instr.index 172 (.agg #[.int .i64 v1.1, .int .i64 v1.2.1, .int .i64 v1.2.2.1, .int .i64 v1.2.2.2.1]) (.int .i64 z1.1)) (.lf (.int .i64)) fun v2 =>
      ifB (decide ((v2 : Int) ≥ x0)) (
       ifB (decide ((v2 : Int) ≤ (IntKind.i64.wrap (x1 - 2)))) (
        K (.int .i64 v2)) (
        go1 (IntKind.i64.wrap (z1.1 + 1), ()))) (
       go1 (IntKind.i64.wrap (z1.1 + 1), ()))) (
      K (.int .i64 0))))
theorem e82 (x0 : Int) (x1 : Int) (K : Value → HP) : flatFn PP h82 Tryd.f82 [.int .i64 x0, .int .i64 x1] K = t82 x0 x1 K := by kernel_rfl

/-- depot/crc.More -/
def h83 : Hints := ⟨[], [], []⟩
def t83 (x0 : Int) (x1 : SlV) (K : Value → HP) : HP :=
  cl PP 88 #[.int .u32 (bitI .xor .u32 IntKind.u32.max (IntKind.u32.wrap x0)), .slice x1.a x1.len x1.cap] [.lf (.int .u32)] fun r1 =>
  K (.int .i64 (IntKind.i64.wrap (bitI .xor .u32 IntKind.u32.max r1.1)))
theorem e83 (x0 : Int) (x1 : SlV) (K : Value → HP) : flatFn PP h83 Tryd.f83 [.int .i64 x0, .slice x1.a x1.len x1.cap] K = t83 x0 x1 K := by kernel_rfl

/-- depot/region.item -/
def h84 : Hints := ⟨[], [], []⟩
def t84 (x0 : Int) (K : Value → HP) : HP :=
  ifB ((x0 : Int) == 2) (
   K (.bool true)) (
   K (.bool ((x0 : Int) == 3)))
theorem e84 (x0 : Int) (K : Value → HP) : flatFn PP h84 Tryd.f84 [.int .i64 x0] K = t84 x0 K := by kernel_rfl

/-- slices.insertionSortCmpFunc[depot/rebuild.Held] -/
def h85 : Hints := ⟨[(0, [(8, .lf (.int .i64))]), (2, [(9, .lf (.int .i64))])], [(6, [])], [(6, [0, 1, 2, 3, 4, 5, 6, 7, 8, 10, 11, 12, 9, 13, 14, 15, 16, 17]), (4, [0, 1, 2, 3, 4, 5, 6, 7, 9, 10, 11, 12, 8, 13, 14, 15, 16])]⟩
def t85 (x0 : SlV) (x1 : Int) (x2 : Int) (x3 : FnV) (K : Value → HP) : HP :=
  lp [.lf (.int .i64)] (IntKind.i64.wrap (x1 + 1), ()) fun z1 go1 =>   -- i
   ifB (decide ((z1.1 : Int) < x2)) (
    lp [.lf (.int .i64)] (z1.1, ()) fun z2 go2 =>   -- j
     jn (fun y1 : RsV [] =>
      nilc x0.a fun a3 =>
      ixn (IntKind.i64.wrap (z2.1 - 1)) x0.len <|
      nilc x0.a fun a4 =>
      ixn z2.1 x0.len <|
      ld (Addr.add a3 ((IntKind.i64.wrap (z2.1 - 1)).toNat * 3)) (.agg [.int .i64, .int .i64, .sl]) fun v3 =>
      ld (Addr.add a4 (z2.1.toNat * 3)) (.agg [.int .i64, .int .i64, .sl]) fun v4 =>
      nilc x0.a fun a5 =>
      ixn z2.1 x0.len <|
      st (Addr.add a5 (z2.1.toNat * 3)) [.int .i64 v3.1, .int .i64 v3.2.1, .slice v3.2.2.1.a v3.2.2.1.len v3.2.2.1.cap] <|
      nilc x0.a fun a6 =>
      ixn (IntKind.i64.wrap (z2.1 - 1)) x0.len <|
      st (Addr.add a6 ((IntKind.i64.wrap (z2.1 - 1)).toNat * 3)) [.int .i64 v4.1, .int .i64 v4.2.1, .slice v4.2.2.1.a v4.2.2.1.len v4.2.2.1.cap] <|
      go2 (IntKind.i64.wrap (z2.1 - 1), ())) fun j1 =>
     ifB (decide ((z2.1 : Int) > x1)) (
       nilc x0.a fun a1 =>
       ixn z2.1 x0.len <|
       nilc x0.a fun a2 =>
       ixn (IntKind.i64.wrap (z2.1 - 1)) x0.len <|
       ld (Addr.add a1 (z2.1.toNat * 3)) (.agg [.int .i64, .int .i64, .sl]) fun v1 =>
       ld (Addr.add a2 ((IntKind.i64.wrap (z2.1 - 1)).toNat * 3)) (.agg [.int .i64, .int .i64, .sl]) fun v2 =>
       clv PP x3.fn (x3.first ++ #[.agg #[.int .i64 v1.1, .int .i64 v1.2.1, .slice v1.2.2.1.a v1.2.2.1.len v1.2.2.1.cap], .agg #[.int .i64 v2.1, .int .i64 v2.2.1, .slice v2.2.2.1.a v2.2.2.1.len v2.2.2.1.cap]]) x3.captured [.lf (.int .i64)] fun r1 =>
       ifB (decide ((r1.1 : Int) < 0)) (
        j1 (())) (
        go1 (IntKind.i64.wrap (z1.1 + 1), ()))) (
       go1 (IntKind.i64.wrap (z1.1 + 1), ()))) (
    K (.tuple #[]))
theorem e85 (x0 : SlV) (x1 : Int) (x2 : Int) (x3 : FnV) (K : Value → HP) : flatFn PP h85 Tryd.f85 [.slice x0.a x0.len x0.cap, .int .i64 x1, .int .i64 x2, .func x3.fn x3.first x3.captured] K = t85 x0 x1 x2 x3 K := by kernel_rfl

/-- slices.Grow[[]byte,byte] -/
def h87 : Hints := ⟨[], [(3, [])], []⟩
def t87 (x0 : SlV) (x1 : Int) (K : Value → HP) : HP :=
  jn (fun y1 : RsV [] =>
   ifB (decide ((IntKind.i64.wrap (x1 - (IntKind.i64.wrap (x0.cap - x0.len))) : Int) > 0)) (
    slc ⟨x0.a, x0.len, x0.cap⟩ 0 x0.cap x0.cap 1 fun s1 =>
    smW PP (Builtin.append_ #[44, 3] 44 #[.slice s1.a s1.len s1.cap, .int .i64 (IntKind.i64.wrap (x1 - (IntKind.i64.wrap (x0.cap - x0.len))))]) [.lf .sl] fun v1 =>
    slc ⟨v1.1.a, v1.1.len, v1.1.cap⟩ 0 x0.len v1.1.cap 1 fun s2 =>
    K (.slice s2.a s2.len s2.cap)) (
    K (.slice x0.a x0.len x0.cap))) fun j1 =>
  ifB (decide ((x1 : Int) < 0)) (
    ff) (
    j1 (()))
theorem e87 (x0 : SlV) (x1 : Int) (K : Value → HP) : flatFn PP h87 Tryd.f87 [.slice x0.a x0.len x0.cap, .int .i64 x1] K = t87 x0 x1 K := by kernel_rfl

/-- depot/crc.steps -/
def h88 : Hints := ⟨[(0, [(0, .lf (.int .u32)), (10, .lf (.int .i64))]), (2, [(0, .lf (.int .u32)), (18, .lf (.int .i64))])], [], []⟩
def t88 (x0 : Int) (x1 : SlV) (K : Value → HP) : HP :=
  lp [.lf (.int .u32), .lf (.int .i64)] (x0, 0, ()) fun z1 go1 =>   -- s, 
   ifB (decide ((z1.2.1 : Int) < x1.len)) (
    nilc x1.a fun a1 =>
    ixn z1.2.1 x1.len <|
    ld (Addr.add a1 (z1.2.1.toNat * 1)) (.lf (.int .u8)) fun v1 =>
    lp [.lf (.int .u32), .lf (.int .i64)] (bitI .xor .u32 z1.1 (IntKind.u32.wrap v1), 0, ()) fun z2 go2 =>   -- s, 
     ifB (decide ((z2.2.1 : Int) < 8)) (
      req ((0 : Int) ≤ 1) <|
      go2 (bitI .xor .u32 (Int.fdiv z2.1 (2 ^ (min (1 : Int).toNat IntKind.u32.bits))) (bitI .and .u32 2197175160 (IntKind.u32.wrap (0 - (bitI .and .u32 z2.1 1)))), IntKind.i64.wrap (z2.2.1 + 1), ())) (
      go1 (z2.1, IntKind.i64.wrap (z1.2.1 + 1), ()))) (
    K (.int .u32 z1.1))
theorem e88 (x0 : Int) (x1 : SlV) (K : Value → HP) : flatFn PP h88 Tryd.f88 [.int .u32 x0, .slice x1.a x1.len x1.cap] K = t88 x0 x1 K := by kernel_rfl

end Go.Proofs.YtlabcgnegbdlfaaDoor
set_option linter.unusedVariables false
set_option linter.unusedSimpArgs false
namespace Go.Proofs.YtlabcgnegbdlfaaDoor
open Go.HL

abbrev tB : TypeId := 44
abbrev eB : TypeId := 5
theorem undB : PP.underlying tB = some (.slice eB) := by kernel_rfl
theorem elemB : ElemT PP tB eB 1 1 [.int .u8 0] := elemT_of (by kernel_rfl) (by kernel_rfl) rfl (by decide) (by decide)
theorem srcB : SrcT PP tB := .inl ⟨eB, by kernel_rfl⟩
theorem srcS : SrcT PP 9 := .inr (by kernel_rfl)
theorem constB {L : HList} {b : Nat} {l : List UInt8} {T : TypeId} {fz : Nat × Nat} (cap : Nat) (hc : l.length ≤ cap) (hm : (b, Obj.cells (bvs l).toArray T fz) ∈ L) : BSl L ⟨some ⟨b, 0, none⟩, l.length, cap⟩ l :=
  ⟨by rw [bvs_length]; simp, hc, .inr ⟨_, rfl, .blk hm fun i v hv => by simpa using hv⟩⟩
theorem own_empty {n : Nat} {e : TypeId} : Own ⟨some ⟨n, 0, none⟩, 0, 0⟩ 1 e [] [(n, Obj.cells #[] e)] := ⟨rfl, Nat.le_refl _, .inr ⟨n, 0, #[], (0, 0), rfl, rfl, by simp, .inl (Nat.le_refl _), fun i u hu => by simp at hu⟩⟩
theorem own_nil {sz : Nat} {e : TypeId} : Own ⟨none, 0, 0⟩ sz e [] [] := ⟨by simp, Nat.le_refl _, .inl ⟨rfl, rfl, rfl⟩⟩

def dig (n i : Nat) : UInt8 := UInt8.ofNat (n / 256 ^ i)
def digs (n w : Nat) : List UInt8 := (List.range w).map (dig n)
theorem digs_len (n w : Nat) : (digs n w).length = w := by simp [digs]
/-- A list's number, the lowest byte first. -/
def num : List UInt8 → Nat
  | [] => 0
  | x :: r => x.toNat + 256 * num r
theorem num_lt : ∀ l : List UInt8, num l < 256 ^ l.length
  | [] => by simp [num]
  | x :: r => by
    have h1 := num_lt r
    have h2 := x.toNat_lt
    rw [List.length_cons, Nat.pow_succ]
    simp only [num]
    omega
theorem num_snoc (l : List UInt8) (x : UInt8) : num (l ++ [x]) = num l + 256 ^ l.length * x.toNat := by
  induction l with
  | nil => simp [num]
  | cons y r ih =>
    rw [List.cons_append]
    simp only [num, ih, List.length_cons, Nat.pow_succ]
    rw [Nat.mul_add, ← Nat.add_assoc, Nat.mul_comm (256 ^ r.length) 256, Nat.mul_assoc]
/-- What is put. -/
def wput (b : List UInt8) (n w : Int) : List UInt8 × Int :=
  if w < 1 ∨ 7 < w then ([], 2) else if n < 0 ∨ ((256 ^ w.toNat : Nat) : Int) ≤ n then ([], 3) else (b ++ digs n.toNat w.toNat, 0)
theorem wput_w {b : List UInt8} {n w : Int} (h : w < 1 ∨ 7 < w) : wput b n w = ([], 2) := by unfold wput; rw [if_pos h]
theorem wput_neg {b : List UInt8} {n w : Int} (h : ¬ (w < 1 ∨ 7 < w)) (h2 : n < 0) : wput b n w = ([], 3) := by unfold wput; rw [if_neg h, if_pos (Or.inl h2)]
theorem wput_big {b : List UInt8} {n w : Int} (h : ¬ (w < 1 ∨ 7 < w)) (h2 : ((256 ^ w.toNat : Nat) : Int) ≤ n) : wput b n w = ([], 3) := by unfold wput; rw [if_neg h, if_pos (Or.inr h2)]
theorem wput_ok {b : List UInt8} {n w : Int} (h : ¬ (w < 1 ∨ 7 < w)) (h1 : ¬ n < 0) (h2 : n.toNat < 256 ^ w.toNat) : wput b n w = (b ++ digs n.toNat w.toNat, 0) := by
  unfold wput
  rw [if_neg h, if_neg]
  rintro (h3 | h3)
  · exact h1 h3
  · generalize 256 ^ w.toNat = q at h2 h3
    omega
def PutK (b : List UInt8) (n w : Int) (A : HList) (v : Value) (L' : HList) : Prop := ∃ (s : SlV) (seg : HList), v = .tuple #[.slice s.a s.len s.cap, .int .i64 (wput b n w).2] ∧ L' = seg ++ A ∧ Own s 1 eB (bvs (wput b n w).1) seg
theorem PutK.err {b : List UInt8} {n w : Int} {A : HList} {e : Int} (h : wput b n w = ([], e)) : PutK b n w A (.tuple #[.slice none 0 0, .int .i64 e]) A :=
  ⟨⟨none, 0, 0⟩, [], by rw [h], rfl, by rw [h]; exact own_nil⟩

theorem shr_dig (n : Nat) (i : Nat) : Int.fdiv (n : Int) (2 ^ (8 * i)) = ((n / 256 ^ i : Nat) : Int) := by
  rw [Int.fdiv_eq_ediv_of_nonneg _ (Int.le_of_lt (Int.pow_pos (by omega)))]
  have : (2 : Int) ^ (8 * i) = ((256 ^ i : Nat) : Int) := by rw [Int.pow_mul, Int.natCast_pow]; rfl
  rw [this, Int.natCast_ediv]
theorem wrap_dig (n i : Nat) : IntKind.u8.wrap ((n / 256 ^ i : Nat) : Int) = ((dig n i).toNat : Int) := by
  rw [w8_bv, BitVec.toNat_ofInt]
  unfold dig
  have : (UInt8.ofNat (n / 256 ^ i)).toNat = n / 256 ^ i % 256 := by simp
  rw [this]
  omega
theorem digs8 (n : Nat) : digs n 8 = [dig n 0, dig n 1, dig n 2, dig n 3, dig n 4, dig n 5, dig n 6, dig n 7] := rfl
theorem wr8 (c : Array Value) (hc : c.size = 8) (a b c' d e f g h : UInt8) : wr c 0 [.int .u8 a.toNat, .int .u8 b.toNat, .int .u8 c'.toNat, .int .u8 d.toNat, .int .u8 e.toNat, .int .u8 f.toNat, .int .u8 g.toNat, .int .u8 h.toNat] = (bvs [a, b, c', d, e, f, g, h]).toArray := wr_all _ _ (by rw [hc]; rfl)
def digA (n k : Nat) : Array Value := ((List.range 8).map fun j => Value.int .u8 (if j < k then (dig n j).toNat else 0)).toArray
theorem of_rd (L : HList) (n : Nat) : Reads PP 73 #[.int .i64 n] L (.agg (bvs (digs n 8)).toArray) := by
  refine Reads.of (args := [.int .i64 n]) noNum mixed Tryd.func73 (e73 n _) ?_
  unfold t73
  refine nw_of fun n1 _ => nw_of fun n2 _ => ?_
  refine lp_of (fun k z L' => ∃ i, i ≤ 8 ∧ k = 8 - i ∧ z = ((i : Int), ()) ∧ L' = (n2, Obj.cells (digA n i) 145) :: (n1, Obj.cells #[.int .u8 0, .int .u8 0, .int .u8 0, .int .u8 0, .int .u8 0, .int .u8 0, .int .u8 0, .int .u8 0] 145) :: L) 8 ⟨0, by omega, by omega, rfl, rfl⟩ ?_
  rintro k z L' ⟨i, hi, rfl, rfl, rfl⟩
  refine ifD_of (fun (hlt : (i : Int) < 8) => ?_) (fun (hge : ¬ (i : Int) < 8) => ?_)
  · have hw : IntKind.i64.wrap (8 * (i : Int)) = ((8 * i : Nat) : Int) := by rw [w64_id (by omega) (by omega)]; omega
    have hm : min (8 * i) IntKind.i64.bits = 8 * i := Nat.min_eq_left (show 8 * i ≤ 64 by omega)
    simp only [hw, Int.toNat_natCast, hm, shr_dig, wrap_dig, Nat.mul_one]
    refine req_of (by omega) (ixn_of (by omega) hlt (st_of (n := n2) (off := i) [] _ (by rw [addr_add (ad := ⟨n2, 0, none⟩) rfl, Nat.zero_add]) rfl ?_ (.inl (Nat.le_refl _)) (digA n (i + 1)) ?_ ?_))
    · have : (digA n i).size = 8 := by simp [digA]
      rw [this]; simp only [List.length_cons, List.length_nil]; omega
    · rcases (show i = 0 ∨ i = 1 ∨ i = 2 ∨ i = 3 ∨ i = 4 ∨ i = 5 ∨ i = 6 ∨ i = 7 by omega) with rfl | rfl | rfl | rfl | rfl | rfl | rfl | rfl <;> rfl
    · refine ⟨8 - (i + 1), by omega, i + 1, by omega, rfl, ?_, rfl⟩
      rw [w64_id (by first | omega | (simp only; omega)) (by first | omega | (simp only; omega))]
      rfl
  · obtain rfl : i = 8 := by omega
    refine ld_of ((dig n 0).toNat, (dig n 1).toNat, (dig n 2).toNat, (dig n 3).toNat, (dig n 4).toNat, (dig n 5).toNat, (dig n 6).toNat, (dig n 7).toNat, ()) (ldB List.mem_cons_self rfl) ?_
    rw [digs8]
    refine st_of [(n2, Obj.cells (digA n 8) 145)] L rfl rfl (by simp) (.inl (Nat.le_refl _)) _ (wr8 _ rfl _ _ _ _ _ _ _ _) ?_
    refine ld_of ((dig n 0).toNat, (dig n 1).toNat, (dig n 2).toNat, (dig n 3).toNat, (dig n 4).toNat, (dig n 5).toNat, (dig n 6).toNat, (dig n 7).toNat, ()) (ldB (List.mem_cons_of_mem _ List.mem_cons_self) rfl) ?_
    exact .drop (A := L) (J := [_, _]) ⟨rfl, rfl⟩ (List.perm_append_comm (l₁ := [_, _]))
theorem pow_le7 {w : Nat} (h : w ≤ 7) : 256 ^ w ≤ 72057594037927936 := Nat.pow_le_pow_right (n := 256) (by omega) h
theorem wput_cl (A : HList) (v : SlV) (b : List UInt8) (hb : BSl A v b) (hl : b.length ≤ 1000000) (n w : Int) (hn : n ≤ 9223372036854775807) :
    CallF PP 49 #[.slice v.a v.len v.cap, .int .i64 n, .int .i64 w] A (PutK b n w A) := by
  refine CallF.of (args := [.slice v.a v.len v.cap, .int .i64 n, .int .i64 w]) noNum mixed Tryd.func49 (e49 v n w _) ?_
  unfold t49
  have hlen := hb.len
  refine ifD_of (fun (h1 : w < 1) => .of (.err (wput_w (by omega)))) (fun (h1 : ¬ w < 1) => ?_)
  refine ifD_of (fun (h2 : w > 7) => .of (.err (wput_w (by omega)))) (fun (h2 : ¬ w > 7) => ?_)
  refine ifD_of (fun (h3 : n < 0) => .of (.err (wput_neg (by omega) h3))) (fun (h3 : ¬ n < 0) => ?_)
  obtain ⟨m, rfl⟩ : ∃ m : Nat, n = m := ⟨n.toNat, by omega⟩
  obtain ⟨u, rfl⟩ : ∃ u : Nat, w = u := ⟨w.toNat, by omega⟩
  have hp7 := pow_le7 (w := u) (by omega)
  have hw : IntKind.i64.wrap (8 * (u : Int)) = ((8 * u : Nat) : Int) := by rw [w64_id (by omega) (by omega)]; omega
  have hm : min (8 * u) IntKind.i64.bits = 8 * u := Nat.min_eq_left (show 8 * u ≤ 64 by omega)
  simp only [hw, Int.toNat_natCast, hm, shr_dig]
  refine req_of (by omega) (ifNe_of (fun (h4 : ((m / 256 ^ u : Nat) : Int) ≠ 0) => .of (.err ?_)) (fun (h4 : ((m / 256 ^ u : Nat) : Int) = 0) => ?_))
  · refine wput_big (by omega) ?_
    rw [Int.toNat_natCast]
    have : 256 ^ u ≤ m := by
      refine Nat.le_of_not_lt fun hlt => h4 ?_
      simp [Nat.div_eq_of_lt hlt]
    generalize 256 ^ u = q at this
    omega
  · have hlt : m < 256 ^ u := by
      refine Nat.lt_of_not_le fun hle => ?_
      have := Nat.div_pos hle (Nat.pow_pos (by omega))
      omega
    have hput : wput b m u = (b ++ digs m u, 0) := by
      have := wput_ok (b := b) (n := m) (w := u) (by omega) (by omega) (by simpa using hlt)
      simpa using this
    refine cl_rd (of_rd A m) (((dig m 0).toNat, (dig m 1).toNat, (dig m 2).toNat, (dig m 3).toNat, (dig m 4).toNat, (dig m 5).toNat, (dig m 6).toNat, (dig m 7).toNat, ()), ()) rfl ?_
    refine nw_of fun n1 _ => st_of [] A rfl rfl (by simp) (.inl (Nat.le_refl _)) (bvs (digs m 8)).toArray (by rw [digs8]; exact wr8 _ rfl _ _ _ _ _ _ _ _) ?_
    have hc : IntKind.i64.wrap ((v.len : Int) + (u : Int)) = ((v.len + u : Nat) : Int) := by rw [w64_id (by omega) (by omega)]; omega
    rw [hc]
    refine make_of (l := 0) (c := v.len + u) elemB (by omega) (by omega) fun n2 ob own0 _ _ => ?_
    have z0 : zeros [Value.int .u8 0] 0 = [] := rfl
    rw [z0] at own0
    refine append_in elemB srcB [] ([(n1, Obj.cells (bvs (digs m 8)).toArray 145)] ++ A) own0 (by simp) (.sl (hb.mono fun p hp => by simp [hp])) (bvs_plain _) (by simp only; omega) fun s1 seg1 hs1 own1 => ?_
    simp only at hs1
    refine slc_of (l' := 0) (h' := u) (m' := 8) rfl rfl rfl (by omega) (by omega) (Nat.le_refl _) ?_
    have hd : BSl ([] ++ seg1 ++ ([(n1, Obj.cells (bvs (digs m 8)).toArray 145)] ++ A)) ⟨some ⟨n1, 0, none⟩, 8, 8⟩ (digs m 8) := constB (l := digs m 8) (T := 145) (fz := (0, 0)) 8 (by rw [digs_len]; exact Nat.le_refl _) (by simp)
    have hd2 := Sl.slc (l := 0) (h' := u) (m := 8) hd (by omega) (by omega) (by simp only; omega) (by omega)
    rw [bvs_slc] at hd2
    have e1 : ((digs m 8).drop 0).take (u - 0) = digs m u := by
      rcases (show u = 1 ∨ u = 2 ∨ u = 3 ∨ u = 4 ∨ u = 5 ∨ u = 6 ∨ u = 7 by omega) with rfl | rfl | rfl | rfl | rfl | rfl | rfl <;> rfl
    rw [e1] at hd2
    refine append_in elemB srcB [] ([(n1, Obj.cells (bvs (digs m 8)).toArray 145)] ++ A) own1 rfl (.sl hd2) (bvs_plain _) (by simp only [slcV, Int.toNat_natCast]; omega) fun s2 seg2 hs2 own2 => ?_
    rw [List.nil_append, ← bvs_append] at own2
    refine .drop (A := seg2 ++ A) (J := [(n1, Obj.cells (bvs (digs m 8)).toArray 145)]) ⟨s2, seg2, by rw [hput], rfl, by rw [hput]; exact own2⟩ ?_
    have h1 : ([(n1, Obj.cells (bvs (digs m 8)).toArray 145)] ++ A).Perm (A ++ [(n1, Obj.cells (bvs (digs m 8)).toArray 145)]) := List.perm_append_comm
    simpa [List.append_assoc] using List.Perm.append_left seg2 h1
end Go.Proofs.YtlabcgnegbdlfaaDoor
set_option linter.unusedVariables false
set_option linter.unusedSimpArgs false
namespace Go.Proofs.YtlabcgnegbdlfaaDoor
open Go.HL

abbrev tPs : TypeId := 66
theorem elemPs : ElemT PP tPs tB 1 24 [.slice none 0 0] := elemT_of (by kernel_rfl) (by kernel_rfl) rfl (by decide) (by decide)
theorem srcPs : SrcT PP tPs := .inl ⟨tB, by kernel_rfl⟩
/-- Bytes with their own place. -/
structure PG where
  v : SlV
  seg : HList
  l : List UInt8
def PG.Ok (g : PG) : Prop := Own g.v 1 eB (bvs g.l) g.seg
def PG.val (g : PG) : Value := .slice g.v.a g.v.len g.v.cap
def pgs (l : List PG) : HList := l.flatMap PG.seg
theorem pgs_append (a b : List PG) : pgs (a ++ b) = pgs a ++ pgs b := List.flatMap_append
theorem pgs_cons (a : PG) (b : List PG) : pgs (a :: b) = a.seg ++ pgs b := rfl
theorem pgs_one (a : PG) : pgs [a] = a.seg := by simp [pgs]
def pg0 : PG := ⟨⟨none, 0, 0⟩, [], []⟩
theorem pg0_ok : pg0.Ok := own_nil
/-- Bytes that are read. -/
abbrev PV := SlV × List UInt8
def pvV (x : PV) : Value := .slice x.1.a x.1.len x.1.cap
def pvs (l : List PG) : List PV := l.map fun g => (g.v, g.l)
theorem pvs_val (l : List PG) : (pvs l).map pvV = l.map PG.val := by unfold pvs; rw [List.map_map]; rfl
def catL (l : List PV) : List UInt8 := l.flatMap Prod.snd
structure Parts (L : HList) (v : SlV) (l : List PV) : Prop where
  sl : Sl L v 1 (l.map pvV)
  val : ∀ x ∈ l, BSl L x.1 x.2
theorem Parts.len {L : HList} {v : SlV} {l : List PV} (h : Parts L v l) : v.len = l.length := by have := h.sl.len; rw [List.length_map] at this; omega
theorem Parts.at' {L : HList} {v : SlV} {l : List PV} (h : Parts L v l) {i : Nat} (hi : i < l.length) : ∃ a, v.a = some a ∧ LdAt (Addr.add a ((i : Int).toNat * 1)) [pvV l[i]] L := by
  have hl := h.len
  obtain ⟨a, ha, hld⟩ := h.sl.at' (i := i) (by omega) (by decide)
  refine ⟨a, ha, ?_⟩
  rw [Int.toNat_natCast, Nat.mul_one]
  exact hld.one i (by rw [List.getElem?_map, List.getElem?_eq_getElem hi]; rfl)
theorem parts_of {L : HList} {v : SlV} {gs : List PG} {seg : HList} (own : Own v 1 tB (gs.map PG.val) seg) (hg : ∀ g ∈ gs, g.Ok) (h1 : ∀ x ∈ seg, x ∈ L) (h2 : ∀ x ∈ pgs gs, x ∈ L) : Parts L v (pvs gs) := by
  refine ⟨by rw [pvs_val]; exact own.sl.mono h1, fun x hx => ?_⟩
  obtain ⟨g, hgm, rfl⟩ := List.mem_map.1 hx
  exact Sl.mono (hg g hgm).sl fun y hy => h2 y (List.mem_flatMap.2 ⟨g, hgm, hy⟩)
theorem catL_take_le (l : List PV) (i : Nat) : (catL (l.take i)).length ≤ (catL l).length := by
  conv => rhs; rw [← List.take_append_drop i l]
  unfold catL
  rw [List.flatMap_append, List.length_append]; omega
theorem catL_succ (l : List PV) {i : Nat} (hi : i < l.length) : catL (l.take (i + 1)) = catL (l.take i) ++ l[i].2 := by
  unfold catL
  rw [List.take_succ_eq_append_getElem hi, List.flatMap_append, List.flatMap_singleton]
end Go.Proofs.YtlabcgnegbdlfaaDoor
set_option linter.unusedVariables false
set_option linter.unusedSimpArgs false
namespace Go.Proofs.YtlabcgnegbdlfaaDoor
open Go.HL

end Go.Proofs.YtlabcgnegbdlfaaDoor
set_option linter.unusedVariables false
set_option linter.unusedSimpArgs false
namespace Go.Proofs.YtlabcgnegbdlfaaDoor
open Go.HL

/-- What is got. -/
def wget (b : List UInt8) (at' w : Int) : Int × Int :=
  if w < 1 ∨ 7 < w then (0, 2) else if at' < 0 ∨ (b.length : Int) < at' + w then (0, 6) else ((num ((b.drop at'.toNat).take w.toNat) : Int), 0)
theorem wget_w {b : List UInt8} {a w : Int} (h : w < 1 ∨ 7 < w) : wget b a w = (0, 2) := by unfold wget; rw [if_pos h]
theorem wget_short {b : List UInt8} {a w : Int} (h : ¬ (w < 1 ∨ 7 < w)) (h2 : a < 0 ∨ (b.length : Int) < a + w) : wget b a w = (0, 6) := by unfold wget; rw [if_neg h, if_pos h2]
theorem wget_ok {b : List UInt8} {a w : Nat} (h : 1 ≤ w) (h7 : w ≤ 7) (h2 : a + w ≤ b.length) : wget b a w = ((num ((b.drop a).take w) : Int), 0) := by
  unfold wget
  rw [if_neg (by omega), if_neg (by omega), Int.toNat_natCast, Int.toNat_natCast]
theorem pow256 (w : Nat) (h : w ≤ 7) : 0 < 256 ^ w ∧ 256 ^ w ≤ 72057594037927936 := ⟨Nat.pow_pos (by omega), pow_le7 h⟩
theorem num_le {l : List UInt8} {w : Nat} (hl : l.length ≤ w) (hw : w ≤ 7) : num l < 256 ^ w := Nat.lt_of_lt_of_le (num_lt l) (Nat.pow_le_pow_right (by omega) hl)
theorem wget_rng (b : List UInt8) (a w : Int) : 0 ≤ (wget b a w).1 ∧ (wget b a w).1 < 72057594037927936 ∧ ((wget b a w).2 = 0 ∨ (wget b a w).2 = 2 ∨ (wget b a w).2 = 6) ∧ ((wget b a w).2 = 0 → 0 ≤ a ∧ 1 ≤ w ∧ w ≤ 7 ∧ a + w ≤ b.length) := by
  unfold wget
  split
  · exact ⟨by simp, by simp, .inr (.inl rfl), fun h => absurd h (by decide)⟩
  · split
    · exact ⟨by simp, by simp, .inr (.inr rfl), fun h => absurd h (by decide)⟩
    · have h1 := num_le (l := (b.drop a.toNat).take w.toNat) (w := w.toNat) (List.length_take_le _ _) (by omega)
      have h2 := pow_le7 (w := w.toNat) (by omega)
      refine ⟨by simp only; omega, by simp only; omega, .inl rfl, fun _ => ⟨by omega, by omega, by omega, by omega⟩⟩
theorem take_step (b : List UInt8) (a i : Nat) (h : a + i < b.length) : (b.drop a).take (i + 1) = (b.drop a).take i ++ [b[a + i]] := by
  rw [List.take_succ_eq_append_getElem (by rw [List.length_drop]; omega)]
  congr 2
  simp
theorem wget_rd (L : HList) (v : SlV) (b : List UInt8) (hb : BSl L v b) (hl : b.length ≤ 1000000000) (a w : Int) :
    Reads PP 55 #[.slice v.a v.len v.cap, .int .i64 a, .int .i64 w] L (.tuple #[.int .i64 (wget b a w).1, .int .i64 (wget b a w).2]) := by
  refine Reads.of (args := [.slice v.a v.len v.cap, .int .i64 a, .int .i64 w]) noNum mixed Tryd.func55 (e55 v a w _) ?_
  unfold t55
  have hlen := hb.len
  refine ifD_of (fun (h1 : w < 1) => .of ⟨by rw [wget_w (by omega)], rfl⟩) (fun (h1 : ¬ w < 1) => ?_)
  refine ifD_of (fun (h2 : w > 7) => .of ⟨by rw [wget_w (by omega)], rfl⟩) (fun (h2 : ¬ w > 7) => ?_)
  refine ifD_of (fun (h3 : a < 0) => .of ⟨by rw [wget_short (by omega) (.inl h3)], rfl⟩) (fun (h3 : ¬ a < 0) => ?_)
  refine ifD_of (fun (h4 : a > v.len) => .of ⟨by rw [wget_short (by omega) (.inr (by omega))], rfl⟩) (fun (h4 : ¬ a > v.len) => ?_)
  rw [w64_id (n := (v.len : Int) - a) (by omega) (by omega)]
  refine ifD_of (fun (h5 : w > (v.len : Int) - a) => .of ⟨by rw [wget_short (by omega) (.inr (by omega))], rfl⟩) (fun (h5 : ¬ w > (v.len : Int) - a) => ?_)
  obtain ⟨a, rfl⟩ : ∃ u : Nat, a = u := ⟨a.toNat, by omega⟩
  obtain ⟨w, rfl⟩ : ∃ u : Nat, w = u := ⟨w.toNat, by omega⟩
  have hfit : a + w ≤ b.length := by omega
  rw [wget_ok (by omega) (by omega) hfit]
  refine lp_of (fun k z L' => L' = L ∧ ∃ i : Nat, i ≤ w ∧ k = w - i ∧ z = ((num ((b.drop a).take i) : Int), ((256 ^ i : Nat) : Int), (i : Int), ())) w ⟨rfl, 0, by omega, by omega, rfl⟩ ?_
  rintro k z L ⟨rfl, i, hi, rfl, rfl⟩
  refine ifD_of (fun (hlt : (i : Int) < w) => ?_) (fun (hge : ¬ (i : Int) < w) => ?_)
  · have hai : a + i < b.length := by omega
    obtain ⟨ad, ha⟩ := hb.some hai
    have e1 : IntKind.i64.wrap ((a : Int) + i) = ((a + i : Nat) : Int) := by rw [w64_id (by omega) (by omega)]; omega
    simp only [e1]
    refine nilc_of ha (ixn_of (by omega) (by omega) (ld_of (b[a + i].toNat : Int) (hb.rd hai ha _ (by omega)) ?_))
    have hp := pow256 i (by omega)
    have hx := b[a + i].toNat_lt
    have hn := num_le (l := (b.drop a).take i) (w := i) (List.length_take_le _ _) (by omega)
    have hlt6 : 256 ^ i ≤ 281474976710656 := Nat.le_trans (Nat.pow_le_pow_right (by omega) (show i ≤ 6 by omega)) (by decide)
    have hm : 256 ^ i * b[a + i].toNat ≤ 281474976710656 * 255 := Nat.mul_le_mul hlt6 (by omega)
    refine ⟨w - (i + 1), by omega, rfl, i + 1, by omega, rfl, ?_⟩
    have hli : ((b.drop a).take i).length = i := by rw [List.length_take, List.length_drop]; omega
    rw [take_step b a i hai, num_snoc, hli]
    have e2 : ((256 ^ i : Nat) : Int) * (b[a + i].toNat : Int) = ((256 ^ i * b[a + i].toNat : Nat) : Int) := by rw [Int.natCast_mul]
    have e3 : ((256 ^ i : Nat) : Int) * 256 = ((256 ^ (i + 1) : Nat) : Int) := by rw [Nat.pow_succ, Int.natCast_mul]; rfl
    have hp1 := pow256 (i + 1) (by omega)
    simp only [w64_id (n := (b[a + i].toNat : Int)) (by omega) (by omega), e2, e3]
    generalize 256 ^ i * b[a + i].toNat = q at hm ⊢
    generalize 256 ^ (i + 1) = q2 at hp1 ⊢
    generalize 256 ^ i = q3 at hn hlt6
    rw [w64_id (n := (q : Int)) (by omega) (by omega), w64_id (n := (num ((b.drop a).take i) : Int) + q) (by omega) (by omega), w64_id (n := (q2 : Int)) (by omega) (by omega), w64_id (n := (i : Int) + 1) (by omega) (by omega)]
    simp only [Int.natCast_add, Int.cast_ofNat_Int]
  · obtain rfl : i = w := by omega
    exact .of ⟨rfl, rfl⟩
end Go.Proofs.YtlabcgnegbdlfaaDoor
set_option linter.unusedVariables false
set_option linter.unusedSimpArgs false
namespace Go.Proofs.YtlabcgnegbdlfaaDoor

def crcBit (c : BitVec 32) : BitVec 32 := (c >>> 1) ^^^ (2197175160#32 &&& -(c &&& 1#32))
def crcBits : Nat → BitVec 32 → BitVec 32
  | 0, c => c
  | n + 1, c => crcBit (crcBits n c)
def crcByte (c : BitVec 32) (b : UInt8) : BitVec 32 := crcBits 8 (c ^^^ BitVec.ofNat 32 b.toNat)
def crcSteps (c : BitVec 32) (l : List UInt8) : BitVec 32 := l.foldl crcByte c
theorem crcSteps_snoc (c : BitVec 32) (l : List UInt8) (b : UInt8) : crcSteps c (l ++ [b]) = crcByte (crcSteps c l) b := by simp [crcSteps]
end Go.Proofs.YtlabcgnegbdlfaaDoor
set_option linter.unusedVariables false
namespace Go.Proofs.YtlabcgnegbdlfaaDoor
open Go.HL

theorem shr1 (d : BitVec 32) : Int.fdiv (d.toNat : Int) (2 ^ (min (1 : Int).toNat IntKind.u32.bits)) = ((d >>> 1).toNat : Int) := by
  have : (2 : Int) ^ (min (1 : Int).toNat IntKind.u32.bits) = 2 := rfl
  rw [this, BitVec.toNat_ushiftRight, Nat.shiftRight_eq_div_pow, Int.fdiv_eq_ediv_of_nonneg _ (by omega)]
  rfl
theorem neg32 (d : BitVec 32) : IntKind.u32.wrap (0 - (d.toNat : Int)) = ((-d).toNat : Int) := by
  rw [w32_bv]
  congr 2
  rw [Int.zero_sub, BitVec.ofInt_neg, bv_nat]
theorem crcBit_int (d : BitVec 32) : bitI .xor .u32 (Int.fdiv (d.toNat : Int) (2 ^ (min (1 : Int).toNat IntKind.u32.bits))) (bitI .and .u32 2197175160 (IntKind.u32.wrap (0 - bitI .and .u32 d.toNat 1))) = ((crcBit d).toNat : Int) := by
  rw [shr1, show (1 : Int) = ((1#32 : BitVec 32).toNat : Int) from rfl, (bit32 _ _).2.1, neg32, show (2197175160 : Int) = ((2197175160#32 : BitVec 32).toNat : Int) from rfl, (bit32 _ _).2.1, (bit32 _ _).1]
  rfl

theorem steps_rd (L : HList) (v : SlV) (l : List UInt8) (h : BSl L v l) (hb : l.length ≤ 1000000) (c : BitVec 32) : Reads PP 88 #[.int .u32 c.toNat, .slice v.a v.len v.cap] L (.int .u32 (crcSteps c l).toNat) := by
  refine Reads.of (args := [.int .u32 c.toNat, .slice v.a v.len v.cap]) noNum mixed Tryd.func88 (e88 c.toNat v _) ?_
  unfold t88
  have hlen := h.len
  refine lp_of (fun k z L' => L' = L ∧ ∃ i, i ≤ l.length ∧ k = l.length - i ∧ z = (((crcSteps c (l.take i)).toNat : Int), (i : Int), ())) l.length ⟨rfl, 0, by omega, by omega, rfl⟩ ?_
  rintro k z L ⟨rfl, i, hi, rfl, rfl⟩
  refine ifD_of (fun (hlt : (i : Int) < v.len) => ?_) (fun (hge : ¬ (i : Int) < v.len) => ?_)
  · have hlt' : i < l.length := by omega
    obtain ⟨ad, ha⟩ := h.some hlt'
    refine nilc_of ha (ixn_of (show (0 : Int) ≤ i by omega) hlt (ld_of (l[i].toNat : Int) (h.rd hlt' ha _ (by simp)) ?_))
    refine lp_of (fun k z L' => L' = L ∧ ∃ j, j ≤ 8 ∧ k = 8 - j ∧ z = (((crcBits j (crcSteps c (l.take i) ^^^ BitVec.ofNat 32 l[i].toNat)).toNat : Int), (j : Int), ())) 8 ⟨rfl, 0, by omega, by omega, ?_⟩ ?_
    · simp only [w32_bv]
      rw [show (BitVec.ofInt 32 (l[i].toNat : Int)) = BitVec.ofNat 32 l[i].toNat from rfl, (bit32 _ _).1]
      rfl
    · rintro k z L ⟨rfl, j, hj, rfl, rfl⟩
      refine ifD_of (fun (hlt : (j : Int) < 8) => ?_) (fun (hge : ¬ (j : Int) < 8) => ?_)
      · refine req_of (by decide) ⟨8 - (j + 1), by omega, rfl, j + 1, by omega, rfl, ?_⟩
        rw [w64_id (by simp only; omega) (by simp only; omega)]
        exact Prod.ext (crcBit_int _) rfl
      · refine ⟨l.length - (i + 1), by omega, rfl, i + 1, by omega, rfl, ?_⟩
        obtain rfl : j = 8 := by omega
        rw [w64_id (by simp only; omega) (by simp only; omega), List.take_succ_eq_append_getElem hlt', crcSteps_snoc]
        rfl
  · refine .of ⟨?_, rfl⟩
    obtain rfl : i = l.length := by omega
    rw [List.take_length]

def low32 (n : Int) : BitVec 32 := BitVec.ofInt 32 n
def crcMore (n : Int) (l : List UInt8) : Int := ((~~~ crcSteps (~~~ low32 n) l).toNat : Int)
def crcSum (l : List UInt8) : Int := crcMore 0 l
theorem crcMore_range (n : Int) (l : List UInt8) : 0 ≤ crcMore n l ∧ crcMore n l < 4294967296 := by
  unfold crcMore
  have := (~~~ crcSteps (~~~ low32 n) l).isLt
  omega
theorem not32 (d : BitVec 32) : bitI .xor .u32 IntKind.u32.max (d.toNat : Int) = ((~~~ d).toNat : Int) := by
  rw [show (IntKind.u32.max : Int) = ((BitVec.allOnes 32).toNat : Int) from rfl, (bit32 _ _).1, BitVec.allOnes_xor]

theorem more_rd (L : HList) (v : SlV) (l : List UInt8) (h : BSl L v l) (hb : l.length ≤ 1000000) (n : Int) : Reads PP 83 #[.int .i64 n, .slice v.a v.len v.cap] L (.int .i64 (crcMore n l)) := by
  refine Reads.of (args := [.int .i64 n, .slice v.a v.len v.cap]) noNum mixed Tryd.func83 (e83 n v _) ?_
  unfold t83
  rw [w32_bv, not32]
  refine cl_rd (steps_rd L v l h hb (~~~ low32 n)) (((crcSteps (~~~ low32 n) l).toNat : Int), ()) rfl ?_
  refine .of ⟨?_, rfl⟩
  have := crcMore_range n l
  simp only [not32]
  rw [w64_id (by have := crcMore_range n l; unfold crcMore at this; omega) (by have := crcMore_range n l; unfold crcMore at this; omega)]
  rfl
theorem sum_rd (L : HList) (v : SlV) (l : List UInt8) (h : BSl L v l) (hb : l.length ≤ 1000000) : Reads PP 72 #[.slice v.a v.len v.cap] L (.int .i64 (crcSum l)) := by
  refine Reads.of (args := [.slice v.a v.len v.cap]) noNum mixed Tryd.func72 (e72 v _) ?_
  unfold t72
  refine cl_rd (more_rd L v l h hb 0) (crcMore 0 l, ()) rfl ?_
  exact .of ⟨rfl, rfl⟩
theorem check_rd (L : HList) (v : SlV) (l : List UInt8) (h : BSl L v l) (hb : l.length ≤ 1000000) (n : Int) : Reads PP 58 #[.slice v.a v.len v.cap, .int .i64 n] L (.bool (crcSum l == n)) := by
  refine Reads.of (args := [.slice v.a v.len v.cap, .int .i64 n]) noNum mixed Tryd.func58 (e58 v n _) ?_
  unfold t58
  refine cl_rd (sum_rd L v l h hb) (crcSum l, ()) rfl ?_
  exact .of ⟨rfl, rfl⟩

end Go.Proofs.YtlabcgnegbdlfaaDoor
set_option linter.unusedVariables false
set_option linter.unusedSimpArgs false
namespace Go.Proofs.YtlabcgnegbdlfaaDoor
open Go.HL

def szd (n : Int) : Bool := decide (64 ≤ n ∧ n ≤ 512)
def roomOf (n : Int) : Int := if 64 ≤ n ∧ n ≤ 512 then n - 16 else 0
theorem psized_rd (L : HList) (n : Int) : Reads PP 56 #[.int .i64 n] L (.bool (szd n)) := by
  refine Reads.of (args := [.int .i64 n]) noNum mixed Tryd.func56 (e56 n _) ?_
  unfold t56
  refine ifD_of (fun (h : n ≥ 64) => .of ⟨?_, rfl⟩) (fun (h : ¬ n ≥ 64) => .of ⟨?_, rfl⟩)
  · unfold szd; congr 1; rw [decide_eq_decide]; omega
  · unfold szd; rw [decide_eq_false (by omega)]
theorem szd_t {n : Int} (h : szd n = true) : 64 ≤ n ∧ n ≤ 512 := of_decide_eq_true h
theorem szd_f {n : Int} (h : szd n = false) : ¬ (64 ≤ n ∧ n ≤ 512) := of_decide_eq_false h
theorem proom_rd (L : HList) (n : Int) : Reads PP 60 #[.int .i64 n] L (.int .i64 (roomOf n)) := by
  refine Reads.of (args := [.int .i64 n]) noNum mixed Tryd.func60 (e60 n _) ?_
  unfold t60
  refine cl_rd (psized_rd _ n) (szd n, ()) rfl ?_
  cases h : szd n with
  | false => exact ifT rfl (.of ⟨by unfold roomOf; rw [if_neg (szd_f h)], rfl⟩)
  | true =>
    have := szd_t h
    refine ifF rfl (.of ⟨?_, rfl⟩)
    unfold roomOf; rw [if_pos this, w64_id (by omega) (by omega)]
end Go.Proofs.YtlabcgnegbdlfaaDoor
set_option linter.unusedVariables false
set_option linter.unusedSimpArgs false
namespace Go.Proofs.YtlabcgnegbdlfaaDoor
open Go.HL

/-- A head: kind, part, parts, epoch, page. -/
abbrev Hd := Int × Int × Int × Int × Int × Unit
def hEnc (h : Hd) : List Value := [.int .i64 h.1, .int .i64 h.2.1, .int .i64 h.2.2.1, .int .i64 h.2.2.2.1, .int .i64 h.2.2.2.2.1]
def hErr (h : Hd) : Int := if h.1 < 1 ∨ h.1 > 4 then 16 else if h.2.2.1 < 1 ∨ h.2.2.1 > 16 ∨ h.2.1 < 0 ∨ h.2.1 ≥ h.2.2.1 ∨ h.2.2.2.1 < 1 ∨ h.2.2.2.1 > 1073741824 ∨ h.2.2.2.2.1 < 0 ∨ h.2.2.2.2.1 > 15 then 3 else 0
theorem hErr_k {h : Hd} (c : h.1 < 1 ∨ h.1 > 4) : hErr h = 16 := by unfold hErr; rw [if_pos c]
theorem hErr_r {h : Hd} (c : ¬ (h.1 < 1 ∨ h.1 > 4)) (d : h.2.2.1 < 1 ∨ h.2.2.1 > 16 ∨ h.2.1 < 0 ∨ h.2.1 ≥ h.2.2.1 ∨ h.2.2.2.1 < 1 ∨ h.2.2.2.1 > 1073741824 ∨ h.2.2.2.2.1 < 0 ∨ h.2.2.2.2.1 > 15) : hErr h = 3 := by unfold hErr; rw [if_neg c, if_pos d]
theorem hErr_0 {h : Hd} (c : ¬ (h.1 < 1 ∨ h.1 > 4)) (d : ¬ (h.2.2.1 < 1 ∨ h.2.2.1 > 16 ∨ h.2.1 < 0 ∨ h.2.1 ≥ h.2.2.1 ∨ h.2.2.2.1 < 1 ∨ h.2.2.2.1 > 1073741824 ∨ h.2.2.2.2.1 < 0 ∨ h.2.2.2.2.1 > 15)) : hErr h = 0 := by unfold hErr; rw [if_neg c, if_neg d]
theorem hErr_ok {h : Hd} (e : hErr h = 0) : 1 ≤ h.1 ∧ h.1 ≤ 4 ∧ 1 ≤ h.2.2.1 ∧ h.2.2.1 ≤ 16 ∧ 0 ≤ h.2.1 ∧ h.2.1 < h.2.2.1 ∧ 1 ≤ h.2.2.2.1 ∧ h.2.2.2.1 ≤ 1073741824 ∧ 0 ≤ h.2.2.2.2.1 ∧ h.2.2.2.2.1 ≤ 15 := by
  unfold hErr at e
  split at e
  · cases e
  · split at e
    · cases e
    · omega
theorem pcheck_rd (L : HList) (h : Hd) : Reads PP 61 #[.agg #[.int .i64 h.1, .int .i64 h.2.1, .int .i64 h.2.2.1, .int .i64 h.2.2.2.1, .int .i64 h.2.2.2.2.1]] L (.int .i64 (hErr h)) := by
  refine Reads.of (args := [.agg #[.int .i64 h.1, .int .i64 h.2.1, .int .i64 h.2.2.1, .int .i64 h.2.2.2.1, .int .i64 h.2.2.2.2.1]]) noNum mixed Tryd.func61 (e61 h _) ?_
  unfold t61
  refine nw_of fun n1 _ => ?_
  generalize ho : (n1, Obj.cells #[.int .i64 h.1, .int .i64 h.2.1, .int .i64 h.2.2.1, .int .i64 h.2.2.2.1, .int .i64 h.2.2.2.2.1] 88) = o1
  have l0 : LdAt ⟨n1, 0, none⟩ [.int .i64 h.1] (o1 :: L) := by subst ho; exact ldB List.mem_cons_self rfl
  have l1 : LdAt (Addr.add ⟨n1, 0, none⟩ 1) [.int .i64 h.2.1] (o1 :: L) := by subst ho; exact ldB List.mem_cons_self rfl
  have l2 : LdAt (Addr.add ⟨n1, 0, none⟩ 2) [.int .i64 h.2.2.1] (o1 :: L) := by subst ho; exact ldB List.mem_cons_self rfl
  have l3 : LdAt (Addr.add ⟨n1, 0, none⟩ 3) [.int .i64 h.2.2.2.1] (o1 :: L) := by subst ho; exact ldB List.mem_cons_self rfl
  have l4 : LdAt (Addr.add ⟨n1, 0, none⟩ 4) [.int .i64 h.2.2.2.2.1] (o1 :: L) := by subst ho; exact ldB List.mem_cons_self rfl
  clear ho
  refine ld_of h.1 l0 (ifD_of (fun (c : h.1 < 1) => .cons (.of ⟨by rw [hErr_k (.inl c)], rfl⟩)) (fun (c1 : ¬ h.1 < 1) => ?_))
  refine ld_of h.1 l0 (ifD_of (fun (c : h.1 > 4) => .cons (.of ⟨by rw [hErr_k (.inr c)], rfl⟩)) (fun (c2 : ¬ h.1 > 4) => ?_))
  refine ld_of h.2.2.1 l2 (ifD_of (fun (c : h.2.2.1 < 1) => .cons (.of ⟨by rw [hErr_r (by omega) (by omega)], rfl⟩)) (fun (c3 : ¬ h.2.2.1 < 1) => ?_))
  refine ld_of h.2.2.1 l2 (ifD_of (fun (c : h.2.2.1 > 16) => .cons (.of ⟨by rw [hErr_r (by omega) (by omega)], rfl⟩)) (fun (c4 : ¬ h.2.2.1 > 16) => ?_))
  refine ld_of h.2.1 l1 (ifD_of (fun (c : h.2.1 < 0) => .cons (.of ⟨by rw [hErr_r (by omega) (by omega)], rfl⟩)) (fun (c5 : ¬ h.2.1 < 0) => ?_))
  refine ld_of h.2.1 l1 (ld_of h.2.2.1 l2 (ifD_of (fun (c : h.2.1 ≥ h.2.2.1) => .cons (.of ⟨by rw [hErr_r (by omega) (by omega)], rfl⟩)) (fun (c6 : ¬ h.2.1 ≥ h.2.2.1) => ?_)))
  refine ld_of h.2.2.2.1 l3 (ifD_of (fun (c : h.2.2.2.1 < 1) => .cons (.of ⟨by rw [hErr_r (by omega) (by omega)], rfl⟩)) (fun (c7 : ¬ h.2.2.2.1 < 1) => ?_))
  refine ld_of h.2.2.2.1 l3 (ifD_of (fun (c : h.2.2.2.1 > 1073741824) => .cons (.of ⟨by rw [hErr_r (by omega) (by omega)], rfl⟩)) (fun (c8 : ¬ h.2.2.2.1 > 1073741824) => ?_))
  refine ld_of h.2.2.2.2.1 l4 (ifD_of (fun (c : h.2.2.2.2.1 < 0) => .cons (.of ⟨by rw [hErr_r (by omega) (by omega)], rfl⟩)) (fun (c9 : ¬ h.2.2.2.2.1 < 0) => ?_))
  refine ld_of h.2.2.2.2.1 l4 (ifD_of (fun (c : h.2.2.2.2.1 ≥ 16) => .cons (.of ⟨by rw [hErr_r (by omega) (by omega)], rfl⟩)) (fun (c10 : ¬ h.2.2.2.2.1 ≥ 16) => .cons (.of ⟨by rw [hErr_0 (by omega) (by omega)], rfl⟩)))
abbrev PNum := Int × Int × Unit
def pnEnc (x : PNum) : List Value := [.int .i64 x.1, .int .i64 x.2.1]
theorem pnEnc_len (x : PNum) : (pnEnc x).length = 2 := rfl
def putsL (b : List UInt8) (l : List PNum) : List UInt8 := l.foldl (fun b x => (wput b x.1 x.2.1).1) b
theorem putsL_snoc (b : List UInt8) (l : List PNum) (x : PNum) : putsL b (l ++ [x]) = (wput (putsL b l) x.1 x.2.1).1 := by simp [putsL]
theorem wput_len (b : List UInt8) (n w : Int) : (wput b n w).1.length ≤ b.length + 7 := by
  unfold wput
  split
  · simp
  · split
    · simp
    · simp only [List.length_append, digs_len]; omega
theorem putsL_len (b : List UInt8) (l : List PNum) : (putsL b l).length ≤ b.length + 7 * l.length := by
  induction l generalizing b with
  | nil => simp [putsL]
  | cons x r ih =>
    have h1 := ih (wput b x.1 x.2.1).1
    have h2 := wput_len b x.1 x.2.1
    have h3 : putsL b (x :: r) = putsL (wput b x.1 x.2.1).1 r := rfl
    rw [h3, List.length_cons]; omega
theorem pput_cl (A : HList) (v : SlV) (b : List UInt8) (hb : BSl A v b) (hl : b.length ≤ 1000) (u : SlV) (l : List PNum) (hu : Sl A u 2 (l.flatMap pnEnc)) (hne : 0 < l.length) (hl2 : l.length ≤ 100) (hn : ∀ x ∈ l, x.1 ≤ 9223372036854775807) :
    CallF PP 81 #[.slice v.a v.len v.cap, .slice u.a u.len u.cap] A fun r L' => ∃ (s : SlV) (seg : HList), r = .slice s.a s.len s.cap ∧ L' = seg ++ A ∧ Own s 1 eB (bvs (putsL b l)) seg := by
  refine CallF.of (args := [.slice v.a v.len v.cap, .slice u.a u.len u.cap]) noNum mixed Tryd.func81 (e81 v u _) ?_
  unfold t81
  have hul := hu.els_len pnEnc_len (by decide)
  refine lp_of (fun k z L' => ∃ (i : Nat) (s : SlV) (J : HList), i ≤ l.length ∧ k = l.length - i ∧ z = (s, (i : Int), ()) ∧ L' = J ++ A ∧ BSl L' s (putsL b (l.take i)) ∧ (0 < i → ∃ (seg J' : HList), J = seg ++ J' ∧ Own s 1 eB (bvs (putsL b (l.take i))) seg)) l.length
    ⟨0, v, [], by omega, by omega, rfl, rfl, hb, fun h => by omega⟩ ?_
  rintro k z L' ⟨i, s, J, hi, rfl, rfl, rfl, hs, hown⟩
  refine ifD_of (fun (hlt : (i : Int) < u.len) => ?_) (fun (hge : ¬ (i : Int) < u.len) => ?_)
  · have hi' : i < l.length := by omega
    obtain ⟨a, ha, la⟩ := (hu.right (R := J)).el pnEnc_len (by decide) hi'
    refine nilc_of ha (ixn_of (show (0 : Int) ≤ (i : Int) by omega) hlt (ld_of l[i] (by rw [Int.toNat_natCast]; exact la) ?_))
    have hbl := putsL_len b (l.take i)
    rw [List.length_take, Nat.min_eq_left hi] at hbl
    have hsn := putsL_snoc b (l.take i) l[i]
    rw [← List.take_succ_eq_append_getElem hi'] at hsn
    have hnx := hn _ (List.getElem_mem hi')
    generalize l[i] = x at hsn hnx ⊢
    refine nw_of fun n1 _ => st_of [] _ rfl rfl (by simp) (.inl (Nat.le_refl _)) #[.int .i64 x.1, .int .i64 x.2.1] rfl ?_
    rw [List.nil_append]
    refine ld_of x.1 (ldB List.mem_cons_self rfl) (ld_of x.2.1 (ldB List.mem_cons_self rfl) ?_)
    generalize (n1, Obj.cells #[.int .i64 x.1, .int .i64 x.2.1] 164) = o1
    refine cl_in [] [] (wput_cl (o1 :: (J ++ A)) s _ hs.cons (by omega) x.1 x.2.1 hnx) (by simp) ?_
    rintro _ _ - ⟨s', seg, rfl, rfl, own⟩
    rw [List.append_nil, List.nil_append]
    rw [← hsn] at own
    refine ⟨(s', _, ()), rfl, l.length - (i + 1), by omega, i + 1, s', seg ++ (o1 :: J), by omega, rfl, ?_, by simp, own.sl.left, fun _ => ⟨seg, o1 :: J, rfl, own⟩⟩
    show (s', IntKind.i64.wrap ((i : Int) + 1), ()) = _
    rw [w64_id (by omega) (by omega)]
    rfl
  · obtain rfl : i = l.length := by omega
    rw [List.take_length] at hown
    obtain ⟨seg, J', rfl, own⟩ := hown hne
    refine .drop (A := seg ++ A) (J := J') ⟨s, seg, rfl, rfl, own⟩ ?_
    rw [List.append_assoc, List.append_assoc]
    exact List.Perm.append_left _ List.perm_append_comm
end Go.Proofs.YtlabcgnegbdlfaaDoor
set_option linter.unusedVariables false
set_option linter.unusedSimpArgs false
namespace Go.Proofs.YtlabcgnegbdlfaaDoor
open Go.HL

def hBytes (h : Hd) (n : Nat) : List UInt8 := digs h.1.toNat 1 ++ digs h.2.1.toNat 1 ++ digs h.2.2.1.toNat 1 ++ digs 165 1 ++ digs h.2.2.2.1.toNat 4 ++ digs h.2.2.2.2.1.toNat 1 ++ digs 0 1 ++ digs n 2
theorem hBytes_len (h : Hd) (n : Nat) : (hBytes h n).length = 12 := by simp [hBytes, digs_len]
def iBody (h : Hd) (p : List UInt8) (size : Nat) : List UInt8 := hBytes h p.length ++ p ++ List.replicate (size - 16 - p.length) 0
theorem iBody_len {h : Hd} {p : List UInt8} {size : Nat} (h1 : 16 ≤ size) (h2 : p.length ≤ size - 16) : (iBody h p size).length = size - 4 := by
  unfold iBody
  rw [List.length_append, List.length_append, hBytes_len, List.length_replicate]; omega
def iAll (h : Hd) (p : List UInt8) (size : Nat) : List UInt8 := iBody h p size ++ digs (crcSum (iBody h p size)).toNat 4
/-- A page's image, or why there is none. -/
def imgR (h : Hd) (p : List UInt8) (size : Int) : List UInt8 × Int :=
  if ¬ (64 ≤ size ∧ size ≤ 512) then ([], 2) else if hErr h ≠ 0 then ([], hErr h) else if (p.length : Int) > size - 16 then ([], 4) else (iAll h p size.toNat, 0)
def ImgK (h : Hd) (p : List UInt8) (size : Int) (A : HList) (v : Value) (L' : HList) : Prop := ∃ (s : SlV) (seg : HList), v = .tuple #[.slice s.a s.len s.cap, .int .i64 (imgR h p size).2] ∧ L' = seg ++ A ∧ Own s 1 eB (bvs (imgR h p size).1) seg
theorem ImgK.err {h : Hd} {p : List UInt8} {size : Int} {A : HList} {e : Int} (he : imgR h p size = ([], e)) : ImgK h p size A (.tuple #[.slice none 0 0, .int .i64 e]) A := ⟨⟨none, 0, 0⟩, [], by rw [he], rfl, by rw [he]; exact own_nil⟩
theorem crcSum_rng (l : List UInt8) : 0 ≤ crcSum l ∧ crcSum l < 4294967296 := crcMore_range 0 l
def nums (h : Hd) (n : Nat) : List PNum := [(h.1, 1, ()), (h.2.1, 1, ()), (h.2.2.1, 1, ()), (165, 1, ()), (h.2.2.2.1, 4, ()), (h.2.2.2.2.1, 1, ()), (0, 1, ()), ((n : Int), 2, ())]
theorem wput_1 (b : List UInt8) {n : Int} (h0 : 0 ≤ n) (h1 : n < 256) : (wput b n 1).1 = b ++ digs n.toNat 1 := by
  rw [wput_ok (by decide) (by omega) (by show n.toNat < 256; omega)]; rfl
theorem wput_4 (b : List UInt8) {n : Int} (h0 : 0 ≤ n) (h1 : n < 4294967296) : (wput b n 4).1 = b ++ digs n.toNat 4 := by
  rw [wput_ok (by decide) (by omega) (by show n.toNat < 4294967296; omega)]; rfl
theorem wput_2 (b : List UInt8) {n : Int} (h0 : 0 ≤ n) (h1 : n < 65536) : (wput b n 2).1 = b ++ digs n.toNat 2 := by
  rw [wput_ok (by decide) (by omega) (by show n.toNat < 65536; omega)]; rfl
theorem puts_nums {h : Hd} (e : hErr h = 0) {n : Nat} (hn : n < 65536) : putsL [] (nums h n) = hBytes h n := by
  have := hErr_ok e
  unfold nums putsL
  simp only [List.foldl_cons, List.foldl_nil]
  rw [wput_1 (n := h.1) _ (by omega) (by omega), wput_1 (n := h.2.1) _ (by omega) (by omega), wput_1 (n := h.2.2.1) _ (by omega) (by omega), wput_1 (n := 165) _ (by omega) (by omega), wput_4 (n := h.2.2.2.1) _ (by omega) (by omega), wput_1 (n := h.2.2.2.2.1) _ (by omega) (by omega), wput_1 (n := 0) _ (by omega) (by omega), wput_2 (n := (n : Int)) _ (by omega) (by omega)]
  unfold hBytes
  simp
theorem puts_crc (b : List UInt8) : putsL b [(crcSum b, 4, ())] = b ++ digs (crcSum b).toNat 4 := by
  have := crcSum_rng b
  exact wput_4 (n := crcSum b) b (by omega) (by omega)
theorem body_put {h : Hd} {p : List UInt8} {S : Nat} (h1 : 64 ≤ S) (h2 : p.length ≤ S - 16) :
    putL (putL (zeros [.int .u8 0] (S - 4)) 0 (bvs (hBytes h p.length))) (12 * 1) (bvs p) = bvs (iBody h p S) := by
  rw [zeros_bvs, bvs_put, bvs_put]
  congr 1
  unfold iBody
  rw [List.take_zero, List.nil_append, hBytes_len, Nat.zero_add, Nat.mul_one, List.take_left' (hBytes_len h _), ← List.drop_drop, List.drop_left' (hBytes_len h _), List.drop_drop, List.drop_replicate]
  congr 2
  omega
theorem pimage_cl (A : HList) (h : Hd) (v : SlV) (p : List UInt8) (hv : BSl A v p) (size : Int) (hs : -9223372036854775808 ≤ size ∧ size ≤ 9223372036854775807) :
    CallF PP 69 #[.agg #[.int .i64 h.1, .int .i64 h.2.1, .int .i64 h.2.2.1, .int .i64 h.2.2.2.1, .int .i64 h.2.2.2.2.1], .slice v.a v.len v.cap, .int .i64 size] A (ImgK h p size A) := by
  refine CallF.of (args := [.agg #[.int .i64 h.1, .int .i64 h.2.1, .int .i64 h.2.2.1, .int .i64 h.2.2.2.1, .int .i64 h.2.2.2.2.1], .slice v.a v.len v.cap, .int .i64 size]) noNum mixed Tryd.func69 (e69 h v size _) ?_
  unfold t69
  have hvl := hv.len
  refine nw_of fun n1 _ => ?_
  generalize ho : (n1, Obj.cells #[.int .i64 h.1, .int .i64 h.2.1, .int .i64 h.2.2.1, .int .i64 h.2.2.2.1, .int .i64 h.2.2.2.2.1] 88) = o1
  have lh : LdAt ⟨n1, 0, none⟩ (hEnc h) (o1 :: A) := by subst ho; exact ldB List.mem_cons_self rfl
  clear ho
  refine cl_rd (psized_rd _ size) (szd size, ()) rfl ?_
  cases hsz : szd size with
  | false => exact ifT rfl (.cons (.of (ImgK.err (by unfold imgR; rw [if_pos (szd_f hsz)]))))
  | true =>
    have hS := szd_t hsz
    refine ifF rfl (ld_of h lh (cl_rd (pcheck_rd _ h) (hErr h, ()) rfl ?_))
    refine ifNe_of (fun (he : hErr h ≠ 0) => .cons (.of (ImgK.err (by unfold imgR; rw [if_neg (by simpa using hS), if_pos he])))) (fun (he : hErr h = 0) => ?_)
    refine cl_rd (proom_rd _ size) (roomOf size, ()) rfl ?_
    have hroom : roomOf size = size - 16 := by unfold roomOf; rw [if_pos hS]
    rw [hroom]
    refine ifD_of (fun (hl : (v.len : Int) > size - 16) => .cons (.of (ImgK.err (by unfold imgR; rw [if_neg (by simpa using hS), if_neg (by simpa using he), if_pos (by omega)])))) (fun (hl : ¬ (v.len : Int) > size - 16) => ?_)
    obtain ⟨S, rfl⟩ : ∃ S : Nat, size = S := ⟨size.toNat, by omega⟩
    have himg : imgR h p S = (iAll h p S, 0) := by
      unfold imgR
      rw [if_neg (by simpa using hS), if_neg (by simpa using he), if_neg (by omega), Int.toNat_natCast]
    unfold ImgK
    rw [himg]
    refine ld_of h.1 (lh.pre fun i u hu => by cases i with | zero => exact hu | succ i => exact absurd (show (none : Option Value) = some u from hu) (by simp)) (ld_of h.2.1 (lh.one 1 rfl) (ld_of h.2.2.1 (lh.one 2 rfl) (ld_of h.2.2.2.1 (lh.one 3 rfl) (ld_of h.2.2.2.2.1 (lh.one 4 rfl) (nw_of fun n2 _ => ?_)))))
    have hvl' : ((v.len : Nat) : Int) = ((p.length : Nat) : Int) := by omega
    rw [hvl']
    have hnsl : Sl ((n2, Obj.cells #[.int .i64 h.1, .int .i64 1, .int .i64 h.2.1, .int .i64 1, .int .i64 h.2.2.1, .int .i64 1, .int .i64 165, .int .i64 1, .int .i64 h.2.2.2.1, .int .i64 4, .int .i64 h.2.2.2.2.1, .int .i64 1, .int .i64 0, .int .i64 1, .int .i64 ((p.length : Nat) : Int), .int .i64 2] 164) :: o1 :: A) ⟨some ⟨n2, 0, none⟩, 8, 8⟩ 2 ((nums h p.length).flatMap pnEnc) :=
      ⟨rfl, Nat.le_refl _, .inr ⟨_, rfl, ldB List.mem_cons_self rfl⟩⟩
    have hok := hErr_ok he
    generalize (n2, Obj.cells #[.int .i64 h.1, .int .i64 1, .int .i64 h.2.1, .int .i64 1, .int .i64 h.2.2.1, .int .i64 1, .int .i64 165, .int .i64 1, .int .i64 h.2.2.2.1, .int .i64 4, .int .i64 h.2.2.2.2.1, .int .i64 1, .int .i64 0, .int .i64 1, .int .i64 ((p.length : Nat) : Int), .int .i64 2] 164) = o2 at hnsl ⊢
    refine cl_in [] [] (pput_cl (o2 :: o1 :: A) ⟨none, 0, 0⟩ [] (Sl.nil 1) (by decide) ⟨some ⟨n2, 0, none⟩, 8, 8⟩ (nums h p.length) hnsl (by show 0 < 8; decide) (by show 8 ≤ 100; decide) ?_) (by simp) ?_
    · intro x hx
      unfold nums at hx
      simp only [List.mem_cons, List.not_mem_nil, or_false] at hx
      rcases hx with rfl | rfl | rfl | rfl | rfl | rfl | rfl | rfl <;> simp only <;> omega
    rintro _ _ - ⟨s4, seg4, rfl, rfl, own4⟩
    rw [puts_nums he (by omega)] at own4
    rw [List.append_nil, List.nil_append]
    have hs4 := own4.sl.len
    rw [bvs_length, hBytes_len] at hs4
    refine ⟨(s4, ()), rfl, ?_⟩
    have hw : IntKind.i64.wrap ((S : Int) - 4) = ((S - 4 : Nat) : Int) := by rw [w64_id (by omega) (by omega)]; omega
    simp only [hw]
    refine make_of elemB (l := S - 4) (c := S - 4) (Nat.le_refl _) (by omega) fun n7 ob own7 _ _ => ?_
    refine copy_own (T := eB) (sz := 1) (l := 0) (a := ⟨n7, 0, none⟩) undB (by kernel_rfl) [] (seg4 ++ (o2 :: o1 :: A)) own7 rfl rfl rfl (by simp) (.cons (own4.sl.left)) (bvs_plain _) fun seg7 own7' => ?_
    have hm1 : min s4.len (S - 4) = 12 := by omega
    simp only [hm1, Nat.mul_one, List.nil_append] at own7' ⊢
    rw [List.take_of_length_le (by rw [bvs_length, hBytes_len]; omega)] at own7'
    refine slc_of (l' := 12) (h' := S - 4) (m' := S - 4) rfl rfl rfl (by omega) (by omega) (Nat.le_refl _) ?_
    have hd : (slcV ⟨some ⟨n7, 0, none⟩, S - 4, S - 4⟩ ((12 : Nat) : Int) ((S - 4 : Nat) : Int) ((S - 4 : Nat) : Int) 1).a = some (Addr.add ⟨n7, 0, none⟩ (12 * 1)) := by
      simp only [slcV, Int.toNat_natCast]
      rw [if_neg (by omega)]
      rfl
    have hdl : (slcV ⟨some ⟨n7, 0, none⟩, S - 4, S - 4⟩ ((12 : Nat) : Int) ((S - 4 : Nat) : Int) ((S - 4 : Nat) : Int) 1).len = S - 16 := by
      simp only [slcV, Int.toNat_natCast]; omega
    generalize slcV ⟨some ⟨n7, 0, none⟩, S - 4, S - 4⟩ ((12 : Nat) : Int) ((S - 4 : Nat) : Int) ((S - 4 : Nat) : Int) 1 = d at hd hdl ⊢
    refine copy_own (T := eB) (sz := 1) (l := 12) (a := ⟨n7, 0, none⟩) undB (by kernel_rfl) [] (seg4 ++ (o2 :: o1 :: A)) own7' rfl rfl hd (by simp only; omega) (hv.cons.cons.right.right) (bvs_plain _) fun seg8 own8 => ?_
    have hm2 : min v.len d.len = p.length := by omega
    simp only [hm2, Nat.mul_one, List.nil_append] at own8 ⊢
    rw [List.take_of_length_le (by rw [bvs_length]; omega), body_put (by omega) (by omega)] at own8
    have hbl := iBody_len (h := h) (p := p) (size := S) (by omega) (by omega)
    have hallE : iAll h p S = iBody h p S ++ digs (crcSum (iBody h p S)).toNat 4 := rfl
    rw [hallE]
    generalize iBody h p S = body at own8 hbl ⊢
    refine cl_rd (sum_rd _ ⟨some ⟨n7, 0, none⟩, S - 4, S - 4⟩ body own8.sl.left (by omega)) (crcSum body, ()) rfl (nw_of fun n3 _ => ?_)
    have hcs := crcSum_rng body
    have hsl3 : Sl ((n3, Obj.cells #[.int .i64 (crcSum body), .int .i64 4] 164) :: (seg8 ++ (seg4 ++ (o2 :: o1 :: A)))) ⟨some ⟨n3, 0, none⟩, 1, 1⟩ 2 ([((crcSum body, 4, ()) : PNum)].flatMap pnEnc) := ⟨rfl, Nat.le_refl _, .inr ⟨_, rfl, ldB List.mem_cons_self rfl⟩⟩
    refine cl_in [] [] (pput_cl ((n3, Obj.cells #[.int .i64 (crcSum body), .int .i64 4] 164) :: (seg8 ++ (seg4 ++ (o2 :: o1 :: A)))) ⟨some ⟨n7, 0, none⟩, S - 4, S - 4⟩ body own8.sl.left.cons (by omega) ⟨some ⟨n3, 0, none⟩, 1, 1⟩ _ hsl3 (by show 0 < 1; decide) (by show 1 ≤ 100; decide) (fun x hx => by rw [List.mem_singleton.1 hx]; simp only; omega)) (by simp) ?_
    rintro _ _ - ⟨s9, seg9, rfl, rfl, own9⟩
    rw [puts_crc] at own9
    rw [List.append_nil, List.nil_append]
    refine ⟨(s9, ()), rfl, .drop (A := seg9 ++ A) (J := (n3, Obj.cells #[.int .i64 (crcSum body), .int .i64 4] 164) :: (seg8 ++ (seg4 ++ [o2, o1]))) ⟨s9, seg9, rfl, rfl, own9⟩ ?_⟩
    classical
    rw [List.perm_iff_count]
    intro x
    simp only [List.append_eq, List.cons_append, List.count_append, List.count_cons, List.count_nil]
    omega
end Go.Proofs.YtlabcgnegbdlfaaDoor
set_option linter.unusedVariables false
set_option linter.unusedSimpArgs false
namespace Go.Proofs.YtlabcgnegbdlfaaDoor
open Go.HL

end Go.Proofs.YtlabcgnegbdlfaaDoor
set_option linter.unusedVariables false
set_option linter.unusedSimpArgs false
namespace Go.Proofs.YtlabcgnegbdlfaaDoor
open Go.HL

def hOf (b : List UInt8) : Hd := ((b.getD 0 0).toNat, (b.getD 1 0).toNat, (b.getD 2 0).toNat, num ((b.drop 4).take 4), (b.getD 8 0).toNat, ())
def nOf (b : List UInt8) : Nat := num ((b.drop 10).take 2)
def padOf (b : List UInt8) : List UInt8 := (b.drop (12 + nOf b)).take (b.length - 4 - (12 + nOf b))
def payOf (b : List UInt8) : List UInt8 := (b.drop 12).take (nOf b)
def pbad (b : List UInt8) : Bool := decide (b.getD 3 0 ≠ 165) || decide (b.getD 9 0 ≠ 0) || decide (nOf b > b.length - 16) || decide (hErr (hOf b) ≠ 0) || (padOf b).any fun x => decide (x ≠ 0)
def pblank (b : List UInt8) : Bool := b.all fun x => decide (x = 255)
def hz : Hd := (0, 0, 0, 0, 0, ())
/-- What bytes say as a page. -/
def parR (b : List UInt8) : Hd × List UInt8 × Int :=
  if ¬ (64 ≤ b.length ∧ b.length ≤ 512) then (hz, [], 2) else if pblank b = true then (hz, [], 15) else if crcSum (b.take (b.length - 4)) ≠ (num (b.drop (b.length - 4)) : Int) then (hz, [], 12) else if pbad b = true then (hz, [], 5) else (hOf b, payOf b, 0)
theorem nOf_lt (b : List UInt8) : nOf b < 65536 := by
  have h1 := num_lt ((b.drop 10).take 2)
  have h2 : 256 ^ ((b.drop 10).take 2).length ≤ 256 ^ 2 := Nat.pow_le_pow_right (by omega) (by rw [List.length_take]; omega)
  unfold nOf
  omega
end Go.Proofs.YtlabcgnegbdlfaaDoor
