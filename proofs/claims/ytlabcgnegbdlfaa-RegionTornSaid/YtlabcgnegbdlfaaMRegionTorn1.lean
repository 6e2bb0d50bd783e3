/-
  It is proved what the functions that the law RegionTorn reaches compute, part 1. There are no further conditions than those that each theorem names.
-/
import Derived.Test.YtlabcgnegbdlfaaMRegionTorn0
import Derived.Laws.StructEq
import Derived.ChangeKeysEq
import Derived.Test.YtlabcgnegbdlfaaProg
import Derived.KernelRfl
set_option linter.unusedVariables false
set_option linter.unusedSimpArgs false
namespace Go.HL
section
variable {P : Program} {L : HList}

theorem CallF.at' {f : FuncId} {args : Array Value} {K : Value → HP} {A X Y : HList} (h : CallF P f args A K) : CallF P f args (X ++ A ++ Y) fun v L' => ∃ A', L' = X ++ A' ++ Y ∧ K v A' :=
  fun E F w hw => Calls.mono (CallF.frame (R := X ++ Y) h E F w (hw.perm (by
      refine List.Perm.append_right F ?_
      have : (X ++ A ++ Y).Perm (A ++ X ++ Y) := List.Perm.append_right Y List.perm_append_comm
      simpa [List.append_assoc] using this))) fun e w' ⟨v, L', he, hw', A', hL, hK⟩ => by
    subst hL
    refine ⟨v, X ++ A' ++ Y, he, hw'.perm (List.Perm.append_right F ?_), A', rfl, hK⟩
    have : (A' ++ X ++ Y).Perm (X ++ A' ++ Y) := List.Perm.append_right Y List.perm_append_comm
    simpa [List.append_assoc] using this
theorem cl_in {f : FuncId} {args : Array Value} {rs : List Sh} {k : RsV rs → HP} {K : Value → HP} {A : HList} (X Y : HList) (h : CallF P f args A K) (hL : L = X ++ A ++ Y)
    (hk : ∀ v A', Sat (X ++ A' ++ Y) → K v A' → ∃ r, v = rsVal rs r ∧ k r (X ++ A' ++ Y)) : cl P f args rs k L := by
  subst hL
  refine CallF.mono (CallF.at' h) ?_
  rintro v L' hs ⟨A', rfl, hK⟩
  exact hk v A' hs hK
/-- A contract on a piece, read only. -/
theorem Reads.in {f : FuncId} {args : Array Value} {A X Y : HList} {v : Value} (h : Reads P f args A v) : Reads P f args (X ++ A ++ Y) v :=
  CallF.mono (CallF.at' h) (by rintro _ _ _ ⟨A', rfl, rfl, rfl⟩; exact ⟨rfl, rfl⟩)

theorem SemF.permL {s : Sem Value} {K : Value → HP} {L' : HList} (hp : L.Perm L') (h : SemF P s K L') : SemF P s K L :=
  fun E F w hw => h E F w (hw.perm (hp.append_right F))
theorem SemF.permK {s : Sem Value} {K K' : Value → HP} (h : SemF P s K L) (hk : ∀ v L', K v L' → ∃ L'', L'.Perm L'' ∧ K' v L'') : SemF P s K' L := by
  intro E F w hw
  obtain ⟨v, w', L', hr, hw', hK⟩ := h E F w hw
  obtain ⟨L'', hp, hK'⟩ := hk v L' hK
  exact ⟨v, w', L'', hr, hw'.perm (hp.append_right F), hK'⟩
/-- 'append' to a slice that has its array for itself, in its place. -/
theorem append_in' {t t2 ty e : TypeId} {sz bytes : Nat} {z : List Value} (hT : ElemT P t e sz bytes z) (h2 : SrcT P t2)
    {v : SlV} {vs ws : List Value} {x : Value} {n : Nat} {seg : HList} (X Y : HList) (own : Own v sz e vs seg) (hL : L = X ++ seg ++ Y) (src : Src L x sz n ws) (hws : ws.all plainV = true)
    (hb : (v.len + n) * bytes ≤ 140737488355328) {k : RsV [.lf .sl] → HP} (hk : ∀ v' seg', v'.len = v.len + n → (v.len + n ≤ v.cap → v'.cap = v.cap ∧ v'.a = v.a) → v.cap ≤ v'.cap → Own v' sz e (vs ++ ws) seg' → k (v', ()) (X ++ seg' ++ Y)) :
    smW P (Builtin.append_ #[t, t2] ty #[.slice v.a v.len v.cap, x]) [.lf .sl] k L := by
  subst hL
  have hp : (X ++ seg ++ Y).Perm (seg ++ (X ++ Y)) := by
    have : (X ++ seg ++ Y).Perm (seg ++ X ++ Y) := List.Perm.append_right Y List.perm_append_comm
    simpa [List.append_assoc] using this
  have src' : Src (seg ++ (X ++ Y)) x sz n ws := by
    cases src with
    | sl h => exact .sl (h.mono fun p hq => hp.subset hq)
    | str s => exact .str s
  refine SemF.permL hp (SemF.permK (append_own' (R := X ++ Y) hT h2 own src' hws hb (k := fun r L' => ∃ seg', L' = seg' ++ (X ++ Y) ∧ k r (X ++ seg' ++ Y)) fun v' seg' h1 h2 h3 h4 => ⟨seg', rfl, hk v' seg' h1 h2 h3 h4⟩) ?_)
  rintro v' L' ⟨r, hr, seg', rfl, hk'⟩
  refine ⟨X ++ seg' ++ Y, ?_, r, hr, hk'⟩
  have : (seg' ++ X ++ Y).Perm (X ++ seg' ++ Y) := List.Perm.append_right Y List.perm_append_comm
  simpa [List.append_assoc] using this
theorem append_in {t t2 ty e : TypeId} {sz bytes : Nat} {z : List Value} (hT : ElemT P t e sz bytes z) (h2 : SrcT P t2)
    {v : SlV} {vs ws : List Value} {x : Value} {n : Nat} {seg : HList} (X Y : HList) (own : Own v sz e vs seg) (hL : L = X ++ seg ++ Y) (src : Src L x sz n ws) (hws : ws.all plainV = true)
    (hb : (v.len + n) * bytes ≤ 140737488355328) {k : RsV [.lf .sl] → HP} (hk : ∀ v' seg', v'.len = v.len + n → Own v' sz e (vs ++ ws) seg' → k (v', ()) (X ++ seg' ++ Y)) :
    smW P (Builtin.append_ #[t, t2] ty #[.slice v.a v.len v.cap, x]) [.lf .sl] k L :=
  append_in' hT h2 X Y own hL src hws hb fun v' seg' h _ _ h3 => hk v' seg' h h3
theorem elemT_of {t e : TypeId} {sz bytes : Nat} {z : List Value} (hu : P.underlying t = some (.slice e)) (h : ((P.info? e).bind fun i => i.zero.map fun v => (i.size, i.bytes, v.cells.toList)) = some (sz, bytes, z))
    (hz : z.length = sz) (hs : 0 < sz) (hb : 0 < bytes) : ElemT P t e sz bytes z := by
  refine ⟨hu, ?_, hz, hs, hb⟩
  cases hi : P.info? e with
  | none => rw [hi] at h; cases h
  | some i =>
    rw [hi] at h
    cases hv : i.zero with
    | none => simp [hv] at h
    | some v =>
      simp only [Option.bind_some, hv, Option.map_some, Option.some.injEq, Prod.mk.injEq] at h
      exact ⟨i, rfl, h.1, h.2.1, v, hv, h.2.2⟩

theorem ldB {n off : Nat} {c : Array Value} {T : TypeId} {fz : Nat × Nat} {vs : List Value} (hm : (n, Obj.cells c T fz) ∈ L) (h : (c.toList.drop off).take vs.length = vs) : LdAt ⟨n, off, none⟩ vs L := by
  refine .blk hm fun i v hv => ?_
  rw [← h, List.getElem?_take] at hv
  split at hv
  · rw [List.getElem?_drop] at hv
    simpa using hv
  · cases hv
theorem st_of {ad : Addr} {ws : List Value} {k : HP} {n off : Nat} {c : Array Value} {T : TypeId} {fz : Nat × Nat} (A B : HList) (had : ad = ⟨n, off, none⟩) (hL : L = A ++ (n, Obj.cells c T fz) :: B) (hsz : off + ws.length ≤ c.size)
    (hfz : fz.2 ≤ fz.1 ∨ c.size ≤ fz.1) (c' : Array Value) (hc : wr c off ws = c') (hk : k (A ++ (n, Obj.cells c' T fz) :: B)) : st ad ws k L := by
  subst had hL hc
  exact ⟨A, B, c, T, fz, rfl, rfl, hsz, fun i hi => by simp only; omega, hk⟩

def putL (vs : List Value) (p : Nat) (ws : List Value) : List Value := vs.take p ++ ws ++ vs.drop (p + ws.length)
theorem putL_len (vs : List Value) (p : Nat) (ws : List Value) (h : p + ws.length ≤ vs.length) : (putL vs p ws).length = vs.length := by
  simp only [putL, List.length_append, List.length_take, List.length_drop]; omega
theorem putL_get (vs : List Value) (p : Nat) (ws : List Value) (h : p + ws.length ≤ vs.length) (i : Nat) : (putL vs p ws)[i]? = if p ≤ i ∧ i < p + ws.length then ws[i - p]? else vs[i]? := by
  unfold putL
  rw [List.append_assoc, List.getElem?_append]
  have hl : (vs.take p).length = p := by rw [List.length_take]; omega
  rw [hl]
  by_cases h1 : i < p
  · rw [if_pos h1, if_neg (by omega), List.getElem?_take, if_pos h1]
  · rw [if_neg h1, List.getElem?_append]
    by_cases h2 : i - p < ws.length
    · rw [if_pos h2, if_pos (by omega)]
    · rw [if_neg h2, if_neg (by omega), List.getElem?_drop]
      congr 1; omega
theorem putL_one {vs : List Value} {p : Nat} {w : Value} (h : p < vs.length) : putL vs p [w] = vs.set p w := by
  apply List.ext_getElem?
  intro i
  rw [putL_get _ _ _ (by simp only [List.length_cons, List.length_nil]; omega), List.getElem?_set]
  by_cases hi : p = i
  · subst hi; simp [h]
  · rw [if_neg (by simp only [List.length_cons, List.length_nil]; omega), if_neg hi]
theorem Own.st {v : SlV} {sz : Nat} {T : TypeId} {vs ws : List Value} {seg : HList} (own : Own v sz T vs seg) (X Y : HList) {p : Nat} (hp : p + ws.length ≤ vs.length) (hws : 0 < ws.length) {a ad : Addr} (ha : v.a = some a) (had : ad = Addr.add a p) {k : HP}
    (hL : L = X ++ seg ++ Y) (hk : ∀ seg', Own v sz T (putL vs p ws) seg' → k (X ++ seg' ++ Y)) : st ad ws k L := by
  subst hL had
  rcases own.row with ⟨ha', _, _⟩ | ⟨b, off, c, fz, ha', rfl, hsz, hfz, hc⟩
  · rw [ha] at ha'; cases ha'
  · rw [ha] at ha'
    obtain rfl := Option.some.inj ha'
    have hlen := own.len
    have hcap := own.cap
    have hle := Nat.mul_le_mul_right sz hcap
    refine st_of (n := b) (off := off + p) (c := c) (T := T) (fz := fz) X Y (addr_add (ad := ⟨b, off, none⟩) rfl p) (by simp) (by omega) (by omega) _ rfl ?_
    have := hk [(b, Obj.cells (wr c (off + p) ws) T fz)] ⟨by rw [putL_len _ _ _ hp]; exact hlen, hcap, .inr ⟨b, off, _, fz, ha, rfl, by rw [wr_size]; exact hsz, by rw [wr_size]; exact hfz, fun i u hu => ?_⟩⟩
    · simpa using this
    · rw [putL_get _ _ _ hp] at hu
      rw [wr_get _ _ _ _ (by omega)]
      split at hu
      · rw [if_pos (by omega), show off + i - (off + p) = i - p by omega]; exact hu
      · rw [if_neg (by omega)]; exact hc i u hu
theorem bvs_set (l : List UInt8) (i : Nat) (x : UInt8) : (bvs l).set i (.int .u8 (x.toNat : Int)) = bvs (l.set i x) := by
  simp [bvs, List.map_set, bv]

/-- s[l:h] of a slice whose elements are known: l ≤ h ≤ len. -/
theorem Sl.slc {v : SlV} {sz : Nat} {vs : List Value} (h : Sl L v sz vs) (hsz : 0 < sz) {l h' m : Nat} (hl : l ≤ h') (hh : h' ≤ v.len) (hm : h' ≤ m) : Sl L (slcV v l h' m sz) sz ((vs.drop (l * sz)).take ((h' - l) * sz)) := by
  have hlen := h.len
  have h1 := Nat.mul_le_mul_right sz hh
  have h2 := Nat.mul_le_mul_right sz hl
  refine ⟨?_, ?_, ?_⟩
  · simp only [slcV, Int.toNat_natCast, List.length_take, List.length_drop]
    rw [Nat.min_eq_left]
    rw [Nat.sub_mul]; omega
  · simp only [slcV, Int.toNat_natCast]; omega
  · by_cases h0 : (vs.drop (l * sz)).take ((h' - l) * sz) = []
    · exact .inl h0
    · have hlt : l < h' := by
        rcases Nat.lt_or_ge l h' with h3 | h3
        · exact h3
        · exfalso; apply h0
          rw [Nat.sub_eq_zero_of_le h3, Nat.zero_mul]; rfl
      obtain ⟨ad, ha, hld⟩ := h.at' (i := l) (by omega) hsz
      refine .inr ?_
      simp only [slcV, Int.toNat_natCast]
      rw [if_neg (by omega), ha]
      refine ⟨_, rfl, hld.sub (l * sz) fun i u hu => ?_⟩
      rw [List.getElem?_take] at hu
      split at hu
      · rw [List.getElem?_drop] at hu; exact hu
      · cases hu
theorem slc_of {v : SlV} {l h m : Int} {sz : Nat} {k : SlV → HP} {l' h' m' : Nat} (hl : l = l') (hh : h = h') (hm : m = m') (h1 : l' ≤ h') (h2 : h' ≤ m') (h3 : m' ≤ v.cap) (hk : k (slcV v l' h' m' sz) L) : slc v l h m sz k L := by
  subst hl hh hm
  exact ⟨⟨by omega, by omega, by omega, by omega⟩, hk⟩
theorem bvs_slc (l : List UInt8) (i j : Nat) : ((bvs l).drop (i * 1)).take ((j - i) * 1) = bvs ((l.drop i).take (j - i)) := by
  simp [bvs, List.map_drop, List.map_take]
theorem flat_at {α : Type} {enc : α → List Value} {sz : Nat} (hsz : ∀ x, (enc x).length = sz) : ∀ (l : List α) (i : Nat) (h : i < l.length) (j : Nat), j < sz → (l.flatMap enc)[i * sz + j]? = (enc l[i])[j]?
  | [], i, h, j, _ => by simp at h
  | x :: r, 0, h, j, hj => by
    rw [List.flatMap_cons, List.getElem?_append_left (by rw [hsz]; omega), Nat.zero_mul, Nat.zero_add]
    rfl
  | x :: r, i + 1, h, j, hj => by
    rw [List.flatMap_cons, List.getElem?_append_right (by rw [hsz, Nat.succ_mul]; omega)]
    have : (i + 1) * sz + j - (enc x).length = i * sz + j := by rw [hsz, Nat.succ_mul]; omega
    rw [this, flat_at hsz r i (by simpa using h) j hj]
    rfl
theorem Sl.els_len {α : Type} {enc : α → List Value} {sz : Nat} {v : SlV} {l : List α} (hsz : ∀ x, (enc x).length = sz) (hpos : 0 < sz) (h : Sl L v sz (l.flatMap enc)) : v.len = l.length := by
  have h1 := h.len
  rw [flat_len hsz] at h1
  exact Nat.eq_of_mul_eq_mul_right hpos h1
theorem Sl.el {α : Type} {enc : α → List Value} {sz : Nat} {v : SlV} {l : List α} (hsz : ∀ x, (enc x).length = sz) (hpos : 0 < sz) (h : Sl L v sz (l.flatMap enc)) {i : Nat} (hi : i < l.length) :
    ∃ a, v.a = some a ∧ LdAt (Addr.add a (i * sz)) (enc l[i]) L := by
  obtain ⟨a, ha, hl⟩ := h.at' (i := i) (by rw [h.els_len hsz hpos]; exact hi) hpos
  refine ⟨a, ha, hl.sub (i * sz) fun j u hu => ?_⟩
  have hj := (List.getElem?_eq_some_iff.1 hu).1
  rw [hsz] at hj
  rw [flat_at hsz l i hi j hj]; exact hu
theorem SlOk.len' {α : Type} {w : World} {enc : α → List Value} {wf : α → Prop} {sz : Nat} {v : SlV} {l : List α} (h : SlOk w enc wf sz (v, l)) : v.len = l.length := h.len
def ivs (k : IntKind) (l : List Int) : List Value := l.map (Value.int k)
theorem ivs_length (k : IntKind) (l : List Int) : (ivs k l).length = l.length := by simp [ivs]
theorem ivs_get {k : IntKind} {l : List Int} {i : Nat} (h : i < l.length) : (ivs k l)[i]? = some (.int k l[i]) := by
  simp [ivs, h]
abbrev ISl (L : HList) (v : SlV) (k : IntKind) (l : List Int) : Prop := Sl L v 1 (ivs k l)
theorem ISl.len {L : HList} {v : SlV} {k : IntKind} {l : List Int} (h : ISl L v k l) : v.len = l.length := by
  have := Sl.len h; rw [ivs_length] at this; omega
theorem ISl.some {L : HList} {v : SlV} {k : IntKind} {l : List Int} (h : ISl L v k l) {i : Nat} (hi : i < l.length) : ∃ a, v.a = some a := by
  obtain ⟨ad, ha', hl⟩ := h.at' (i := i) (by rw [h.len]; exact hi) (by omega)
  exact ⟨ad, ha'⟩
theorem ISl.rd {L : HList} {v : SlV} {k : IntKind} {l : List Int} (h : ISl L v k l) {i : Nat} (hi : i < l.length) {a : Addr} (ha : v.a = Option.some a) (j : Nat) (hj : j = i * 1) : LdAt (Addr.add a j) [.int k l[i]] L := by
  subst hj
  obtain ⟨ad, ha', hl⟩ := h.at' (i := i) (by rw [h.len]; exact hi) (by omega)
  rw [ha] at ha'
  obtain rfl := Option.some.inj ha'
  rw [Nat.mul_one]
  exact hl.one i (ivs_get hi)
theorem SlOk.bytes {w : World} {wf : UInt8 → Prop} {p : SlV × List UInt8} (h : SlOk w (fun b => [bv b]) wf 1 p) : BSl (allB w) p.1 p.2 := by
  have h1 := h.sl
  have h2 : p.2.flatMap (fun b => [bv b]) = bvs p.2 := by
    generalize p.2 = l
    induction l with
    | nil => rfl
    | cons x r ih => rw [List.flatMap_cons, ih]; rfl
  rw [h2] at h1
  exact h1
end
end Go.HL
set_option linter.unusedVariables false
set_option linter.unusedSimpArgs false
namespace Go.HL
section
variable {P : Program} {L : HList}

theorem Ends.app {K : Value → HP} {v : Value} {J L : HList} (h : Ends K v L) : Ends K v (J ++ L) := by
  obtain ⟨A, J', hp, hK⟩ := h
  refine ⟨A, J' ++ J, ?_, hK⟩
  have h1 : (J ++ L).Perm (L ++ J) := List.perm_append_comm
  exact h1.trans (by simpa [List.append_assoc] using hp.append_right J)
theorem Ends.cons {K : Value → HP} {v : Value} {p : Nat × Obj} {L : HList} (h : Ends K v L) : Ends K v (p :: L) := Ends.app (J := [p]) h
/-- A store over a whole block. -/
theorem wr_all (c : Array Value) (vs : List Value) (h : vs.length = c.size) : wr c 0 vs = vs.toArray := by
  apply Array.ext_getElem?
  intro i
  rw [wr_get _ _ _ _ (by omega)]
  split
  · simp
  · rename_i hi
    rw [Array.getElem?_eq_none (by omega), List.getElem?_toArray, List.getElem?_eq_none (by omega)]
end
end Go.HL
set_option linter.unusedVariables false
set_option linter.unusedSimpArgs false
set_option linter.unusedSectionVars false
namespace Go.HL
section
variable {P : Program} {L : HList} {κ : Type} [DecidableEq κ]

/-- A call, with what it leaves in an order of one's own. -/
theorem cl_pm {f : FuncId} {args : Array Value} {rs : List Sh} {k : RsV rs → HP} {K : Value → HP} {A R : HList} (h : CallF P f args A K) (hp : L.Perm (A ++ R))
    (hk : ∀ v A', K v A' → ∃ L'', (A' ++ R).Perm L'' ∧ ∃ r, v = rsVal rs r ∧ k r L'') : cl P f args rs k L := by
  intro E F w hw
  refine Calls.mono (CallF.frame (R := R) h E F w (hw.perm (hp.append_right F))) ?_
  rintro e w' ⟨v, L', he, hw', A', rfl, hK⟩
  obtain ⟨L'', hp2, hk2⟩ := hk v A' hK
  exact ⟨v, L'', he, hw'.perm (hp2.append_right F), hk2⟩
end
theorem ba_loop (b : ByteArray) : ∀ (n i : Nat) (r : List UInt8), b.size - i = n → ByteArray.toList.loop b i r = r.reverse ++ b.data.toList.drop i := by
  intro n
  induction n with
  | zero =>
    intro i r h
    unfold ByteArray.toList.loop
    rw [if_neg (by omega), List.drop_of_length_le (by rw [Array.length_toList]; show b.size ≤ i; omega)]
    simp
  | succ n ih =>
    intro i r h
    unfold ByteArray.toList.loop
    have hi : i < b.size := by omega
    rw [if_pos hi, ih (i + 1) _ (by omega)]
    have hi2 : i < b.data.toList.length := by rw [Array.length_toList]; exact hi
    rw [List.drop_eq_getElem_cons hi2]
    simp [ByteArray.get!, hi]
theorem ba_toList (b : ByteArray) : b.toList = b.data.toList := by
  unfold ByteArray.toList
  rw [ba_loop b _ 0 [] rfl]; simp
theorem str_beq (a b : ByteArray) : (a.toList == b.toList) = decide (a = b) := by
  rw [ba_toList, ba_toList]
  by_cases h : a = b
  · subst h; simp
  · rw [decide_eq_false h, beq_eq_false_iff_ne]
    intro he
    apply h
    cases a with | mk x => cases b with | mk y =>
      have : x = y := Array.toList_inj.1 he
      rw [this]
end Go.HL
set_option linter.unusedVariables false
set_option linter.unusedSimpArgs false
namespace Go.HL
section
variable {P : Program} {L : HList}

/-- What '==' says of two values of a type, by their cells. -/
def eqAt (P : Program) : Nat → TypeId → List Value → List Value → Option Bool
  | 0, _, _, _ => none
  | d + 1, t, xs, ys =>
    match P.underlying t with
    | some .bool => match xs, ys with | [.bool a], [.bool b] => some (a == b) | _, _ => none
    | some (.int _) => match xs, ys with | [.int k a], [.int k' b] => if k = k' then some (a == b) else none | _, _ => none
    | some .string => match xs, ys with | [.string a], [.string b] => some (a.toList == b.toList) | _, _ => none
    | some (.struct fs) =>
      if P.stoodInHeld t = false then
        fs.toList.foldr (fun f acc => if f.name = "_" then none else acc.bind fun r => (eqAt P d f.type ((xs.drop f.offset).take (P.cellsOf f.type)) ((ys.drop f.offset).take (P.cellsOf f.type))).map (· && r)) (some true)
      else none
    | _ => none
def RepC (P : Program) (t : TypeId) (x : Value) (xs : List Value) : Prop :=
  match P.underlying t with
  | some (.struct _) => x = .agg xs.toArray
  | _ => xs = [x]
theorem take_one {xs : List Value} {off s : Nat} {v : Value} (h : (xs.drop off).take s = [v]) : xs.toArray[off]? = some v := by
  have h0 : ((xs.drop off).take s)[0]? = some v := by rw [h]; rfl
  rw [List.getElem?_take] at h0
  split at h0
  · rw [List.getElem?_drop] at h0
    simpa using h0
  · cases h0
theorem run_part_eq {t : TypeId} {n : Nat} {xs ys : List Value} {off : Nat} {r : Bool} (h : eqAt P n t ((xs.drop off).take (P.cellsOf t)) ((ys.drop off).take (P.cellsOf t)) = some r) (w : World) :
    ∃ a b, (part t xs.toArray off).run P w = .ok a w ∧ (part t ys.toArray off).run P w = .ok b w ∧ RepC P t a ((xs.drop off).take (P.cellsOf t)) ∧ RepC P t b ((ys.drop off).take (P.cellsOf t)) := by
  cases n with
  | zero => simp [eqAt] at h
  | succ n =>
    unfold eqAt at h
    have plainP : ∀ {d : TypeDesc}, P.underlying t = some d → (match d with | .struct _ | .array _ _ => true | _ => false) = false → ∀ {a b : Value}, (xs.drop off).take (P.cellsOf t) = [a] → (ys.drop off).take (P.cellsOf t) = [b] →
        ∃ a b, (part t xs.toArray off).run P w = .ok a w ∧ (part t ys.toArray off).run P w = .ok b w ∧ RepC P t a ((xs.drop off).take (P.cellsOf t)) ∧ RepC P t b ((ys.drop off).take (P.cellsOf t)) := by
      intro d hu hd a b ha hb
      have hr : ∀ {v : Value} {l : List Value}, l = [v] → RepC P t v l := by
        intro v l hl
        unfold RepC
        rw [hu]
        cases d <;> simp_all
      have hp : ∀ {zs : List Value} {v : Value}, (zs.drop off).take (P.cellsOf t) = [v] → (part t zs.toArray off).run P w = .ok v w := by
        intro zs v hv
        have hg : (isAgg t).run P w = .ok false w := by
          unfold isAgg
          rw [Sem.run_bind, run_underlying hu]
          cases d <;> simp_all
        unfold part
        rw [Sem.run_bind, hg]
        simp only [Result.andThen_ok, Bool.false_eq_true, if_false, take_one hv, Sem.run_pure]
      exact ⟨a, b, hp ha, hp hb, hr ha, hr hb⟩
    cases hu : P.underlying t with
    | none => rw [hu] at h; simp at h
    | some d =>
      rw [hu] at h
      cases d with
      | bool =>
        simp only at h
        split at h
        · exact plainP hu rfl (by assumption) (by assumption)
        · cases h
      | int k =>
        simp only at h
        split at h
        · exact plainP hu rfl (by assumption) (by assumption)
        · cases h
      | string =>
        simp only at h
        split at h
        · exact plainP hu rfl (by assumption) (by assumption)
        · cases h
      | struct fs =>
        obtain ⟨i, hi⟩ : ∃ i, P.info? t = some i := by
          cases hi : P.info? t with
          | none => unfold Program.underlying at hu; simp [hi] at hu
          | some i => exact ⟨i, rfl⟩
        have hp : ∀ zs : List Value, (part t zs.toArray off).run P w = .ok (.agg ((zs.drop off).take (P.cellsOf t)).toArray) w := by
          intro zs
          have hg : (isAgg t).run P w = .ok true w := by
            unfold isAgg
            rw [Sem.run_bind, run_underlying hu]
            simp
          unfold part
          rw [Sem.run_bind, hg]
          simp only [Result.andThen_ok, if_true, Sem.run_bind, run_sizeOf w hi, Sem.run_pure]
          rw [List.extract_toArray, List.extract_eq_take_drop, Nat.add_sub_cancel_left]
        refine ⟨_, _, hp xs, hp ys, ?_, ?_⟩ <;> (unfold RepC; rw [hu])
      | _ => simp at h
theorem run_eqAt (d : Nat) : ∀ (n : Nat) (t : TypeId) (xs ys : List Value) (r : Bool), eqAt P n t xs ys = some r → ∀ (x y : Value), RepC P t x xs → RepC P t y ys → ∀ w, (Op.equalIn (d + n) t x y).run P w = .ok r w
  | 0, _, _, _, _, h, _, _, _, _, _ => by simp [eqAt] at h
  | n + 1, t, xs, ys, r, h, x, y, hx, hy, w => by
    unfold eqAt at h
    unfold RepC at hx hy
    cases hu : P.underlying t with
    | none => rw [hu] at h; simp at h
    | some q =>
      rw [hu] at h hx hy
      cases q with
      | bool =>
        simp only at h hx hy
        subst hx hy
        split at h
        · rename_i a b e1 e2
          cases e1; cases e2
          cases h
          exact run_equalIn_bool' w (d + n) t a b hu
        · cases h
      | int k =>
        simp only at h hx hy
        subst hx hy
        split at h
        · rename_i k a k' b e1 e2
          cases e1; cases e2
          split at h
          · rename_i hk
            subst hk
            cases h
            exact run_equalIn_int w (d + n) t k _ a b hu
          · cases h
        · cases h
      | string =>
        simp only at h hx hy
        subst hx hy
        split at h
        · rename_i a b e1 e2
          cases e1; cases e2
          cases h
          exact run_equalIn_string w (d + n) t a b hu
        · cases h
      | struct fs =>
        simp only at h hx hy
        subst hx hy
        split at h
        · rename_i hst
          have hf : P.underlying t = some (.struct (P.fieldsOf t)) := by unfold Program.fieldsOf; rw [hu]
          have hfs : P.fieldsOf t = fs := by unfold Program.fieldsOf; rw [hu]
          show (Op.equalIn ((d + n) + 1) t (.agg xs.toArray) (.agg ys.toArray)).run P w = .ok r w
          rw [run_equalIn_agg w (d + n) t _ _ hf hst, hfs]
          revert h
          generalize fs.toList = l
          clear hu hf hfs hst
          induction l generalizing r with
          | nil => intro h; cases h; simp [Op.eqFields]
          | cons f l ih =>
            intro h
            rw [List.foldr_cons] at h
            split at h
            · cases h
            · rename_i hn
              rw [Option.bind_eq_some_iff] at h
              obtain ⟨r', h1, h2⟩ := h
              rw [Option.map_eq_some_iff] at h2
              obtain ⟨q, h3, rfl⟩ := h2
              obtain ⟨a, b, p1, p2, ra, rb⟩ := run_part_eq h3 w
              have h4 := run_eqAt d n f.type _ _ q h3 a b ra rb w
              have h5 := ih r' h1
              unfold Op.eqFields
              simp only [hn, ne_eq, not_false_eq_true, if_true, Sem.run_bind, p1, p2, h4, Result.andThen_ok]
              cases q
              · simp
              · simpa using h5
        · cases h
      | _ => simp at h
def isStr (P : Program) (t : TypeId) : Bool := match P.underlying t with | some (.struct _) => true | _ => false
theorem isStr_rep {t : TypeId} (h : isStr P t = true) (xs : Array Value) : RepC P t (.agg xs) xs.toList := by
  unfold isStr at h
  unfold RepC
  split at h
  · simp
  · cases h
theorem neS_of {t : TypeId} {xs ys : Array Value} {r : Bool} (hu : isStr P t = true) (h : eqAt P 100 t xs.toList ys.toList = some r) {k : ShV (.lf .bool) → HP} (hk : k (!r) L) :
    smP P (binOp .neq t (.agg xs) (.agg ys)) (.lf .bool) k L := by
  refine ⟨!r, fun w => ?_, hk⟩
  rw [run_neq_struct, run_eqAt 9900 100 t _ _ r h (.agg xs) (.agg ys) (isStr_rep hu xs) (isStr_rep hu ys) w]
  rfl
/-- A function value that is called. -/
theorem clv_of {f : FuncId} {args captured : Array Value} {rs : List Sh} {k : RsV rs → HP} (ho : calleeOk P f = true) (h : cl P f (args ++ captured) rs k L) : clv P (.func f) args captured rs k L := ⟨f, rfl, ho, h⟩
end
end Go.HL
set_option linter.unusedVariables false
set_option linter.unusedSimpArgs false
namespace Go.HL
section
variable {P : Program} {L : HList}
/-- 'copy' into a part of a slice of one's own. -/
theorem copy_own {t t2 ty e T : TypeId} {sz : Nat} (hu : P.underlying t = some (.slice e)) (hs : sizeOfT P e = some sz) {v : SlV} {vs : List Value} {seg : HList} (X Y : HList) (own : Own v sz T vs seg) (hL : L = X ++ seg ++ Y)
    {d : SlV} {l : Nat} {a : Addr} (ha : v.a = some a) (hd : d.a = some (Addr.add a (l * sz))) (hdl : l + d.len ≤ v.len) {u : SlV} {ws : List Value} (src : Sl L u sz ws) (hpl : ws.all plainV = true) {k : RsV [.lf (.int .i64)] → HP}
    (hk : ∀ seg', Own v sz T (putL vs (l * sz) (ws.take (min u.len d.len * sz))) seg' → k (((min u.len d.len : Nat) : Int), ()) (X ++ seg' ++ Y)) :
    smW P (Builtin.copy_ #[t, t2] ty #[.slice d.a d.len d.cap, .slice u.a u.len u.cap]) [.lf (.int .i64)] k L := by
  subst hL
  rcases own.row with ⟨ha', _, _⟩ | ⟨b, off, c, fz, ha', rfl, hsz, hfz, hc⟩
  · rw [ha] at ha'; cases ha'
  · rw [ha] at ha'
    obtain rfl := Option.some.inj ha'
    have hlen := own.len
    have hcap := own.cap
    have h1 := Nat.mul_le_mul_right sz (show l + d.len ≤ v.cap by omega)
    have h2 := Nat.mul_le_mul_right sz hdl
    rw [Nat.add_mul] at h1 h2
    have hle : min u.len d.len * sz ≤ d.len * sz := Nat.mul_le_mul_right _ (Nat.min_le_right _ _)
    have hlt : (ws.take (min u.len d.len * sz)).length ≤ min u.len d.len * sz := List.length_take_le _ _
    have hp : l * sz + (ws.take (min u.len d.len * sz)).length ≤ vs.length := by omega
    have hL2 : X ++ [(b, Obj.cells c T fz)] ++ Y = X ++ (b, Obj.cells c T fz) :: Y := by simp
    rw [hL2] at src ⊢
    refine copy_of (off := off + l * sz) hu hs (by rw [hd]; exact congrArg some (addr_add (ad := ⟨b, off, none⟩) rfl (l * sz))) src hpl (by omega) hfz ?_
    have := hk [(b, Obj.cells (wr c (off + l * sz) (ws.take (min u.len d.len * sz))) T fz)] ⟨by rw [putL_len _ _ _ hp]; exact hlen, hcap, .inr ⟨b, off, _, fz, ha, rfl, by rw [wr_size]; exact hsz, by rw [wr_size]; exact hfz, fun i x hx => ?_⟩⟩
    · simpa using this
    · rw [putL_get _ _ _ hp] at hx
      rw [wr_get _ _ _ _ (by omega)]
      split at hx
      · rw [if_pos (by omega), show off + i - (off + l * sz) = i - l * sz by omega]; exact hx
      · rw [if_neg (by omega)]; exact hc i x hx
theorem bvs_put (l : List UInt8) (p : Nat) (ws : List UInt8) : putL (bvs l) p (bvs ws) = bvs (l.take p ++ ws ++ l.drop (p + ws.length)) := by
  simp [putL, bvs, List.map_append, List.map_take, List.map_drop]
theorem bvs_take (l : List UInt8) (n : Nat) : (bvs l).take n = bvs (l.take n) := by simp [bvs, List.map_take]
theorem zeros_bvs (n : Nat) : zeros [.int .u8 0] n = bvs (List.replicate n 0) := by
  induction n with
  | zero => rfl
  | succ n ih => rw [List.replicate_succ]; simp only [zeros] at ih ⊢; rw [List.replicate_succ, List.flatten_cons, ih]; rfl
end
end Go.HL
set_option linter.unusedVariables false
set_option maxRecDepth 100000
namespace Go.Proofs.Ytlabcgnegbdlfaa
open Go.HL
noncomputable abbrev PP : Program := Try.prog
theorem noNum : NoNum PP := by unfold NoNum; kernel_rfl
theorem mixed : PP.follows .mixedOrders = true := by kernel_rfl

/-- depot/depotlaw25.RegionTorn -/
def h6 : Hints := ⟨[(0, [(11, .lf (.int .i64))]), (2, [(12, .lf (.int .i64)), (14, .lf (.int .i64)), (15, .lf .sl), (16, .lf (.int .i64))])], [(19, []), (27, [(12, .lf (.int .i64)), (14, .lf (.int .i64)), (15, .lf .sl)]), (31, [(12, .lf (.int .i64)), (20, .lf .bool)]), (33, []), (37, []), (40, []), (40, [])], [(37, [0, 1, 2, 3, 4, 5, 6, 9, 10, 11, 7, 8, 12, 13, 14, 15, 16]), (24, [0, 1, 2, 3, 4, 5, 6, 7, 8, 9, 11, 12, 13, 14, 10, 15, 16, 17, 18, 19, 20, 23, 24, 25, 21, 22, 26, 27, 28, 29, 30])]⟩
def t6 (x0 : SlV) (x1 : Bool) (x2 : Int) (x3 : Int) (K : Value → HP) : HP :=
  cl PP 38 #[.agg #[.int .i64 2, .int .i64 16, .int .i64 64, .int .i64 9]] [.lf .ptr, .lf (.int .i64)] fun r1 =>
  ifB ((r1.2.1 : Int) != 0) (
   K (.bool false)) (
   ifB (decide ((x0.len : Int) > 20)) (
    cl PP 9 #[] [.lf .bool] fun r2 =>
    K (.bool r2.1)) (
    lp [.lf (.int .i64)] (0, ()) fun z1 go1 =>   -- i
     ifB (decide ((z1.1 : Int) < x0.len)) (
      nilc x0.a fun a1 =>
      ixn z1.1 x0.len <|
      ld (Addr.add a1 (z1.1.toNat * 1)) (.lf .sl) fun v1 =>
      cl PP 8 #[.slice v1.a v1.len v1.cap, .int .i64 8, .int .i64 48] [.lf .bool] fun r3 =>
      ifB (!r3.1) (
       cl PP 9 #[] [.lf .bool] fun r4 =>
       K (.bool r4.1)) (
       nilc x0.a fun a2 =>
       ixn z1.1 x0.len <|
       ld (Addr.add a2 (z1.1.toNat * 1)) (.lf .sl) fun v2 =>
       ifB ((v2.len : Int) == 0) (
        cl PP 9 #[] [.lf .bool] fun r5 =>
        K (.bool r5.1)) (
        go1 (IntKind.i64.wrap (z1.1 + 1), ())))) (
      cl PP 39 #[.pointer r1.1, .int .i64 x2, .int .i64 x3] [] fun r6 =>
      cl PP 40 #[.pointer r1.1, .int .i64 1, .int .i64 9] [.lf (.int .i64)] fun r7 =>
      jn (fun y1 : RsV [.lf (.int .i64), .lf (.int .i64), .lf .sl] =>
       jn (fun y3 : RsV [.lf (.int .i64), .lf .bool] =>
        jn (fun y4 : RsV [] =>
         cl PP 44 #[.pointer r1.1] [] fun r11 =>
         cl PP 42 #[.pointer r1.1] [.lf .sl] fun r12 =>
         jn (fun y5 : RsV [] =>
          ifB ((r12.1.len : Int) == 1) (
           nilc r12.1.a fun a8 =>
           ixn 0 r12.1.len <|
           nilc r12.1.a fun a9 =>
           ixn 0 r12.1.len <|
           ld (Addr.add (Addr.add a8 ((0 : Int).toNat * 4)) 3) (.lf .sl) fun v14 =>
           smR PP (Conv.bytesToString (.slice v14.a v14.len v14.cap)) [.lf .str] fun v15 =>
           ld (Addr.add (Addr.add a9 ((0 : Int).toNat * 4)) 2) (.lf .sl) fun v16 =>
           smR PP (Conv.bytesToString (.slice v16.a v16.len v16.cap)) [.lf .str] fun v17 =>
           jn (fun y6 : RsV [] =>
            cl PP 46 #[.pointer r1.1, .int .i64 1] [.lf .sl, .lf (.int .i64)] fun r15 =>
            cl PP 10 #[.slice r15.1.a r15.1.len r15.1.cap] [.agg [.int .i64, .bool, .sl], .lf .bool] fun r16 =>
            nw (.cells #[.int .i64 0, .bool false, .slice none 0 0] 29) fun n4 =>
            st ⟨n4, 0, none⟩ [.int .i64 r16.1.1, .bool r16.1.2.1, .slice r16.1.2.2.1.a r16.1.2.2.1.len r16.1.2.2.1.cap] <|
            ifB (!((r7.1 : Int) == 0)) (
             ifB ((r15.2.1 : Int) == 0) (
              ifB (r16.2.1 == (ByteArray.toList v15.1 == ByteArray.toList v17.1)) (
               ld (Addr.add ⟨n4, 0, none⟩ 2) (.lf .sl) fun v19 =>
               ifB ((v19.len : Int) == 0) (
                cl PP 9 #[] [.lf .bool] fun r17 =>
                K (.bool r17.1)) (
                K (.bool false))) (
               K (.bool false))) (
              K (.bool false))) (
             ifB ((r15.2.1 : Int) == 0) (
              ifB r16.2.1 (
               ld ⟨n4, 0, none⟩ (.lf (.int .i64)) fun v20 =>
               ifB ((v20 : Int) == 9) (
                ld (Addr.add ⟨n4, 0, none⟩ 2) (.lf .sl) fun v21 =>
                cl PP 12 #[.slice v21.a v21.len v21.cap, .slice y1.2.2.1.a y1.2.2.1.len y1.2.2.1.cap] [.lf .bool] fun r18 =>
                ifB r18.1 (
                 ld (Addr.add ⟨n4, 0, none⟩ 1) (.lf .bool) fun v22 =>
                 ifB (v22 == y3.2.1) (
                  cl PP 9 #[] [.lf .bool] fun r19 =>
                  K (.bool r19.1)) (
                  ifB (ByteArray.toList v15.1 == ByteArray.toList v17.1) (
                   ld (Addr.add ⟨n4, 0, none⟩ 1) (.lf .bool) fun v23 =>
                   ifB (v23 == x1) (
                    cl PP 9 #[] [.lf .bool] fun r20 =>
                    K (.bool r20.1)) (
                    K (.bool false))) (
                   K (.bool false)))) (
                 K (.bool false))) (
                K (.bool false))) (
               K (.bool false))) (
              K (.bool false)))) fun j6 =>
           ifB ((r12.1.len : Int) == 1) (
             ifB (!(ByteArray.toList v15.1 == ByteArray.toList v17.1)) (
              nilc r12.1.a fun a10 =>
              ixn 0 r12.1.len <|
              ld (Addr.add (Addr.add a10 ((0 : Int).toNat * 4)) 3) (.lf .sl) fun v18 =>
              cl PP 45 #[.slice v18.a v18.len v18.cap] [.lf .bool] fun r13 =>
              ifB r13.1 (
               cl PP 9 #[] [.lf .bool] fun r14 =>
               K (.bool r14.1)) (
               j6 (()))) (
              j6 (()))) (
             j6 (()))) (
           jn (fun y7 : RsV [] =>
            cl PP 46 #[.pointer r1.1, .int .i64 1] [.lf .sl, .lf (.int .i64)] fun r23 =>
            cl PP 10 #[.slice r23.1.a r23.1.len r23.1.cap] [.agg [.int .i64, .bool, .sl], .lf .bool] fun r24 =>
            nw (.cells #[.int .i64 0, .bool false, .slice none 0 0] 29) fun n5 =>
            st ⟨n5, 0, none⟩ [.int .i64 r24.1.1, .bool r24.1.2.1, .slice r24.1.2.2.1.a r24.1.2.2.1.len r24.1.2.2.1.cap] <|
            ifB (!((r7.1 : Int) == 0)) (
             ifB ((r23.2.1 : Int) == 0) (
              ifB (r24.2.1 == false) (
               ld (Addr.add ⟨n5, 0, none⟩ 2) (.lf .sl) fun v25 =>
               ifB ((v25.len : Int) == 0) (
                cl PP 9 #[] [.lf .bool] fun r25 =>
                K (.bool r25.1)) (
                K (.bool false))) (
               K (.bool false))) (
              K (.bool false))) (
             ifB ((r23.2.1 : Int) == 0) (
              ifB r24.2.1 (
               ld ⟨n5, 0, none⟩ (.lf (.int .i64)) fun v26 =>
               ifB ((v26 : Int) == 9) (
                ld (Addr.add ⟨n5, 0, none⟩ 2) (.lf .sl) fun v27 =>
                cl PP 12 #[.slice v27.a v27.len v27.cap, .slice y1.2.2.1.a y1.2.2.1.len y1.2.2.1.cap] [.lf .bool] fun r26 =>
                ifB r26.1 (
                 ld (Addr.add ⟨n5, 0, none⟩ 1) (.lf .bool) fun v28 =>
                 ifB (v28 == y3.2.1) (
                  cl PP 9 #[] [.lf .bool] fun r27 =>
                  K (.bool r27.1)) (
                  K (.bool false))) (
                 K (.bool false))) (
                K (.bool false))) (
               K (.bool false))) (
              K (.bool false)))) fun j7 =>
           ifB ((r12.1.len : Int) == 1) (
             nilc r12.1.a fun a11 =>
             ixn 0 r12.1.len <|
             ld (Addr.add (Addr.add a11 ((0 : Int).toNat * 4)) 3) (.lf .sl) fun v24 =>
             cl PP 45 #[.slice v24.a v24.len v24.cap] [.lf .bool] fun r21 =>
             ifB r21.1 (
              cl PP 9 #[] [.lf .bool] fun r22 =>
              K (.bool r22.1)) (
              j7 (()))) (
             j7 (())))) fun j5 =>
         ifB (decide ((r12.1.len : Int) > 1)) (
           K (.bool false)) (
           ifB (!(((r12.1.len : Int) == 1) == ((y3.1 : Int) == 11))) (
            K (.bool false)) (
            j5 (())))) fun j4 =>
        ifB ((y3.1 : Int) != 0) (
          ifB ((y3.1 : Int) != 11) (
           K (.bool false)) (
           j4 (()))) (
          j4 (()))) fun j3 =>
       ifB ((y1.1 : Int) == 0) (
         ifB x1 (
          cl PP 43 #[.pointer r1.1, .int .i64 1, .int .i64 9, .int .i64 y1.2.1, .slice y1.2.2.1.a y1.2.2.1.len y1.2.2.1.cap] [.lf (.int .i64)] fun r10 =>
          j3 (r10.1, (r10.1 : Int) == 0, ())) (
          j3 (y1.1, false, ()))) (
         j3 (y1.1, false, ()))) fun j1 =>
      lp [.lf (.int .i64), .lf (.int .i64), .lf .sl, .lf (.int .i64)] (r7.1, 1, ⟨none, 0, 0⟩, 0, ()) fun z2 go2 =>   -- a, at, want, i
        jn (fun y2 : RsV [] =>
         nilc x0.a fun a3 =>
         ixn z2.2.2.2.1 x0.len <|
         ld (Addr.add a3 (z2.2.2.2.1.toNat * 1)) (.lf .sl) fun v3 =>
         ifB (decide ((IntKind.i64.wrap (z2.2.1 + v3.len) : Int) > 15)) (
          j1 (z2.1, z2.2.1, ⟨z2.2.2.1.a, z2.2.2.1.len, z2.2.2.1.cap⟩, ())) (
          nilc x0.a fun a4 =>
          ixn z2.2.2.2.1 x0.len <|
          ld (Addr.add a4 (z2.2.2.2.1.toNat * 1)) (.lf .sl) fun v4 =>
          cl PP 41 #[.pointer r1.1, .int .i64 1, .int .i64 9, .int .i64 z2.2.1, .int .i64 2, .slice v4.a v4.len v4.cap] [.lf (.int .i64)] fun r8 =>
          nw (.cells #[.int .i64 0, .int .i64 0, .int .i64 0] 24) fun n1 =>
          st ⟨n1, 0, none⟩ [.int .i64 2, .int .i64 z2.2.1, .int .i64 v3.len] <|
          cl PP 42 #[.pointer r1.1] [.lf .sl] fun r9 =>
          ifB ((r8.1 : Int) == 0) (
           ld ⟨n1, 0, none⟩ (.agg [.int .i64, .int .i64, .int .i64]) fun v5 =>
           nw (.cells #[.int .i64 v5.1, .int .i64 v5.2.1, .int .i64 v5.2.2.1] 24) fun n2 =>
           smW PP (Builtin.append_ #[27, 27] 27 #[.slice z2.2.2.1.a z2.2.2.1.len z2.2.2.1.cap, .slice (some ⟨n2, 0, none⟩) 1 1]) [.lf .sl] fun v6 =>
           go2 (r8.1, IntKind.i64.wrap (z2.2.1 + v3.len), ⟨v6.1.a, v6.1.len, v6.1.cap⟩, IntKind.i64.wrap (z2.2.2.2.1 + 1), ())) (
           ifB ((r9.1.len : Int) == 1) (
            nilc r9.1.a fun a5 =>
            ixn 0 r9.1.len <|
            ld (Addr.add (Addr.add a5 ((0 : Int).toNat * 4)) 1) (.lf (.int .i64)) fun v7 =>
            ifB ((v7 : Int) == (IntKind.i64.wrap ((IntKind.i64.wrap (z2.2.1 + v3.len)) - 1))) (
             nilc r9.1.a fun a6 =>
             ixn 0 r9.1.len <|
             nilc r9.1.a fun a7 =>
             ixn 0 r9.1.len <|
             ld (Addr.add (Addr.add a6 ((0 : Int).toNat * 4)) 3) (.lf .sl) fun v8 =>
             smR PP (Conv.bytesToString (.slice v8.a v8.len v8.cap)) [.lf .str] fun v9 =>
             ld (Addr.add (Addr.add a7 ((0 : Int).toNat * 4)) 2) (.lf .sl) fun v10 =>
             smR PP (Conv.bytesToString (.slice v10.a v10.len v10.cap)) [.lf .str] fun v11 =>
             ifB (ByteArray.toList v9.1 == ByteArray.toList v11.1) (
              ld ⟨n1, 0, none⟩ (.agg [.int .i64, .int .i64, .int .i64]) fun v12 =>
              nw (.cells #[.int .i64 v12.1, .int .i64 v12.2.1, .int .i64 v12.2.2.1] 24) fun n3 =>
              smW PP (Builtin.append_ #[27, 27] 27 #[.slice z2.2.2.1.a z2.2.2.1.len z2.2.2.1.cap, .slice (some ⟨n3, 0, none⟩) 1 1]) [.lf .sl] fun v13 =>
              go2 (r8.1, IntKind.i64.wrap (z2.2.1 + v3.len), ⟨v13.1.a, v13.1.len, v13.1.cap⟩, IntKind.i64.wrap (z2.2.2.2.1 + 1), ())) (
              go2 (r8.1, IntKind.i64.wrap (z2.2.1 + v3.len), ⟨z2.2.2.1.a, z2.2.2.1.len, z2.2.2.1.cap⟩, IntKind.i64.wrap (z2.2.2.2.1 + 1), ()))) (
             go2 (r8.1, IntKind.i64.wrap (z2.2.1 + v3.len), ⟨z2.2.2.1.a, z2.2.2.1.len, z2.2.2.1.cap⟩, IntKind.i64.wrap (z2.2.2.2.1 + 1), ()))) (
            go2 (r8.1, IntKind.i64.wrap (z2.2.1 + v3.len), ⟨z2.2.2.1.a, z2.2.2.1.len, z2.2.2.1.cap⟩, IntKind.i64.wrap (z2.2.2.2.1 + 1), ()))))) fun j2 =>
        ifB (decide ((z2.2.2.2.1 : Int) < x0.len)) (
          ifB ((z2.1 : Int) == 0) (
           j2 (())) (
           j1 (z2.1, z2.2.1, ⟨z2.2.2.1.a, z2.2.2.1.len, z2.2.2.1.cap⟩, ()))) (
          j1 (z2.1, z2.2.1, ⟨z2.2.2.1.a, z2.2.2.1.len, z2.2.2.1.cap⟩, ())))))
theorem e6 (x0 : SlV) (x1 : Bool) (x2 : Int) (x3 : Int) (K : Value → HP) : flatFn PP h6 Try.f6 [.slice x0.a x0.len x0.cap, .bool x1, .int .i64 x2, .int .i64 x3] K = t6 x0 x1 x2 x3 K := by kernel_rfl

/-- depot/depotref24.Few -/
def h8 : Hints := ⟨[(0, [(7, .lf (.int .i64))])], [], []⟩
def t8 (x0 : SlV) (x1 : Int) (x2 : Int) (K : Value → HP) : HP :=
  lp [.lf (.int .i64)] (0, ()) fun z1 go1 =>   -- i
   ifB (decide ((z1.1 : Int) < x0.len)) (
    ifB (decide ((z1.1 : Int) ≤ x1)) (
     nilc x0.a fun a1 =>
     ixn z1.1 x0.len <|
     ld (Addr.add a1 (z1.1.toNat * 1)) (.lf .sl) fun v1 =>
     ifB (decide ((v1.len : Int) > x2)) (
      K (.bool false)) (
      go1 (IntKind.i64.wrap (z1.1 + 1), ()))) (
     K (.bool (decide ((x0.len : Int) ≤ x1))))) (
    K (.bool (decide ((x0.len : Int) ≤ x1))))
theorem e8 (x0 : SlV) (x1 : Int) (x2 : Int) (K : Value → HP) : flatFn PP h8 Try.f8 [.slice x0.a x0.len x0.cap, .int .i64 x1, .int .i64 x2] K = t8 x0 x1 x2 K := by kernel_rfl

/-- depot/depotlaw25.regions -/
def h9 : Hints := ⟨[], [], []⟩
def t9 (K : Value → HP) : HP :=
  cl PP 47 #[] [.agg [.int .i64, .int .i64, .int .i64, .int .i64]] fun r1 =>
  cl PP 38 #[.agg #[.int .i64 r1.1.1, .int .i64 r1.1.2.1, .int .i64 r1.1.2.2.1, .int .i64 r1.1.2.2.2.1]] [.lf .ptr, .lf (.int .i64)] fun r2 =>
  ifB ((r2.2.1 : Int) != 0) (
   K (.bool false)) (
   cl PP 40 #[.pointer r2.1, .int .i64 0, .int .i64 7] [.lf (.int .i64)] fun r3 =>
   nw (.cells #[.int .u8 5] 5) fun n1 =>
   nw (.cells #[.slice (some ⟨n1, 0, none⟩) 1 1] 40) fun n2 =>
   cl PP 41 #[.pointer r2.1, .int .i64 0, .int .i64 7, .int .i64 1, .int .i64 2, .slice (some ⟨n2, 0, none⟩) 1 1] [.lf (.int .i64)] fun r4 =>
   nw (.cells #[.int .u8 6] 5) fun n3 =>
   nw (.cells #[.int .u8 7] 5) fun n4 =>
   nw (.cells #[.slice (some ⟨n3, 0, none⟩) 1 1, .slice (some ⟨n4, 0, none⟩) 1 1] 40) fun n5 =>
   cl PP 41 #[.pointer r2.1, .int .i64 0, .int .i64 7, .int .i64 2, .int .i64 2, .slice (some ⟨n5, 0, none⟩) 2 2] [.lf (.int .i64)] fun r5 =>
   cl PP 46 #[.pointer r2.1, .int .i64 0] [.lf .sl, .lf (.int .i64)] fun r6 =>
   cl PP 10 #[.slice r6.1.a r6.1.len r6.1.cap] [.agg [.int .i64, .bool, .sl], .lf .bool] fun r7 =>
   nw (.cells #[.int .i64 0, .bool false, .slice none 0 0] 29) fun n6 =>
   st ⟨n6, 0, none⟩ [.int .i64 r7.1.1, .bool r7.1.2.1, .slice r7.1.2.2.1.a r7.1.2.2.1.len r7.1.2.2.1.cap] <|
   ld (Addr.add ⟨n6, 0, none⟩ 2) (.lf .sl) fun v1 =>
   cl PP 43 #[.pointer r2.1, .int .i64 0, .int .i64 7, .int .i64 4, .slice v1.a v1.len v1.cap] [.lf (.int .i64)] fun r8 =>
   cl PP 46 #[.pointer r2.1, .int .i64 0] [.lf .sl, .lf (.int .i64)] fun r9 =>
   cl PP 10 #[.slice r9.1.a r9.1.len r9.1.cap] [.agg [.int .i64, .bool, .sl], .lf .bool] fun r10 =>
   nw (.cells #[.int .i64 0, .bool false, .slice none 0 0] 29) fun n7 =>
   st ⟨n7, 0, none⟩ [.int .i64 r10.1.1, .bool r10.1.2.1, .slice r10.1.2.2.1.a r10.1.2.2.1.len r10.1.2.2.1.cap] <|
   cl PP 14 #[.slice r9.1.a r9.1.len r9.1.cap, .agg #[.int .i64 2, .int .i64 2, .int .i64 2]] [.lf .sl] fun r11 =>
   nw (.cells #[.int .i64 1, .int .i64 2, .int .i64 3] 104) fun n8 =>
   cl PP 16 #[.slice (some ⟨n8, 0, none⟩) 1 1] [.lf .sl, .lf (.int .i64)] fun r12 =>
   cl PP 18 #[.slice r12.1.a r12.1.len r12.1.cap] [.lf .sl, .lf (.int .i64)] fun r13 =>
   ifB ((r3.1 : Int) == 0) (
    ifB ((r4.1 : Int) == 0) (
     ifB ((r5.1 : Int) == 0) (
      ifB ((r8.1 : Int) == 0) (
       ifB ((r6.2.1 : Int) == 0) (
        ifB ((r9.2.1 : Int) == 0) (
         ifB r7.2.1 (
          ld (Addr.add ⟨n6, 0, none⟩ 1) (.lf .bool) fun v2 =>
          ifB (!v2) (
           ifB r10.2.1 (
            ld (Addr.add ⟨n7, 0, none⟩ 1) (.lf .bool) fun v3 =>
            ifB v3 (
             ld ⟨n7, 0, none⟩ (.lf (.int .i64)) fun v4 =>
             ifB ((v4 : Int) == 7) (
              ld (Addr.add ⟨n7, 0, none⟩ 2) (.lf .sl) fun v5 =>
              ifB ((v5.len : Int) == 2) (
               ld (Addr.add ⟨n6, 0, none⟩ 2) (.lf .sl) fun v6 =>
               ld (Addr.add ⟨n7, 0, none⟩ 2) (.lf .sl) fun v7 =>
               cl PP 12 #[.slice v6.a v6.len v6.cap, .slice v7.a v7.len v7.cap] [.lf .bool] fun r14 =>
               ifB r14.1 (
                ifB ((r11.1.len : Int) == 2) (
                 nilc r11.1.a fun a1 =>
                 ixn 1 r11.1.len <|
                 ld (Addr.add a1 ((1 : Int).toNat * 1)) (.lf .sl) fun v8 =>
                 ifB ((v8.len : Int) == 1) (
                  nilc r11.1.a fun a2 =>
                  ixn 1 r11.1.len <|
                  ld (Addr.add a2 ((1 : Int).toNat * 1)) (.lf .sl) fun v9 =>
                  nilc v9.a fun a3 =>
                  ixn 0 v9.len <|
                  ld (Addr.add a3 ((0 : Int).toNat * 1)) (.lf (.int .u8)) fun v10 =>
                  ifB ((v10 : Int) == 7) (
                   ifB ((r12.2.1 : Int) == 0) (
                    ifB ((r12.1.len : Int) == 6) (
                     ifB ((r13.2.1 : Int) == 0) (
                      ifB ((r13.1.len : Int) == 1) (
                       nilc r13.1.a fun a4 =>
                       ixn 0 r13.1.len <|
                       ld (Addr.add (Addr.add a4 ((0 : Int).toNat * 3)) 2) (.lf (.int .i64)) fun v11 =>
                       K (.bool ((v11 : Int) == 3))) (
                       K (.bool false))) (
                      K (.bool false))) (
                     K (.bool false))) (
                    K (.bool false))) (
                   K (.bool false))) (
                  K (.bool false))) (
                 K (.bool false))) (
                K (.bool false))) (
               K (.bool false))) (
              K (.bool false))) (
             K (.bool false))) (
            K (.bool false))) (
           K (.bool false))) (
          K (.bool false))) (
         K (.bool false))) (
        K (.bool false))) (
       K (.bool false))) (
      K (.bool false))) (
     K (.bool false))) (
    K (.bool false)))
theorem e9 (K : Value → HP) : flatFn PP h9 Try.f9 [] K = t9 K := by kernel_rfl

/-- depot/region.Scan -/
def h10 : Hints := ⟨[], [(12, [])], [(12, [0, 1, 2, 4, 5, 6, 3, 7, 8, 9, 10])]⟩
def t10 (x0 : SlV) (K : Value → HP) : HP :=
  nw (.cells #[.int .i64 0, .bool false, .slice none 0 0] 29) fun n1 =>
  cl PP 57 #[.slice x0.a x0.len x0.cap] [.lf .ptr] fun r1 =>
  nilc r1.1 fun a1 =>
  ld a1 (.lf .sl) fun v1 =>
  ifB ((v1.len : Int) == 0) (
   st ⟨n1, 0, none⟩ [.int .i64 0, .bool false, .slice none 0 0] <|
   ld ⟨n1, 0, none⟩ (.agg [.int .i64, .bool, .sl]) fun v2 =>
   K (.tuple #[.agg #[.int .i64 v2.1, .bool v2.2.1, .slice v2.2.2.1.a v2.2.2.1.len v2.2.2.1.cap], .bool false])) (
   nilc r1.1 fun a2 =>
   ld a2 (.lf .sl) fun v3 =>
   nilc v3.a fun a3 =>
   ixn 0 v3.len <|
   ld (Addr.add (Addr.add a3 ((0 : Int).toNat * 7)) 3) (.lf (.int .i64)) fun v4 =>
   nilc r1.1 fun a4 =>
   st (Addr.add a4 1) [.int .i64 v4] <|
   cl PP 58 #[.pointer r1.1, .int .i64 0, .agg #[.int .i64 1, .int .i64 0, .int .i64 1, .int .i64 0, .int .i64 0]] [.lf .sl, .lf .bool] fun r2 =>
   ifB (!r2.2.1) (
    st ⟨n1, 0, none⟩ [.int .i64 0, .bool false, .slice none 0 0] <|
    ld ⟨n1, 0, none⟩ (.agg [.int .i64, .bool, .sl]) fun v5 =>
    K (.tuple #[.agg #[.int .i64 v5.1, .bool v5.2.1, .slice v5.2.2.1.a v5.2.2.1.len v5.2.2.1.cap], .bool false])) (
    ifB (decide ((r2.1.len : Int) > 0)) (
     st ⟨n1, 0, none⟩ [.int .i64 0, .bool false, .slice none 0 0] <|
     ld ⟨n1, 0, none⟩ (.agg [.int .i64, .bool, .sl]) fun v6 =>
     K (.tuple #[.agg #[.int .i64 v6.1, .bool v6.2.1, .slice v6.2.2.1.a v6.2.2.1.len v6.2.2.1.cap], .bool false])) (
     jn (fun y1 : RsV [] =>
      nilc r1.1 fun a7 =>
      ld (Addr.add a7 1) (.lf (.int .i64)) fun v10 =>
      cl PP 60 #[.pointer r1.1, .func (.func 61) #[.pointer r1.1] #[]] [.lf .sl] fun r4 =>
      keep (LdAt (Addr.add a7 1) [.int .i64 v10]) <|
      st ⟨n1, 0, none⟩ [.int .i64 v10, .bool false, .slice r4.1.a r4.1.len r4.1.cap] <|
      ld ⟨n1, 0, none⟩ (.agg [.int .i64, .bool, .sl]) fun v11 =>
      K (.tuple #[.agg #[.int .i64 v11.1, .bool v11.2.1, .slice v11.2.2.1.a v11.2.2.1.len v11.2.2.1.cap], .bool true])) fun j1 =>
     nilc r1.1 fun a5 =>
      ld (Addr.add a5 2) (.lf (.int .i64)) fun v7 =>
      ifB (decide ((v7 : Int) > 0)) (
       cl PP 59 #[.pointer r1.1] [.lf .sl, .lf .bool] fun r3 =>
       ifB r3.2.1 (
        nilc r1.1 fun a6 =>
        ld (Addr.add a6 1) (.lf (.int .i64)) fun v8 =>
        st ⟨n1, 0, none⟩ [.int .i64 v8, .bool true, .slice r3.1.a r3.1.len r3.1.cap] <|
        ld ⟨n1, 0, none⟩ (.agg [.int .i64, .bool, .sl]) fun v9 =>
        K (.tuple #[.agg #[.int .i64 v9.1, .bool v9.2.1, .slice v9.2.2.1.a v9.2.2.1.len v9.2.2.1.cap], .bool true])) (
        j1 (()))) (
       j1 (())))))
theorem e10 (x0 : SlV) (K : Value → HP) : flatFn PP h10 Try.f10 [.slice x0.a x0.len x0.cap] K = t10 x0 K := by kernel_rfl

/-- depot/depotref25.Items -/
def h12 : Hints := ⟨[(0, [(5, .lf (.int .i64))])], [], [(6, [0, 1, 2, 4, 5, 6, 3, 7, 8])]⟩
def t12 (x0 : SlV) (x1 : SlV) (K : Value → HP) : HP :=
  ifB ((x0.len : Int) != x1.len) (
   K (.bool false)) (
   lp [.lf (.int .i64)] (0, ()) fun z1 go1 =>   -- i
    ifB (decide ((z1.1 : Int) < x0.len)) (
     nilc x0.a fun a1 =>
     ixn z1.1 x0.len <|
     nilc x1.a fun a2 =>
     ixn z1.1 x1.len <|
     ld (Addr.add a1 (z1.1.toNat * 3)) (.agg [.int .i64, .int .i64, .int .i64]) fun v1 =>
     ld (Addr.add a2 (z1.1.toNat * 3)) (.agg [.int .i64, .int .i64, .int .i64]) fun v2 =>
     smP PP (binOp .neq 24 (.agg #[.int .i64 v1.1, .int .i64 v1.2.1, .int .i64 v1.2.2.1]) (.agg #[.int .i64 v2.1, .int .i64 v2.2.1, .int .i64 v2.2.2.1])) (.lf .bool) fun v3 =>
     ifB v3 (
      K (.bool false)) (
      go1 (IntKind.i64.wrap (z1.1 + 1), ()))) (
     K (.bool true)))
theorem e12 (x0 : SlV) (x1 : SlV) (K : Value → HP) : flatFn PP h12 Try.f12 [.slice x0.a x0.len x0.cap, .slice x1.a x1.len x1.cap] K = t12 x0 x1 K := by kernel_rfl

/-- depot/region.Parts -/
def h14 : Hints := ⟨[(0, [(5, .lf .sl), (6, .lf (.int .i64))])], [], []⟩
def t14 (x0 : SlV) (x1 : ShV (.agg [.int .i64, .int .i64, .int .i64])) (K : Value → HP) : HP :=
  nw (.cells #[.int .i64 x1.1, .int .i64 x1.2.1, .int .i64 x1.2.2.1] 24) fun n1 =>
  lp [.lf .sl, .lf (.int .i64)] (⟨none, 0, 0⟩, 0, ()) fun z1 go1 =>   -- l, i
   ld (Addr.add ⟨n1, 0, none⟩ 2) (.lf (.int .i64)) fun v1 =>
   ifB (decide ((z1.2.1 : Int) < v1)) (
    ld (Addr.add ⟨n1, 0, none⟩ 1) (.lf (.int .i64)) fun v2 =>
    ifB (decide ((v2 : Int) < 0)) (
     K (.slice none 0 0)) (
     ld (Addr.add ⟨n1, 0, none⟩ 1) (.lf (.int .i64)) fun v3 =>
     ifB (decide ((v3 : Int) ≥ (IntKind.i64.wrap (x0.len - z1.2.1)))) (
      K (.slice none 0 0)) (
      ld (Addr.add ⟨n1, 0, none⟩ 1) (.lf (.int .i64)) fun v4 =>
      nilc x0.a fun a1 =>
      ixn (IntKind.i64.wrap (v4 + z1.2.1)) x0.len <|
      ld (Addr.add a1 ((IntKind.i64.wrap (v4 + z1.2.1)).toNat * 1)) (.lf .sl) fun v5 =>
      cl PP 67 #[.slice v5.a v5.len v5.cap] [.agg [.int .i64, .int .i64, .int .i64, .int .i64, .int .i64], .lf .sl, .lf (.int .i64)] fun r1 =>
      nw (.cells #[.int .i64 0, .int .i64 0, .int .i64 0, .int .i64 0, .int .i64 0] 111) fun n2 =>
      st ⟨n2, 0, none⟩ [.int .i64 r1.1.1, .int .i64 r1.1.2.1, .int .i64 r1.1.2.2.1, .int .i64 r1.1.2.2.2.1, .int .i64 r1.1.2.2.2.2.1] <|
      ifB ((r1.2.2.1 : Int) != 0) (
       K (.slice none 0 0)) (
       nw (.cells #[.slice r1.2.1.a r1.2.1.len r1.2.1.cap] 40) fun n3 =>
       smW PP (Builtin.append_ #[22, 22] 22 #[.slice z1.1.a z1.1.len z1.1.cap, .slice (some ⟨n3, 0, none⟩) 1 1]) [.lf .sl] fun v6 =>
       go1 (⟨v6.1.a, v6.1.len, v6.1.cap⟩, IntKind.i64.wrap (z1.2.1 + 1), ()))))) (
    K (.slice z1.1.a z1.1.len z1.1.cap))
theorem e14 (x0 : SlV) (x1 : ShV (.agg [.int .i64, .int .i64, .int .i64])) (K : Value → HP) : flatFn PP h14 Try.f14 [.slice x0.a x0.len x0.cap, .agg #[.int .i64 x1.1, .int .i64 x1.2.1, .int .i64 x1.2.2.1]] K = t14 x0 x1 K := by kernel_rfl

/-- depot/region.KillLoad -/
def h16 : Hints := ⟨[(0, [(4, .lf .sl), (9, .lf (.int .i64))])], [], []⟩
def t16 (x0 : SlV) (K : Value → HP) : HP :=
  lp [.lf .sl, .lf (.int .i64)] (⟨none, 0, 0⟩, 0, ()) fun z1 go1 =>   -- b, 
   ifB (decide ((z1.2.1 : Int) < x0.len)) (
    nilc x0.a fun a1 =>
    ixn z1.2.1 x0.len <|
    ld (Addr.add a1 (z1.2.1.toNat * 3)) (.agg [.int .i64, .int .i64, .int .i64]) fun v1 =>
    nw (.cells #[.int .i64 0, .int .i64 0, .int .i64 0] 104) fun n1 =>
    st ⟨n1, 0, none⟩ [.int .i64 v1.1, .int .i64 v1.2.1, .int .i64 v1.2.2.1] <|
    ld ⟨n1, 0, none⟩ (.agg [.int .i64, .int .i64, .int .i64]) fun v2 =>
    cl PP 68 #[.agg #[.int .i64 v2.1, .int .i64 v2.2.1, .int .i64 v2.2.2.1]] [.lf .bool] fun r1 =>
    ifB (!r1.1) (
     K (.tuple #[.slice none 0 0, .int .i64 3])) (
     ld ⟨n1, 0, none⟩ (.lf (.int .i64)) fun v3 =>
     ld (Addr.add ⟨n1, 0, none⟩ 1) (.lf (.int .i64)) fun v4 =>
     nw (.cells #[.int .i64 v3, .int .i64 v4] 3) fun n2 =>
     cl PP 69 #[.slice z1.1.a z1.1.len z1.1.cap, .slice (some ⟨n2, 0, none⟩) 2 2] [.lf .sl, .lf .bool] fun r2 =>
     ld (Addr.add ⟨n1, 0, none⟩ 2) (.lf (.int .i64)) fun v5 =>
     cl PP 70 #[.slice r2.1.a r2.1.len r2.1.cap, .int .i64 v5, .int .i64 4] [.lf .sl, .lf (.int .i64)] fun r3 =>
     go1 (⟨r3.1.a, r3.1.len, r3.1.cap⟩, IntKind.i64.wrap (z1.2.1 + 1), ()))) (
    K (.tuple #[.slice z1.1.a z1.1.len z1.1.cap, .int .i64 0]))
theorem e16 (x0 : SlV) (K : Value → HP) : flatFn PP h16 Try.f16 [.slice x0.a x0.len x0.cap] K = t16 x0 K := by kernel_rfl

/-- depot/region.Kills -/
def h18 : Hints := ⟨[(0, [(4, .lf .sl), (5, .lf .sl)])], [], [(8, [0, 1, 4, 5, 8, 2, 3, 6, 7, 9, 10, 11])]⟩
def t18 (x0 : SlV) (K : Value → HP) : HP :=
  req ((6 : Int) ≠ 0) <|
  ifB ((Int.tmod x0.len 6 : Int) != 0) (
   K (.tuple #[.slice none 0 0, .int .i64 5])) (
   lp [.lf .sl, .lf .sl] (⟨none, 0, 0⟩, ⟨x0.a, x0.len, x0.cap⟩, ()) fun z1 go1 =>   -- l, b
    ifB (decide ((z1.2.1.len : Int) > 0)) (
     cl PP 72 #[.slice z1.2.1.a z1.2.1.len z1.2.1.cap, .int .i64 2, .int .i64 4] [.lf (.int .i64), .lf (.int .i64)] fun r1 =>
     nilc z1.2.1.a fun a1 =>
     ixn 0 z1.2.1.len <|
     nilc z1.2.1.a fun a2 =>
     ixn 1 z1.2.1.len <|
     ld (Addr.add a1 ((0 : Int).toNat * 1)) (.lf (.int .u8)) fun v1 =>
     ld (Addr.add a2 ((1 : Int).toNat * 1)) (.lf (.int .u8)) fun v2 =>
     nw (.cells #[.int .i64 0, .int .i64 0, .int .i64 0] 104) fun n1 =>
     st ⟨n1, 0, none⟩ [.int .i64 (IntKind.i64.wrap v1), .int .i64 (IntKind.i64.wrap v2), .int .i64 r1.1] <|
     ld ⟨n1, 0, none⟩ (.agg [.int .i64, .int .i64, .int .i64]) fun v3 =>
     cl PP 68 #[.agg #[.int .i64 v3.1, .int .i64 v3.2.1, .int .i64 v3.2.2.1]] [.lf .bool] fun r2 =>
     ifB (!r2.1) (
      K (.tuple #[.slice none 0 0, .int .i64 5])) (
      ld ⟨n1, 0, none⟩ (.agg [.int .i64, .int .i64, .int .i64]) fun v4 =>
      nw (.cells #[.int .i64 v4.1, .int .i64 v4.2.1, .int .i64 v4.2.2.1] 104) fun n2 =>
      smW PP (Builtin.append_ #[39, 39] 39 #[.slice z1.1.a z1.1.len z1.1.cap, .slice (some ⟨n2, 0, none⟩) 1 1]) [.lf .sl] fun v5 =>
      slc ⟨z1.2.1.a, z1.2.1.len, z1.2.1.cap⟩ 6 z1.2.1.len z1.2.1.cap 1 fun s1 =>
      go1 (⟨v5.1.a, v5.1.len, v5.1.cap⟩, ⟨s1.a, s1.len, s1.cap⟩, ()))) (
     K (.tuple #[.slice z1.1.a z1.1.len z1.1.cap, .int .i64 0])))
theorem e18 (x0 : SlV) (K : Value → HP) : flatFn PP h18 Try.f18 [.slice x0.a x0.len x0.cap] K = t18 x0 K := by kernel_rfl

end Go.Proofs.Ytlabcgnegbdlfaa
set_option linter.unusedVariables false
set_option maxRecDepth 100000
namespace Go.Proofs.Ytlabcgnegbdlfaa
open Go.HL
/-- depot/flash.New -/
def h38 : Hints := ⟨[(0, [(34, .lf (.int .i64))])], [], []⟩
def t38 (x0 : ShV (.agg [.int .i64, .int .i64, .int .i64, .int .i64])) (K : Value → HP) : HP :=
  nw (.cells #[.int .i64 x0.1, .int .i64 x0.2.1, .int .i64 x0.2.2.1, .int .i64 x0.2.2.2.1] 75) fun n1 =>
  ld ⟨n1, 0, none⟩ (.lf (.int .i64)) fun v1 =>
  cl PP 80 #[.int .i64 v1, .int .i64 2, .int .i64 16] [.lf .bool] fun r1 =>
  ifB r1.1 (
   ld (Addr.add ⟨n1, 0, none⟩ 1) (.lf (.int .i64)) fun v2 =>
   cl PP 80 #[.int .i64 v2, .int .i64 4, .int .i64 16] [.lf .bool] fun r2 =>
   ifB (!r2.1) (
    K (.tuple #[.pointer none, .int .i64 30])) (
    ld (Addr.add ⟨n1, 0, none⟩ 2) (.lf (.int .i64)) fun v3 =>
    cl PP 80 #[.int .i64 v3, .int .i64 64, .int .i64 512] [.lf .bool] fun r3 =>
    ifB (!r3.1) (
     K (.tuple #[.pointer none, .int .i64 30])) (
     ld (Addr.add ⟨n1, 0, none⟩ 3) (.lf (.int .i64)) fun v4 =>
     cl PP 80 #[.int .i64 v4, .int .i64 1, .int .i64 1048576] [.lf .bool] fun r4 =>
     ifB (!r4.1) (
      K (.tuple #[.pointer none, .int .i64 30])) (
      ld ⟨n1, 0, none⟩ (.agg [.int .i64, .int .i64, .int .i64, .int .i64]) fun v5 =>
      nw (.cells #[.int .i64 0, .int .i64 0, .bool false, .int .i64 v5.1, .int .i64 v5.2.1, .int .i64 v5.2.2.1, .int .i64 v5.2.2.2.1, .slice none 0 0, .int .i64 0, .slice none 0 0] 158) fun n2 =>
      ld ⟨n1, 0, none⟩ (.lf (.int .i64)) fun v6 =>
      lp [.lf (.int .i64)] (0, ()) fun z1 go1 =>   -- 
       ifB (decide ((z1.1 : Int) < v6)) (
        ld (Addr.add ⟨n1, 0, none⟩ 1) (.lf (.int .i64)) fun v7 =>
        smA PP (Instr.makeSlice 22 (.int .i64 v7) (.int .i64 v7)) (.lf .sl) fun v8 =>
        nw (.cells #[.slice v8.a v8.len v8.cap, .int .i64 0, .int .i64 0, .bool false] 161) fun n3 =>
        ld (Addr.add ⟨n1, 0, none⟩ 1) (.lf (.int .i64)) fun v9 =>
        ld (Addr.add ⟨n1, 0, none⟩ 2) (.lf (.int .i64)) fun v10 =>
        cl PP 81 #[.pointer (some ⟨n3, 0, none⟩), .int .i64 v9, .int .i64 v10] [] fun r5 =>
        ld (Addr.add ⟨n2, 0, none⟩ 7) (.lf .sl) fun v11 =>
        nw (.cells #[.pointer (some ⟨n3, 0, none⟩)] 159) fun n4 =>
        smW PP (Builtin.append_ #[156, 156] 156 #[.slice v11.a v11.len v11.cap, .slice (some ⟨n4, 0, none⟩) 1 1]) [.lf .sl] fun v12 =>
        st (Addr.add ⟨n2, 0, none⟩ 7) [.slice v12.1.a v12.1.len v12.1.cap] <|
        go1 (IntKind.i64.wrap (z1.1 + 1), ())) (
        K (.tuple #[.pointer (some ⟨n2, 0, none⟩), .int .i64 0])))))) (
   K (.tuple #[.pointer none, .int .i64 30]))
theorem e38 (x0 : ShV (.agg [.int .i64, .int .i64, .int .i64, .int .i64])) (K : Value → HP) : flatFn PP h38 Try.f38 [.agg #[.int .i64 x0.1, .int .i64 x0.2.1, .int .i64 x0.2.2.1, .int .i64 x0.2.2.2.1]] K = t38 x0 K := by kernel_rfl

/-- (*depot/flash.Flash).Arm -/
def h39 : Hints := ⟨[], [], []⟩
def t39 (x0 : Option Addr) (x1 : Int) (x2 : Int) (K : Value → HP) : HP :=
  ifB (!(Option.isNone x0)) (
   nilc x0 fun a1 =>
   ld (Addr.add a1 2) (.lf .bool) fun v1 =>
   ifB (!v1) (
    nilc x0 fun a2 =>
    st a2 [.int .i64 (imax x1 0)] <|
    nilc x0 fun a3 =>
    st (Addr.add a3 1) [.int .i64 x2] <|
    K (.tuple #[])) (
    K (.tuple #[]))) (
   K (.tuple #[]))
theorem e39 (x0 : Option Addr) (x1 : Int) (x2 : Int) (K : Value → HP) : flatFn PP h39 Try.f39 [.pointer x0, .int .i64 x1, .int .i64 x2] K = t39 x0 x1 x2 K := by kernel_rfl

/-- depot/region.Open -/
def h40 : Hints := ⟨[], [], []⟩
def t40 (x0 : Option Addr) (x1 : Int) (x2 : Int) (K : Value → HP) : HP :=
  cl PP 82 #[.pointer x0, .int .i64 x1, .agg #[.int .i64 1, .int .i64 0, .int .i64 1, .int .i64 x2, .int .i64 0], .slice none 0 0] [.lf (.int .i64)] fun r1 =>
  K (.int .i64 r1.1)
theorem e40 (x0 : Option Addr) (x1 : Int) (x2 : Int) (K : Value → HP) : flatFn PP h40 Try.f40 [.pointer x0, .int .i64 x1, .int .i64 x2] K = t40 x0 x1 x2 K := by kernel_rfl

/-- depot/region.Append -/
def h41 : Hints := ⟨[(0, [(28, .lf (.int .i64))])], [], []⟩
def t41 (x0 : Option Addr) (x1 : Int) (x2 : Int) (x3 : Int) (x4 : Int) (x5 : SlV) (K : Value → HP) : HP :=
  ifB ((x5.len : Int) == 0) (
   K (.int .i64 2)) (
   nw (.cells #[.int .i64 0, .int .i64 0, .int .i64 0, .int .i64 0, .int .i64 0] 111) fun n1 =>
   st ⟨n1, 0, none⟩ [.int .i64 x4, .int .i64 0, .int .i64 x5.len, .int .i64 x2, .int .i64 x3] <|
   lp [.lf (.int .i64)] (0, ()) fun z1 go1 =>   -- 
    ifB (decide ((z1.1 : Int) < x5.len)) (
     nilc x5.a fun a1 =>
     ixn z1.1 x5.len <|
     ld (Addr.add a1 (z1.1.toNat * 1)) (.lf .sl) fun v1 =>
     st (Addr.add ⟨n1, 0, none⟩ 1) [.int .i64 z1.1] <|
     ld ⟨n1, 0, none⟩ (.agg [.int .i64, .int .i64, .int .i64, .int .i64, .int .i64]) fun v2 =>
     cl PP 82 #[.pointer x0, .int .i64 x1, .agg #[.int .i64 v2.1, .int .i64 v2.2.1, .int .i64 v2.2.2.1, .int .i64 v2.2.2.2.1, .int .i64 v2.2.2.2.2.1], .slice v1.a v1.len v1.cap] [.lf (.int .i64)] fun r1 =>
     ifB ((r1.1 : Int) != 0) (
      K (.int .i64 r1.1)) (
      ld (Addr.add ⟨n1, 0, none⟩ 4) (.lf (.int .i64)) fun v3 =>
      st (Addr.add ⟨n1, 0, none⟩ 4) [.int .i64 (IntKind.i64.wrap (v3 + 1))] <|
      go1 (IntKind.i64.wrap (z1.1 + 1), ()))) (
     K (.int .i64 0)))
theorem e41 (x0 : Option Addr) (x1 : Int) (x2 : Int) (x3 : Int) (x4 : Int) (x5 : SlV) (K : Value → HP) : flatFn PP h41 Try.f41 [.pointer x0, .int .i64 x1, .int .i64 x2, .int .i64 x3, .int .i64 x4, .slice x5.a x5.len x5.cap] K = t41 x0 x1 x2 x3 x4 x5 K := by kernel_rfl

/-- (*depot/flash.Flash).Torn -/
def h42 : Hints := ⟨[(0, [(3, .lf .sl), (13, .lf (.int .i64))])], [], [(7, [1, 5, 2, 6, 0, 3, 8, 4, 7, 9, 10, 11])]⟩
def t42 (x0 : Option Addr) (K : Value → HP) : HP :=
  ifB (Option.isNone x0) (
   K (.slice none 0 0)) (
   nilc x0 fun a1 =>
   ld (Addr.add a1 9) (.lf .sl) fun v1 =>
   lp [.lf .sl, .lf (.int .i64)] (⟨none, 0, 0⟩, 0, ()) fun z1 go1 =>   -- l, 
    ifB (decide ((z1.2.1 : Int) < v1.len)) (
     nilc v1.a fun a2 =>
     ixn z1.2.1 v1.len <|
     ld (Addr.add a2 (z1.2.1.toNat * 4)) (.agg [.int .i64, .int .i64, .sl, .sl]) fun v2 =>
     nw (.cells #[.int .i64 0, .int .i64 0, .slice none 0 0, .slice none 0 0] 82) fun n1 =>
     st ⟨n1, 0, none⟩ [.int .i64 v2.1, .int .i64 v2.2.1, .slice v2.2.2.1.a v2.2.2.1.len v2.2.2.1.cap, .slice v2.2.2.2.1.a v2.2.2.2.1.len v2.2.2.2.1.cap] <|
     ld (Addr.add ⟨n1, 0, none⟩ 2) (.lf .sl) fun v3 =>
     ld (Addr.add ⟨n1, 0, none⟩ 3) (.lf .sl) fun v4 =>
     nw (.cells #[] 5) fun n2 =>
     smW PP (Builtin.append_ #[40, 40] 40 #[.slice (some ⟨n2, 0, none⟩) 0 0, .slice v3.a v3.len v3.cap]) [.lf .sl] fun v5 =>
     keep (LdAt (Addr.add ⟨n1, 0, none⟩ 3) [.slice v4.a v4.len v4.cap]) <|
     nw (.cells #[] 5) fun n3 =>
     smW PP (Builtin.append_ #[40, 40] 40 #[.slice (some ⟨n3, 0, none⟩) 0 0, .slice v4.a v4.len v4.cap]) [.lf .sl] fun v6 =>
     st (Addr.add ⟨n1, 0, none⟩ 2) [.slice v5.1.a v5.1.len v5.1.cap] <|
     st (Addr.add ⟨n1, 0, none⟩ 3) [.slice v6.1.a v6.1.len v6.1.cap] <|
     ld ⟨n1, 0, none⟩ (.agg [.int .i64, .int .i64, .sl, .sl]) fun v7 =>
     nw (.cells #[.int .i64 v7.1, .int .i64 v7.2.1, .slice v7.2.2.1.a v7.2.2.1.len v7.2.2.1.cap, .slice v7.2.2.2.1.a v7.2.2.2.1.len v7.2.2.2.1.cap] 82) fun n4 =>
     smW PP (Builtin.append_ #[79, 79] 79 #[.slice z1.1.a z1.1.len z1.1.cap, .slice (some ⟨n4, 0, none⟩) 1 1]) [.lf .sl] fun v8 =>
     go1 (⟨v8.1.a, v8.1.len, v8.1.cap⟩, IntKind.i64.wrap (z1.2.1 + 1), ())) (
     K (.slice z1.1.a z1.1.len z1.1.cap)))
theorem e42 (x0 : Option Addr) (K : Value → HP) : flatFn PP h42 Try.f42 [.pointer x0] K = t42 x0 K := by kernel_rfl

/-- depot/region.Seal -/
def h43 : Hints := ⟨[(0, [(11, .lf .sl), (18, .lf (.int .i64))])], [], []⟩
def t43 (x0 : Option Addr) (x1 : Int) (x2 : Int) (x3 : Int) (x4 : SlV) (K : Value → HP) : HP :=
  lp [.lf .sl, .lf (.int .i64)] (⟨none, 0, 0⟩, 0, ()) fun z1 go1 =>   -- b, 
   ifB (decide ((z1.2.1 : Int) < x4.len)) (
    nilc x4.a fun a1 =>
    ixn z1.2.1 x4.len <|
    ld (Addr.add a1 (z1.2.1.toNat * 3)) (.agg [.int .i64, .int .i64, .int .i64]) fun v1 =>
    nw (.cells #[.int .i64 0, .int .i64 0, .int .i64 0] 24) fun n1 =>
    st ⟨n1, 0, none⟩ [.int .i64 v1.1, .int .i64 v1.2.1, .int .i64 v1.2.2.1] <|
    ld ⟨n1, 0, none⟩ (.lf (.int .i64)) fun v2 =>
    ld (Addr.add ⟨n1, 0, none⟩ 1) (.lf (.int .i64)) fun v3 =>
    ld (Addr.add ⟨n1, 0, none⟩ 2) (.lf (.int .i64)) fun v4 =>
    nw (.cells #[.int .i64 v2, .int .i64 v3, .int .i64 v4] 3) fun n2 =>
    cl PP 69 #[.slice z1.1.a z1.1.len z1.1.cap, .slice (some ⟨n2, 0, none⟩) 3 3] [.lf .sl, .lf .bool] fun r1 =>
    ifB (!r1.2.1) (
     K (.int .i64 3)) (
     go1 (⟨r1.1.a, r1.1.len, r1.1.cap⟩, IntKind.i64.wrap (z1.2.1 + 1), ()))) (
    cl PP 82 #[.pointer x0, .int .i64 x1, .agg #[.int .i64 4, .int .i64 0, .int .i64 1, .int .i64 x2, .int .i64 x3], .slice z1.1.a z1.1.len z1.1.cap] [.lf (.int .i64)] fun r2 =>
    K (.int .i64 r2.1))
theorem e43 (x0 : Option Addr) (x1 : Int) (x2 : Int) (x3 : Int) (x4 : SlV) (K : Value → HP) : flatFn PP h43 Try.f43 [.pointer x0, .int .i64 x1, .int .i64 x2, .int .i64 x3, .slice x4.a x4.len x4.cap] K = t43 x0 x1 x2 x3 x4 K := by kernel_rfl

/-- (*depot/flash.Flash).Restart -/
def h44 : Hints := ⟨[], [], []⟩
def t44 (x0 : Option Addr) (K : Value → HP) : HP :=
  ifB (!(Option.isNone x0)) (
   nilc x0 fun a1 =>
   st (Addr.add a1 2) [.bool false] <|
   nilc x0 fun a2 =>
   st a2 [.int .i64 0] <|
   K (.tuple #[])) (
   K (.tuple #[]))
theorem e44 (x0 : Option Addr) (K : Value → HP) : flatFn PP h44 Try.f44 [.pointer x0] K = t44 x0 K := by kernel_rfl

/-- depot/depotref25.Parsed -/
def h45 : Hints := ⟨[], [], []⟩
def t45 (x0 : SlV) (K : Value → HP) : HP :=
  cl PP 62 #[.slice x0.a x0.len x0.cap] [.agg [.int .i64, .int .i64, .int .i64, .int .i64, .int .i64], .lf .sl, .lf (.int .i64)] fun r1 =>
  nw (.cells #[.int .i64 0, .int .i64 0, .int .i64 0, .int .i64 0, .int .i64 0] 111) fun n1 =>
  st ⟨n1, 0, none⟩ [.int .i64 r1.1.1, .int .i64 r1.1.2.1, .int .i64 r1.1.2.2.1, .int .i64 r1.1.2.2.2.1, .int .i64 r1.1.2.2.2.2.1] <|
  K (.bool ((r1.2.2.1 : Int) == 0))
theorem e45 (x0 : SlV) (K : Value → HP) : flatFn PP h45 Try.f45 [.slice x0.a x0.len x0.cap] K = t45 x0 K := by kernel_rfl

/-- depot/region.Load -/
def h46 : Hints := ⟨[(0, [(6, .lf .sl), (15, .lf (.int .i64))])], [], []⟩
def t46 (x0 : Option Addr) (x1 : Int) (K : Value → HP) : HP :=
  ifB (Option.isNone x0) (
   K (.tuple #[.slice none 0 0, .int .i64 1])) (
   cl PP 83 #[.pointer x0] [.agg [.int .i64, .int .i64, .int .i64, .int .i64]] fun r1 =>
   lp [.lf .sl, .lf (.int .i64)] (⟨none, 0, 0⟩, 0, ()) fun z1 go1 =>   -- l, 
    ifB (decide ((z1.2.1 : Int) < r1.1.2.1)) (
     cl PP 84 #[.pointer x0, .int .i64 x1, .int .i64 z1.2.1] [.lf .sl, .lf (.int .i64)] fun r2 =>
     ifB ((r2.2.1 : Int) != 0) (
      K (.tuple #[.slice none 0 0, .int .i64 r2.2.1])) (
      nw (.cells #[.slice r2.1.a r2.1.len r2.1.cap] 40) fun n1 =>
      smW PP (Builtin.append_ #[22, 22] 22 #[.slice z1.1.a z1.1.len z1.1.cap, .slice (some ⟨n1, 0, none⟩) 1 1]) [.lf .sl] fun v1 =>
      go1 (⟨v1.1.a, v1.1.len, v1.1.cap⟩, IntKind.i64.wrap (z1.2.1 + 1), ()))) (
     K (.tuple #[.slice z1.1.a z1.1.len z1.1.cap, .int .i64 0])))
theorem e46 (x0 : Option Addr) (x1 : Int) (K : Value → HP) : flatFn PP h46 Try.f46 [.pointer x0, .int .i64 x1] K = t46 x0 x1 K := by kernel_rfl

/-- depot/depotlaw25.device -/
def h47 : Hints := ⟨[], [], []⟩
def t47 (K : Value → HP) : HP :=
  nw (.cells #[.int .i64 0, .int .i64 0, .int .i64 0, .int .i64 0] 75) fun n1 =>
  st ⟨n1, 0, none⟩ [.int .i64 2, .int .i64 8, .int .i64 64, .int .i64 9] <|
  ld ⟨n1, 0, none⟩ (.agg [.int .i64, .int .i64, .int .i64, .int .i64]) fun v1 =>
  K (.agg #[.int .i64 v1.1, .int .i64 v1.2.1, .int .i64 v1.2.2.1, .int .i64 v1.2.2.2.1])
theorem e47 (K : Value → HP) : flatFn PP h47 Try.f47 [] K = t47 K := by kernel_rfl

/-- depot/region.look -/
def h57 : Hints := ⟨[(0, [(17, .lf (.int .i64))])], [], [(6, [0, 1, 2, 3, 6, 7, 8, 4, 5, 9, 10, 11, 12, 13, 14])]⟩
def t57 (x0 : SlV) (K : Value → HP) : HP :=
  nw (.cells #[.slice none 0 0, .int .i64 0, .int .i64 0] 109) fun n1 =>
  slc ⟨x0.a, x0.len, x0.cap⟩ 0 (imin x0.len 16) x0.cap 1 fun s1 =>
  lp [.lf (.int .i64)] (0, ()) fun z1 go1 =>   -- 
   ifB (decide ((z1.1 : Int) < s1.len)) (
    nilc s1.a fun a1 =>
    ixn z1.1 s1.len <|
    ld (Addr.add a1 (z1.1.toNat * 1)) (.lf .sl) fun v1 =>
    cl PP 67 #[.slice v1.a v1.len v1.cap] [.agg [.int .i64, .int .i64, .int .i64, .int .i64, .int .i64], .lf .sl, .lf (.int .i64)] fun r1 =>
    nw (.cells #[.int .i64 0, .int .i64 0, .int .i64 0, .int .i64 0, .int .i64 0] 111) fun n2 =>
    st ⟨n2, 0, none⟩ [.int .i64 r1.1.1, .int .i64 r1.1.2.1, .int .i64 r1.1.2.2.1, .int .i64 r1.1.2.2.2.1, .int .i64 r1.1.2.2.2.2.1] <|
    ld ⟨n1, 0, none⟩ (.lf .sl) fun v2 =>
    ld ⟨n2, 0, none⟩ (.agg [.int .i64, .int .i64, .int .i64, .int .i64, .int .i64]) fun v3 =>
    nw (.cells #[.int .i64 v3.1, .int .i64 v3.2.1, .int .i64 v3.2.2.1, .int .i64 v3.2.2.2.1, .int .i64 v3.2.2.2.2.1, .slice r1.2.1.a r1.2.1.len r1.2.1.cap, .bool ((r1.2.2.1 : Int) == 0)] 113) fun n3 =>
    smW PP (Builtin.append_ #[107, 107] 107 #[.slice v2.a v2.len v2.cap, .slice (some ⟨n3, 0, none⟩) 1 1]) [.lf .sl] fun v4 =>
    st ⟨n1, 0, none⟩ [.slice v4.1.a v4.1.len v4.1.cap] <|
    cl PP 96 #[.slice v1.a v1.len v1.cap] [.lf .bool] fun r2 =>
    ifB (!r2.1) (
     st (Addr.add ⟨n1, 0, none⟩ 2) [.int .i64 z1.1] <|
     go1 (IntKind.i64.wrap (z1.1 + 1), ())) (
     go1 (IntKind.i64.wrap (z1.1 + 1), ()))) (
    K (.pointer (some ⟨n1, 0, none⟩)))
theorem e57 (x0 : SlV) (K : Value → HP) : flatFn PP h57 Try.f57 [.slice x0.a x0.len x0.cap] K = t57 x0 K := by kernel_rfl

/-- (*depot/region.scanner).says -/
def h58 : Hints := ⟨[], [], [(2, [0, 1, 2, 3, 4, 5, 6, 7, 8, 9, 10, 11, 12, 13, 14, 16, 15, 17, 18, 19, 20, 21, 22, 23, 24, 25, 27, 26, 28, 29, 30, 31, 32, 33])]⟩
def t58 (x0 : Option Addr) (x1 : Int) (x2 : ShV (.agg [.int .i64, .int .i64, .int .i64, .int .i64, .int .i64])) (K : Value → HP) : HP :=
  nw (.cells #[.int .i64 x2.1, .int .i64 x2.2.1, .int .i64 x2.2.2.1, .int .i64 x2.2.2.2.1, .int .i64 x2.2.2.2.2.1] 111) fun n1 =>
  nilc x0 fun a1 =>
  ld (Addr.add a1 1) (.lf (.int .i64)) fun v1 =>
  st (Addr.add ⟨n1, 0, none⟩ 3) [.int .i64 v1] <|
  st (Addr.add ⟨n1, 0, none⟩ 4) [.int .i64 x1] <|
  ifB (decide ((x1 : Int) < 0)) (
   K (.tuple #[.slice none 0 0, .bool false])) (
   nilc x0 fun a2 =>
   ld a2 (.lf .sl) fun v2 =>
   ifB (decide ((x1 : Int) ≥ v2.len)) (
    K (.tuple #[.slice none 0 0, .bool false])) (
    nilc x0 fun a3 =>
    ld a3 (.lf .sl) fun v3 =>
    nilc v3.a fun a4 =>
    ixn x1 v3.len <|
    ld (Addr.add (Addr.add a4 (x1.toNat * 7)) 6) (.lf .bool) fun v4 =>
    ifB (!v4) (
     K (.tuple #[.slice none 0 0, .bool false])) (
     nilc x0 fun a5 =>
     ld a5 (.lf .sl) fun v5 =>
     nilc v5.a fun a6 =>
     ixn x1 v5.len <|
     ld (Addr.add a6 (x1.toNat * 7)) (.agg [.int .i64, .int .i64, .int .i64, .int .i64, .int .i64]) fun v6 =>
     ld ⟨n1, 0, none⟩ (.agg [.int .i64, .int .i64, .int .i64, .int .i64, .int .i64]) fun v7 =>
     smP PP (binOp .neq 111 (.agg #[.int .i64 v6.1, .int .i64 v6.2.1, .int .i64 v6.2.2.1, .int .i64 v6.2.2.2.1, .int .i64 v6.2.2.2.2.1]) (.agg #[.int .i64 v7.1, .int .i64 v7.2.1, .int .i64 v7.2.2.1, .int .i64 v7.2.2.2.1, .int .i64 v7.2.2.2.2.1])) (.lf .bool) fun v8 =>
     ifB v8 (
      K (.tuple #[.slice none 0 0, .bool false])) (
      nilc x0 fun a7 =>
      ld a7 (.lf .sl) fun v9 =>
      nilc v9.a fun a8 =>
      ixn x1 v9.len <|
      ld (Addr.add (Addr.add a8 (x1.toNat * 7)) 5) (.lf .sl) fun v10 =>
      K (.tuple #[.slice v10.a v10.len v10.cap, .bool true])))))
theorem e58 (x0 : Option Addr) (x1 : Int) (x2 : ShV (.agg [.int .i64, .int .i64, .int .i64, .int .i64, .int .i64])) (K : Value → HP) : flatFn PP h58 Try.f58 [.pointer x0, .int .i64 x1, .agg #[.int .i64 x2.1, .int .i64 x2.2.1, .int .i64 x2.2.2.1, .int .i64 x2.2.2.2.1, .int .i64 x2.2.2.2.2.1]] K = t58 x0 x1 x2 K := by kernel_rfl

/-- (*depot/region.scanner).seal -/
def h59 : Hints := ⟨[(0, [(4, .lf .sl), (6, .lf .sl), (7, .lf (.int .i64))])], [], [(13, [0, 1, 2, 3, 4, 7, 5, 6, 8]), (8, [0, 1, 4, 5, 8, 9, 2, 3, 6, 7, 10, 11, 12, 13, 14])]⟩
def t59 (x0 : Option Addr) (K : Value → HP) : HP :=
  nilc x0 fun a1 =>
  ld (Addr.add a1 2) (.lf (.int .i64)) fun v1 =>
  cl PP 58 #[.pointer x0, .int .i64 v1, .agg #[.int .i64 4, .int .i64 0, .int .i64 1, .int .i64 0, .int .i64 0]] [.lf .sl, .lf .bool] fun r1 =>
  ifB (!r1.2.1) (
   K (.tuple #[.slice none 0 0, .bool false])) (
   req ((3 : Int) ≠ 0) <|
   ifB ((Int.tmod r1.1.len 3 : Int) != 0) (
    K (.tuple #[.slice none 0 0, .bool false])) (
    lp [.lf .sl, .lf .sl, .lf (.int .i64)] (⟨r1.1.a, r1.1.len, r1.1.cap⟩, ⟨none, 0, 0⟩, 1, ()) fun z1 go1 =>   -- b, l, next
     ifB (decide ((z1.1.len : Int) > 0)) (
      nilc z1.1.a fun a2 =>
      ixn 0 z1.1.len <|
      nilc z1.1.a fun a3 =>
      ixn 1 z1.1.len <|
      nilc z1.1.a fun a4 =>
      ixn 2 z1.1.len <|
      ld (Addr.add a2 ((0 : Int).toNat * 1)) (.lf (.int .u8)) fun v2 =>
      ld (Addr.add a3 ((1 : Int).toNat * 1)) (.lf (.int .u8)) fun v3 =>
      ld (Addr.add a4 ((2 : Int).toNat * 1)) (.lf (.int .u8)) fun v4 =>
      nw (.cells #[.int .i64 0, .int .i64 0, .int .i64 0] 24) fun n1 =>
      st ⟨n1, 0, none⟩ [.int .i64 (IntKind.i64.wrap v2), .int .i64 (IntKind.i64.wrap v3), .int .i64 (IntKind.i64.wrap v4)] <|
      ld ⟨n1, 0, none⟩ (.lf (.int .i64)) fun v5 =>
      cl PP 97 #[.int .i64 v5] [.lf .bool] fun r2 =>
      ifB (!r2.1) (
       K (.tuple #[.slice none 0 0, .bool false])) (
       ld (Addr.add ⟨n1, 0, none⟩ 2) (.lf (.int .i64)) fun v6 =>
       ifB ((v6 : Int) == 0) (
        K (.tuple #[.slice none 0 0, .bool false])) (
        ld (Addr.add ⟨n1, 0, none⟩ 1) (.lf (.int .i64)) fun v7 =>
        ifB ((v7 : Int) != z1.2.2.1) (
         K (.tuple #[.slice none 0 0, .bool false])) (
         ld (Addr.add ⟨n1, 0, none⟩ 2) (.lf (.int .i64)) fun v8 =>
         ld ⟨n1, 0, none⟩ (.agg [.int .i64, .int .i64, .int .i64]) fun v9 =>
         nw (.cells #[.int .i64 v9.1, .int .i64 v9.2.1, .int .i64 v9.2.2.1] 24) fun n2 =>
         smW PP (Builtin.append_ #[27, 27] 27 #[.slice z1.2.1.a z1.2.1.len z1.2.1.cap, .slice (some ⟨n2, 0, none⟩) 1 1]) [.lf .sl] fun v10 =>
         slc ⟨z1.1.a, z1.1.len, z1.1.cap⟩ 3 z1.1.len z1.1.cap 1 fun s1 =>
         go1 (⟨s1.a, s1.len, s1.cap⟩, ⟨v10.1.a, v10.1.len, v10.1.cap⟩, IntKind.i64.wrap (z1.2.2.1 + v8), ()))))) (
      nilc x0 fun a5 =>
      ld (Addr.add a5 2) (.lf (.int .i64)) fun v11 =>
      K (.tuple #[.slice z1.2.1.a z1.2.1.len z1.2.1.cap, .bool ((z1.2.2.1 : Int) == v11)]))))
theorem e59 (x0 : Option Addr) (K : Value → HP) : flatFn PP h59 Try.f59 [.pointer x0] K = t59 x0 K := by kernel_rfl

/-- (*depot/region.scanner).each -/
def h60 : Hints := ⟨[(0, [(5, .lf .sl), (6, .lf (.int .i64))])], [], []⟩
def t60 (x0 : Option Addr) (x1 : FnV) (K : Value → HP) : HP :=
  lp [.lf .sl, .lf (.int .i64)] (⟨none, 0, 0⟩, 1, ()) fun z1 go1 =>   -- l, p
   nilc x0 fun a1 =>
   ld (Addr.add a1 2) (.lf (.int .i64)) fun v1 =>
   ifB (decide ((z1.2.1 : Int) ≤ v1)) (
    clv PP x1.fn (x1.first ++ #[.int .i64 z1.2.1]) x1.captured [.agg [.int .i64, .int .i64, .int .i64], .lf .bool] fun r1 =>
    nw (.cells #[.int .i64 0, .int .i64 0, .int .i64 0] 24) fun n1 =>
    st ⟨n1, 0, none⟩ [.int .i64 r1.1.1, .int .i64 r1.1.2.1, .int .i64 r1.1.2.2.1] <|
    ifB (!r1.2.1) (
     go1 (⟨z1.1.a, z1.1.len, z1.1.cap⟩, IntKind.i64.wrap (z1.2.1 + 1), ())) (
     ld ⟨n1, 0, none⟩ (.agg [.int .i64, .int .i64, .int .i64]) fun v2 =>
     nw (.cells #[.int .i64 v2.1, .int .i64 v2.2.1, .int .i64 v2.2.2.1] 24) fun n2 =>
     smW PP (Builtin.append_ #[27, 27] 27 #[.slice z1.1.a z1.1.len z1.1.cap, .slice (some ⟨n2, 0, none⟩) 1 1]) [.lf .sl] fun v3 =>
     ld (Addr.add ⟨n1, 0, none⟩ 2) (.lf (.int .i64)) fun v4 =>
     go1 (⟨v3.1.a, v3.1.len, v3.1.cap⟩, IntKind.i64.wrap ((IntKind.i64.wrap (z1.2.1 + (IntKind.i64.wrap (v4 - 1)))) + 1), ()))) (
    K (.slice z1.1.a z1.1.len z1.1.cap))
theorem e60 (x0 : Option Addr) (x1 : FnV) (K : Value → HP) : flatFn PP h60 Try.f60 [.pointer x0, .func x1.fn x1.first x1.captured] K = t60 x0 x1 K := by kernel_rfl

/-- (*depot/region.scanner).at -/
def h61 : Hints := ⟨[(0, [(31, .lf (.int .i64))])], [], []⟩
def t61 (x0 : Option Addr) (x1 : Int) (K : Value → HP) : HP :=
  nw (.cells #[.int .i64 0, .int .i64 0, .int .i64 0] 24) fun n1 =>
  nilc x0 fun a1 =>
  ld a1 (.lf .sl) fun v1 =>
  nilc v1.a fun a2 =>
  ixn x1 v1.len <|
  ld (Addr.add a2 (x1.toNat * 7)) (.agg [.int .i64, .int .i64, .int .i64, .int .i64, .int .i64, .sl, .bool]) fun v2 =>
  nw (.cells #[.int .i64 0, .int .i64 0, .int .i64 0, .int .i64 0, .int .i64 0, .slice none 0 0, .bool false] 113) fun n2 =>
  st ⟨n2, 0, none⟩ [.int .i64 v2.1, .int .i64 v2.2.1, .int .i64 v2.2.2.1, .int .i64 v2.2.2.2.1, .int .i64 v2.2.2.2.2.1, .slice v2.2.2.2.2.2.1.a v2.2.2.2.2.2.1.len v2.2.2.2.2.2.1.cap, .bool v2.2.2.2.2.2.2.1] <|
  ld (Addr.add ⟨n2, 0, none⟩ 6) (.lf .bool) fun v3 =>
  ifB (!v3) (
   st ⟨n1, 0, none⟩ [.int .i64 0, .int .i64 0, .int .i64 0] <|
   ld ⟨n1, 0, none⟩ (.agg [.int .i64, .int .i64, .int .i64]) fun v4 =>
   K (.tuple #[.agg #[.int .i64 v4.1, .int .i64 v4.2.1, .int .i64 v4.2.2.1], .bool false])) (
   ld ⟨n2, 0, none⟩ (.lf (.int .i64)) fun v5 =>
   cl PP 97 #[.int .i64 v5] [.lf .bool] fun r1 =>
   ifB (!r1.1) (
    st ⟨n1, 0, none⟩ [.int .i64 0, .int .i64 0, .int .i64 0] <|
    ld ⟨n1, 0, none⟩ (.agg [.int .i64, .int .i64, .int .i64]) fun v6 =>
    K (.tuple #[.agg #[.int .i64 v6.1, .int .i64 v6.2.1, .int .i64 v6.2.2.1], .bool false])) (
    ld (Addr.add ⟨n2, 0, none⟩ 2) (.lf (.int .i64)) fun v7 =>
    lp [.lf (.int .i64)] (0, ()) fun z1 go1 =>   -- 
     ifB (decide ((z1.1 : Int) < v7)) (
      ld ⟨n2, 0, none⟩ (.lf (.int .i64)) fun v8 =>
      ld (Addr.add ⟨n2, 0, none⟩ 2) (.lf (.int .i64)) fun v9 =>
      cl PP 58 #[.pointer x0, .int .i64 (IntKind.i64.wrap (x1 + z1.1)), .agg #[.int .i64 v8, .int .i64 z1.1, .int .i64 v9, .int .i64 0, .int .i64 0]] [.lf .sl, .lf .bool] fun r2 =>
      ifB (!r2.2.1) (
       st ⟨n1, 0, none⟩ [.int .i64 0, .int .i64 0, .int .i64 0] <|
       ld ⟨n1, 0, none⟩ (.agg [.int .i64, .int .i64, .int .i64]) fun v10 =>
       K (.tuple #[.agg #[.int .i64 v10.1, .int .i64 v10.2.1, .int .i64 v10.2.2.1], .bool false])) (
       go1 (IntKind.i64.wrap (z1.1 + 1), ()))) (
      ld ⟨n2, 0, none⟩ (.lf (.int .i64)) fun v11 =>
      ld (Addr.add ⟨n2, 0, none⟩ 2) (.lf (.int .i64)) fun v12 =>
      st ⟨n1, 0, none⟩ [.int .i64 v11, .int .i64 x1, .int .i64 v12] <|
      ld ⟨n1, 0, none⟩ (.agg [.int .i64, .int .i64, .int .i64]) fun v13 =>
      K (.tuple #[.agg #[.int .i64 v13.1, .int .i64 v13.2.1, .int .i64 v13.2.2.1], .bool true]))))
theorem e61 (x0 : Option Addr) (x1 : Int) (K : Value → HP) : flatFn PP h61 Try.f61 [.pointer x0, .int .i64 x1] K = t61 x0 x1 K := by kernel_rfl

end Go.Proofs.Ytlabcgnegbdlfaa
set_option linter.unusedVariables false
set_option maxRecDepth 100000
namespace Go.Proofs.Ytlabcgnegbdlfaa
open Go.HL
/-- depot/depotref23.Parse -/
def h62 : Hints := ⟨[], [], [(10, [0, 1, 4, 5, 8, 9, 12, 13, 14, 2, 3, 6, 7, 10, 11, 15, 16, 17, 18, 19])]⟩
def t62 (x0 : SlV) (K : Value → HP) : HP :=
  nw (.cells #[.int .i64 0, .int .i64 0, .int .i64 0, .int .i64 0, .int .i64 0] 111) fun n1 =>
  cl PP 98 #[.int .i64 x0.len] [.lf .bool] fun r1 =>
  ifB (!r1.1) (
   st ⟨n1, 0, none⟩ [.int .i64 0, .int .i64 0, .int .i64 0, .int .i64 0, .int .i64 0] <|
   ld ⟨n1, 0, none⟩ (.agg [.int .i64, .int .i64, .int .i64, .int .i64, .int .i64]) fun v1 =>
   K (.tuple #[.agg #[.int .i64 v1.1, .int .i64 v1.2.1, .int .i64 v1.2.2.1, .int .i64 v1.2.2.2.1, .int .i64 v1.2.2.2.2.1], .slice none 0 0, .int .i64 2])) (
   cl PP 64 #[.slice x0.a x0.len x0.cap] [.lf .bool] fun r2 =>
   ifB r2.1 (
    st ⟨n1, 0, none⟩ [.int .i64 0, .int .i64 0, .int .i64 0, .int .i64 0, .int .i64 0] <|
    ld ⟨n1, 0, none⟩ (.agg [.int .i64, .int .i64, .int .i64, .int .i64, .int .i64]) fun v2 =>
    K (.tuple #[.agg #[.int .i64 v2.1, .int .i64 v2.2.1, .int .i64 v2.2.2.1, .int .i64 v2.2.2.2.1, .int .i64 v2.2.2.2.2.1], .slice none 0 0, .int .i64 15])) (
    cl PP 73 #[.slice x0.a x0.len x0.cap, .int .i64 (IntKind.i64.wrap (x0.len - 4)), .int .i64 4] [.lf (.int .i64), .lf (.int .i64)] fun r3 =>
    slc ⟨x0.a, x0.len, x0.cap⟩ 0 (IntKind.i64.wrap (x0.len - 4)) x0.cap 1 fun s1 =>
    cl PP 99 #[.slice s1.a s1.len s1.cap] [.lf (.int .i64)] fun r4 =>
    ifB ((r3.1 : Int) != r4.1) (
     st ⟨n1, 0, none⟩ [.int .i64 0, .int .i64 0, .int .i64 0, .int .i64 0, .int .i64 0] <|
     ld ⟨n1, 0, none⟩ (.agg [.int .i64, .int .i64, .int .i64, .int .i64, .int .i64]) fun v3 =>
     K (.tuple #[.agg #[.int .i64 v3.1, .int .i64 v3.2.1, .int .i64 v3.2.2.1, .int .i64 v3.2.2.2.1, .int .i64 v3.2.2.2.2.1], .slice none 0 0, .int .i64 12])) (
     cl PP 73 #[.slice x0.a x0.len x0.cap, .int .i64 4, .int .i64 4] [.lf (.int .i64), .lf (.int .i64)] fun r5 =>
     cl PP 73 #[.slice x0.a x0.len x0.cap, .int .i64 10, .int .i64 2] [.lf (.int .i64), .lf (.int .i64)] fun r6 =>
     nilc x0.a fun a1 =>
     ixn 0 x0.len <|
     nilc x0.a fun a2 =>
     ixn 1 x0.len <|
     nilc x0.a fun a3 =>
     ixn 2 x0.len <|
     nilc x0.a fun a4 =>
     ixn 8 x0.len <|
     ld (Addr.add a1 ((0 : Int).toNat * 1)) (.lf (.int .u8)) fun v4 =>
     ld (Addr.add a2 ((1 : Int).toNat * 1)) (.lf (.int .u8)) fun v5 =>
     ld (Addr.add a3 ((2 : Int).toNat * 1)) (.lf (.int .u8)) fun v6 =>
     ld (Addr.add a4 ((8 : Int).toNat * 1)) (.lf (.int .u8)) fun v7 =>
     nw (.cells #[.int .i64 0, .int .i64 0, .int .i64 0, .int .i64 0, .int .i64 0] 111) fun n2 =>
     st ⟨n2, 0, none⟩ [.int .i64 (IntKind.i64.wrap v4), .int .i64 (IntKind.i64.wrap v5), .int .i64 (IntKind.i64.wrap v6), .int .i64 r5.1, .int .i64 (IntKind.i64.wrap v7)] <|
     ifB (decide ((r6.1 : Int) > (IntKind.i64.wrap (x0.len - 16)))) (
      st ⟨n1, 0, none⟩ [.int .i64 0, .int .i64 0, .int .i64 0, .int .i64 0, .int .i64 0] <|
      ld ⟨n1, 0, none⟩ (.agg [.int .i64, .int .i64, .int .i64, .int .i64, .int .i64]) fun v8 =>
      K (.tuple #[.agg #[.int .i64 v8.1, .int .i64 v8.2.1, .int .i64 v8.2.2.1, .int .i64 v8.2.2.2.1, .int .i64 v8.2.2.2.2.1], .slice none 0 0, .int .i64 5])) (
      nw (.cells #[] 5) fun n3 =>
      slc ⟨x0.a, x0.len, x0.cap⟩ 12 (IntKind.i64.wrap (12 + r6.1)) x0.cap 1 fun s2 =>
      smW PP (Builtin.append_ #[40, 40] 40 #[.slice (some ⟨n3, 0, none⟩) 0 0, .slice s2.a s2.len s2.cap]) [.lf .sl] fun v9 =>
      ld ⟨n2, 0, none⟩ (.agg [.int .i64, .int .i64, .int .i64, .int .i64, .int .i64]) fun v10 =>
      cl PP 100 #[.agg #[.int .i64 v10.1, .int .i64 v10.2.1, .int .i64 v10.2.2.1, .int .i64 v10.2.2.2.1, .int .i64 v10.2.2.2.2.1], .slice v9.1.a v9.1.len v9.1.cap, .int .i64 x0.len] [.lf .sl, .lf (.int .i64)] fun r7 =>
      ifB ((r7.2.1 : Int) != 0) (
       st ⟨n1, 0, none⟩ [.int .i64 0, .int .i64 0, .int .i64 0, .int .i64 0, .int .i64 0] <|
       ld ⟨n1, 0, none⟩ (.agg [.int .i64, .int .i64, .int .i64, .int .i64, .int .i64]) fun v11 =>
       K (.tuple #[.agg #[.int .i64 v11.1, .int .i64 v11.2.1, .int .i64 v11.2.2.1, .int .i64 v11.2.2.2.1, .int .i64 v11.2.2.2.2.1], .slice none 0 0, .int .i64 5])) (
       smR PP (Conv.bytesToString (.slice r7.1.a r7.1.len r7.1.cap)) [.lf .str] fun v12 =>
       smR PP (Conv.bytesToString (.slice x0.a x0.len x0.cap)) [.lf .str] fun v13 =>
       ifB (!(ByteArray.toList v12.1 == ByteArray.toList v13.1)) (
        st ⟨n1, 0, none⟩ [.int .i64 0, .int .i64 0, .int .i64 0, .int .i64 0, .int .i64 0] <|
        ld ⟨n1, 0, none⟩ (.agg [.int .i64, .int .i64, .int .i64, .int .i64, .int .i64]) fun v14 =>
        K (.tuple #[.agg #[.int .i64 v14.1, .int .i64 v14.2.1, .int .i64 v14.2.2.1, .int .i64 v14.2.2.2.1, .int .i64 v14.2.2.2.2.1], .slice none 0 0, .int .i64 5])) (
        ld ⟨n2, 0, none⟩ (.agg [.int .i64, .int .i64, .int .i64, .int .i64, .int .i64]) fun v15 =>
        st ⟨n1, 0, none⟩ [.int .i64 v15.1, .int .i64 v15.2.1, .int .i64 v15.2.2.1, .int .i64 v15.2.2.2.1, .int .i64 v15.2.2.2.2.1] <|
        ld ⟨n1, 0, none⟩ (.agg [.int .i64, .int .i64, .int .i64, .int .i64, .int .i64]) fun v16 =>
        K (.tuple #[.agg #[.int .i64 v16.1, .int .i64 v16.2.1, .int .i64 v16.2.2.1, .int .i64 v16.2.2.2.1, .int .i64 v16.2.2.2.2.1], .slice v9.1.a v9.1.len v9.1.cap, .int .i64 0])))))))
theorem e62 (x0 : SlV) (K : Value → HP) : flatFn PP h62 Try.f62 [.slice x0.a x0.len x0.cap] K = t62 x0 K := by kernel_rfl

/-- depot/depotref23.Blank -/
def h64 : Hints := ⟨[(0, [(3, .lf (.int .i64))])], [], []⟩
def t64 (x0 : SlV) (K : Value → HP) : HP :=
  lp [.lf (.int .i64)] (0, ()) fun z1 go1 =>   -- i
   ifB (decide ((z1.1 : Int) < x0.len)) (
    nilc x0.a fun a1 =>
    ixn z1.1 x0.len <|
    ld (Addr.add a1 (z1.1.toNat * 1)) (.lf (.int .u8)) fun v1 =>
    ifB ((v1 : Int) != 255) (
     K (.bool false)) (
     go1 (IntKind.i64.wrap (z1.1 + 1), ()))) (
    K (.bool true))
theorem e64 (x0 : SlV) (K : Value → HP) : flatFn PP h64 Try.f64 [.slice x0.a x0.len x0.cap] K = t64 x0 K := by kernel_rfl

/-- depot/page.Parse -/
def h67 : Hints := ⟨[(1, [(84, .lf (.int .i64))])], [], [(19, [2, 3, 4, 0, 1, 5, 6, 7, 8]), (8, [0, 1, 4, 5, 8, 9, 12, 14, 15, 2, 3, 6, 7, 10, 11, 16, 17, 13, 18, 19, 20]), (6, [0, 1, 2, 3, 4, 5, 6, 7])]⟩
def t67 (x0 : SlV) (K : Value → HP) : HP :=
  nw (.cells #[.int .i64 0, .int .i64 0, .int .i64 0, .int .i64 0, .int .i64 0] 111) fun n1 =>
  cl PP 101 #[.int .i64 x0.len] [.lf .bool] fun r1 =>
  ifB (!r1.1) (
   st ⟨n1, 0, none⟩ [.int .i64 0, .int .i64 0, .int .i64 0, .int .i64 0, .int .i64 0] <|
   ld ⟨n1, 0, none⟩ (.agg [.int .i64, .int .i64, .int .i64, .int .i64, .int .i64]) fun v1 =>
   K (.tuple #[.agg #[.int .i64 v1.1, .int .i64 v1.2.1, .int .i64 v1.2.2.1, .int .i64 v1.2.2.2.1, .int .i64 v1.2.2.2.2.1], .slice none 0 0, .int .i64 2])) (
   cl PP 96 #[.slice x0.a x0.len x0.cap] [.lf .bool] fun r2 =>
   ifB r2.1 (
    st ⟨n1, 0, none⟩ [.int .i64 0, .int .i64 0, .int .i64 0, .int .i64 0, .int .i64 0] <|
    ld ⟨n1, 0, none⟩ (.agg [.int .i64, .int .i64, .int .i64, .int .i64, .int .i64]) fun v2 =>
    K (.tuple #[.agg #[.int .i64 v2.1, .int .i64 v2.2.1, .int .i64 v2.2.2.1, .int .i64 v2.2.2.2.1, .int .i64 v2.2.2.2.2.1], .slice none 0 0, .int .i64 15])) (
    slc ⟨x0.a, x0.len, x0.cap⟩ 0 (IntKind.i64.wrap (x0.len - 4)) x0.cap 1 fun s1 =>
    cl PP 103 #[.slice x0.a x0.len x0.cap, .int .i64 (IntKind.i64.wrap (x0.len - 4)), .int .i64 4] [.lf (.int .i64)] fun r3 =>
    cl PP 102 #[.slice s1.a s1.len s1.cap, .int .i64 r3.1] [.lf .bool] fun r4 =>
    ifB (!r4.1) (
     st ⟨n1, 0, none⟩ [.int .i64 0, .int .i64 0, .int .i64 0, .int .i64 0, .int .i64 0] <|
     ld ⟨n1, 0, none⟩ (.agg [.int .i64, .int .i64, .int .i64, .int .i64, .int .i64]) fun v3 =>
     K (.tuple #[.agg #[.int .i64 v3.1, .int .i64 v3.2.1, .int .i64 v3.2.2.1, .int .i64 v3.2.2.2.1, .int .i64 v3.2.2.2.2.1], .slice none 0 0, .int .i64 12])) (
     nilc x0.a fun a1 =>
     ixn 0 x0.len <|
     nilc x0.a fun a2 =>
     ixn 1 x0.len <|
     nilc x0.a fun a3 =>
     ixn 2 x0.len <|
     nilc x0.a fun a4 =>
     ixn 8 x0.len <|
     ld (Addr.add a1 ((0 : Int).toNat * 1)) (.lf (.int .u8)) fun v4 =>
     ld (Addr.add a2 ((1 : Int).toNat * 1)) (.lf (.int .u8)) fun v5 =>
     ld (Addr.add a3 ((2 : Int).toNat * 1)) (.lf (.int .u8)) fun v6 =>
     ld (Addr.add a4 ((8 : Int).toNat * 1)) (.lf (.int .u8)) fun v7 =>
     cl PP 103 #[.slice x0.a x0.len x0.cap, .int .i64 4, .int .i64 4] [.lf (.int .i64)] fun r5 =>
     keep (LdAt (Addr.add a4 ((8 : Int).toNat * 1)) [.int .u8 v7]) <|
     keep (LdAt (Addr.add a3 ((2 : Int).toNat * 1)) [.int .u8 v6]) <|
     keep (LdAt (Addr.add a2 ((1 : Int).toNat * 1)) [.int .u8 v5]) <|
     keep (LdAt (Addr.add a1 ((0 : Int).toNat * 1)) [.int .u8 v4]) <|
     nw (.cells #[.int .i64 0, .int .i64 0, .int .i64 0, .int .i64 0, .int .i64 0] 111) fun n2 =>
     st ⟨n2, 0, none⟩ [.int .i64 (IntKind.i64.wrap v4), .int .i64 (IntKind.i64.wrap v5), .int .i64 (IntKind.i64.wrap v6), .int .i64 r5.1, .int .i64 (IntKind.i64.wrap v7)] <|
     cl PP 103 #[.slice x0.a x0.len x0.cap, .int .i64 10, .int .i64 2] [.lf (.int .i64)] fun r6 =>
     nilc x0.a fun a5 =>
     ixn 3 x0.len <|
     ld (Addr.add a5 ((3 : Int).toNat * 1)) (.lf (.int .u8)) fun v8 =>
     ifB ((v8 : Int) != 165) (
      st ⟨n1, 0, none⟩ [.int .i64 0, .int .i64 0, .int .i64 0, .int .i64 0, .int .i64 0] <|
      ld ⟨n1, 0, none⟩ (.agg [.int .i64, .int .i64, .int .i64, .int .i64, .int .i64]) fun v9 =>
      K (.tuple #[.agg #[.int .i64 v9.1, .int .i64 v9.2.1, .int .i64 v9.2.2.1, .int .i64 v9.2.2.2.1, .int .i64 v9.2.2.2.2.1], .slice none 0 0, .int .i64 5])) (
      nilc x0.a fun a6 =>
      ixn 9 x0.len <|
      ld (Addr.add a6 ((9 : Int).toNat * 1)) (.lf (.int .u8)) fun v10 =>
      ifB ((v10 : Int) != 0) (
       st ⟨n1, 0, none⟩ [.int .i64 0, .int .i64 0, .int .i64 0, .int .i64 0, .int .i64 0] <|
       ld ⟨n1, 0, none⟩ (.agg [.int .i64, .int .i64, .int .i64, .int .i64, .int .i64]) fun v11 =>
       K (.tuple #[.agg #[.int .i64 v11.1, .int .i64 v11.2.1, .int .i64 v11.2.2.1, .int .i64 v11.2.2.2.1, .int .i64 v11.2.2.2.2.1], .slice none 0 0, .int .i64 5])) (
       cl PP 104 #[.int .i64 x0.len] [.lf (.int .i64)] fun r7 =>
       ifB (decide ((r6.1 : Int) > r7.1)) (
        st ⟨n1, 0, none⟩ [.int .i64 0, .int .i64 0, .int .i64 0, .int .i64 0, .int .i64 0] <|
        ld ⟨n1, 0, none⟩ (.agg [.int .i64, .int .i64, .int .i64, .int .i64, .int .i64]) fun v12 =>
        K (.tuple #[.agg #[.int .i64 v12.1, .int .i64 v12.2.1, .int .i64 v12.2.2.1, .int .i64 v12.2.2.2.1, .int .i64 v12.2.2.2.2.1], .slice none 0 0, .int .i64 5])) (
        ld ⟨n2, 0, none⟩ (.agg [.int .i64, .int .i64, .int .i64, .int .i64, .int .i64]) fun v13 =>
        cl PP 105 #[.agg #[.int .i64 v13.1, .int .i64 v13.2.1, .int .i64 v13.2.2.1, .int .i64 v13.2.2.2.1, .int .i64 v13.2.2.2.2.1]] [.lf (.int .i64)] fun r8 =>
        ifB ((r8.1 : Int) != 0) (
         st ⟨n1, 0, none⟩ [.int .i64 0, .int .i64 0, .int .i64 0, .int .i64 0, .int .i64 0] <|
         ld ⟨n1, 0, none⟩ (.agg [.int .i64, .int .i64, .int .i64, .int .i64, .int .i64]) fun v14 =>
         K (.tuple #[.agg #[.int .i64 v14.1, .int .i64 v14.2.1, .int .i64 v14.2.2.1, .int .i64 v14.2.2.2.1, .int .i64 v14.2.2.2.2.1], .slice none 0 0, .int .i64 5])) (
         slc ⟨x0.a, x0.len, x0.cap⟩ (IntKind.i64.wrap (12 + r6.1)) (IntKind.i64.wrap (x0.len - 4)) x0.cap 1 fun s2 =>
         lp [.lf (.int .i64)] (0, ()) fun z1 go1 =>   -- 
          ifB (decide ((z1.1 : Int) < s2.len)) (
           nilc s2.a fun a7 =>
           ixn z1.1 s2.len <|
           ld (Addr.add a7 (z1.1.toNat * 1)) (.lf (.int .u8)) fun v15 =>
           ifB ((v15 : Int) != 0) (
            st ⟨n1, 0, none⟩ [.int .i64 0, .int .i64 0, .int .i64 0, .int .i64 0, .int .i64 0] <|
            ld ⟨n1, 0, none⟩ (.agg [.int .i64, .int .i64, .int .i64, .int .i64, .int .i64]) fun v16 =>
            K (.tuple #[.agg #[.int .i64 v16.1, .int .i64 v16.2.1, .int .i64 v16.2.2.1, .int .i64 v16.2.2.2.1, .int .i64 v16.2.2.2.2.1], .slice none 0 0, .int .i64 5])) (
            go1 (IntKind.i64.wrap (z1.1 + 1), ()))) (
           slc ⟨x0.a, x0.len, x0.cap⟩ 12 (IntKind.i64.wrap (12 + r6.1)) x0.cap 1 fun s3 =>
           ld ⟨n2, 0, none⟩ (.agg [.int .i64, .int .i64, .int .i64, .int .i64, .int .i64]) fun v17 =>
           nw (.cells #[] 5) fun n3 =>
           smW PP (Builtin.append_ #[40, 40] 40 #[.slice (some ⟨n3, 0, none⟩) 0 0, .slice s3.a s3.len s3.cap]) [.lf .sl] fun v18 =>
           keep (LdAt ⟨n2, 0, none⟩ [.int .i64 v17.1, .int .i64 v17.2.1, .int .i64 v17.2.2.1, .int .i64 v17.2.2.2.1, .int .i64 v17.2.2.2.2.1]) <|
           st ⟨n1, 0, none⟩ [.int .i64 v17.1, .int .i64 v17.2.1, .int .i64 v17.2.2.1, .int .i64 v17.2.2.2.1, .int .i64 v17.2.2.2.2.1] <|
           ld ⟨n1, 0, none⟩ (.agg [.int .i64, .int .i64, .int .i64, .int .i64, .int .i64]) fun v19 =>
           K (.tuple #[.agg #[.int .i64 v19.1, .int .i64 v19.2.1, .int .i64 v19.2.2.1, .int .i64 v19.2.2.2.1, .int .i64 v19.2.2.2.2.1], .slice v18.1.a v18.1.len v18.1.cap, .int .i64 0])))))))))
theorem e67 (x0 : SlV) (K : Value → HP) : flatFn PP h67 Try.f67 [.slice x0.a x0.len x0.cap] K = t67 x0 K := by kernel_rfl

/-- depot/region.right -/
def h68 : Hints := ⟨[], [], []⟩
def t68 (x0 : ShV (.agg [.int .i64, .int .i64, .int .i64])) (K : Value → HP) : HP :=
  nw (.cells #[.int .i64 x0.1, .int .i64 x0.2.1, .int .i64 x0.2.2.1] 104) fun n1 =>
  ld ⟨n1, 0, none⟩ (.lf (.int .i64)) fun v1 =>
  ifB (decide ((v1 : Int) ≥ 0)) (
   ld ⟨n1, 0, none⟩ (.lf (.int .i64)) fun v2 =>
   ifB (decide ((v2 : Int) < 16)) (
    ld (Addr.add ⟨n1, 0, none⟩ 1) (.lf (.int .i64)) fun v3 =>
    ifB (decide ((v3 : Int) ≥ 0)) (
     ld (Addr.add ⟨n1, 0, none⟩ 1) (.lf (.int .i64)) fun v4 =>
     ifB (decide ((v4 : Int) < 16)) (
      ld (Addr.add ⟨n1, 0, none⟩ 2) (.lf (.int .i64)) fun v5 =>
      ifB (decide ((v5 : Int) ≥ 1)) (
       ld (Addr.add ⟨n1, 0, none⟩ 2) (.lf (.int .i64)) fun v6 =>
       K (.bool (decide ((v6 : Int) ≤ 1073741824)))) (
       K (.bool false))) (
      K (.bool false))) (
     K (.bool false))) (
    K (.bool false))) (
   K (.bool false))
theorem e68 (x0 : ShV (.agg [.int .i64, .int .i64, .int .i64])) (K : Value → HP) : flatFn PP h68 Try.f68 [.agg #[.int .i64 x0.1, .int .i64 x0.2.1, .int .i64 x0.2.2.1]] K = t68 x0 K := by kernel_rfl

/-- depot/region.bytes -/
def h69 : Hints := ⟨[(0, [(0, .lf .sl), (10, .lf (.int .i64))])], [], []⟩
def t69 (x0 : SlV) (x1 : SlV) (K : Value → HP) : HP :=
  lp [.lf .sl, .lf (.int .i64)] (⟨x0.a, x0.len, x0.cap⟩, 0, ()) fun z1 go1 =>   -- b, 
   ifB (decide ((z1.2.1 : Int) < x1.len)) (
    nilc x1.a fun a1 =>
    ixn z1.2.1 x1.len <|
    ld (Addr.add a1 (z1.2.1.toNat * 1)) (.lf (.int .i64)) fun v1 =>
    ifB (decide ((v1 : Int) < 0)) (
     K (.tuple #[.slice none 0 0, .bool false])) (
     ifB (decide ((v1 : Int) > 255)) (
      K (.tuple #[.slice none 0 0, .bool false])) (
      nw (.cells #[.int .u8 (IntKind.u8.wrap v1)] 5) fun n1 =>
      smW PP (Builtin.append_ #[40, 40] 40 #[.slice z1.1.a z1.1.len z1.1.cap, .slice (some ⟨n1, 0, none⟩) 1 1]) [.lf .sl] fun v2 =>
      go1 (⟨v2.1.a, v2.1.len, v2.1.cap⟩, IntKind.i64.wrap (z1.2.1 + 1), ())))) (
    K (.tuple #[.slice z1.1.a z1.1.len z1.1.cap, .bool true]))
theorem e69 (x0 : SlV) (x1 : SlV) (K : Value → HP) : flatFn PP h69 Try.f69 [.slice x0.a x0.len x0.cap, .slice x1.a x1.len x1.cap] K = t69 x0 x1 K := by kernel_rfl

/-- depot/wire.Put -/
def h70 : Hints := ⟨[], [], []⟩
def t70 (x0 : SlV) (x1 : Int) (x2 : Int) (K : Value → HP) : HP :=
  ifB (decide ((x2 : Int) < 1)) (
   K (.tuple #[.slice none 0 0, .int .i64 2])) (
   ifB (decide ((x2 : Int) > 7)) (
    K (.tuple #[.slice none 0 0, .int .i64 2])) (
    ifB (decide ((x1 : Int) < 0)) (
     K (.tuple #[.slice none 0 0, .int .i64 3])) (
     req ((0 : Int) ≤ (IntKind.i64.wrap (8 * x2))) <|
     ifB ((Int.fdiv x1 (2 ^ (min (IntKind.i64.wrap (8 * x2) : Int).toNat IntKind.i64.bits)) : Int) != 0) (
      K (.tuple #[.slice none 0 0, .int .i64 3])) (
      cl PP 106 #[.int .i64 x1] [.agg [.int .u8, .int .u8, .int .u8, .int .u8, .int .u8, .int .u8, .int .u8, .int .u8]] fun r1 =>
      nw (.cells #[.int .u8 0, .int .u8 0, .int .u8 0, .int .u8 0, .int .u8 0, .int .u8 0, .int .u8 0, .int .u8 0] 184) fun n1 =>
      st ⟨n1, 0, none⟩ [.int .u8 r1.1.1, .int .u8 r1.1.2.1, .int .u8 r1.1.2.2.1, .int .u8 r1.1.2.2.2.1, .int .u8 r1.1.2.2.2.2.1, .int .u8 r1.1.2.2.2.2.2.1, .int .u8 r1.1.2.2.2.2.2.2.1, .int .u8 r1.1.2.2.2.2.2.2.2.1] <|
      smA PP (Instr.makeSlice 40 (.int .i64 0) (.int .i64 (IntKind.i64.wrap (x0.len + x2)))) (.lf .sl) fun v1 =>
      smW PP (Builtin.append_ #[40, 40] 40 #[.slice v1.a v1.len v1.cap, .slice x0.a x0.len x0.cap]) [.lf .sl] fun v2 =>
      slc ⟨some ⟨n1, 0, none⟩, 8, 8⟩ 0 x2 8 1 fun s1 =>
      smW PP (Builtin.append_ #[40, 40] 40 #[.slice v2.1.a v2.1.len v2.1.cap, .slice s1.a s1.len s1.cap]) [.lf .sl] fun v3 =>
      K (.tuple #[.slice v3.1.a v3.1.len v3.1.cap, .int .i64 0])))))
theorem e70 (x0 : SlV) (x1 : Int) (x2 : Int) (K : Value → HP) : flatFn PP h70 Try.f70 [.slice x0.a x0.len x0.cap, .int .i64 x1, .int .i64 x2] K = t70 x0 x1 x2 K := by kernel_rfl

/-- depot/depotref03.Put -/
def h71 : Hints := ⟨[(0, [(8, .lf .sl), (9, .lf (.int .i64)), (10, .lf (.int .i64))])], [], []⟩
def t71 (x0 : SlV) (x1 : Int) (x2 : Int) (K : Value → HP) : HP :=
  ifB (decide ((x2 : Int) < 1)) (
   K (.tuple #[.slice none 0 0, .int .i64 2])) (
   ifB (decide ((x2 : Int) > 7)) (
    K (.tuple #[.slice none 0 0, .int .i64 2])) (
    nw (.cells #[] 5) fun n1 =>
    smW PP (Builtin.append_ #[40, 40] 40 #[.slice (some ⟨n1, 0, none⟩) 0 0, .slice x0.a x0.len x0.cap]) [.lf .sl] fun v1 =>
    lp [.lf .sl, .lf (.int .i64), .lf (.int .i64)] (⟨v1.1.a, v1.1.len, v1.1.cap⟩, x1, 0, ()) fun z1 go1 =>   -- out, left, i
     ifB (decide ((z1.2.2.1 : Int) < x2)) (
      req ((256 : Int) ≠ 0) <|
      nw (.cells #[.int .u8 (IntKind.u8.wrap (Int.tmod z1.2.1 256))] 5) fun n2 =>
      smW PP (Builtin.append_ #[40, 40] 40 #[.slice z1.1.a z1.1.len z1.1.cap, .slice (some ⟨n2, 0, none⟩) 1 1]) [.lf .sl] fun v2 =>
      req ((256 : Int) ≠ 0) <|
      go1 (⟨v2.1.a, v2.1.len, v2.1.cap⟩, IntKind.i64.wrap (Int.tdiv z1.2.1 256), IntKind.i64.wrap (z1.2.2.1 + 1), ())) (
      ifB (decide ((x1 : Int) < 0)) (
       K (.tuple #[.slice none 0 0, .int .i64 3])) (
       ifB (decide ((z1.2.1 : Int) > 0)) (
        K (.tuple #[.slice none 0 0, .int .i64 3])) (
        K (.tuple #[.slice z1.1.a z1.1.len z1.1.cap, .int .i64 0]))))))
theorem e71 (x0 : SlV) (x1 : Int) (x2 : Int) (K : Value → HP) : flatFn PP h71 Try.f71 [.slice x0.a x0.len x0.cap, .int .i64 x1, .int .i64 x2] K = t71 x0 x1 x2 K := by kernel_rfl

/-- depot/wire.Get -/
def h72 : Hints := ⟨[(1, [(8, .lf (.int .i64)), (9, .lf (.int .i64)), (36, .lf (.int .i64))])], [], []⟩
def t72 (x0 : SlV) (x1 : Int) (x2 : Int) (K : Value → HP) : HP :=
  ifB (decide ((x2 : Int) < 1)) (
   K (.tuple #[.int .i64 0, .int .i64 2])) (
   ifB (decide ((x2 : Int) > 7)) (
    K (.tuple #[.int .i64 0, .int .i64 2])) (
    ifB (decide ((x1 : Int) < 0)) (
     K (.tuple #[.int .i64 0, .int .i64 6])) (
     ifB (decide ((x1 : Int) > x0.len)) (
      K (.tuple #[.int .i64 0, .int .i64 6])) (
      ifB (decide ((x2 : Int) > (IntKind.i64.wrap (x0.len - x1)))) (
       K (.tuple #[.int .i64 0, .int .i64 6])) (
       lp [.lf (.int .i64), .lf (.int .i64), .lf (.int .i64)] (0, 1, 0, ()) fun z1 go1 =>   -- n, unit, 
        ifB (decide ((z1.2.2.1 : Int) < x2)) (
         nilc x0.a fun a1 =>
         ixn (IntKind.i64.wrap (x1 + z1.2.2.1)) x0.len <|
         ld (Addr.add a1 ((IntKind.i64.wrap (x1 + z1.2.2.1)).toNat * 1)) (.lf (.int .u8)) fun v1 =>
         go1 (IntKind.i64.wrap (z1.1 + (IntKind.i64.wrap (z1.2.1 * (IntKind.i64.wrap v1)))), IntKind.i64.wrap (z1.2.1 * 256), IntKind.i64.wrap (z1.2.2.1 + 1), ())) (
         K (.tuple #[.int .i64 z1.1, .int .i64 0])))))))
theorem e72 (x0 : SlV) (x1 : Int) (x2 : Int) (K : Value → HP) : flatFn PP h72 Try.f72 [.slice x0.a x0.len x0.cap, .int .i64 x1, .int .i64 x2] K = t72 x0 x1 x2 K := by kernel_rfl

/-- depot/depotref03.Get -/
def h73 : Hints := ⟨[(0, [(8, .lf (.int .i64)), (9, .lf (.int .i64))])], [], []⟩
def t73 (x0 : SlV) (x1 : Int) (x2 : Int) (K : Value → HP) : HP :=
  ifB (decide ((x2 : Int) < 1)) (
   K (.tuple #[.int .i64 0, .int .i64 2])) (
   ifB (decide ((x2 : Int) > 7)) (
    K (.tuple #[.int .i64 0, .int .i64 2])) (
    ifB (decide ((x1 : Int) < 0)) (
     K (.tuple #[.int .i64 0, .int .i64 6])) (
     ifB (decide ((x1 : Int) > x0.len)) (
      K (.tuple #[.int .i64 0, .int .i64 6])) (
      ifB (decide ((IntKind.i64.wrap (x0.len - x1) : Int) < x2)) (
       K (.tuple #[.int .i64 0, .int .i64 6])) (
       lp [.lf (.int .i64), .lf (.int .i64)] (0, IntKind.i64.wrap (x2 - 1), ()) fun z1 go1 =>   -- n, i
        ifB (decide ((z1.2.1 : Int) ≥ 0)) (
         nilc x0.a fun a1 =>
         ixn (IntKind.i64.wrap (x1 + z1.2.1)) x0.len <|
         ld (Addr.add a1 ((IntKind.i64.wrap (x1 + z1.2.1)).toNat * 1)) (.lf (.int .u8)) fun v1 =>
         go1 (IntKind.i64.wrap ((IntKind.i64.wrap (256 * z1.1)) + (IntKind.i64.wrap v1)), IntKind.i64.wrap (z1.2.1 - 1), ())) (
         K (.tuple #[.int .i64 z1.1, .int .i64 0])))))))
theorem e73 (x0 : SlV) (x1 : Int) (x2 : Int) (K : Value → HP) : flatFn PP h73 Try.f73 [.slice x0.a x0.len x0.cap, .int .i64 x1, .int .i64 x2] K = t73 x0 x1 x2 K := by kernel_rfl

/-- depot/flash.within -/
def h80 : Hints := ⟨[], [], []⟩
def t80 (x0 : Int) (x1 : Int) (x2 : Int) (K : Value → HP) : HP :=
  ifB (decide ((x0 : Int) ≥ x1)) (
   K (.bool (decide ((x0 : Int) ≤ x2)))) (
   K (.bool false))
theorem e80 (x0 : Int) (x1 : Int) (x2 : Int) (K : Value → HP) : flatFn PP h80 Try.f80 [.int .i64 x0, .int .i64 x1, .int .i64 x2] K = t80 x0 x1 x2 K := by kernel_rfl

/-- (*depot/flash.block).wipe -/
def h81 : Hints := ⟨[(0, [(8, .lf (.int .i64))])], [], [(3, [0, 1, 2, 4, 5, 3, 6, 7, 8])]⟩
def t81 (x0 : Option Addr) (x1 : Int) (x2 : Int) (K : Value → HP) : HP :=
  lp [.lf (.int .i64)] (0, ()) fun z1 go1 =>   -- 
   ifB (decide ((z1.1 : Int) < x1)) (
    nilc x0 fun a1 =>
    ld a1 (.lf .sl) fun v1 =>
    cl PP 109 #[.int .i64 x2] [.lf .sl] fun r1 =>
    keep (LdAt a1 [.slice v1.a v1.len v1.cap]) <|
    nilc v1.a fun a2 =>
    ixn z1.1 v1.len <|
    st (Addr.add a2 (z1.1.toNat * 1)) [.slice r1.1.a r1.1.len r1.1.cap] <|
    go1 (IntKind.i64.wrap (z1.1 + 1), ())) (
    K (.tuple #[]))
theorem e81 (x0 : Option Addr) (x1 : Int) (x2 : Int) (K : Value → HP) : flatFn PP h81 Try.f81 [.pointer x0, .int .i64 x1, .int .i64 x2] K = t81 x0 x1 x2 K := by kernel_rfl

/-- depot/region.program -/
def h82 : Hints := ⟨[], [], [(1, [1, 2, 0, 3, 4, 5, 6, 7, 8, 9, 10])]⟩
def t82 (x0 : Option Addr) (x1 : Int) (x2 : ShV (.agg [.int .i64, .int .i64, .int .i64, .int .i64, .int .i64])) (x3 : SlV) (K : Value → HP) : HP :=
  nw (.cells #[.int .i64 x2.1, .int .i64 x2.2.1, .int .i64 x2.2.2.1, .int .i64 x2.2.2.2.1, .int .i64 x2.2.2.2.2.1] 111) fun n1 =>
  ld ⟨n1, 0, none⟩ (.agg [.int .i64, .int .i64, .int .i64, .int .i64, .int .i64]) fun v1 =>
  cl PP 83 #[.pointer x0] [.agg [.int .i64, .int .i64, .int .i64, .int .i64]] fun r1 =>
  keep (LdAt ⟨n1, 0, none⟩ [.int .i64 v1.1, .int .i64 v1.2.1, .int .i64 v1.2.2.1, .int .i64 v1.2.2.2.1, .int .i64 v1.2.2.2.2.1]) <|
  cl PP 110 #[.agg #[.int .i64 v1.1, .int .i64 v1.2.1, .int .i64 v1.2.2.1, .int .i64 v1.2.2.2.1, .int .i64 v1.2.2.2.2.1], .slice x3.a x3.len x3.cap, .int .i64 r1.1.2.2.1] [.lf .sl, .lf (.int .i64)] fun r2 =>
  ifB ((r2.2.1 : Int) != 0) (
   K (.int .i64 r2.2.1)) (
   ld (Addr.add ⟨n1, 0, none⟩ 4) (.lf (.int .i64)) fun v2 =>
   cl PP 111 #[.pointer x0, .int .i64 x1, .int .i64 v2, .slice r2.1.a r2.1.len r2.1.cap] [.lf (.int .i64)] fun r3 =>
   K (.int .i64 r3.1))
theorem e82 (x0 : Option Addr) (x1 : Int) (x2 : ShV (.agg [.int .i64, .int .i64, .int .i64, .int .i64, .int .i64])) (x3 : SlV) (K : Value → HP) : flatFn PP h82 Try.f82 [.pointer x0, .int .i64 x1, .agg #[.int .i64 x2.1, .int .i64 x2.2.1, .int .i64 x2.2.2.1, .int .i64 x2.2.2.2.1, .int .i64 x2.2.2.2.2.1], .slice x3.a x3.len x3.cap] K = t82 x0 x1 x2 x3 K := by kernel_rfl

/-- (*depot/flash.Flash).Config -/
def h83 : Hints := ⟨[], [], []⟩
def t83 (x0 : Option Addr) (K : Value → HP) : HP :=
  nw (.cells #[.int .i64 0, .int .i64 0, .int .i64 0, .int .i64 0] 75) fun n1 =>
  ifB (Option.isNone x0) (
   st ⟨n1, 0, none⟩ [.int .i64 0, .int .i64 0, .int .i64 0, .int .i64 0] <|
   ld ⟨n1, 0, none⟩ (.agg [.int .i64, .int .i64, .int .i64, .int .i64]) fun v1 =>
   K (.agg #[.int .i64 v1.1, .int .i64 v1.2.1, .int .i64 v1.2.2.1, .int .i64 v1.2.2.2.1])) (
   nilc x0 fun a1 =>
   ld (Addr.add a1 3) (.agg [.int .i64, .int .i64, .int .i64, .int .i64]) fun v2 =>
   st ⟨n1, 0, none⟩ [.int .i64 v2.1, .int .i64 v2.2.1, .int .i64 v2.2.2.1, .int .i64 v2.2.2.2.1] <|
   ld ⟨n1, 0, none⟩ (.agg [.int .i64, .int .i64, .int .i64, .int .i64]) fun v3 =>
   K (.agg #[.int .i64 v3.1, .int .i64 v3.2.1, .int .i64 v3.2.2.1, .int .i64 v3.2.2.2.1]))
theorem e83 (x0 : Option Addr) (K : Value → HP) : flatFn PP h83 Try.f83 [.pointer x0] K = t83 x0 K := by kernel_rfl

/-- (*depot/flash.Flash).Read -/
def h84 : Hints := ⟨[], [], []⟩
def t84 (x0 : Option Addr) (x1 : Int) (x2 : Int) (K : Value → HP) : HP :=
  cl PP 89 #[.pointer x0, .int .i64 x1, .int .i64 x2] [.lf .ptr, .lf (.int .i64)] fun r1 =>
  ifB ((r1.2.1 : Int) != 0) (
   K (.tuple #[.slice none 0 0, .int .i64 r1.2.1])) (
   nilc r1.1 fun a1 =>
   ld (Addr.add a1 3) (.lf .bool) fun v1 =>
   ifB v1 (
    nilc x0 fun a2 =>
    ld (Addr.add (Addr.add a2 3) 2) (.lf (.int .i64)) fun v2 =>
    cl PP 109 #[.int .i64 v2] [.lf .sl] fun r2 =>
    K (.tuple #[.slice r2.1.a r2.1.len r2.1.cap, .int .i64 0])) (
    nw (.cells #[] 5) fun n1 =>
    nilc r1.1 fun a3 =>
    ld a3 (.lf .sl) fun v3 =>
    nilc v3.a fun a4 =>
    ixn x2 v3.len <|
    ld (Addr.add a4 (x2.toNat * 1)) (.lf .sl) fun v4 =>
    smW PP (Builtin.append_ #[40, 40] 40 #[.slice (some ⟨n1, 0, none⟩) 0 0, .slice v4.a v4.len v4.cap]) [.lf .sl] fun v5 =>
    K (.tuple #[.slice v5.1.a v5.1.len v5.1.cap, .int .i64 0])))
theorem e84 (x0 : Option Addr) (x1 : Int) (x2 : Int) (K : Value → HP) : flatFn PP h84 Try.f84 [.pointer x0, .int .i64 x1, .int .i64 x2] K = t84 x0 x1 x2 K := by kernel_rfl

/-- (*depot/flash.Flash).find -/
def h89 : Hints := ⟨[], [], []⟩
def t89 (x0 : Option Addr) (x1 : Int) (x2 : Int) (K : Value → HP) : HP :=
  ifB (Option.isNone x0) (
   K (.tuple #[.pointer none, .int .i64 1])) (
   nilc x0 fun a1 =>
   ld (Addr.add a1 2) (.lf .bool) fun v1 =>
   ifB v1 (
    K (.tuple #[.pointer none, .int .i64 11])) (
    cl PP 113 #[.pointer x0, .int .i64 x1] [.lf .ptr] fun r1 =>
    ifB (Option.isNone r1.1) (
     K (.tuple #[.pointer none, .int .i64 2])) (
     nilc x0 fun a2 =>
     ld (Addr.add (Addr.add a2 3) 1) (.lf (.int .i64)) fun v2 =>
     cl PP 80 #[.int .i64 x2, .int .i64 0, .int .i64 (IntKind.i64.wrap (v2 - 1))] [.lf .bool] fun r2 =>
     ifB (!r2.1) (
      K (.tuple #[.pointer none, .int .i64 2])) (
      K (.tuple #[.pointer r1.1, .int .i64 0])))))
theorem e89 (x0 : Option Addr) (x1 : Int) (x2 : Int) (K : Value → HP) : flatFn PP h89 Try.f89 [.pointer x0, .int .i64 x1, .int .i64 x2] K = t89 x0 x1 x2 K := by kernel_rfl

/-- (*depot/flash.tearer).tears -/
def h90 : Hints := ⟨[], [], []⟩
def t90 (x0 : Option Addr) (K : Value → HP) : HP :=
  nilc x0 fun a1 =>
  ld a1 (.lf (.int .i64)) fun v1 =>
  ifB ((v1 : Int) == 0) (
   K (.bool false)) (
   nilc x0 fun a2 =>
   ld a2 (.lf (.int .i64)) fun v2 =>
   nilc x0 fun a3 =>
   st a3 [.int .i64 (IntKind.i64.wrap (v2 - 1))] <|
   nilc x0 fun a4 =>
   ld a4 (.lf (.int .i64)) fun v3 =>
   nilc x0 fun a5 =>
   st (Addr.add a5 2) [.bool ((v3 : Int) == 0)] <|
   nilc x0 fun a6 =>
   ld (Addr.add a6 2) (.lf .bool) fun v4 =>
   K (.bool v4))
theorem e90 (x0 : Option Addr) (K : Value → HP) : flatFn PP h90 Try.f90 [.pointer x0] K = t90 x0 K := by kernel_rfl

/-- (*depot/flash.tearer).kept -/
def h91 : Hints := ⟨[], [], []⟩
def t91 (x0 : Option Addr) (x1 : Int) (K : Value → HP) : HP :=
  nilc x0 fun a1 =>
  ld (Addr.add a1 1) (.lf (.int .i64)) fun v1 =>
  K (.int .i64 (imin (imax v1 0) x1))
theorem e91 (x0 : Option Addr) (x1 : Int) (K : Value → HP) : flatFn PP h91 Try.f91 [.pointer x0, .int .i64 x1] K = t91 x0 x1 K := by kernel_rfl

/-- depot/page.Blank -/
def h96 : Hints := ⟨[(0, [(7, .lf (.int .i64))])], [], []⟩
def t96 (x0 : SlV) (K : Value → HP) : HP :=
  lp [.lf (.int .i64)] (0, ()) fun z1 go1 =>   -- 
   ifB (decide ((z1.1 : Int) < x0.len)) (
    nilc x0.a fun a1 =>
    ixn z1.1 x0.len <|
    ld (Addr.add a1 (z1.1.toNat * 1)) (.lf (.int .u8)) fun v1 =>
    ifB ((v1 : Int) != 255) (
     K (.bool false)) (
     go1 (IntKind.i64.wrap (z1.1 + 1), ()))) (
    K (.bool true))
theorem e96 (x0 : SlV) (K : Value → HP) : flatFn PP h96 Try.f96 [.slice x0.a x0.len x0.cap] K = t96 x0 K := by kernel_rfl

/-- depot/region.item -/
def h97 : Hints := ⟨[], [], []⟩
def t97 (x0 : Int) (K : Value → HP) : HP :=
  ifB ((x0 : Int) == 2) (
   K (.bool true)) (
   K (.bool ((x0 : Int) == 3)))
theorem e97 (x0 : Int) (K : Value → HP) : flatFn PP h97 Try.f97 [.int .i64 x0] K = t97 x0 K := by kernel_rfl

/-- depot/depotref23.sized -/
def h98 : Hints := ⟨[], [], []⟩
def t98 (x0 : Int) (K : Value → HP) : HP :=
  ifB (decide ((x0 : Int) ≥ 64)) (
   K (.bool (decide ((x0 : Int) ≤ 512)))) (
   K (.bool false))
theorem e98 (x0 : Int) (K : Value → HP) : flatFn PP h98 Try.f98 [.int .i64 x0] K = t98 x0 K := by kernel_rfl

/-- depot/depotref04.Sum -/
def h99 : Hints := ⟨[], [], []⟩
def t99 (x0 : SlV) (K : Value → HP) : HP :=
  cl PP 114 #[.int .i64 0, .slice x0.a x0.len x0.cap] [.lf (.int .i64)] fun r1 =>
  K (.int .i64 r1.1)
theorem e99 (x0 : SlV) (K : Value → HP) : flatFn PP h99 Try.f99 [.slice x0.a x0.len x0.cap] K = t99 x0 K := by kernel_rfl

/-- depot/depotref23.Image -/
def h100 : Hints := ⟨[(0, [(9, .lf .sl)])], [], []⟩
def t100 (x0 : ShV (.agg [.int .i64, .int .i64, .int .i64, .int .i64, .int .i64])) (x1 : SlV) (x2 : Int) (K : Value → HP) : HP :=
  nw (.cells #[.int .i64 x0.1, .int .i64 x0.2.1, .int .i64 x0.2.2.1, .int .i64 x0.2.2.2.1, .int .i64 x0.2.2.2.2.1] 111) fun n1 =>
  cl PP 98 #[.int .i64 x2] [.lf .bool] fun r1 =>
  ifB (!r1.1) (
   K (.tuple #[.slice none 0 0, .int .i64 2])) (
   ld ⟨n1, 0, none⟩ (.agg [.int .i64, .int .i64, .int .i64, .int .i64, .int .i64]) fun v1 =>
   cl PP 115 #[.agg #[.int .i64 v1.1, .int .i64 v1.2.1, .int .i64 v1.2.2.1, .int .i64 v1.2.2.2.1, .int .i64 v1.2.2.2.2.1]] [.lf (.int .i64)] fun r2 =>
   ifB ((r2.1 : Int) != 0) (
    K (.tuple #[.slice none 0 0, .int .i64 r2.1])) (
    ifB (decide ((x1.len : Int) > (IntKind.i64.wrap (x2 - 16)))) (
     K (.tuple #[.slice none 0 0, .int .i64 4])) (
     ld ⟨n1, 0, none⟩ (.lf (.int .i64)) fun v2 =>
     ld (Addr.add ⟨n1, 0, none⟩ 1) (.lf (.int .i64)) fun v3 =>
     ld (Addr.add ⟨n1, 0, none⟩ 2) (.lf (.int .i64)) fun v4 =>
     nw (.cells #[.int .u8 (IntKind.u8.wrap v2), .int .u8 (IntKind.u8.wrap v3), .int .u8 (IntKind.u8.wrap v4), .int .u8 165] 5) fun n2 =>
     ld (Addr.add ⟨n1, 0, none⟩ 3) (.lf (.int .i64)) fun v5 =>
     cl PP 71 #[.slice (some ⟨n2, 0, none⟩) 4 4, .int .i64 v5, .int .i64 4] [.lf .sl, .lf (.int .i64)] fun r3 =>
     ld (Addr.add ⟨n1, 0, none⟩ 4) (.lf (.int .i64)) fun v6 =>
     nw (.cells #[.int .u8 (IntKind.u8.wrap v6), .int .u8 0] 5) fun n3 =>
     smW PP (Builtin.append_ #[40, 40] 40 #[.slice r3.1.a r3.1.len r3.1.cap, .slice (some ⟨n3, 0, none⟩) 2 2]) [.lf .sl] fun v7 =>
     cl PP 71 #[.slice v7.1.a v7.1.len v7.1.cap, .int .i64 x1.len, .int .i64 2] [.lf .sl, .lf (.int .i64)] fun r4 =>
     smW PP (Builtin.append_ #[40, 40] 40 #[.slice r4.1.a r4.1.len r4.1.cap, .slice x1.a x1.len x1.cap]) [.lf .sl] fun v8 =>
     lp [.lf .sl] (⟨v8.1.a, v8.1.len, v8.1.cap⟩, ()) fun z1 go1 =>   -- b
      ifB (decide ((z1.1.len : Int) < (IntKind.i64.wrap (x2 - 4)))) (
       nw (.cells #[.int .u8 0] 5) fun n4 =>
       smW PP (Builtin.append_ #[40, 40] 40 #[.slice z1.1.a z1.1.len z1.1.cap, .slice (some ⟨n4, 0, none⟩) 1 1]) [.lf .sl] fun v9 =>
       go1 (⟨v9.1.a, v9.1.len, v9.1.cap⟩, ())) (
       cl PP 99 #[.slice z1.1.a z1.1.len z1.1.cap] [.lf (.int .i64)] fun r5 =>
       cl PP 71 #[.slice z1.1.a z1.1.len z1.1.cap, .int .i64 r5.1, .int .i64 4] [.lf .sl, .lf (.int .i64)] fun r6 =>
       K (.tuple #[.slice r6.1.a r6.1.len r6.1.cap, .int .i64 0])))))
theorem e100 (x0 : ShV (.agg [.int .i64, .int .i64, .int .i64, .int .i64, .int .i64])) (x1 : SlV) (x2 : Int) (K : Value → HP) : flatFn PP h100 Try.f100 [.agg #[.int .i64 x0.1, .int .i64 x0.2.1, .int .i64 x0.2.2.1, .int .i64 x0.2.2.2.1, .int .i64 x0.2.2.2.2.1], .slice x1.a x1.len x1.cap, .int .i64 x2] K = t100 x0 x1 x2 K := by kernel_rfl

/-- depot/page.sized -/
def h101 : Hints := ⟨[], [], []⟩
def t101 (x0 : Int) (K : Value → HP) : HP :=
  ifB (decide ((x0 : Int) ≥ 64)) (
   K (.bool (decide ((x0 : Int) ≤ 512)))) (
   K (.bool false))
theorem e101 (x0 : Int) (K : Value → HP) : flatFn PP h101 Try.f101 [.int .i64 x0] K = t101 x0 K := by kernel_rfl

/-- depot/crc.Check -/
def h102 : Hints := ⟨[], [], []⟩
def t102 (x0 : SlV) (x1 : Int) (K : Value → HP) : HP :=
  cl PP 116 #[.slice x0.a x0.len x0.cap] [.lf (.int .i64)] fun r1 =>
  K (.bool ((r1.1 : Int) == x1))
theorem e102 (x0 : SlV) (x1 : Int) (K : Value → HP) : flatFn PP h102 Try.f102 [.slice x0.a x0.len x0.cap, .int .i64 x1] K = t102 x0 x1 K := by kernel_rfl

/-- depot/page.at -/
def h103 : Hints := ⟨[], [], []⟩
def t103 (x0 : SlV) (x1 : Int) (x2 : Int) (K : Value → HP) : HP :=
  cl PP 72 #[.slice x0.a x0.len x0.cap, .int .i64 x1, .int .i64 x2] [.lf (.int .i64), .lf (.int .i64)] fun r1 =>
  K (.int .i64 r1.1)
theorem e103 (x0 : SlV) (x1 : Int) (x2 : Int) (K : Value → HP) : flatFn PP h103 Try.f103 [.slice x0.a x0.len x0.cap, .int .i64 x1, .int .i64 x2] K = t103 x0 x1 x2 K := by kernel_rfl

/-- depot/page.Room -/
def h104 : Hints := ⟨[], [], []⟩
def t104 (x0 : Int) (K : Value → HP) : HP :=
  cl PP 101 #[.int .i64 x0] [.lf .bool] fun r1 =>
  ifB (!r1.1) (
   K (.int .i64 0)) (
   K (.int .i64 (IntKind.i64.wrap (x0 - 16))))
theorem e104 (x0 : Int) (K : Value → HP) : flatFn PP h104 Try.f104 [.int .i64 x0] K = t104 x0 K := by kernel_rfl

/-- depot/page.check -/
def h105 : Hints := ⟨[], [], []⟩
def t105 (x0 : ShV (.agg [.int .i64, .int .i64, .int .i64, .int .i64, .int .i64])) (K : Value → HP) : HP :=
  nw (.cells #[.int .i64 x0.1, .int .i64 x0.2.1, .int .i64 x0.2.2.1, .int .i64 x0.2.2.2.1, .int .i64 x0.2.2.2.2.1] 111) fun n1 =>
  ld ⟨n1, 0, none⟩ (.lf (.int .i64)) fun v1 =>
  ifB (decide ((v1 : Int) < 1)) (
   K (.int .i64 16)) (
   ld ⟨n1, 0, none⟩ (.lf (.int .i64)) fun v2 =>
   ifB (decide ((v2 : Int) > 4)) (
    K (.int .i64 16)) (
    ld (Addr.add ⟨n1, 0, none⟩ 2) (.lf (.int .i64)) fun v3 =>
    ifB (decide ((v3 : Int) < 1)) (
     K (.int .i64 3)) (
     ld (Addr.add ⟨n1, 0, none⟩ 2) (.lf (.int .i64)) fun v4 =>
     ifB (decide ((v4 : Int) > 16)) (
      K (.int .i64 3)) (
      ld (Addr.add ⟨n1, 0, none⟩ 1) (.lf (.int .i64)) fun v5 =>
      ifB (decide ((v5 : Int) < 0)) (
       K (.int .i64 3)) (
       ld (Addr.add ⟨n1, 0, none⟩ 1) (.lf (.int .i64)) fun v6 =>
       ld (Addr.add ⟨n1, 0, none⟩ 2) (.lf (.int .i64)) fun v7 =>
       ifB (decide ((v6 : Int) ≥ v7)) (
        K (.int .i64 3)) (
        ld (Addr.add ⟨n1, 0, none⟩ 3) (.lf (.int .i64)) fun v8 =>
        ifB (decide ((v8 : Int) < 1)) (
         K (.int .i64 3)) (
         ld (Addr.add ⟨n1, 0, none⟩ 3) (.lf (.int .i64)) fun v9 =>
         ifB (decide ((v9 : Int) > 1073741824)) (
          K (.int .i64 3)) (
          ld (Addr.add ⟨n1, 0, none⟩ 4) (.lf (.int .i64)) fun v10 =>
          ifB (decide ((v10 : Int) < 0)) (
           K (.int .i64 3)) (
           ld (Addr.add ⟨n1, 0, none⟩ 4) (.lf (.int .i64)) fun v11 =>
           ifB (decide ((v11 : Int) ≥ 16)) (
            K (.int .i64 3)) (
            K (.int .i64 0)))))))))))
theorem e105 (x0 : ShV (.agg [.int .i64, .int .i64, .int .i64, .int .i64, .int .i64])) (K : Value → HP) : flatFn PP h105 Try.f105 [.agg #[.int .i64 x0.1, .int .i64 x0.2.1, .int .i64 x0.2.2.1, .int .i64 x0.2.2.2.1, .int .i64 x0.2.2.2.2.1]] K = t105 x0 K := by kernel_rfl

end Go.Proofs.Ytlabcgnegbdlfaa
set_option linter.unusedVariables false
set_option maxRecDepth 100000
namespace Go.Proofs.Ytlabcgnegbdlfaa
open Go.HL
/-- depot/wire.of -/
def h106 : Hints := ⟨[(0, [(5, .lf (.int .i64))])], [], []⟩
def t106 (x0 : Int) (K : Value → HP) : HP :=
  nw (.cells #[.int .u8 0, .int .u8 0, .int .u8 0, .int .u8 0, .int .u8 0, .int .u8 0, .int .u8 0, .int .u8 0] 184) fun n1 =>
  nw (.cells #[.int .u8 0, .int .u8 0, .int .u8 0, .int .u8 0, .int .u8 0, .int .u8 0, .int .u8 0, .int .u8 0] 184) fun n2 =>
  lp [.lf (.int .i64)] (0, ()) fun z1 go1 =>   -- 
   ifB (decide ((z1.1 : Int) < 8)) (
    req ((0 : Int) ≤ (IntKind.i64.wrap (8 * z1.1))) <|
    ixn z1.1 8 <|
    st (Addr.add ⟨n2, 0, none⟩ (z1.1.toNat * 1)) [.int .u8 (IntKind.u8.wrap (Int.fdiv x0 (2 ^ (min (IntKind.i64.wrap (8 * z1.1) : Int).toNat IntKind.i64.bits))))] <|
    go1 (IntKind.i64.wrap (z1.1 + 1), ())) (
    ld ⟨n2, 0, none⟩ (.agg [.int .u8, .int .u8, .int .u8, .int .u8, .int .u8, .int .u8, .int .u8, .int .u8]) fun v1 =>
    st ⟨n1, 0, none⟩ [.int .u8 v1.1, .int .u8 v1.2.1, .int .u8 v1.2.2.1, .int .u8 v1.2.2.2.1, .int .u8 v1.2.2.2.2.1, .int .u8 v1.2.2.2.2.2.1, .int .u8 v1.2.2.2.2.2.2.1, .int .u8 v1.2.2.2.2.2.2.2.1] <|
    ld ⟨n1, 0, none⟩ (.agg [.int .u8, .int .u8, .int .u8, .int .u8, .int .u8, .int .u8, .int .u8, .int .u8]) fun v2 =>
    K (.agg #[.int .u8 v2.1, .int .u8 v2.2.1, .int .u8 v2.2.2.1, .int .u8 v2.2.2.2.1, .int .u8 v2.2.2.2.2.1, .int .u8 v2.2.2.2.2.2.1, .int .u8 v2.2.2.2.2.2.2.1, .int .u8 v2.2.2.2.2.2.2.2.1]))
theorem e106 (x0 : Int) (K : Value → HP) : flatFn PP h106 Try.f106 [.int .i64 x0] K = t106 x0 K := by kernel_rfl

/-- depot/flash.blank -/
def h109 : Hints := ⟨[(0, [(9, .lf (.int .i64))])], [], []⟩
def t109 (x0 : Int) (K : Value → HP) : HP :=
  smA PP (Instr.makeSlice 40 (.int .i64 x0) (.int .i64 x0)) (.lf .sl) fun v1 =>
  lp [.lf (.int .i64)] (0, ()) fun z1 go1 =>   -- 
   ifB (decide ((z1.1 : Int) < v1.len)) (
    nilc v1.a fun a1 =>
    ixn z1.1 v1.len <|
    st (Addr.add a1 (z1.1.toNat * 1)) [.int .u8 255] <|
    go1 (IntKind.i64.wrap (z1.1 + 1), ())) (
    K (.slice v1.a v1.len v1.cap))
theorem e109 (x0 : Int) (K : Value → HP) : flatFn PP h109 Try.f109 [.int .i64 x0] K = t109 x0 K := by kernel_rfl

/-- depot/page.Image -/
def h110 : Hints := ⟨[], [], []⟩
def t110 (x0 : ShV (.agg [.int .i64, .int .i64, .int .i64, .int .i64, .int .i64])) (x1 : SlV) (x2 : Int) (K : Value → HP) : HP :=
  nw (.cells #[.int .i64 x0.1, .int .i64 x0.2.1, .int .i64 x0.2.2.1, .int .i64 x0.2.2.2.1, .int .i64 x0.2.2.2.2.1] 111) fun n1 =>
  cl PP 101 #[.int .i64 x2] [.lf .bool] fun r1 =>
  ifB (!r1.1) (
   K (.tuple #[.slice none 0 0, .int .i64 2])) (
   ld ⟨n1, 0, none⟩ (.agg [.int .i64, .int .i64, .int .i64, .int .i64, .int .i64]) fun v1 =>
   cl PP 105 #[.agg #[.int .i64 v1.1, .int .i64 v1.2.1, .int .i64 v1.2.2.1, .int .i64 v1.2.2.2.1, .int .i64 v1.2.2.2.2.1]] [.lf (.int .i64)] fun r2 =>
   ifB ((r2.1 : Int) != 0) (
    K (.tuple #[.slice none 0 0, .int .i64 r2.1])) (
    cl PP 104 #[.int .i64 x2] [.lf (.int .i64)] fun r3 =>
    ifB (decide ((x1.len : Int) > r3.1)) (
     K (.tuple #[.slice none 0 0, .int .i64 4])) (
     ld ⟨n1, 0, none⟩ (.lf (.int .i64)) fun v2 =>
     ld (Addr.add ⟨n1, 0, none⟩ 1) (.lf (.int .i64)) fun v3 =>
     ld (Addr.add ⟨n1, 0, none⟩ 2) (.lf (.int .i64)) fun v4 =>
     ld (Addr.add ⟨n1, 0, none⟩ 3) (.lf (.int .i64)) fun v5 =>
     ld (Addr.add ⟨n1, 0, none⟩ 4) (.lf (.int .i64)) fun v6 =>
     nw (.cells #[.int .i64 v2, .int .i64 1, .int .i64 v3, .int .i64 1, .int .i64 v4, .int .i64 1, .int .i64 165, .int .i64 1, .int .i64 v5, .int .i64 4, .int .i64 v6, .int .i64 1, .int .i64 0, .int .i64 1, .int .i64 x1.len, .int .i64 2] 211) fun n2 =>
     cl PP 128 #[.slice none 0 0, .slice (some ⟨n2, 0, none⟩) 8 8] [.lf .sl] fun r4 =>
     smA PP (Instr.makeSlice 40 (.int .i64 (IntKind.i64.wrap (x2 - 4))) (.int .i64 (IntKind.i64.wrap (x2 - 4)))) (.lf .sl) fun v7 =>
     smW PP (Builtin.copy_ #[40, 40] 3 #[.slice v7.a v7.len v7.cap, .slice r4.1.a r4.1.len r4.1.cap]) [.lf (.int .i64)] fun v8 =>
     slc ⟨v7.a, v7.len, v7.cap⟩ v8.1 v7.len v7.cap 1 fun s1 =>
     smW PP (Builtin.copy_ #[40, 40] 3 #[.slice s1.a s1.len s1.cap, .slice x1.a x1.len x1.cap]) [.lf (.int .i64)] fun v9 =>
     cl PP 116 #[.slice v7.a v7.len v7.cap] [.lf (.int .i64)] fun r5 =>
     nw (.cells #[.int .i64 r5.1, .int .i64 4] 211) fun n3 =>
     cl PP 128 #[.slice v7.a v7.len v7.cap, .slice (some ⟨n3, 0, none⟩) 1 1] [.lf .sl] fun r6 =>
     K (.tuple #[.slice r6.1.a r6.1.len r6.1.cap, .int .i64 0]))))
theorem e110 (x0 : ShV (.agg [.int .i64, .int .i64, .int .i64, .int .i64, .int .i64])) (x1 : SlV) (x2 : Int) (K : Value → HP) : flatFn PP h110 Try.f110 [.agg #[.int .i64 x0.1, .int .i64 x0.2.1, .int .i64 x0.2.2.1, .int .i64 x0.2.2.2.1, .int .i64 x0.2.2.2.2.1], .slice x1.a x1.len x1.cap, .int .i64 x2] K = t110 x0 x1 x2 K := by kernel_rfl

/-- (*depot/flash.Flash).Program -/
def h111 : Hints := ⟨[], [], [(18, [0, 1, 2, 3, 5, 6, 8, 11, 4, 7, 9, 10, 12, 13, 14, 15, 16, 17, 18]), (17, [0, 1, 2, 3, 4, 5, 6, 7, 8, 9, 10, 11, 12]), (13, [0, 1, 2, 4, 5, 6, 7, 3, 8, 9, 10, 11, 12])]⟩
def t111 (x0 : Option Addr) (x1 : Int) (x2 : Int) (x3 : SlV) (K : Value → HP) : HP :=
  cl PP 89 #[.pointer x0, .int .i64 x1, .int .i64 x2] [.lf .ptr, .lf (.int .i64)] fun r1 =>
  ifB ((r1.2.1 : Int) != 0) (
   K (.int .i64 r1.2.1)) (
   nilc x0 fun a1 =>
   ld (Addr.add (Addr.add a1 3) 2) (.lf (.int .i64)) fun v1 =>
   ifB ((x3.len : Int) != v1) (
    K (.int .i64 2)) (
    nilc r1.1 fun a2 =>
    ld (Addr.add a2 3) (.lf .bool) fun v2 =>
    ifB v2 (
     K (.int .i64 10)) (
     nilc r1.1 fun a3 =>
     ld (Addr.add a3 1) (.lf (.int .i64)) fun v3 =>
     ifB ((v3 : Int) != x2) (
      K (.int .i64 9)) (
      nilc x0 fun a4 =>
      ld (Addr.add (Addr.add a4 3) 2) (.lf (.int .i64)) fun v4 =>
      cl PP 109 #[.int .i64 v4] [.lf .sl] fun r2 =>
      nilc r1.1 fun a5 =>
      ld a5 (.lf .sl) fun v5 =>
      nilc v5.a fun a6 =>
      ixn x2 v5.len <|
      st (Addr.add a6 (x2.toNat * 1)) [.slice r2.1.a r2.1.len r2.1.cap] <|
      nilc r1.1 fun a7 =>
      ld (Addr.add a7 1) (.lf (.int .i64)) fun v6 =>
      nilc r1.1 fun a8 =>
      st (Addr.add a8 1) [.int .i64 (IntKind.i64.wrap (v6 + 1))] <|
      nilc x0 fun a9 =>
      nilc x0 fun a10 =>
      ld (Addr.add a9 8) (.lf (.int .i64)) fun v7 =>
      ld (Addr.add (Addr.add a10 3) 2) (.lf (.int .i64)) fun v8 =>
      nilc x0 fun a11 =>
      st (Addr.add a11 8) [.int .i64 (IntKind.i64.wrap (v7 + v8))] <|
      nilc x0 fun a12 =>
      cl PP 90 #[.pointer (some a12)] [.lf .bool] fun r3 =>
      ifB (!r3.1) (
       smW PP (Builtin.copy_ #[40, 40] 3 #[.slice r2.1.a r2.1.len r2.1.cap, .slice x3.a x3.len x3.cap]) [.lf (.int .i64)] fun v9 =>
       K (.int .i64 0)) (
       nilc x0 fun a13 =>
       nilc x0 fun a14 =>
       ld (Addr.add (Addr.add a14 3) 2) (.lf (.int .i64)) fun v10 =>
       cl PP 91 #[.pointer (some a13), .int .i64 v10] [.lf (.int .i64)] fun r4 =>
       slc ⟨x3.a, x3.len, x3.cap⟩ 0 r4.1 x3.cap 1 fun s1 =>
       smW PP (Builtin.copy_ #[40, 40] 3 #[.slice r2.1.a r2.1.len r2.1.cap, .slice s1.a s1.len s1.cap]) [.lf (.int .i64)] fun v11 =>
       nilc x0 fun a15 =>
       ld (Addr.add a15 9) (.lf .sl) fun v12 =>
       nw (.cells #[] 5) fun n1 =>
       smW PP (Builtin.append_ #[40, 40] 40 #[.slice (some ⟨n1, 0, none⟩) 0 0, .slice x3.a x3.len x3.cap]) [.lf .sl] fun v13 =>
       keep (LdAt (Addr.add a15 9) [.slice v12.a v12.len v12.cap]) <|
       nw (.cells #[] 5) fun n2 =>
       smW PP (Builtin.append_ #[40, 40] 40 #[.slice (some ⟨n2, 0, none⟩) 0 0, .slice r2.1.a r2.1.len r2.1.cap]) [.lf .sl] fun v14 =>
       keep (LdAt (Addr.add a15 9) [.slice v12.a v12.len v12.cap]) <|
       nw (.cells #[.int .i64 x1, .int .i64 x2, .slice v13.1.a v13.1.len v13.1.cap, .slice v14.1.a v14.1.len v14.1.cap] 82) fun n3 =>
       smW PP (Builtin.append_ #[79, 79] 79 #[.slice v12.a v12.len v12.cap, .slice (some ⟨n3, 0, none⟩) 1 1]) [.lf .sl] fun v15 =>
       nilc x0 fun a16 =>
       st (Addr.add a16 9) [.slice v15.1.a v15.1.len v15.1.cap] <|
       K (.int .i64 11))))))
theorem e111 (x0 : Option Addr) (x1 : Int) (x2 : Int) (x3 : SlV) (K : Value → HP) : flatFn PP h111 Try.f111 [.pointer x0, .int .i64 x1, .int .i64 x2, .slice x3.a x3.len x3.cap] K = t111 x0 x1 x2 x3 K := by kernel_rfl

/-- (*depot/flash.Flash).at -/
def h113 : Hints := ⟨[], [], []⟩
def t113 (x0 : Option Addr) (x1 : Int) (K : Value → HP) : HP :=
  ifB (Option.isNone x0) (
   K (.pointer none)) (
   nilc x0 fun a1 =>
   ld (Addr.add a1 7) (.lf .sl) fun v1 =>
   cl PP 80 #[.int .i64 x1, .int .i64 0, .int .i64 (IntKind.i64.wrap (v1.len - 1))] [.lf .bool] fun r1 =>
   ifB (!r1.1) (
    K (.pointer none)) (
    nilc x0 fun a2 =>
    ld (Addr.add a2 7) (.lf .sl) fun v2 =>
    nilc v2.a fun a3 =>
    ixn x1 v2.len <|
    ld (Addr.add a3 (x1.toNat * 1)) (.lf .ptr) fun v3 =>
    K (.pointer v3)))
theorem e113 (x0 : Option Addr) (x1 : Int) (K : Value → HP) : flatFn PP h113 Try.f113 [.pointer x0, .int .i64 x1] K = t113 x0 x1 K := by kernel_rfl

/-- depot/depotref04.More -/
def h114 : Hints := ⟨[(0, [(5, .lf (.int .i64)), (6, .lf (.int .i64))])], [], []⟩
def t114 (x0 : Int) (x1 : SlV) (K : Value → HP) : HP :=
  cl PP 129 #[.int .i64 x0] [.lf (.int .u32)] fun r1 =>
  lp [.lf (.int .i64), .lf (.int .i64)] (IntKind.i64.wrap (bitI .xor .u32 IntKind.u32.max r1.1), 0, ()) fun z1 go1 =>   -- s, i
   ifB (decide ((z1.2.1 : Int) < x1.len)) (
    nilc x1.a fun a1 =>
    ixn z1.2.1 x1.len <|
    ld (Addr.add a1 (z1.2.1.toNat * 1)) (.lf (.int .u8)) fun v1 =>
    cl PP 130 #[.int .i64 z1.1, .int .u8 v1] [.lf (.int .i64)] fun r2 =>
    go1 (r2.1, IntKind.i64.wrap (z1.2.1 + 1), ())) (
    cl PP 129 #[.int .i64 z1.1] [.lf (.int .u32)] fun r3 =>
    K (.int .i64 (IntKind.i64.wrap (bitI .xor .u32 IntKind.u32.max r3.1))))
theorem e114 (x0 : Int) (x1 : SlV) (K : Value → HP) : flatFn PP h114 Try.f114 [.int .i64 x0, .slice x1.a x1.len x1.cap] K = t114 x0 x1 K := by kernel_rfl

/-- depot/depotref23.right -/
def h115 : Hints := ⟨[], [], []⟩
def t115 (x0 : ShV (.agg [.int .i64, .int .i64, .int .i64, .int .i64, .int .i64])) (K : Value → HP) : HP :=
  nw (.cells #[.int .i64 x0.1, .int .i64 x0.2.1, .int .i64 x0.2.2.1, .int .i64 x0.2.2.2.1, .int .i64 x0.2.2.2.2.1] 111) fun n1 =>
  ld ⟨n1, 0, none⟩ (.lf (.int .i64)) fun v1 =>
  ifB (decide ((v1 : Int) < 1)) (
   K (.int .i64 16)) (
   ld ⟨n1, 0, none⟩ (.lf (.int .i64)) fun v2 =>
   ifB (decide ((v2 : Int) > 4)) (
    K (.int .i64 16)) (
    ld (Addr.add ⟨n1, 0, none⟩ 2) (.lf (.int .i64)) fun v3 =>
    ifB (decide ((v3 : Int) < 1)) (
     K (.int .i64 3)) (
     ld (Addr.add ⟨n1, 0, none⟩ 2) (.lf (.int .i64)) fun v4 =>
     ifB (decide ((v4 : Int) > 16)) (
      K (.int .i64 3)) (
      ld (Addr.add ⟨n1, 0, none⟩ 1) (.lf (.int .i64)) fun v5 =>
      ifB (decide ((v5 : Int) < 0)) (
       K (.int .i64 3)) (
       ld (Addr.add ⟨n1, 0, none⟩ 1) (.lf (.int .i64)) fun v6 =>
       ld (Addr.add ⟨n1, 0, none⟩ 2) (.lf (.int .i64)) fun v7 =>
       ifB (decide ((v6 : Int) ≥ v7)) (
        K (.int .i64 3)) (
        ld (Addr.add ⟨n1, 0, none⟩ 3) (.lf (.int .i64)) fun v8 =>
        ifB (decide ((v8 : Int) < 1)) (
         K (.int .i64 3)) (
         ld (Addr.add ⟨n1, 0, none⟩ 3) (.lf (.int .i64)) fun v9 =>
         ifB (decide ((v9 : Int) > 1073741824)) (
          K (.int .i64 3)) (
          ld (Addr.add ⟨n1, 0, none⟩ 4) (.lf (.int .i64)) fun v10 =>
          ifB (decide ((v10 : Int) < 0)) (
           K (.int .i64 3)) (
           ld (Addr.add ⟨n1, 0, none⟩ 4) (.lf (.int .i64)) fun v11 =>
           ifB (decide ((v11 : Int) > 15)) (
            K (.int .i64 3)) (
            K (.int .i64 0)))))))))))
theorem e115 (x0 : ShV (.agg [.int .i64, .int .i64, .int .i64, .int .i64, .int .i64])) (K : Value → HP) : flatFn PP h115 Try.f115 [.agg #[.int .i64 x0.1, .int .i64 x0.2.1, .int .i64 x0.2.2.1, .int .i64 x0.2.2.2.1, .int .i64 x0.2.2.2.2.1]] K = t115 x0 K := by kernel_rfl

/-- depot/crc.Sum -/
def h116 : Hints := ⟨[], [], []⟩
def t116 (x0 : SlV) (K : Value → HP) : HP :=
  cl PP 131 #[.int .i64 0, .slice x0.a x0.len x0.cap] [.lf (.int .i64)] fun r1 =>
  K (.int .i64 r1.1)
theorem e116 (x0 : SlV) (K : Value → HP) : flatFn PP h116 Try.f116 [.slice x0.a x0.len x0.cap] K = t116 x0 K := by kernel_rfl

end Go.Proofs.Ytlabcgnegbdlfaa
set_option linter.unusedVariables false
set_option maxRecDepth 100000
namespace Go.Proofs.Ytlabcgnegbdlfaa
open Go.HL
/-- depot/page.put -/
def h128 : Hints := ⟨[(0, [(0, .lf .sl), (9, .lf (.int .i64))])], [], []⟩
def t128 (x0 : SlV) (x1 : SlV) (K : Value → HP) : HP :=
  lp [.lf .sl, .lf (.int .i64)] (⟨x0.a, x0.len, x0.cap⟩, 0, ()) fun z1 go1 =>   -- b, 
   ifB (decide ((z1.2.1 : Int) < x1.len)) (
    nilc x1.a fun a1 =>
    ixn z1.2.1 x1.len <|
    ld (Addr.add a1 (z1.2.1.toNat * 2)) (.agg [.int .i64, .int .i64]) fun v1 =>
    nw (.cells #[.int .i64 0, .int .i64 0] 211) fun n1 =>
    st ⟨n1, 0, none⟩ [.int .i64 v1.1, .int .i64 v1.2.1] <|
    ld ⟨n1, 0, none⟩ (.lf (.int .i64)) fun v2 =>
    ld (Addr.add ⟨n1, 0, none⟩ 1) (.lf (.int .i64)) fun v3 =>
    cl PP 70 #[.slice z1.1.a z1.1.len z1.1.cap, .int .i64 v2, .int .i64 v3] [.lf .sl, .lf (.int .i64)] fun r1 =>
    go1 (⟨r1.1.a, r1.1.len, r1.1.cap⟩, IntKind.i64.wrap (z1.2.1 + 1), ())) (
    K (.slice z1.1.a z1.1.len z1.1.cap))
theorem e128 (x0 : SlV) (x1 : SlV) (K : Value → HP) : flatFn PP h128 Try.f128 [.slice x0.a x0.len x0.cap, .slice x1.a x1.len x1.cap] K = t128 x0 x1 K := by kernel_rfl

/-- depot/depotref04.low -/
def h129 : Hints := ⟨[], [], []⟩
def t129 (x0 : Int) (K : Value → HP) : HP :=
  K (.int .u32 (IntKind.u32.wrap (IntKind.u64.wrap x0)))
theorem e129 (x0 : Int) (K : Value → HP) : flatFn PP h129 Try.f129 [.int .i64 x0] K = t129 x0 K := by kernel_rfl

/-- depot/depotref04.Step -/
def h130 : Hints := ⟨[(0, [(5, .lf (.int .u32)), (6, .lf (.int .i64))])], [], []⟩
def t130 (x0 : Int) (x1 : Int) (K : Value → HP) : HP :=
  cl PP 129 #[.int .i64 x0] [.lf (.int .u32)] fun r1 =>
  lp [.lf (.int .u32), .lf (.int .i64)] (bitI .xor .u32 r1.1 (IntKind.u32.wrap x1), 0, ()) fun z1 go1 =>   -- s, i
   ifB (decide ((z1.2.1 : Int) < 8)) (
    req ((2 : Int) ≠ 0) <|
    req ((2 : Int) ≠ 0) <|
    ifB ((Int.tmod z1.1 2 : Int) == 1) (
     go1 (bitI .xor .u32 (IntKind.u32.wrap (Int.tdiv z1.1 2)) 2197175160, IntKind.i64.wrap (z1.2.1 + 1), ())) (
     go1 (IntKind.u32.wrap (Int.tdiv z1.1 2), IntKind.i64.wrap (z1.2.1 + 1), ()))) (
    K (.int .i64 (IntKind.i64.wrap z1.1)))
theorem e130 (x0 : Int) (x1 : Int) (K : Value → HP) : flatFn PP h130 Try.f130 [.int .i64 x0, .int .u8 x1] K = t130 x0 x1 K := by kernel_rfl

/-- depot/crc.More -/
def h131 : Hints := ⟨[], [], []⟩
def t131 (x0 : Int) (x1 : SlV) (K : Value → HP) : HP :=
  cl PP 138 #[.int .u32 (bitI .xor .u32 IntKind.u32.max (IntKind.u32.wrap x0)), .slice x1.a x1.len x1.cap] [.lf (.int .u32)] fun r1 =>
  K (.int .i64 (IntKind.i64.wrap (bitI .xor .u32 IntKind.u32.max r1.1)))
theorem e131 (x0 : Int) (x1 : SlV) (K : Value → HP) : flatFn PP h131 Try.f131 [.int .i64 x0, .slice x1.a x1.len x1.cap] K = t131 x0 x1 K := by kernel_rfl

/-- depot/crc.steps -/
def h138 : Hints := ⟨[(0, [(0, .lf (.int .u32)), (10, .lf (.int .i64))]), (2, [(0, .lf (.int .u32)), (18, .lf (.int .i64))])], [], []⟩
def t138 (x0 : Int) (x1 : SlV) (K : Value → HP) : HP :=
  lp [.lf (.int .u32), .lf (.int .i64)] (x0, 0, ()) fun z1 go1 =>   -- s, 
   ifB (decide ((z1.2.1 : Int) < x1.len)) (
    nilc x1.a fun a1 =>
    ixn z1.2.1 x1.len <|
    ld (Addr.add a1 (z1.2.1.toNat * 1)) (.lf (.int .u8)) fun v1 =>
    lp [.lf (.int .u32), .lf (.int .i64)] (bitI .xor .u32 z1.1 (IntKind.u32.wrap v1), 0, ()) fun z2 go2 =>   -- s, 
     ifB (decide ((z2.2.1 : Int) < 8)) (
      req ((0 : Int) ≤ 1) <|
      go2 (bitI .xor .u32 (Int.fdiv z2.1 (2 ^ (min (1 : Int).toNat IntKind.u32.bits))) (bitI .and .u32 2197175160 (IntKind.u32.wrap (0 - (bitI .and .u32 z2.1 1)))), IntKind.i64.wrap (z2.2.1 + 1), ())) (
      go1 (z2.1, IntKind.i64.wrap (z1.2.1 + 1), ()))) (
    K (.int .u32 z1.1))
theorem e138 (x0 : Int) (x1 : SlV) (K : Value → HP) : flatFn PP h138 Try.f138 [.int .u32 x0, .slice x1.a x1.len x1.cap] K = t138 x0 x1 K := by kernel_rfl

end Go.Proofs.Ytlabcgnegbdlfaa
set_option linter.unusedVariables false
set_option linter.unusedSimpArgs false
namespace Go.Proofs.Ytlabcgnegbdlfaa
open Go.HL

abbrev tB : TypeId := 40
abbrev eB : TypeId := 5
theorem undB : PP.underlying tB = some (.slice eB) := by kernel_rfl
theorem elemB : ElemT PP tB eB 1 1 [.int .u8 0] := elemT_of (by kernel_rfl) (by kernel_rfl) rfl (by decide) (by decide)
theorem srcB : SrcT PP tB := .inl ⟨eB, by kernel_rfl⟩
theorem constB {L : HList} {b : Nat} {l : List UInt8} {T : TypeId} {fz : Nat × Nat} (cap : Nat) (hc : l.length ≤ cap) (hm : (b, Obj.cells (bvs l).toArray T fz) ∈ L) : BSl L ⟨some ⟨b, 0, none⟩, l.length, cap⟩ l :=
  ⟨by rw [bvs_length]; simp, hc, .inr ⟨_, rfl, .blk hm fun i v hv => by simpa using hv⟩⟩
theorem own_empty {n : Nat} {e : TypeId} : Own ⟨some ⟨n, 0, none⟩, 0, 0⟩ 1 e [] [(n, Obj.cells #[] e)] := ⟨rfl, Nat.le_refl _, .inr ⟨n, 0, #[], (0, 0), rfl, rfl, by simp, .inl (Nat.le_refl _), fun i u hu => by simp at hu⟩⟩
theorem own_nil {sz : Nat} {e : TypeId} : Own ⟨none, 0, 0⟩ sz e [] [] := ⟨by simp, Nat.le_refl _, .inl ⟨rfl, rfl, rfl⟩⟩

def dig (n i : Nat) : UInt8 := UInt8.ofNat (n / 256 ^ i)
def digs (n w : Nat) : List UInt8 := (List.range w).map (dig n)
theorem digs_len (n w : Nat) : (digs n w).length = w := by simp [digs]
theorem digs_succ (n w : Nat) : digs n (w + 1) = digs n w ++ [dig n w] := by simp [digs, List.range_succ]
theorem digs_cons (n w : Nat) : digs n (w + 1) = UInt8.ofNat n :: digs (n / 256) w := by
  induction w with
  | zero => simp [digs, dig]
  | succ w ih =>
    rw [digs_succ n (w + 1), ih, digs_succ (n / 256) w]
    have : dig n (w + 1) = dig (n / 256) w := by
      unfold dig
      rw [Nat.pow_succ, Nat.mul_comm, Nat.div_div_eq_div_mul]
    rw [this]; rfl
/-- A list's number, the lowest byte first. -/
def num : List UInt8 → Nat
  | [] => 0
  | x :: r => x.toNat + 256 * num r
theorem num_lt : ∀ l : List UInt8, num l < 256 ^ l.length
  | [] => by simp [num]
  | x :: r => by
    have h1 := num_lt r
    have h2 := x.toNat_lt
    rw [List.length_cons, Nat.pow_succ]
    simp only [num]
    omega
theorem num_snoc (l : List UInt8) (x : UInt8) : num (l ++ [x]) = num l + 256 ^ l.length * x.toNat := by
  induction l with
  | nil => simp [num]
  | cons y r ih =>
    rw [List.cons_append]
    simp only [num, ih, List.length_cons, Nat.pow_succ]
    rw [Nat.mul_add, ← Nat.add_assoc, Nat.mul_comm (256 ^ r.length) 256, Nat.mul_assoc]
theorem num_digs (w : Nat) : ∀ n, n < 256 ^ w → num (digs n w) = n := by
  induction w with
  | zero => intro n h; simp at h; subst h; rfl
  | succ w ih =>
    intro n h
    rw [digs_cons]
    simp only [num]
    rw [ih (n / 256) (by rw [Nat.pow_succ] at h; omega)]
    have : (UInt8.ofNat n).toNat = n % 256 := by simp
    rw [this]
    exact Nat.mod_add_div n 256

/-- What is put. -/
def wput (b : List UInt8) (n w : Int) : List UInt8 × Int :=
  if w < 1 ∨ 7 < w then ([], 2) else if n < 0 ∨ ((256 ^ w.toNat : Nat) : Int) ≤ n then ([], 3) else (b ++ digs n.toNat w.toNat, 0)
theorem wput_w {b : List UInt8} {n w : Int} (h : w < 1 ∨ 7 < w) : wput b n w = ([], 2) := by unfold wput; rw [if_pos h]
theorem wput_neg {b : List UInt8} {n w : Int} (h : ¬ (w < 1 ∨ 7 < w)) (h2 : n < 0) : wput b n w = ([], 3) := by unfold wput; rw [if_neg h, if_pos (Or.inl h2)]
theorem wput_big {b : List UInt8} {n w : Int} (h : ¬ (w < 1 ∨ 7 < w)) (h2 : ((256 ^ w.toNat : Nat) : Int) ≤ n) : wput b n w = ([], 3) := by unfold wput; rw [if_neg h, if_pos (Or.inr h2)]
theorem wput_ok {b : List UInt8} {n w : Int} (h : ¬ (w < 1 ∨ 7 < w)) (h1 : ¬ n < 0) (h2 : n.toNat < 256 ^ w.toNat) : wput b n w = (b ++ digs n.toNat w.toNat, 0) := by
  unfold wput
  rw [if_neg h, if_neg]
  rintro (h3 | h3)
  · exact h1 h3
  · generalize 256 ^ w.toNat = q at h2 h3
    omega
def PutK (b : List UInt8) (n w : Int) (A : HList) (v : Value) (L' : HList) : Prop := ∃ (s : SlV) (seg : HList), v = .tuple #[.slice s.a s.len s.cap, .int .i64 (wput b n w).2] ∧ L' = seg ++ A ∧ Own s 1 eB (bvs (wput b n w).1) seg
theorem PutK.err {b : List UInt8} {n w : Int} {A : HList} {e : Int} (h : wput b n w = ([], e)) : PutK b n w A (.tuple #[.slice none 0 0, .int .i64 e]) A :=
  ⟨⟨none, 0, 0⟩, [], by rw [h], rfl, by rw [h]; exact own_nil⟩

theorem shr_dig (n : Nat) (i : Nat) : Int.fdiv (n : Int) (2 ^ (8 * i)) = ((n / 256 ^ i : Nat) : Int) := by
  rw [Int.fdiv_eq_ediv_of_nonneg _ (Int.le_of_lt (Int.pow_pos (by omega)))]
  have : (2 : Int) ^ (8 * i) = ((256 ^ i : Nat) : Int) := by rw [Int.pow_mul, Int.natCast_pow]; rfl
  rw [this, Int.natCast_ediv]
theorem wrap_dig (n i : Nat) : IntKind.u8.wrap ((n / 256 ^ i : Nat) : Int) = ((dig n i).toNat : Int) := by
  rw [w8_bv, BitVec.toNat_ofInt]
  unfold dig
  have : (UInt8.ofNat (n / 256 ^ i)).toNat = n / 256 ^ i % 256 := by simp
  rw [this]
  omega
theorem digs8 (n : Nat) : digs n 8 = [dig n 0, dig n 1, dig n 2, dig n 3, dig n 4, dig n 5, dig n 6, dig n 7] := rfl
theorem wr8 (c : Array Value) (hc : c.size = 8) (a b c' d e f g h : UInt8) : wr c 0 [.int .u8 a.toNat, .int .u8 b.toNat, .int .u8 c'.toNat, .int .u8 d.toNat, .int .u8 e.toNat, .int .u8 f.toNat, .int .u8 g.toNat, .int .u8 h.toNat] = (bvs [a, b, c', d, e, f, g, h]).toArray := wr_all _ _ (by rw [hc]; rfl)
def digA (n k : Nat) : Array Value := ((List.range 8).map fun j => Value.int .u8 (if j < k then (dig n j).toNat else 0)).toArray
theorem of_rd (L : HList) (n : Nat) : Reads PP 106 #[.int .i64 n] L (.agg (bvs (digs n 8)).toArray) := by
  refine Reads.of (args := [.int .i64 n]) noNum mixed Try.func106 (e106 n _) ?_
  unfold t106
  refine nw_of fun n1 _ => nw_of fun n2 _ => ?_
  refine lp_of (fun k z L' => ∃ i, i ≤ 8 ∧ k = 8 - i ∧ z = ((i : Int), ()) ∧ L' = (n2, Obj.cells (digA n i) 184) :: (n1, Obj.cells #[.int .u8 0, .int .u8 0, .int .u8 0, .int .u8 0, .int .u8 0, .int .u8 0, .int .u8 0, .int .u8 0] 184) :: L) 8 ⟨0, by omega, by omega, rfl, rfl⟩ ?_
  rintro k z L' ⟨i, hi, rfl, rfl, rfl⟩
  refine ifD_of (fun (hlt : (i : Int) < 8) => ?_) (fun (hge : ¬ (i : Int) < 8) => ?_)
  · have hw : IntKind.i64.wrap (8 * (i : Int)) = ((8 * i : Nat) : Int) := by rw [w64_id (by omega) (by omega)]; omega
    have hm : min (8 * i) IntKind.i64.bits = 8 * i := Nat.min_eq_left (show 8 * i ≤ 64 by omega)
    simp only [hw, Int.toNat_natCast, hm, shr_dig, wrap_dig, Nat.mul_one]
    refine req_of (by omega) (ixn_of (by omega) hlt (st_of (n := n2) (off := i) [] _ (by rw [addr_add (ad := ⟨n2, 0, none⟩) rfl, Nat.zero_add]) rfl ?_ (.inl (Nat.le_refl _)) (digA n (i + 1)) ?_ ?_))
    · have : (digA n i).size = 8 := by simp [digA]
      rw [this]; simp only [List.length_cons, List.length_nil]; omega
    · rcases (show i = 0 ∨ i = 1 ∨ i = 2 ∨ i = 3 ∨ i = 4 ∨ i = 5 ∨ i = 6 ∨ i = 7 by omega) with rfl | rfl | rfl | rfl | rfl | rfl | rfl | rfl <;> rfl
    · refine ⟨8 - (i + 1), by omega, i + 1, by omega, rfl, ?_, rfl⟩
      rw [w64_id (by first | omega | (simp only; omega)) (by first | omega | (simp only; omega))]
      rfl
  · obtain rfl : i = 8 := by omega
    refine ld_of ((dig n 0).toNat, (dig n 1).toNat, (dig n 2).toNat, (dig n 3).toNat, (dig n 4).toNat, (dig n 5).toNat, (dig n 6).toNat, (dig n 7).toNat, ()) (ldB List.mem_cons_self rfl) ?_
    rw [digs8]
    refine st_of [(n2, Obj.cells (digA n 8) 184)] L rfl rfl (by simp) (.inl (Nat.le_refl _)) _ (wr8 _ rfl _ _ _ _ _ _ _ _) ?_
    refine ld_of ((dig n 0).toNat, (dig n 1).toNat, (dig n 2).toNat, (dig n 3).toNat, (dig n 4).toNat, (dig n 5).toNat, (dig n 6).toNat, (dig n 7).toNat, ()) (ldB (List.mem_cons_of_mem _ List.mem_cons_self) rfl) ?_
    exact .drop (A := L) (J := [_, _]) ⟨rfl, rfl⟩ (List.perm_append_comm (l₁ := [_, _]))
theorem pow_le7 {w : Nat} (h : w ≤ 7) : 256 ^ w ≤ 72057594037927936 := Nat.pow_le_pow_right (n := 256) (by omega) h
theorem wput_cl (A : HList) (v : SlV) (b : List UInt8) (hb : BSl A v b) (hl : b.length ≤ 1000000) (n w : Int) (hn : n ≤ 9223372036854775807) :
    CallF PP 70 #[.slice v.a v.len v.cap, .int .i64 n, .int .i64 w] A (PutK b n w A) := by
  refine CallF.of (args := [.slice v.a v.len v.cap, .int .i64 n, .int .i64 w]) noNum mixed Try.func70 (e70 v n w _) ?_
  unfold t70
  have hlen := hb.len
  refine ifD_of (fun (h1 : w < 1) => .of (.err (wput_w (by omega)))) (fun (h1 : ¬ w < 1) => ?_)
  refine ifD_of (fun (h2 : w > 7) => .of (.err (wput_w (by omega)))) (fun (h2 : ¬ w > 7) => ?_)
  refine ifD_of (fun (h3 : n < 0) => .of (.err (wput_neg (by omega) h3))) (fun (h3 : ¬ n < 0) => ?_)
  obtain ⟨m, rfl⟩ : ∃ m : Nat, n = m := ⟨n.toNat, by omega⟩
  obtain ⟨u, rfl⟩ : ∃ u : Nat, w = u := ⟨w.toNat, by omega⟩
  have hp7 := pow_le7 (w := u) (by omega)
  have hw : IntKind.i64.wrap (8 * (u : Int)) = ((8 * u : Nat) : Int) := by rw [w64_id (by omega) (by omega)]; omega
  have hm : min (8 * u) IntKind.i64.bits = 8 * u := Nat.min_eq_left (show 8 * u ≤ 64 by omega)
  simp only [hw, Int.toNat_natCast, hm, shr_dig]
  refine req_of (by omega) (ifNe_of (fun (h4 : ((m / 256 ^ u : Nat) : Int) ≠ 0) => .of (.err ?_)) (fun (h4 : ((m / 256 ^ u : Nat) : Int) = 0) => ?_))
  · refine wput_big (by omega) ?_
    rw [Int.toNat_natCast]
    have : 256 ^ u ≤ m := by
      refine Nat.le_of_not_lt fun hlt => h4 ?_
      simp [Nat.div_eq_of_lt hlt]
    generalize 256 ^ u = q at this
    omega
  · have hlt : m < 256 ^ u := by
      refine Nat.lt_of_not_le fun hle => ?_
      have := Nat.div_pos hle (Nat.pow_pos (by omega))
      omega
    have hput : wput b m u = (b ++ digs m u, 0) := by
      have := wput_ok (b := b) (n := m) (w := u) (by omega) (by omega) (by simpa using hlt)
      simpa using this
    refine cl_rd (of_rd A m) (((dig m 0).toNat, (dig m 1).toNat, (dig m 2).toNat, (dig m 3).toNat, (dig m 4).toNat, (dig m 5).toNat, (dig m 6).toNat, (dig m 7).toNat, ()), ()) rfl ?_
    refine nw_of fun n1 _ => st_of [] A rfl rfl (by simp) (.inl (Nat.le_refl _)) (bvs (digs m 8)).toArray (by rw [digs8]; exact wr8 _ rfl _ _ _ _ _ _ _ _) ?_
    have hc : IntKind.i64.wrap ((v.len : Int) + (u : Int)) = ((v.len + u : Nat) : Int) := by rw [w64_id (by omega) (by omega)]; omega
    rw [hc]
    refine make_of (l := 0) (c := v.len + u) elemB (by omega) (by omega) fun n2 ob own0 _ _ => ?_
    have z0 : zeros [Value.int .u8 0] 0 = [] := rfl
    rw [z0] at own0
    refine append_in elemB srcB [] ([(n1, Obj.cells (bvs (digs m 8)).toArray 184)] ++ A) own0 (by simp) (.sl (hb.mono fun p hp => by simp [hp])) (bvs_plain _) (by simp only; omega) fun s1 seg1 hs1 own1 => ?_
    simp only at hs1
    refine slc_of (l' := 0) (h' := u) (m' := 8) rfl rfl rfl (by omega) (by omega) (Nat.le_refl _) ?_
    have hd : BSl ([] ++ seg1 ++ ([(n1, Obj.cells (bvs (digs m 8)).toArray 184)] ++ A)) ⟨some ⟨n1, 0, none⟩, 8, 8⟩ (digs m 8) := constB (l := digs m 8) (T := 184) (fz := (0, 0)) 8 (by rw [digs_len]; exact Nat.le_refl _) (by simp)
    have hd2 := Sl.slc (l := 0) (h' := u) (m := 8) hd (by omega) (by omega) (by simp only; omega) (by omega)
    rw [bvs_slc] at hd2
    have e1 : ((digs m 8).drop 0).take (u - 0) = digs m u := by
      rcases (show u = 1 ∨ u = 2 ∨ u = 3 ∨ u = 4 ∨ u = 5 ∨ u = 6 ∨ u = 7 by omega) with rfl | rfl | rfl | rfl | rfl | rfl | rfl <;> rfl
    rw [e1] at hd2
    refine append_in elemB srcB [] ([(n1, Obj.cells (bvs (digs m 8)).toArray 184)] ++ A) own1 rfl (.sl hd2) (bvs_plain _) (by simp only [slcV, Int.toNat_natCast]; omega) fun s2 seg2 hs2 own2 => ?_
    rw [List.nil_append, ← bvs_append] at own2
    refine .drop (A := seg2 ++ A) (J := [(n1, Obj.cells (bvs (digs m 8)).toArray 184)]) ⟨s2, seg2, by rw [hput], rfl, by rw [hput]; exact own2⟩ ?_
    have h1 : ([(n1, Obj.cells (bvs (digs m 8)).toArray 184)] ++ A).Perm (A ++ [(n1, Obj.cells (bvs (digs m 8)).toArray 184)]) := List.perm_append_comm
    simpa [List.append_assoc] using List.Perm.append_left seg2 h1
theorem tdiv_step (n i : Nat) : Int.tdiv ((n / 256 ^ i : Nat) : Int) 256 = ((n / 256 ^ (i + 1) : Nat) : Int) := by
  rw [Int.tdiv_eq_ediv_of_nonneg (Int.natCast_nonneg _), Nat.pow_succ, ← Nat.div_div_eq_div_mul]
  omega
theorem tmod_dig (n i : Nat) : IntKind.u8.wrap (Int.tmod ((n / 256 ^ i : Nat) : Int) 256) = ((dig n i).toNat : Int) := by
  rw [Int.tmod_eq_emod_of_nonneg (Int.natCast_nonneg _), w8_bv, BitVec.toNat_ofInt]
  unfold dig
  have : (UInt8.ofNat (n / 256 ^ i)).toNat = n / 256 ^ i % 256 := by simp
  rw [this]
  omega
theorem tmod_any (x : Int) : ∃ d : UInt8, IntKind.u8.wrap x = (d.toNat : Int) := by
  refine ⟨UInt8.ofNat (BitVec.ofInt 8 x).toNat, ?_⟩
  rw [w8_bv]
  have h := (BitVec.ofInt 8 x).isLt
  have : (UInt8.ofNat (BitVec.ofInt 8 x).toNat).toNat = (BitVec.ofInt 8 x).toNat % 256 := by simp
  rw [this]
  omega
theorem rput_cl (A : HList) (v : SlV) (b : List UInt8) (hb : BSl A v b) (hl : b.length ≤ 1000000) (n w : Int) (hn : n ≤ 9223372036854775807) (hn0 : -9223372036854775808 ≤ n) :
    CallF PP 71 #[.slice v.a v.len v.cap, .int .i64 n, .int .i64 w] A (PutK b n w A) := by
  refine CallF.of (args := [.slice v.a v.len v.cap, .int .i64 n, .int .i64 w]) noNum mixed Try.func71 (e71 v n w _) ?_
  unfold t71
  have hlen := hb.len
  refine ifD_of (fun (h1 : w < 1) => .of (.err (wput_w (by omega)))) (fun (h1 : ¬ w < 1) => ?_)
  refine ifD_of (fun (h2 : w > 7) => .of (.err (wput_w (by omega)))) (fun (h2 : ¬ w > 7) => ?_)
  obtain ⟨u, rfl⟩ : ∃ u : Nat, w = u := ⟨w.toNat, by omega⟩
  refine nw_of fun q _ => append_in elemB srcB [] A own_empty (by simp) (.sl hb.cons) (bvs_plain _) (by simp only; omega) fun s0 seg0 hs0 own0 => ?_
  simp only at hs0
  refine lp_of (fun k z L' => ∃ (i : Nat) (s : SlV) (left : Int) (bs : List UInt8) (seg J : HList), i ≤ u ∧ k = u - i ∧ z = (s, left, (i : Int), ()) ∧ L' = J ++ seg ++ A ∧ bs.length = i ∧ Own s 1 eB (bvs (b ++ bs)) seg ∧ -9223372036854775808 ≤ left ∧ left ≤ 9223372036854775807 ∧
      (0 ≤ n → bs = digs n.toNat i ∧ left = ((n.toNat / 256 ^ i : Nat) : Int))) u
    ⟨0, s0, n, [], seg0, [], by omega, by omega, rfl, by simp, rfl, by simpa using own0, hn0, hn, fun h0 => ⟨rfl, by rw [Nat.pow_zero, Nat.div_one]; omega⟩⟩ ?_
  rintro k z L' ⟨i, s, left, bs, seg, J, hi, rfl, rfl, rfl, hbs, own, hlo, hhi, hd⟩
  have hsl := own.sl.len
  rw [bvs_length, List.length_append] at hsl
  refine ifD_of (fun (hlt : (i : Int) < u) => ?_) (fun (hge : ¬ (i : Int) < u) => ?_)
  · obtain ⟨d, hdd⟩ := tmod_any (Int.tmod left 256)
    have hq : -9223372036854775808 ≤ Int.tdiv left 256 ∧ Int.tdiv left 256 ≤ 9223372036854775807 := by
      rcases Int.lt_or_le left 0 with hneg | hpos
      · have : Int.tdiv left 256 = -(Int.tdiv (-left) 256) := by rw [Int.neg_tdiv, Int.neg_neg]
        have h2 : Int.tdiv (-left) 256 = (-left) / 256 := Int.tdiv_eq_ediv_of_nonneg (by omega)
        omega
      · have h2 : Int.tdiv left 256 = left / 256 := Int.tdiv_eq_ediv_of_nonneg hpos
        omega
    simp only [hdd]
    refine req_of (by decide) (nw_of fun m _ => append_in elemB srcB ((m, Obj.cells #[.int .u8 (d.toNat : Int)] eB) :: J) A own rfl (.sl (constB (l := [d]) 1 (Nat.le_refl _) List.mem_cons_self)) (bvs_plain _) (by simp only [List.length_cons, List.length_nil]; omega) fun s' seg' hs' own' => ?_)
    rw [← bvs_append, List.append_assoc] at own'
    refine req_of (by decide) ⟨u - (i + 1), by omega, i + 1, s', Int.tdiv left 256, bs ++ [d], seg', (m, Obj.cells #[.int .u8 (d.toNat : Int)] eB) :: J, by omega, rfl, ?_, rfl, by simp [hbs], own', hq.1, hq.2, fun h0 => ?_⟩
    · rw [w64_id (n := Int.tdiv left 256) hq.1 hq.2, w64_id (by first | omega | (simp only; omega)) (by first | omega | (simp only; omega))]
      rfl
    · obtain ⟨e1, e2⟩ := hd h0
      rw [e2, tmod_dig] at hdd
      have hd2 : dig n.toNat i = d := UInt8.toNat_inj.1 (by omega)
      rw [e1, e2, tdiv_step, digs_succ, hd2]
      exact ⟨rfl, rfl⟩
  · obtain rfl : i = u := by omega
    have fin : ∀ {v : Value}, PutK b n i A v A → HL.Ends (PutK b n i A) v (J ++ seg ++ A) := fun h => .drop (A := A) (J := J ++ seg) h List.perm_append_comm
    refine ifD_of (fun (h3 : n < 0) => fin (.err (wput_neg (by omega) h3))) (fun (h3 : ¬ n < 0) => ?_)
    obtain ⟨e1, e2⟩ := hd (by omega)
    have hpos : 0 < 256 ^ i := Nat.pow_pos (by omega)
    refine ifD_of (fun (h4 : left > 0) => fin (.err ?_)) (fun (h4 : ¬ left > 0) => ?_)
    · refine wput_big (by omega) ?_
      rw [Int.toNat_natCast]
      have : 256 ^ i ≤ n.toNat := by
        refine Nat.le_of_not_lt fun hlt => ?_
        rw [Nat.div_eq_of_lt hlt] at e2
        omega
      generalize 256 ^ i = q at this
      omega
    · have hlt : n.toNat < 256 ^ i := by
        refine Nat.lt_of_not_le fun hle => ?_
        have := Nat.div_pos hle hpos
        omega
      have hput : wput b n i = (b ++ digs n.toNat i, 0) := by
        have := wput_ok (b := b) (n := n) (w := i) (by omega) h3 (by simpa using hlt)
        simpa using this
      rw [e1] at own
      refine .drop (A := seg ++ A) (J := J) ⟨s, seg, by rw [hput], rfl, by rw [hput]; exact own⟩ ?_
      rw [List.append_assoc]
      exact List.perm_append_comm
end Go.Proofs.Ytlabcgnegbdlfaa
set_option linter.unusedVariables false
set_option linter.unusedSimpArgs false
namespace Go.Proofs.Ytlabcgnegbdlfaa
open Go.HL

abbrev tPs : TypeId := 22
theorem elemPs : ElemT PP tPs tB 1 24 [.slice none 0 0] := elemT_of (by kernel_rfl) (by kernel_rfl) rfl (by decide) (by decide)
theorem srcPs : SrcT PP tPs := .inl ⟨tB, by kernel_rfl⟩
/-- Bytes with their own place. -/
structure PG where
  v : SlV
  seg : HList
  l : List UInt8
def PG.Ok (g : PG) : Prop := Own g.v 1 eB (bvs g.l) g.seg
def PG.val (g : PG) : Value := .slice g.v.a g.v.len g.v.cap
def pgs (l : List PG) : HList := l.flatMap PG.seg
theorem pgs_append (a b : List PG) : pgs (a ++ b) = pgs a ++ pgs b := List.flatMap_append
theorem pgs_cons (a : PG) (b : List PG) : pgs (a :: b) = a.seg ++ pgs b := rfl
theorem pgs_one (a : PG) : pgs [a] = a.seg := by simp [pgs]
def pg0 : PG := ⟨⟨none, 0, 0⟩, [], []⟩
theorem pg0_ok : pg0.Ok := own_nil
/-- Bytes that are read. -/
abbrev PV := SlV × List UInt8
def pvV (x : PV) : Value := .slice x.1.a x.1.len x.1.cap
def pvs (l : List PG) : List PV := l.map fun g => (g.v, g.l)
theorem pvs_val (l : List PG) : (pvs l).map pvV = l.map PG.val := by unfold pvs; rw [List.map_map]; rfl
structure Parts (L : HList) (v : SlV) (l : List PV) : Prop where
  sl : Sl L v 1 (l.map pvV)
  val : ∀ x ∈ l, BSl L x.1 x.2
theorem Parts.mono {L R : HList} {v : SlV} {l : List PV} (h : Parts L v l) (hs : ∀ p ∈ L, p ∈ R) : Parts R v l := ⟨h.sl.mono hs, fun x hx => Sl.mono (h.val x hx) hs⟩
theorem Parts.len {L : HList} {v : SlV} {l : List PV} (h : Parts L v l) : v.len = l.length := by have := h.sl.len; rw [List.length_map] at this; omega
theorem Parts.at' {L : HList} {v : SlV} {l : List PV} (h : Parts L v l) {i : Nat} (hi : i < l.length) : ∃ a, v.a = some a ∧ LdAt (Addr.add a ((i : Int).toNat * 1)) [pvV l[i]] L := by
  have hl := h.len
  obtain ⟨a, ha, hld⟩ := h.sl.at' (i := i) (by omega) (by decide)
  refine ⟨a, ha, ?_⟩
  rw [Int.toNat_natCast, Nat.mul_one]
  exact hld.one i (by rw [List.getElem?_map, List.getElem?_eq_getElem hi]; rfl)
theorem parts_of {L : HList} {v : SlV} {gs : List PG} {seg : HList} (own : Own v 1 tB (gs.map PG.val) seg) (hg : ∀ g ∈ gs, g.Ok) (h1 : ∀ x ∈ seg, x ∈ L) (h2 : ∀ x ∈ pgs gs, x ∈ L) : Parts L v (pvs gs) := by
  refine ⟨by rw [pvs_val]; exact own.sl.mono h1, fun x hx => ?_⟩
  obtain ⟨g, hgm, rfl⟩ := List.mem_map.1 hx
  exact Sl.mono (hg g hgm).sl fun y hy => h2 y (List.mem_flatMap.2 ⟨g, hgm, hy⟩)
end Go.Proofs.Ytlabcgnegbdlfaa
set_option linter.unusedVariables false
set_option linter.unusedSimpArgs false
namespace Go.Proofs.Ytlabcgnegbdlfaa
open Go.HL

theorem fewp_cl (L : HList) (v : SlV) (l : List PV) (h : Parts L v l) (hl : l.length ≤ 9223372036854775807) (most bytes : Int) :
    CallF PP 8 #[.slice v.a v.len v.cap, .int .i64 most, .int .i64 bytes] L fun r L' => L' = L ∧ ∃ b, r = .bool b ∧ (b = true → (l.length : Int) ≤ most ∧ ∀ x ∈ l, (x.2.length : Int) ≤ bytes) := by
  refine CallF.of (args := [.slice v.a v.len v.cap, .int .i64 most, .int .i64 bytes]) noNum mixed Try.func8 (e8 v most bytes _) ?_
  unfold t8
  have hlen := h.len
  refine lp_of (fun k z L' => L' = L ∧ ∃ i : Nat, i ≤ l.length ∧ k = l.length - i ∧ z = ((i : Int), ()) ∧ ∀ x ∈ l.take i, (x.2.length : Int) ≤ bytes) l.length ⟨rfl, 0, by omega, by omega, rfl, by simp⟩ ?_
  rintro k z L1 ⟨hL1, i, hi, rfl, rfl, hall⟩
  rw [hL1]
  refine ifD_of (fun (hlt : (i : Int) < (v.len : Int)) => ?_) (fun (hge : ¬ (i : Int) < (v.len : Int)) => ?_)
  · have hi' : i < l.length := by omega
    refine ifD_of (fun (hle : (i : Int) ≤ most) => ?_) (fun (hle : ¬ (i : Int) ≤ most) => .of ⟨rfl, _, rfl, fun hb => ?_⟩)
    · obtain ⟨a, ha, l1⟩ := h.at' hi'
      have hb := (h.val l[i] (List.getElem_mem hi')).len
      refine nilc_of ha (ixn_of (show (0 : Int) ≤ (i : Int) by omega) hlt (ld_of l[i].1 l1 ?_))
      refine ifD_of (fun (h4 : (l[i].1.len : Int) > bytes) => .of ⟨rfl, false, rfl, fun h => by cases h⟩) (fun (h4 : ¬ (l[i].1.len : Int) > bytes) => ?_)
      refine ⟨l.length - (i + 1), by omega, rfl, i + 1, by omega, rfl, ?_, fun x hx => ?_⟩
      · rw [w64_id (by first | omega | (simp only; omega)) (by first | omega | (simp only; omega))]
        rfl
      · rw [List.take_succ_eq_append_getElem hi'] at hx
        rcases List.mem_append.1 hx with hx | hx
        · exact hall x hx
        · rw [List.mem_singleton.1 hx]; omega
    · have := of_decide_eq_true hb
      omega
  · obtain rfl : i = l.length := by omega
    rw [List.take_length] at hall
    refine .of ⟨rfl, _, rfl, fun hb => ⟨?_, hall⟩⟩
    have := of_decide_eq_true hb
    omega
end Go.Proofs.Ytlabcgnegbdlfaa
set_option linter.unusedVariables false
set_option linter.unusedSimpArgs false
namespace Go.Proofs.Ytlabcgnegbdlfaa
open Go.HL

/-- What is got. -/
def wget (b : List UInt8) (at' w : Int) : Int × Int :=
  if w < 1 ∨ 7 < w then (0, 2) else if at' < 0 ∨ (b.length : Int) < at' + w then (0, 6) else ((num ((b.drop at'.toNat).take w.toNat) : Int), 0)
theorem wget_w {b : List UInt8} {a w : Int} (h : w < 1 ∨ 7 < w) : wget b a w = (0, 2) := by unfold wget; rw [if_pos h]
theorem wget_short {b : List UInt8} {a w : Int} (h : ¬ (w < 1 ∨ 7 < w)) (h2 : a < 0 ∨ (b.length : Int) < a + w) : wget b a w = (0, 6) := by unfold wget; rw [if_neg h, if_pos h2]
theorem wget_ok {b : List UInt8} {a w : Nat} (h : 1 ≤ w) (h7 : w ≤ 7) (h2 : a + w ≤ b.length) : wget b a w = ((num ((b.drop a).take w) : Int), 0) := by
  unfold wget
  rw [if_neg (by omega), if_neg (by omega), Int.toNat_natCast, Int.toNat_natCast]
theorem pow256 (w : Nat) (h : w ≤ 7) : 0 < 256 ^ w ∧ 256 ^ w ≤ 72057594037927936 := ⟨Nat.pow_pos (by omega), pow_le7 h⟩
theorem num_le {l : List UInt8} {w : Nat} (hl : l.length ≤ w) (hw : w ≤ 7) : num l < 256 ^ w := Nat.lt_of_lt_of_le (num_lt l) (Nat.pow_le_pow_right (by omega) hl)
theorem take_step (b : List UInt8) (a i : Nat) (h : a + i < b.length) : (b.drop a).take (i + 1) = (b.drop a).take i ++ [b[a + i]] := by
  rw [List.take_succ_eq_append_getElem (by rw [List.length_drop]; omega)]
  congr 2
  simp
theorem wget_rd (L : HList) (v : SlV) (b : List UInt8) (hb : BSl L v b) (hl : b.length ≤ 1000000000) (a w : Int) :
    Reads PP 72 #[.slice v.a v.len v.cap, .int .i64 a, .int .i64 w] L (.tuple #[.int .i64 (wget b a w).1, .int .i64 (wget b a w).2]) := by
  refine Reads.of (args := [.slice v.a v.len v.cap, .int .i64 a, .int .i64 w]) noNum mixed Try.func72 (e72 v a w _) ?_
  unfold t72
  have hlen := hb.len
  refine ifD_of (fun (h1 : w < 1) => .of ⟨by rw [wget_w (by omega)], rfl⟩) (fun (h1 : ¬ w < 1) => ?_)
  refine ifD_of (fun (h2 : w > 7) => .of ⟨by rw [wget_w (by omega)], rfl⟩) (fun (h2 : ¬ w > 7) => ?_)
  refine ifD_of (fun (h3 : a < 0) => .of ⟨by rw [wget_short (by omega) (.inl h3)], rfl⟩) (fun (h3 : ¬ a < 0) => ?_)
  refine ifD_of (fun (h4 : a > v.len) => .of ⟨by rw [wget_short (by omega) (.inr (by omega))], rfl⟩) (fun (h4 : ¬ a > v.len) => ?_)
  rw [w64_id (n := (v.len : Int) - a) (by omega) (by omega)]
  refine ifD_of (fun (h5 : w > (v.len : Int) - a) => .of ⟨by rw [wget_short (by omega) (.inr (by omega))], rfl⟩) (fun (h5 : ¬ w > (v.len : Int) - a) => ?_)
  obtain ⟨a, rfl⟩ : ∃ u : Nat, a = u := ⟨a.toNat, by omega⟩
  obtain ⟨w, rfl⟩ : ∃ u : Nat, w = u := ⟨w.toNat, by omega⟩
  have hfit : a + w ≤ b.length := by omega
  rw [wget_ok (by omega) (by omega) hfit]
  refine lp_of (fun k z L' => L' = L ∧ ∃ i : Nat, i ≤ w ∧ k = w - i ∧ z = ((num ((b.drop a).take i) : Int), ((256 ^ i : Nat) : Int), (i : Int), ())) w ⟨rfl, 0, by omega, by omega, rfl⟩ ?_
  rintro k z L ⟨rfl, i, hi, rfl, rfl⟩
  refine ifD_of (fun (hlt : (i : Int) < w) => ?_) (fun (hge : ¬ (i : Int) < w) => ?_)
  · have hai : a + i < b.length := by omega
    obtain ⟨ad, ha⟩ := hb.some hai
    have e1 : IntKind.i64.wrap ((a : Int) + i) = ((a + i : Nat) : Int) := by rw [w64_id (by omega) (by omega)]; omega
    simp only [e1]
    refine nilc_of ha (ixn_of (by omega) (by omega) (ld_of (b[a + i].toNat : Int) (hb.rd hai ha _ (by omega)) ?_))
    have hp := pow256 i (by omega)
    have hx := b[a + i].toNat_lt
    have hn := num_le (l := (b.drop a).take i) (w := i) (List.length_take_le _ _) (by omega)
    have hlt6 : 256 ^ i ≤ 281474976710656 := Nat.le_trans (Nat.pow_le_pow_right (by omega) (show i ≤ 6 by omega)) (by decide)
    have hm : 256 ^ i * b[a + i].toNat ≤ 281474976710656 * 255 := Nat.mul_le_mul hlt6 (by omega)
    refine ⟨w - (i + 1), by omega, rfl, i + 1, by omega, rfl, ?_⟩
    have hli : ((b.drop a).take i).length = i := by rw [List.length_take, List.length_drop]; omega
    rw [take_step b a i hai, num_snoc, hli]
    have e2 : ((256 ^ i : Nat) : Int) * (b[a + i].toNat : Int) = ((256 ^ i * b[a + i].toNat : Nat) : Int) := by rw [Int.natCast_mul]
    have e3 : ((256 ^ i : Nat) : Int) * 256 = ((256 ^ (i + 1) : Nat) : Int) := by rw [Nat.pow_succ, Int.natCast_mul]; rfl
    have hp1 := pow256 (i + 1) (by omega)
    simp only [w64_id (n := (b[a + i].toNat : Int)) (by omega) (by omega), e2, e3]
    generalize 256 ^ i * b[a + i].toNat = q at hm ⊢
    generalize 256 ^ (i + 1) = q2 at hp1 ⊢
    generalize 256 ^ i = q3 at hn hlt6
    rw [w64_id (n := (q : Int)) (by omega) (by omega), w64_id (n := (num ((b.drop a).take i) : Int) + q) (by omega) (by omega), w64_id (n := (q2 : Int)) (by omega) (by omega), w64_id (n := (i : Int) + 1) (by omega) (by omega)]
    simp only [Int.natCast_add, Int.cast_ofNat_Int]
  · obtain rfl : i = w := by omega
    exact .of ⟨rfl, rfl⟩
theorem rget_rd (L : HList) (v : SlV) (b : List UInt8) (hb : BSl L v b) (hl : b.length ≤ 1000000000) (a w : Int) :
    Reads PP 73 #[.slice v.a v.len v.cap, .int .i64 a, .int .i64 w] L (.tuple #[.int .i64 (wget b a w).1, .int .i64 (wget b a w).2]) := by
  refine Reads.of (args := [.slice v.a v.len v.cap, .int .i64 a, .int .i64 w]) noNum mixed Try.func73 (e73 v a w _) ?_
  unfold t73
  have hlen := hb.len
  refine ifD_of (fun (h1 : w < 1) => .of ⟨by rw [wget_w (by omega)], rfl⟩) (fun (h1 : ¬ w < 1) => ?_)
  refine ifD_of (fun (h2 : w > 7) => .of ⟨by rw [wget_w (by omega)], rfl⟩) (fun (h2 : ¬ w > 7) => ?_)
  refine ifD_of (fun (h3 : a < 0) => .of ⟨by rw [wget_short (by omega) (.inl h3)], rfl⟩) (fun (h3 : ¬ a < 0) => ?_)
  refine ifD_of (fun (h4 : a > v.len) => .of ⟨by rw [wget_short (by omega) (.inr (by omega))], rfl⟩) (fun (h4 : ¬ a > v.len) => ?_)
  rw [w64_id (n := (v.len : Int) - a) (by omega) (by omega)]
  refine ifD_of (fun (h5 : (v.len : Int) - a < w) => .of ⟨by rw [wget_short (by omega) (.inr (by omega))], rfl⟩) (fun (h5 : ¬ (v.len : Int) - a < w) => ?_)
  obtain ⟨a, rfl⟩ : ∃ u : Nat, a = u := ⟨a.toNat, by omega⟩
  obtain ⟨w, rfl⟩ : ∃ u : Nat, w = u := ⟨w.toNat, by omega⟩
  have hfit : a + w ≤ b.length := by omega
  rw [wget_ok (by omega) (by omega) hfit]
  refine lp_of (fun k z L' => L' = L ∧ k ≤ w ∧ z = ((num ((b.drop (a + k)).take (w - k)) : Int), (k : Int) - 1, ())) w ⟨rfl, Nat.le_refl _, by rw [w64_id (by omega) (by omega), Nat.sub_self]; rfl⟩ ?_
  rintro k z L ⟨rfl, hk, rfl⟩
  refine ifD_of (fun (hge : (k : Int) - 1 ≥ 0) => ?_) (fun (hlt : ¬ (k : Int) - 1 ≥ 0) => ?_)
  · obtain ⟨j, rfl⟩ : ∃ j, k = j + 1 := ⟨k - 1, by omega⟩
    have hj1 : ((j + 1 : Nat) : Int) - 1 = j := by omega
    have hai : a + j < b.length := by omega
    obtain ⟨ad, ha⟩ := hb.some hai
    have e1 : IntKind.i64.wrap ((a : Int) + j) = ((a + j : Nat) : Int) := by rw [w64_id (by omega) (by omega)]; omega
    simp only [hj1, e1]
    refine nilc_of ha (ixn_of (by omega) (by omega) (ld_of (b[a + j].toNat : Int) (hb.rd hai ha _ (by omega)) ?_))
    refine ⟨j, by omega, rfl, by omega, ?_⟩
    have e2 : (b.drop (a + j)).take (w - j) = b[a + j] :: (b.drop (a + (j + 1))).take (w - (j + 1)) := by
      rw [List.drop_eq_getElem_cons hai, show w - j = (w - (j + 1)) + 1 by omega, List.take_succ_cons]
      rfl
    rw [e2]
    simp only [num]
    have hx := b[a + j].toNat_lt
    have hn := num_le (l := (b.drop (a + (j + 1))).take (w - (j + 1))) (w := 6) (by rw [List.length_take]; omega) (by omega)
    have h6 : 256 ^ 6 = 281474976710656 := by decide
    rw [w64_id (n := (b[a + j].toNat : Int)) (by omega) (by omega), w64_id (n := 256 * (num ((b.drop (a + (j + 1))).take (w - (j + 1))) : Int)) (by omega) (by omega), w64_id (n := 256 * (num ((b.drop (a + (j + 1))).take (w - (j + 1))) : Int) + b[a + j].toNat) (by omega) (by omega), w64_id (n := (j : Int) - 1) (by omega) (by omega)]
    refine Prod.ext ?_ rfl
    simp only [Int.natCast_add, Int.natCast_mul, Int.cast_ofNat_Int]
    exact Int.add_comm _ _
  · obtain rfl : k = 0 := by omega
    exact .of ⟨rfl, rfl⟩

end Go.Proofs.Ytlabcgnegbdlfaa
set_option linter.unusedVariables false
set_option linter.unusedSimpArgs false
namespace Go.Proofs.Ytlabcgnegbdlfaa

def crcBit (c : BitVec 32) : BitVec 32 := (c >>> 1) ^^^ (2197175160#32 &&& -(c &&& 1#32))
def crcBits : Nat → BitVec 32 → BitVec 32
  | 0, c => c
  | n + 1, c => crcBit (crcBits n c)
def crcByte (c : BitVec 32) (b : UInt8) : BitVec 32 := crcBits 8 (c ^^^ BitVec.ofNat 32 b.toNat)
def crcSteps (c : BitVec 32) (l : List UInt8) : BitVec 32 := l.foldl crcByte c
theorem crcSteps_snoc (c : BitVec 32) (l : List UInt8) (b : UInt8) : crcSteps c (l ++ [b]) = crcByte (crcSteps c l) b := by simp [crcSteps]
theorem and_one (c : BitVec 32) : c &&& 1#32 = if c.getLsbD 0 then 1#32 else 0#32 := by
  apply BitVec.eq_of_getLsbD_eq
  intro i hi
  rw [BitVec.getLsbD_and, BitVec.getLsbD_one]
  by_cases h : i = 0
  · subst h; cases ha : c.getLsbD 0 <;> simp [ha]
  · cases ha : c.getLsbD 0 <;> simp [h]
theorem crcBit_if (c : BitVec 32) : crcBit c = (c >>> 1) ^^^ (if c.getLsbD 0 then 2197175160#32 else 0#32) := by
  unfold crcBit
  rw [and_one]
  cases c.getLsbD 0
  · rfl
  · have : 2197175160#32 &&& -1#32 = 2197175160#32 := by decide
    simp only [if_true, this]
end Go.Proofs.Ytlabcgnegbdlfaa
set_option linter.unusedVariables false
namespace Go.Proofs.Ytlabcgnegbdlfaa
open Go.HL

theorem shr1 (d : BitVec 32) : Int.fdiv (d.toNat : Int) (2 ^ (min (1 : Int).toNat IntKind.u32.bits)) = ((d >>> 1).toNat : Int) := by
  have : (2 : Int) ^ (min (1 : Int).toNat IntKind.u32.bits) = 2 := rfl
  rw [this, BitVec.toNat_ushiftRight, Nat.shiftRight_eq_div_pow, Int.fdiv_eq_ediv_of_nonneg _ (by omega)]
  rfl
theorem neg32 (d : BitVec 32) : IntKind.u32.wrap (0 - (d.toNat : Int)) = ((-d).toNat : Int) := by
  rw [w32_bv]
  congr 2
  rw [Int.zero_sub, BitVec.ofInt_neg, bv_nat]
theorem crcBit_int (d : BitVec 32) : bitI .xor .u32 (Int.fdiv (d.toNat : Int) (2 ^ (min (1 : Int).toNat IntKind.u32.bits))) (bitI .and .u32 2197175160 (IntKind.u32.wrap (0 - bitI .and .u32 d.toNat 1))) = ((crcBit d).toNat : Int) := by
  rw [shr1, show (1 : Int) = ((1#32 : BitVec 32).toNat : Int) from rfl, (bit32 _ _).2.1, neg32, show (2197175160 : Int) = ((2197175160#32 : BitVec 32).toNat : Int) from rfl, (bit32 _ _).2.1, (bit32 _ _).1]
  rfl

theorem steps_rd (L : HList) (v : SlV) (l : List UInt8) (h : BSl L v l) (hb : l.length ≤ 1000000) (c : BitVec 32) : Reads PP 138 #[.int .u32 c.toNat, .slice v.a v.len v.cap] L (.int .u32 (crcSteps c l).toNat) := by
  refine Reads.of (args := [.int .u32 c.toNat, .slice v.a v.len v.cap]) noNum mixed Try.func138 (e138 c.toNat v _) ?_
  unfold t138
  have hlen := h.len
  refine lp_of (fun k z L' => L' = L ∧ ∃ i, i ≤ l.length ∧ k = l.length - i ∧ z = (((crcSteps c (l.take i)).toNat : Int), (i : Int), ())) l.length ⟨rfl, 0, by omega, by omega, rfl⟩ ?_
  rintro k z L ⟨rfl, i, hi, rfl, rfl⟩
  refine ifD_of (fun (hlt : (i : Int) < v.len) => ?_) (fun (hge : ¬ (i : Int) < v.len) => ?_)
  · have hlt' : i < l.length := by omega
    obtain ⟨ad, ha⟩ := h.some hlt'
    refine nilc_of ha (ixn_of (show (0 : Int) ≤ i by omega) hlt (ld_of (l[i].toNat : Int) (h.rd hlt' ha _ (by simp)) ?_))
    refine lp_of (fun k z L' => L' = L ∧ ∃ j, j ≤ 8 ∧ k = 8 - j ∧ z = (((crcBits j (crcSteps c (l.take i) ^^^ BitVec.ofNat 32 l[i].toNat)).toNat : Int), (j : Int), ())) 8 ⟨rfl, 0, by omega, by omega, ?_⟩ ?_
    · simp only [w32_bv]
      rw [show (BitVec.ofInt 32 (l[i].toNat : Int)) = BitVec.ofNat 32 l[i].toNat from rfl, (bit32 _ _).1]
      rfl
    · rintro k z L ⟨rfl, j, hj, rfl, rfl⟩
      refine ifD_of (fun (hlt : (j : Int) < 8) => ?_) (fun (hge : ¬ (j : Int) < 8) => ?_)
      · refine req_of (by decide) ⟨8 - (j + 1), by omega, rfl, j + 1, by omega, rfl, ?_⟩
        rw [w64_id (by simp only; omega) (by simp only; omega)]
        exact Prod.ext (crcBit_int _) rfl
      · refine ⟨l.length - (i + 1), by omega, rfl, i + 1, by omega, rfl, ?_⟩
        obtain rfl : j = 8 := by omega
        rw [w64_id (by simp only; omega) (by simp only; omega), List.take_succ_eq_append_getElem hlt', crcSteps_snoc]
        rfl
  · refine .of ⟨?_, rfl⟩
    obtain rfl : i = l.length := by omega
    rw [List.take_length]

def low32 (n : Int) : BitVec 32 := BitVec.ofInt 32 n
def crcMore (n : Int) (l : List UInt8) : Int := ((~~~ crcSteps (~~~ low32 n) l).toNat : Int)
def crcSum (l : List UInt8) : Int := crcMore 0 l
theorem crcMore_range (n : Int) (l : List UInt8) : 0 ≤ crcMore n l ∧ crcMore n l < 4294967296 := by
  unfold crcMore
  have := (~~~ crcSteps (~~~ low32 n) l).isLt
  omega
theorem not32 (d : BitVec 32) : bitI .xor .u32 IntKind.u32.max (d.toNat : Int) = ((~~~ d).toNat : Int) := by
  rw [show (IntKind.u32.max : Int) = ((BitVec.allOnes 32).toNat : Int) from rfl, (bit32 _ _).1, BitVec.allOnes_xor]

theorem more_rd (L : HList) (v : SlV) (l : List UInt8) (h : BSl L v l) (hb : l.length ≤ 1000000) (n : Int) : Reads PP 131 #[.int .i64 n, .slice v.a v.len v.cap] L (.int .i64 (crcMore n l)) := by
  refine Reads.of (args := [.int .i64 n, .slice v.a v.len v.cap]) noNum mixed Try.func131 (e131 n v _) ?_
  unfold t131
  rw [w32_bv, not32]
  refine cl_rd (steps_rd L v l h hb (~~~ low32 n)) (((crcSteps (~~~ low32 n) l).toNat : Int), ()) rfl ?_
  refine .of ⟨?_, rfl⟩
  have := crcMore_range n l
  simp only [not32]
  rw [w64_id (by have := crcMore_range n l; unfold crcMore at this; omega) (by have := crcMore_range n l; unfold crcMore at this; omega)]
  rfl
theorem sum_rd (L : HList) (v : SlV) (l : List UInt8) (h : BSl L v l) (hb : l.length ≤ 1000000) : Reads PP 116 #[.slice v.a v.len v.cap] L (.int .i64 (crcSum l)) := by
  refine Reads.of (args := [.slice v.a v.len v.cap]) noNum mixed Try.func116 (e116 v _) ?_
  unfold t116
  refine cl_rd (more_rd L v l h hb 0) (crcMore 0 l, ()) rfl ?_
  exact .of ⟨rfl, rfl⟩
theorem check_rd (L : HList) (v : SlV) (l : List UInt8) (h : BSl L v l) (hb : l.length ≤ 1000000) (n : Int) : Reads PP 102 #[.slice v.a v.len v.cap, .int .i64 n] L (.bool (crcSum l == n)) := by
  refine Reads.of (args := [.slice v.a v.len v.cap, .int .i64 n]) noNum mixed Try.func102 (e102 v n _) ?_
  unfold t102
  refine cl_rd (sum_rd L v l h hb) (crcSum l, ()) rfl ?_
  exact .of ⟨rfl, rfl⟩

theorem low_rd (L : HList) (n : Int) : Reads PP 129 #[.int .i64 n] L (.int .u32 (low32 n).toNat) := by
  refine Reads.of (args := [.int .i64 n]) noNum mixed Try.func129 (e129 n _) ?_
  unfold t129
  refine .of ⟨?_, rfl⟩
  rw [w32_bv, w64u_bv]
  unfold low32
  congr 2
  simp only [BitVec.toNat_ofInt]
  omega
theorem low_nat (d : BitVec 32) : low32 (d.toNat : Int) = d := bv_nat d
theorem half32 (d : BitVec 32) : IntKind.u32.wrap (Int.tdiv d.toNat 2) = ((d >>> 1).toNat : Int) := by
  have h0 : (0 : Int) ≤ (d.toNat : Int) := Int.natCast_nonneg _
  have h1 := d.isLt
  rw [Int.tdiv_eq_ediv_of_nonneg h0, w32_id (n := (d.toNat : Int) / 2) (by omega) (by omega), BitVec.toNat_ushiftRight, Nat.shiftRight_eq_div_pow]
  rfl
theorem rstep4_rd (L : HList) (n : Int) (x : UInt8) : Reads PP 130 #[.int .i64 n, .int .u8 x.toNat] L (.int .i64 (crcByte (low32 n) x).toNat) := by
  refine Reads.of (args := [.int .i64 n, .int .u8 x.toNat]) noNum mixed Try.func130 (e130 n x.toNat _) ?_
  unfold t130
  refine cl_rd (low_rd L n) (_, ()) rfl ?_
  refine lp_of (fun k z L' => L' = L ∧ ∃ j, j ≤ 8 ∧ k = 8 - j ∧ z = (((crcBits j (low32 n ^^^ BitVec.ofNat 32 x.toNat)).toNat : Int), (j : Int), ())) 8 ⟨rfl, 0, by omega, by omega, ?_⟩ ?_
  · simp only [xor32, w32_bv, bv_nat, ofInt_u8]
    rfl
  · rintro k z L ⟨rfl, j, hj, rfl, rfl⟩
    generalize hd : crcBits j (low32 n ^^^ BitVec.ofNat 32 x.toNat) = d
    have hodd : Int.tmod (d.toNat : Int) 2 = if d.getLsbD 0 then 1 else 0 := by
      rw [Int.tmod_eq_emod_of_nonneg (by omega)]
      have : d.getLsbD 0 = decide (d.toNat % 2 = 1) := by simp [BitVec.getLsbD, Nat.testBit_zero]
      rw [this]
      by_cases h : d.toNat % 2 = 1
      · simp [h]; omega
      · simp [h]; omega
    have hstep : crcBits (j + 1) (low32 n ^^^ BitVec.ofNat 32 x.toNat) = (d >>> 1) ^^^ (if d.getLsbD 0 then 2197175160#32 else 0#32) := by rw [crcBits, hd, crcBit_if]
    refine ifD_of (fun (hlt : (j : Int) < 8) => ?_) (fun (hge : ¬ (j : Int) < 8) => ?_)
    · refine req_of (by decide) (req_of (by decide) ?_)
      refine ifE_of (fun (h1 : Int.tmod (d.toNat : Int) 2 = 1) => ?_) (fun (h1 : Int.tmod (d.toNat : Int) 2 ≠ 1) => ?_)
      · refine ⟨8 - (j + 1), by omega, rfl, j + 1, by omega, rfl, ?_⟩
        rw [w64_id (by simp only; omega) (by simp only; omega), hstep]
        have h2 : d.getLsbD 0 = true := by
          rw [hodd] at h1
          cases h3 : d.getLsbD 0
          · rw [h3] at h1; cases h1
          · rfl
        simp only [half32, xor32, bv_nat, h2, if_true]
        rfl
      · refine ⟨8 - (j + 1), by omega, rfl, j + 1, by omega, rfl, ?_⟩
        rw [w64_id (by simp only; omega) (by simp only; omega), hstep]
        have h2 : d.getLsbD 0 = false := by
          rw [hodd] at h1
          cases h3 : d.getLsbD 0
          · rfl
          · rw [h3] at h1; exact absurd rfl h1
        simp only [half32, h2, Bool.false_eq_true, if_false, BitVec.xor_zero]
        rfl
    · obtain rfl : j = 8 := by omega
      refine .of ⟨?_, rfl⟩
      rw [← hd, w64_id (by simp only; omega) (by have := (crcBits 8 (low32 n ^^^ BitVec.ofNat 32 x.toNat)).isLt; simp only; omega)]
      rfl
theorem rmore_rd (L : HList) (v : SlV) (l : List UInt8) (h : BSl L v l) (hb : l.length ≤ 1000000) (n : Int) : Reads PP 114 #[.int .i64 n, .slice v.a v.len v.cap] L (.int .i64 (crcMore n l)) := by
  refine Reads.of (args := [.int .i64 n, .slice v.a v.len v.cap]) noNum mixed Try.func114 (e114 n v _) ?_
  unfold t114
  have hlen := h.len
  refine cl_rd (low_rd L n) (_, ()) rfl ?_
  refine lp_of (fun k z L' => L' = L ∧ ∃ i, i ≤ l.length ∧ k = l.length - i ∧ z = (((crcSteps (~~~ low32 n) (l.take i)).toNat : Int), (i : Int), ())) l.length ⟨rfl, 0, by omega, by omega, ?_⟩ ?_
  · have := (~~~ low32 n).isLt
    rw [not32, w64_id (by omega) (by omega)]
    rfl
  rintro k z L ⟨rfl, i, hi, rfl, rfl⟩
  refine ifD_of (fun (hlt : (i : Int) < v.len) => ?_) (fun (hge : ¬ (i : Int) < v.len) => ?_)
  · have hlt' : i < l.length := by omega
    obtain ⟨ad, ha⟩ := h.some hlt'
    refine nilc_of ha (ixn_of (show (0 : Int) ≤ i by omega) hlt (ld_of (l[i].toNat : Int) (h.rd hlt' ha _ (by simp)) ?_))
    refine cl_rd (rstep4_rd _ _ _) (_, ()) rfl ⟨l.length - (i + 1), by omega, rfl, i + 1, by omega, rfl, ?_⟩
    rw [w64_id (by simp only; omega) (by simp only; omega), List.take_succ_eq_append_getElem hlt', crcSteps_snoc, low_nat]
    rfl
  · obtain rfl : i = l.length := by omega
    refine cl_rd (low_rd _ _) (_, ()) rfl (.of ⟨?_, rfl⟩)
    have := crcMore_range n l
    simp only [not32, low_nat, List.take_length]
    unfold crcMore at this ⊢
    rw [w64_id (by omega) (by omega)]
theorem rsum_rd (L : HList) (v : SlV) (l : List UInt8) (h : BSl L v l) (hb : l.length ≤ 1000000) : Reads PP 99 #[.slice v.a v.len v.cap] L (.int .i64 (crcSum l)) := by
  refine Reads.of (args := [.slice v.a v.len v.cap]) noNum mixed Try.func99 (e99 v _) ?_
  unfold t99
  refine cl_rd (rmore_rd L v l h hb 0) (crcMore 0 l, ()) rfl ?_
  exact .of ⟨rfl, rfl⟩

end Go.Proofs.Ytlabcgnegbdlfaa
set_option linter.unusedVariables false
set_option linter.unusedSimpArgs false
namespace Go.Proofs.Ytlabcgnegbdlfaa
open Go.HL

/-- A head: kind, part, parts, epoch, page. -/
abbrev Hd := Int × Int × Int × Int × Int × Unit
def hEnc (h : Hd) : List Value := [.int .i64 h.1, .int .i64 h.2.1, .int .i64 h.2.2.1, .int .i64 h.2.2.2.1, .int .i64 h.2.2.2.2.1]
def hErr (h : Hd) : Int := if h.1 < 1 ∨ h.1 > 4 then 16 else if h.2.2.1 < 1 ∨ h.2.2.1 > 16 ∨ h.2.1 < 0 ∨ h.2.1 ≥ h.2.2.1 ∨ h.2.2.2.1 < 1 ∨ h.2.2.2.1 > 1073741824 ∨ h.2.2.2.2.1 < 0 ∨ h.2.2.2.2.1 > 15 then 3 else 0
def szd (n : Int) : Bool := decide (64 ≤ n ∧ n ≤ 512)
def roomOf (n : Int) : Int := if 64 ≤ n ∧ n ≤ 512 then n - 16 else 0
theorem psized_rd (L : HList) (n : Int) : Reads PP 101 #[.int .i64 n] L (.bool (szd n)) := by
  refine Reads.of (args := [.int .i64 n]) noNum mixed Try.func101 (e101 n _) ?_
  unfold t101
  refine ifD_of (fun (h : n ≥ 64) => .of ⟨?_, rfl⟩) (fun (h : ¬ n ≥ 64) => .of ⟨?_, rfl⟩)
  · unfold szd; congr 1; rw [decide_eq_decide]; omega
  · unfold szd; rw [decide_eq_false (by omega)]
theorem rsized_rd (L : HList) (n : Int) : Reads PP 98 #[.int .i64 n] L (.bool (szd n)) := by
  refine Reads.of (args := [.int .i64 n]) noNum mixed Try.func98 (e98 n _) ?_
  unfold t98
  refine ifD_of (fun (h : n ≥ 64) => .of ⟨?_, rfl⟩) (fun (h : ¬ n ≥ 64) => .of ⟨?_, rfl⟩)
  · unfold szd; congr 1; rw [decide_eq_decide]; omega
  · unfold szd; rw [decide_eq_false (by omega)]
theorem szd_t {n : Int} (h : szd n = true) : 64 ≤ n ∧ n ≤ 512 := of_decide_eq_true h
theorem szd_f {n : Int} (h : szd n = false) : ¬ (64 ≤ n ∧ n ≤ 512) := of_decide_eq_false h
theorem proom_rd (L : HList) (n : Int) : Reads PP 104 #[.int .i64 n] L (.int .i64 (roomOf n)) := by
  refine Reads.of (args := [.int .i64 n]) noNum mixed Try.func104 (e104 n _) ?_
  unfold t104
  refine cl_rd (psized_rd _ n) (szd n, ()) rfl ?_
  cases h : szd n with
  | false => exact ifT rfl (.of ⟨by unfold roomOf; rw [if_neg (szd_f h)], rfl⟩)
  | true =>
    have := szd_t h
    refine ifF rfl (.of ⟨?_, rfl⟩)
    unfold roomOf; rw [if_pos this, w64_id (by omega) (by omega)]
theorem hErr_k {h : Hd} (c : h.1 < 1 ∨ h.1 > 4) : hErr h = 16 := by unfold hErr; rw [if_pos c]
theorem hErr_r {h : Hd} (c : ¬ (h.1 < 1 ∨ h.1 > 4)) (d : h.2.2.1 < 1 ∨ h.2.2.1 > 16 ∨ h.2.1 < 0 ∨ h.2.1 ≥ h.2.2.1 ∨ h.2.2.2.1 < 1 ∨ h.2.2.2.1 > 1073741824 ∨ h.2.2.2.2.1 < 0 ∨ h.2.2.2.2.1 > 15) : hErr h = 3 := by unfold hErr; rw [if_neg c, if_pos d]
theorem hErr_0 {h : Hd} (c : ¬ (h.1 < 1 ∨ h.1 > 4)) (d : ¬ (h.2.2.1 < 1 ∨ h.2.2.1 > 16 ∨ h.2.1 < 0 ∨ h.2.1 ≥ h.2.2.1 ∨ h.2.2.2.1 < 1 ∨ h.2.2.2.1 > 1073741824 ∨ h.2.2.2.2.1 < 0 ∨ h.2.2.2.2.1 > 15)) : hErr h = 0 := by unfold hErr; rw [if_neg c, if_neg d]
theorem hErr_ok {h : Hd} (e : hErr h = 0) : 1 ≤ h.1 ∧ h.1 ≤ 4 ∧ 1 ≤ h.2.2.1 ∧ h.2.2.1 ≤ 16 ∧ 0 ≤ h.2.1 ∧ h.2.1 < h.2.2.1 ∧ 1 ≤ h.2.2.2.1 ∧ h.2.2.2.1 ≤ 1073741824 ∧ 0 ≤ h.2.2.2.2.1 ∧ h.2.2.2.2.1 ≤ 15 := by
  unfold hErr at e
  split at e
  · cases e
  · split at e
    · cases e
    · omega
theorem pcheck_rd (L : HList) (h : Hd) : Reads PP 105 #[.agg #[.int .i64 h.1, .int .i64 h.2.1, .int .i64 h.2.2.1, .int .i64 h.2.2.2.1, .int .i64 h.2.2.2.2.1]] L (.int .i64 (hErr h)) := by
  refine Reads.of (args := [.agg #[.int .i64 h.1, .int .i64 h.2.1, .int .i64 h.2.2.1, .int .i64 h.2.2.2.1, .int .i64 h.2.2.2.2.1]]) noNum mixed Try.func105 (e105 h _) ?_
  unfold t105
  refine nw_of fun n1 _ => ?_
  generalize ho : (n1, Obj.cells #[.int .i64 h.1, .int .i64 h.2.1, .int .i64 h.2.2.1, .int .i64 h.2.2.2.1, .int .i64 h.2.2.2.2.1] 111) = o1
  have l0 : LdAt ⟨n1, 0, none⟩ [.int .i64 h.1] (o1 :: L) := by subst ho; exact ldB List.mem_cons_self rfl
  have l1 : LdAt (Addr.add ⟨n1, 0, none⟩ 1) [.int .i64 h.2.1] (o1 :: L) := by subst ho; exact ldB List.mem_cons_self rfl
  have l2 : LdAt (Addr.add ⟨n1, 0, none⟩ 2) [.int .i64 h.2.2.1] (o1 :: L) := by subst ho; exact ldB List.mem_cons_self rfl
  have l3 : LdAt (Addr.add ⟨n1, 0, none⟩ 3) [.int .i64 h.2.2.2.1] (o1 :: L) := by subst ho; exact ldB List.mem_cons_self rfl
  have l4 : LdAt (Addr.add ⟨n1, 0, none⟩ 4) [.int .i64 h.2.2.2.2.1] (o1 :: L) := by subst ho; exact ldB List.mem_cons_self rfl
  clear ho
  refine ld_of h.1 l0 (ifD_of (fun (c : h.1 < 1) => .cons (.of ⟨by rw [hErr_k (.inl c)], rfl⟩)) (fun (c1 : ¬ h.1 < 1) => ?_))
  refine ld_of h.1 l0 (ifD_of (fun (c : h.1 > 4) => .cons (.of ⟨by rw [hErr_k (.inr c)], rfl⟩)) (fun (c2 : ¬ h.1 > 4) => ?_))
  refine ld_of h.2.2.1 l2 (ifD_of (fun (c : h.2.2.1 < 1) => .cons (.of ⟨by rw [hErr_r (by omega) (by omega)], rfl⟩)) (fun (c3 : ¬ h.2.2.1 < 1) => ?_))
  refine ld_of h.2.2.1 l2 (ifD_of (fun (c : h.2.2.1 > 16) => .cons (.of ⟨by rw [hErr_r (by omega) (by omega)], rfl⟩)) (fun (c4 : ¬ h.2.2.1 > 16) => ?_))
  refine ld_of h.2.1 l1 (ifD_of (fun (c : h.2.1 < 0) => .cons (.of ⟨by rw [hErr_r (by omega) (by omega)], rfl⟩)) (fun (c5 : ¬ h.2.1 < 0) => ?_))
  refine ld_of h.2.1 l1 (ld_of h.2.2.1 l2 (ifD_of (fun (c : h.2.1 ≥ h.2.2.1) => .cons (.of ⟨by rw [hErr_r (by omega) (by omega)], rfl⟩)) (fun (c6 : ¬ h.2.1 ≥ h.2.2.1) => ?_)))
  refine ld_of h.2.2.2.1 l3 (ifD_of (fun (c : h.2.2.2.1 < 1) => .cons (.of ⟨by rw [hErr_r (by omega) (by omega)], rfl⟩)) (fun (c7 : ¬ h.2.2.2.1 < 1) => ?_))
  refine ld_of h.2.2.2.1 l3 (ifD_of (fun (c : h.2.2.2.1 > 1073741824) => .cons (.of ⟨by rw [hErr_r (by omega) (by omega)], rfl⟩)) (fun (c8 : ¬ h.2.2.2.1 > 1073741824) => ?_))
  refine ld_of h.2.2.2.2.1 l4 (ifD_of (fun (c : h.2.2.2.2.1 < 0) => .cons (.of ⟨by rw [hErr_r (by omega) (by omega)], rfl⟩)) (fun (c9 : ¬ h.2.2.2.2.1 < 0) => ?_))
  refine ld_of h.2.2.2.2.1 l4 (ifD_of (fun (c : h.2.2.2.2.1 ≥ 16) => .cons (.of ⟨by rw [hErr_r (by omega) (by omega)], rfl⟩)) (fun (c10 : ¬ h.2.2.2.2.1 ≥ 16) => .cons (.of ⟨by rw [hErr_0 (by omega) (by omega)], rfl⟩)))
theorem rright_rd (L : HList) (h : Hd) : Reads PP 115 #[.agg #[.int .i64 h.1, .int .i64 h.2.1, .int .i64 h.2.2.1, .int .i64 h.2.2.2.1, .int .i64 h.2.2.2.2.1]] L (.int .i64 (hErr h)) := by
  refine Reads.of (args := [.agg #[.int .i64 h.1, .int .i64 h.2.1, .int .i64 h.2.2.1, .int .i64 h.2.2.2.1, .int .i64 h.2.2.2.2.1]]) noNum mixed Try.func115 (e115 h _) ?_
  unfold t115
  refine nw_of fun n1 _ => ?_
  generalize ho : (n1, Obj.cells #[.int .i64 h.1, .int .i64 h.2.1, .int .i64 h.2.2.1, .int .i64 h.2.2.2.1, .int .i64 h.2.2.2.2.1] 111) = o1
  have l0 : LdAt ⟨n1, 0, none⟩ [.int .i64 h.1] (o1 :: L) := by subst ho; exact ldB List.mem_cons_self rfl
  have l1 : LdAt (Addr.add ⟨n1, 0, none⟩ 1) [.int .i64 h.2.1] (o1 :: L) := by subst ho; exact ldB List.mem_cons_self rfl
  have l2 : LdAt (Addr.add ⟨n1, 0, none⟩ 2) [.int .i64 h.2.2.1] (o1 :: L) := by subst ho; exact ldB List.mem_cons_self rfl
  have l3 : LdAt (Addr.add ⟨n1, 0, none⟩ 3) [.int .i64 h.2.2.2.1] (o1 :: L) := by subst ho; exact ldB List.mem_cons_self rfl
  have l4 : LdAt (Addr.add ⟨n1, 0, none⟩ 4) [.int .i64 h.2.2.2.2.1] (o1 :: L) := by subst ho; exact ldB List.mem_cons_self rfl
  clear ho
  refine ld_of h.1 l0 (ifD_of (fun (c : h.1 < 1) => .cons (.of ⟨by rw [hErr_k (.inl c)], rfl⟩)) (fun (c1 : ¬ h.1 < 1) => ?_))
  refine ld_of h.1 l0 (ifD_of (fun (c : h.1 > 4) => .cons (.of ⟨by rw [hErr_k (.inr c)], rfl⟩)) (fun (c2 : ¬ h.1 > 4) => ?_))
  refine ld_of h.2.2.1 l2 (ifD_of (fun (c : h.2.2.1 < 1) => .cons (.of ⟨by rw [hErr_r (by omega) (by omega)], rfl⟩)) (fun (c3 : ¬ h.2.2.1 < 1) => ?_))
  refine ld_of h.2.2.1 l2 (ifD_of (fun (c : h.2.2.1 > 16) => .cons (.of ⟨by rw [hErr_r (by omega) (by omega)], rfl⟩)) (fun (c4 : ¬ h.2.2.1 > 16) => ?_))
  refine ld_of h.2.1 l1 (ifD_of (fun (c : h.2.1 < 0) => .cons (.of ⟨by rw [hErr_r (by omega) (by omega)], rfl⟩)) (fun (c5 : ¬ h.2.1 < 0) => ?_))
  refine ld_of h.2.1 l1 (ld_of h.2.2.1 l2 (ifD_of (fun (c : h.2.1 ≥ h.2.2.1) => .cons (.of ⟨by rw [hErr_r (by omega) (by omega)], rfl⟩)) (fun (c6 : ¬ h.2.1 ≥ h.2.2.1) => ?_)))
  refine ld_of h.2.2.2.1 l3 (ifD_of (fun (c : h.2.2.2.1 < 1) => .cons (.of ⟨by rw [hErr_r (by omega) (by omega)], rfl⟩)) (fun (c7 : ¬ h.2.2.2.1 < 1) => ?_))
  refine ld_of h.2.2.2.1 l3 (ifD_of (fun (c : h.2.2.2.1 > 1073741824) => .cons (.of ⟨by rw [hErr_r (by omega) (by omega)], rfl⟩)) (fun (c8 : ¬ h.2.2.2.1 > 1073741824) => ?_))
  refine ld_of h.2.2.2.2.1 l4 (ifD_of (fun (c : h.2.2.2.2.1 < 0) => .cons (.of ⟨by rw [hErr_r (by omega) (by omega)], rfl⟩)) (fun (c9 : ¬ h.2.2.2.2.1 < 0) => ?_))
  refine ld_of h.2.2.2.2.1 l4 (ifD_of (fun (c : h.2.2.2.2.1 > 15) => .cons (.of ⟨by rw [hErr_r (by omega) (by omega)], rfl⟩)) (fun (c10 : ¬ h.2.2.2.2.1 > 15) => .cons (.of ⟨by rw [hErr_0 (by omega) (by omega)], rfl⟩)))
abbrev PNum := Int × Int × Unit
def pnEnc (x : PNum) : List Value := [.int .i64 x.1, .int .i64 x.2.1]
theorem pnEnc_len (x : PNum) : (pnEnc x).length = 2 := rfl
def putsL (b : List UInt8) (l : List PNum) : List UInt8 := l.foldl (fun b x => (wput b x.1 x.2.1).1) b
theorem putsL_snoc (b : List UInt8) (l : List PNum) (x : PNum) : putsL b (l ++ [x]) = (wput (putsL b l) x.1 x.2.1).1 := by simp [putsL]
theorem wput_len (b : List UInt8) (n w : Int) : (wput b n w).1.length ≤ b.length + 7 := by
  unfold wput
  split
  · simp
  · split
    · simp
    · simp only [List.length_append, digs_len]; omega
theorem putsL_len (b : List UInt8) (l : List PNum) : (putsL b l).length ≤ b.length + 7 * l.length := by
  induction l generalizing b with
  | nil => simp [putsL]
  | cons x r ih =>
    have h1 := ih (wput b x.1 x.2.1).1
    have h2 := wput_len b x.1 x.2.1
    have h3 : putsL b (x :: r) = putsL (wput b x.1 x.2.1).1 r := rfl
    rw [h3, List.length_cons]; omega
theorem pput_cl (A : HList) (v : SlV) (b : List UInt8) (hb : BSl A v b) (hl : b.length ≤ 1000) (u : SlV) (l : List PNum) (hu : Sl A u 2 (l.flatMap pnEnc)) (hne : 0 < l.length) (hl2 : l.length ≤ 100) (hn : ∀ x ∈ l, x.1 ≤ 9223372036854775807) :
    CallF PP 128 #[.slice v.a v.len v.cap, .slice u.a u.len u.cap] A fun r L' => ∃ (s : SlV) (seg : HList), r = .slice s.a s.len s.cap ∧ L' = seg ++ A ∧ Own s 1 eB (bvs (putsL b l)) seg := by
  refine CallF.of (args := [.slice v.a v.len v.cap, .slice u.a u.len u.cap]) noNum mixed Try.func128 (e128 v u _) ?_
  unfold t128
  have hul := hu.els_len pnEnc_len (by decide)
  refine lp_of (fun k z L' => ∃ (i : Nat) (s : SlV) (J : HList), i ≤ l.length ∧ k = l.length - i ∧ z = (s, (i : Int), ()) ∧ L' = J ++ A ∧ BSl L' s (putsL b (l.take i)) ∧ (0 < i → ∃ (seg J' : HList), J = seg ++ J' ∧ Own s 1 eB (bvs (putsL b (l.take i))) seg)) l.length
    ⟨0, v, [], by omega, by omega, rfl, rfl, hb, fun h => by omega⟩ ?_
  rintro k z L' ⟨i, s, J, hi, rfl, rfl, rfl, hs, hown⟩
  refine ifD_of (fun (hlt : (i : Int) < u.len) => ?_) (fun (hge : ¬ (i : Int) < u.len) => ?_)
  · have hi' : i < l.length := by omega
    obtain ⟨a, ha, la⟩ := (hu.right (R := J)).el pnEnc_len (by decide) hi'
    refine nilc_of ha (ixn_of (show (0 : Int) ≤ (i : Int) by omega) hlt (ld_of l[i] (by rw [Int.toNat_natCast]; exact la) ?_))
    have hbl := putsL_len b (l.take i)
    rw [List.length_take, Nat.min_eq_left hi] at hbl
    have hsn := putsL_snoc b (l.take i) l[i]
    rw [← List.take_succ_eq_append_getElem hi'] at hsn
    have hnx := hn _ (List.getElem_mem hi')
    generalize l[i] = x at hsn hnx ⊢
    refine nw_of fun n1 _ => st_of [] _ rfl rfl (by simp) (.inl (Nat.le_refl _)) #[.int .i64 x.1, .int .i64 x.2.1] rfl ?_
    rw [List.nil_append]
    refine ld_of x.1 (ldB List.mem_cons_self rfl) (ld_of x.2.1 (ldB List.mem_cons_self rfl) ?_)
    generalize (n1, Obj.cells #[.int .i64 x.1, .int .i64 x.2.1] 211) = o1
    refine cl_in [] [] (wput_cl (o1 :: (J ++ A)) s _ hs.cons (by omega) x.1 x.2.1 hnx) (by simp) ?_
    rintro _ _ - ⟨s', seg, rfl, rfl, own⟩
    rw [List.append_nil, List.nil_append]
    rw [← hsn] at own
    refine ⟨(s', _, ()), rfl, l.length - (i + 1), by omega, i + 1, s', seg ++ (o1 :: J), by omega, rfl, ?_, by simp, own.sl.left, fun _ => ⟨seg, o1 :: J, rfl, own⟩⟩
    show (s', IntKind.i64.wrap ((i : Int) + 1), ()) = _
    rw [w64_id (by omega) (by omega)]
    rfl
  · obtain rfl : i = l.length := by omega
    rw [List.take_length] at hown
    obtain ⟨seg, J', rfl, own⟩ := hown hne
    refine .drop (A := seg ++ A) (J := J') ⟨s, seg, rfl, rfl, own⟩ ?_
    rw [List.append_assoc, List.append_assoc]
    exact List.Perm.append_left _ List.perm_append_comm
end Go.Proofs.Ytlabcgnegbdlfaa
set_option linter.unusedVariables false
set_option linter.unusedSimpArgs false
namespace Go.Proofs.Ytlabcgnegbdlfaa
open Go.HL

def hBytes (h : Hd) (n : Nat) : List UInt8 := digs h.1.toNat 1 ++ digs h.2.1.toNat 1 ++ digs h.2.2.1.toNat 1 ++ digs 165 1 ++ digs h.2.2.2.1.toNat 4 ++ digs h.2.2.2.2.1.toNat 1 ++ digs 0 1 ++ digs n 2
theorem hBytes_len (h : Hd) (n : Nat) : (hBytes h n).length = 12 := by simp [hBytes, digs_len]
def iBody (h : Hd) (p : List UInt8) (size : Nat) : List UInt8 := hBytes h p.length ++ p ++ List.replicate (size - 16 - p.length) 0
theorem iBody_len {h : Hd} {p : List UInt8} {size : Nat} (h1 : 16 ≤ size) (h2 : p.length ≤ size - 16) : (iBody h p size).length = size - 4 := by
  unfold iBody
  rw [List.length_append, List.length_append, hBytes_len, List.length_replicate]; omega
def iAll (h : Hd) (p : List UInt8) (size : Nat) : List UInt8 := iBody h p size ++ digs (crcSum (iBody h p size)).toNat 4
/-- A page's image, or why there is none. -/
def imgR (h : Hd) (p : List UInt8) (size : Int) : List UInt8 × Int :=
  if ¬ (64 ≤ size ∧ size ≤ 512) then ([], 2) else if hErr h ≠ 0 then ([], hErr h) else if (p.length : Int) > size - 16 then ([], 4) else (iAll h p size.toNat, 0)
def ImgK (h : Hd) (p : List UInt8) (size : Int) (A : HList) (v : Value) (L' : HList) : Prop := ∃ (s : SlV) (seg : HList), v = .tuple #[.slice s.a s.len s.cap, .int .i64 (imgR h p size).2] ∧ L' = seg ++ A ∧ Own s 1 eB (bvs (imgR h p size).1) seg
theorem ImgK.err {h : Hd} {p : List UInt8} {size : Int} {A : HList} {e : Int} (he : imgR h p size = ([], e)) : ImgK h p size A (.tuple #[.slice none 0 0, .int .i64 e]) A := ⟨⟨none, 0, 0⟩, [], by rw [he], rfl, by rw [he]; exact own_nil⟩
theorem crcSum_rng (l : List UInt8) : 0 ≤ crcSum l ∧ crcSum l < 4294967296 := crcMore_range 0 l
def nums (h : Hd) (n : Nat) : List PNum := [(h.1, 1, ()), (h.2.1, 1, ()), (h.2.2.1, 1, ()), (165, 1, ()), (h.2.2.2.1, 4, ()), (h.2.2.2.2.1, 1, ()), (0, 1, ()), ((n : Int), 2, ())]
theorem wput_1 (b : List UInt8) {n : Int} (h0 : 0 ≤ n) (h1 : n < 256) : (wput b n 1).1 = b ++ digs n.toNat 1 := by
  rw [wput_ok (by decide) (by omega) (by show n.toNat < 256; omega)]; rfl
theorem wput_4 (b : List UInt8) {n : Int} (h0 : 0 ≤ n) (h1 : n < 4294967296) : (wput b n 4).1 = b ++ digs n.toNat 4 := by
  rw [wput_ok (by decide) (by omega) (by show n.toNat < 4294967296; omega)]; rfl
theorem wput_2 (b : List UInt8) {n : Int} (h0 : 0 ≤ n) (h1 : n < 65536) : (wput b n 2).1 = b ++ digs n.toNat 2 := by
  rw [wput_ok (by decide) (by omega) (by show n.toNat < 65536; omega)]; rfl
theorem puts_nums {h : Hd} (e : hErr h = 0) {n : Nat} (hn : n < 65536) : putsL [] (nums h n) = hBytes h n := by
  have := hErr_ok e
  unfold nums putsL
  simp only [List.foldl_cons, List.foldl_nil]
  rw [wput_1 (n := h.1) _ (by omega) (by omega), wput_1 (n := h.2.1) _ (by omega) (by omega), wput_1 (n := h.2.2.1) _ (by omega) (by omega), wput_1 (n := 165) _ (by omega) (by omega), wput_4 (n := h.2.2.2.1) _ (by omega) (by omega), wput_1 (n := h.2.2.2.2.1) _ (by omega) (by omega), wput_1 (n := 0) _ (by omega) (by omega), wput_2 (n := (n : Int)) _ (by omega) (by omega)]
  unfold hBytes
  simp
theorem puts_crc (b : List UInt8) : putsL b [(crcSum b, 4, ())] = b ++ digs (crcSum b).toNat 4 := by
  have := crcSum_rng b
  exact wput_4 (n := crcSum b) b (by omega) (by omega)
theorem body_put {h : Hd} {p : List UInt8} {S : Nat} (h1 : 64 ≤ S) (h2 : p.length ≤ S - 16) :
    putL (putL (zeros [.int .u8 0] (S - 4)) 0 (bvs (hBytes h p.length))) (12 * 1) (bvs p) = bvs (iBody h p S) := by
  rw [zeros_bvs, bvs_put, bvs_put]
  congr 1
  unfold iBody
  rw [List.take_zero, List.nil_append, hBytes_len, Nat.zero_add, Nat.mul_one, List.take_left' (hBytes_len h _), ← List.drop_drop, List.drop_left' (hBytes_len h _), List.drop_drop, List.drop_replicate]
  congr 2
  omega
theorem pimage_cl (A : HList) (h : Hd) (v : SlV) (p : List UInt8) (hv : BSl A v p) (size : Int) (hs : -9223372036854775808 ≤ size ∧ size ≤ 9223372036854775807) :
    CallF PP 110 #[.agg #[.int .i64 h.1, .int .i64 h.2.1, .int .i64 h.2.2.1, .int .i64 h.2.2.2.1, .int .i64 h.2.2.2.2.1], .slice v.a v.len v.cap, .int .i64 size] A (ImgK h p size A) := by
  refine CallF.of (args := [.agg #[.int .i64 h.1, .int .i64 h.2.1, .int .i64 h.2.2.1, .int .i64 h.2.2.2.1, .int .i64 h.2.2.2.2.1], .slice v.a v.len v.cap, .int .i64 size]) noNum mixed Try.func110 (e110 h v size _) ?_
  unfold t110
  have hvl := hv.len
  refine nw_of fun n1 _ => ?_
  generalize ho : (n1, Obj.cells #[.int .i64 h.1, .int .i64 h.2.1, .int .i64 h.2.2.1, .int .i64 h.2.2.2.1, .int .i64 h.2.2.2.2.1] 111) = o1
  have lh : LdAt ⟨n1, 0, none⟩ (hEnc h) (o1 :: A) := by subst ho; exact ldB List.mem_cons_self rfl
  clear ho
  refine cl_rd (psized_rd _ size) (szd size, ()) rfl ?_
  cases hsz : szd size with
  | false => exact ifT rfl (.cons (.of (ImgK.err (by unfold imgR; rw [if_pos (szd_f hsz)]))))
  | true =>
    have hS := szd_t hsz
    refine ifF rfl (ld_of h lh (cl_rd (pcheck_rd _ h) (hErr h, ()) rfl ?_))
    refine ifNe_of (fun (he : hErr h ≠ 0) => .cons (.of (ImgK.err (by unfold imgR; rw [if_neg (by simpa using hS), if_pos he])))) (fun (he : hErr h = 0) => ?_)
    refine cl_rd (proom_rd _ size) (roomOf size, ()) rfl ?_
    have hroom : roomOf size = size - 16 := by unfold roomOf; rw [if_pos hS]
    rw [hroom]
    refine ifD_of (fun (hl : (v.len : Int) > size - 16) => .cons (.of (ImgK.err (by unfold imgR; rw [if_neg (by simpa using hS), if_neg (by simpa using he), if_pos (by omega)])))) (fun (hl : ¬ (v.len : Int) > size - 16) => ?_)
    obtain ⟨S, rfl⟩ : ∃ S : Nat, size = S := ⟨size.toNat, by omega⟩
    have himg : imgR h p S = (iAll h p S, 0) := by
      unfold imgR
      rw [if_neg (by simpa using hS), if_neg (by simpa using he), if_neg (by omega), Int.toNat_natCast]
    unfold ImgK
    rw [himg]
    refine ld_of h.1 (lh.pre fun i u hu => by cases i with | zero => exact hu | succ i => exact absurd (show (none : Option Value) = some u from hu) (by simp)) (ld_of h.2.1 (lh.one 1 rfl) (ld_of h.2.2.1 (lh.one 2 rfl) (ld_of h.2.2.2.1 (lh.one 3 rfl) (ld_of h.2.2.2.2.1 (lh.one 4 rfl) (nw_of fun n2 _ => ?_)))))
    have hvl' : ((v.len : Nat) : Int) = ((p.length : Nat) : Int) := by omega
    rw [hvl']
    have hnsl : Sl ((n2, Obj.cells #[.int .i64 h.1, .int .i64 1, .int .i64 h.2.1, .int .i64 1, .int .i64 h.2.2.1, .int .i64 1, .int .i64 165, .int .i64 1, .int .i64 h.2.2.2.1, .int .i64 4, .int .i64 h.2.2.2.2.1, .int .i64 1, .int .i64 0, .int .i64 1, .int .i64 ((p.length : Nat) : Int), .int .i64 2] 211) :: o1 :: A) ⟨some ⟨n2, 0, none⟩, 8, 8⟩ 2 ((nums h p.length).flatMap pnEnc) :=
      ⟨rfl, Nat.le_refl _, .inr ⟨_, rfl, ldB List.mem_cons_self rfl⟩⟩
    have hok := hErr_ok he
    generalize (n2, Obj.cells #[.int .i64 h.1, .int .i64 1, .int .i64 h.2.1, .int .i64 1, .int .i64 h.2.2.1, .int .i64 1, .int .i64 165, .int .i64 1, .int .i64 h.2.2.2.1, .int .i64 4, .int .i64 h.2.2.2.2.1, .int .i64 1, .int .i64 0, .int .i64 1, .int .i64 ((p.length : Nat) : Int), .int .i64 2] 211) = o2 at hnsl ⊢
    refine cl_in [] [] (pput_cl (o2 :: o1 :: A) ⟨none, 0, 0⟩ [] (Sl.nil 1) (by decide) ⟨some ⟨n2, 0, none⟩, 8, 8⟩ (nums h p.length) hnsl (by show 0 < 8; decide) (by show 8 ≤ 100; decide) ?_) (by simp) ?_
    · intro x hx
      unfold nums at hx
      simp only [List.mem_cons, List.not_mem_nil, or_false] at hx
      rcases hx with rfl | rfl | rfl | rfl | rfl | rfl | rfl | rfl <;> simp only <;> omega
    rintro _ _ - ⟨s4, seg4, rfl, rfl, own4⟩
    rw [puts_nums he (by omega)] at own4
    rw [List.append_nil, List.nil_append]
    have hs4 := own4.sl.len
    rw [bvs_length, hBytes_len] at hs4
    refine ⟨(s4, ()), rfl, ?_⟩
    have hw : IntKind.i64.wrap ((S : Int) - 4) = ((S - 4 : Nat) : Int) := by rw [w64_id (by omega) (by omega)]; omega
    simp only [hw]
    refine make_of elemB (l := S - 4) (c := S - 4) (Nat.le_refl _) (by omega) fun n7 ob own7 _ _ => ?_
    refine copy_own (T := eB) (sz := 1) (l := 0) (a := ⟨n7, 0, none⟩) undB (by kernel_rfl) [] (seg4 ++ (o2 :: o1 :: A)) own7 rfl rfl rfl (by simp) (.cons (own4.sl.left)) (bvs_plain _) fun seg7 own7' => ?_
    have hm1 : min s4.len (S - 4) = 12 := by omega
    simp only [hm1, Nat.mul_one, List.nil_append] at own7' ⊢
    rw [List.take_of_length_le (by rw [bvs_length, hBytes_len]; omega)] at own7'
    refine slc_of (l' := 12) (h' := S - 4) (m' := S - 4) rfl rfl rfl (by omega) (by omega) (Nat.le_refl _) ?_
    have hd : (slcV ⟨some ⟨n7, 0, none⟩, S - 4, S - 4⟩ ((12 : Nat) : Int) ((S - 4 : Nat) : Int) ((S - 4 : Nat) : Int) 1).a = some (Addr.add ⟨n7, 0, none⟩ (12 * 1)) := by
      simp only [slcV, Int.toNat_natCast]
      rw [if_neg (by omega)]
      rfl
    have hdl : (slcV ⟨some ⟨n7, 0, none⟩, S - 4, S - 4⟩ ((12 : Nat) : Int) ((S - 4 : Nat) : Int) ((S - 4 : Nat) : Int) 1).len = S - 16 := by
      simp only [slcV, Int.toNat_natCast]; omega
    generalize slcV ⟨some ⟨n7, 0, none⟩, S - 4, S - 4⟩ ((12 : Nat) : Int) ((S - 4 : Nat) : Int) ((S - 4 : Nat) : Int) 1 = d at hd hdl ⊢
    refine copy_own (T := eB) (sz := 1) (l := 12) (a := ⟨n7, 0, none⟩) undB (by kernel_rfl) [] (seg4 ++ (o2 :: o1 :: A)) own7' rfl rfl hd (by simp only; omega) (hv.cons.cons.right.right) (bvs_plain _) fun seg8 own8 => ?_
    have hm2 : min v.len d.len = p.length := by omega
    simp only [hm2, Nat.mul_one, List.nil_append] at own8 ⊢
    rw [List.take_of_length_le (by rw [bvs_length]; omega), body_put (by omega) (by omega)] at own8
    have hbl := iBody_len (h := h) (p := p) (size := S) (by omega) (by omega)
    have hallE : iAll h p S = iBody h p S ++ digs (crcSum (iBody h p S)).toNat 4 := rfl
    rw [hallE]
    generalize iBody h p S = body at own8 hbl ⊢
    refine cl_rd (sum_rd _ ⟨some ⟨n7, 0, none⟩, S - 4, S - 4⟩ body own8.sl.left (by omega)) (crcSum body, ()) rfl (nw_of fun n3 _ => ?_)
    have hcs := crcSum_rng body
    have hsl3 : Sl ((n3, Obj.cells #[.int .i64 (crcSum body), .int .i64 4] 211) :: (seg8 ++ (seg4 ++ (o2 :: o1 :: A)))) ⟨some ⟨n3, 0, none⟩, 1, 1⟩ 2 ([((crcSum body, 4, ()) : PNum)].flatMap pnEnc) := ⟨rfl, Nat.le_refl _, .inr ⟨_, rfl, ldB List.mem_cons_self rfl⟩⟩
    refine cl_in [] [] (pput_cl ((n3, Obj.cells #[.int .i64 (crcSum body), .int .i64 4] 211) :: (seg8 ++ (seg4 ++ (o2 :: o1 :: A)))) ⟨some ⟨n7, 0, none⟩, S - 4, S - 4⟩ body own8.sl.left.cons (by omega) ⟨some ⟨n3, 0, none⟩, 1, 1⟩ _ hsl3 (by show 0 < 1; decide) (by show 1 ≤ 100; decide) (fun x hx => by rw [List.mem_singleton.1 hx]; simp only; omega)) (by simp) ?_
    rintro _ _ - ⟨s9, seg9, rfl, rfl, own9⟩
    rw [puts_crc] at own9
    rw [List.append_nil, List.nil_append]
    refine ⟨(s9, ()), rfl, .drop (A := seg9 ++ A) (J := (n3, Obj.cells #[.int .i64 (crcSum body), .int .i64 4] 211) :: (seg8 ++ (seg4 ++ [o2, o1]))) ⟨s9, seg9, rfl, rfl, own9⟩ ?_⟩
    classical
    rw [List.perm_iff_count]
    intro x
    simp only [List.append_eq, List.cons_append, List.count_append, List.count_cons, List.count_nil]
    omega
end Go.Proofs.Ytlabcgnegbdlfaa
set_option linter.unusedVariables false
set_option linter.unusedSimpArgs false
namespace Go.Proofs.Ytlabcgnegbdlfaa
open Go.HL

theorem u8w (k : Nat) : IntKind.u8.wrap (k : Int) = ((dig k 0).toNat : Int) := by
  have := wrap_dig k 0
  rwa [show k / 256 ^ 0 = k by simp] at this
theorem digs1 (k : Nat) : digs k 1 = [dig k 0] := rfl
theorem rimage_cl (A : HList) (h : Hd) (v : SlV) (p : List UInt8) (hv : BSl A v p) (size : Int) (hs : -9223372036854775808 ≤ size ∧ size ≤ 9223372036854775807) :
    CallF PP 100 #[.agg #[.int .i64 h.1, .int .i64 h.2.1, .int .i64 h.2.2.1, .int .i64 h.2.2.2.1, .int .i64 h.2.2.2.2.1], .slice v.a v.len v.cap, .int .i64 size] A (ImgK h p size A) := by
  refine CallF.of (args := [.agg #[.int .i64 h.1, .int .i64 h.2.1, .int .i64 h.2.2.1, .int .i64 h.2.2.2.1, .int .i64 h.2.2.2.2.1], .slice v.a v.len v.cap, .int .i64 size]) noNum mixed Try.func100 (e100 h v size _) ?_
  unfold t100
  have hvl := hv.len
  refine nw_of fun n1 _ => ?_
  generalize ho : (n1, Obj.cells #[.int .i64 h.1, .int .i64 h.2.1, .int .i64 h.2.2.1, .int .i64 h.2.2.2.1, .int .i64 h.2.2.2.2.1] 111) = o1
  have lh : ∀ {Z : HList}, o1 ∈ Z → LdAt ⟨n1, 0, none⟩ (hEnc h) Z := by subst ho; exact fun hm => ldB hm rfl
  clear ho
  refine cl_rd (rsized_rd _ size) (szd size, ()) rfl ?_
  cases hsz : szd size with
  | false => exact ifT rfl (.cons (.of (ImgK.err (by unfold imgR; rw [if_pos (szd_f hsz)]))))
  | true =>
    have hS := szd_t hsz
    refine ifF rfl (ld_of h (lh (by simp)) (cl_rd (rright_rd _ h) (hErr h, ()) rfl ?_))
    refine ifNe_of (fun (he : hErr h ≠ 0) => .cons (.of (ImgK.err (by unfold imgR; rw [if_neg (by simpa using hS), if_pos he])))) (fun (he : hErr h = 0) => ?_)
    rw [w64_id (by omega) (by omega)]
    refine ifD_of (fun (hl : (v.len : Int) > size - 16) => .cons (.of (ImgK.err (by unfold imgR; rw [if_neg (by simpa using hS), if_neg (by simpa using he), if_pos (by omega)])))) (fun (hl : ¬ (v.len : Int) > size - 16) => ?_)
    obtain ⟨S, rfl⟩ : ∃ S : Nat, size = S := ⟨size.toNat, by omega⟩
    have himg : imgR h p S = (iAll h p S, 0) := by
      unfold imgR
      rw [if_neg (by simpa using hS), if_neg (by simpa using he), if_neg (by omega), Int.toNat_natCast]
    unfold ImgK
    rw [himg]
    have hok := hErr_ok he
    obtain ⟨k, pa, ps, ep, pg, u⟩ := h
    simp only at hok
    obtain ⟨k, rfl⟩ : ∃ n : Nat, k = n := ⟨k.toNat, by omega⟩
    obtain ⟨pa, rfl⟩ : ∃ n : Nat, pa = n := ⟨pa.toNat, by omega⟩
    obtain ⟨ps, rfl⟩ : ∃ n : Nat, ps = n := ⟨ps.toNat, by omega⟩
    obtain ⟨ep, rfl⟩ : ∃ n : Nat, ep = n := ⟨ep.toNat, by omega⟩
    obtain ⟨pg, rfl⟩ : ∃ n : Nat, pg = n := ⟨pg.toNat, by omega⟩
    refine ld_of (k : Int) ((lh (by simp)).pre fun i u hu => by cases i with | zero => exact hu | succ i => exact absurd (show (none : Option Value) = some u from hu) (by simp)) (ld_of (pa : Int) ((lh (by simp)).one 1 rfl) (ld_of (ps : Int) ((lh (by simp)).one 2 rfl) (nw_of fun n2 _ => ?_)))
    simp only [u8w]
    have c2 : BSl ((n2, Obj.cells #[.int .u8 (dig k 0).toNat, .int .u8 (dig pa 0).toNat, .int .u8 (dig ps 0).toNat, .int .u8 165] eB) :: o1 :: A) ⟨some ⟨n2, 0, none⟩, 4, 4⟩ [dig k 0, dig pa 0, dig ps 0, 165] :=
      ⟨rfl, Nat.le_refl _, .inr ⟨_, rfl, ldB List.mem_cons_self rfl⟩⟩
    have e2 : [dig k 0, dig pa 0, dig ps 0, 165] = digs k 1 ++ digs pa 1 ++ digs ps 1 ++ digs 165 1 := rfl
    rw [e2] at c2
    generalize (n2, Obj.cells #[.int .u8 (dig k 0).toNat, .int .u8 (dig pa 0).toNat, .int .u8 (dig ps 0).toNat, .int .u8 165] eB) = o2 at c2 ⊢
    refine ld_of (ep : Int) ((lh (by simp)).one 3 rfl) (cl_in [] [] (rput_cl (o2 :: o1 :: A) ⟨some ⟨n2, 0, none⟩, 4, 4⟩ _ c2 (by simp [digs_len]) ep 4 (by omega) (by omega)) (by simp) ?_)
    rintro _ _ - ⟨s3, seg3, rfl, rfl, own3⟩
    rw [wput_4 (n := (ep : Int)) _ (by omega) (by omega), Int.toNat_natCast] at own3
    rw [List.append_nil, List.nil_append]
    refine ⟨(s3, _, ()), rfl, ld_of (pg : Int) ((lh (by simp)).one 4 rfl) (nw_of fun n3 _ => ?_)⟩
    have c3 : BSl ((n3, Obj.cells #[.int .u8 (IntKind.u8.wrap (pg : Int)), .int .u8 0] eB) :: (seg3 ++ (o2 :: o1 :: A))) ⟨some ⟨n3, 0, none⟩, 2, 2⟩ (digs pg 1 ++ digs 0 1) := by
      rw [u8w]
      exact ⟨rfl, Nat.le_refl _, .inr ⟨_, rfl, ldB List.mem_cons_self rfl⟩⟩
    have hl3 := own3.sl.len
    rw [bvs_length] at hl3
    simp only [List.length_append, digs_len] at hl3
    refine append_in elemB srcB [(n3, Obj.cells #[.int .u8 (IntKind.u8.wrap (pg : Int)), .int .u8 0] eB)] (o2 :: o1 :: A) own3 rfl (.sl c3) (bvs_plain _) (by first | omega | (simp only; omega)) fun s4 seg4 hs4 own4 => ?_
    rw [← bvs_append] at own4
    generalize (n3, Obj.cells #[.int .u8 (IntKind.u8.wrap (pg : Int)), .int .u8 0] eB) = o3 at own4 ⊢
    have hvl' : ((v.len : Nat) : Int) = ((p.length : Nat) : Int) := by omega
    rw [hvl']
    refine cl_in [] [] (rput_cl (o3 :: (seg4 ++ (o2 :: o1 :: A))) s4 _ own4.sl.left.cons (by simp [digs_len]) (p.length : Int) 2 (by omega) (by omega)) (by simp) ?_
    rintro _ _ - ⟨s5, seg5, rfl, rfl, own5⟩
    rw [wput_2 (n := ((p.length : Nat) : Int)) _ (by omega) (by omega), Int.toNat_natCast] at own5
    have e5 : digs k 1 ++ digs pa 1 ++ digs ps 1 ++ digs 165 1 ++ digs ep 4 ++ (digs pg 1 ++ digs 0 1) ++ digs p.length 2 = hBytes ((k : Int), (pa : Int), (ps : Int), (ep : Int), (pg : Int), ()) p.length := by
      unfold hBytes
      simp only [Int.toNat_natCast, List.append_assoc]
    rw [e5] at own5
    rw [List.append_nil, List.nil_append]
    refine ⟨(s5, _, ()), rfl, ?_⟩
    have hl5 := own5.sl.len
    rw [bvs_length, hBytes_len] at hl5
    refine append_in elemB srcB [] (o3 :: (seg4 ++ (o2 :: o1 :: A))) own5 rfl (.sl (hv.cons.cons.right.cons.right)) (bvs_plain _) (by first | omega | (simp only; omega)) fun s6 seg6 hs6 own6 => ?_
    rw [← bvs_append] at own6
    rw [List.nil_append]
    have hw : IntKind.i64.wrap ((S : Int) - 4) = ((S - 4 : Nat) : Int) := by rw [w64_id (by omega) (by omega)]; omega
    simp only [hw]
    generalize hh : ((k : Int), (pa : Int), (ps : Int), (ep : Int), (pg : Int), ()) = hd at own6 he himg
    have hb12 := hBytes_len hd p.length
    refine lp_of (fun q z L' => ∃ (j : Nat) (s : SlV) (seg J : HList), j ≤ S - 16 - p.length ∧ q = S - 16 - p.length - j ∧ z = (s, ()) ∧ L' = J ++ seg ++ (o3 :: (seg4 ++ (o2 :: o1 :: A))) ∧ Own s 1 eB (bvs (hBytes hd p.length ++ p ++ List.replicate j 0)) seg) (S - 16 - p.length)
      ⟨0, s6, seg6, [], by omega, by omega, rfl, rfl, by simpa using own6⟩ ?_
    rintro q z L' ⟨j, s, seg, J, hj, rfl, rfl, rfl, own⟩
    have hsl := own.sl.len
    rw [bvs_length] at hsl
    simp only [List.length_append, List.length_replicate, hb12] at hsl
    refine ifD_of (fun (hlt : (s.len : Int) < ((S - 4 : Nat) : Int)) => ?_) (fun (hge : ¬ (s.len : Int) < ((S - 4 : Nat) : Int)) => ?_)
    · refine nw_of fun n4 _ => ?_
      have c4 : BSl ((n4, Obj.cells #[.int .u8 0] eB) :: (J ++ seg ++ (o3 :: (seg4 ++ (o2 :: o1 :: A))))) ⟨some ⟨n4, 0, none⟩, 1, 1⟩ [0] := ⟨rfl, Nat.le_refl _, .inr ⟨_, rfl, ldB List.mem_cons_self rfl⟩⟩
      refine append_in elemB srcB ((n4, Obj.cells #[.int .u8 0] eB) :: J) (o3 :: (seg4 ++ (o2 :: o1 :: A))) own (by simp) (.sl c4) (bvs_plain _) (by first | omega | (simp only; omega)) fun s7 seg7 hs7 own7 => ?_
      rw [← bvs_append] at own7
      refine ⟨S - 16 - p.length - (j + 1), by omega, j + 1, s7, seg7, _, by omega, rfl, rfl, rfl, ?_⟩
      rw [List.replicate_succ', ← List.append_assoc]
      exact own7
    · obtain rfl : j = S - 16 - p.length := by omega
      have hbody : hBytes hd p.length ++ p ++ List.replicate (S - 16 - p.length) 0 = iBody hd p S := rfl
      have hallE : iAll hd p S = iBody hd p S ++ digs (crcSum (iBody hd p S)).toNat 4 := rfl
      have hbl := iBody_len (h := hd) (p := p) (size := S) (by omega) (by omega)
      rw [hbody] at own
      rw [hallE]
      generalize iBody hd p S = body at own hbl ⊢
      have hcs := crcSum_rng body
      refine cl_rd (rsum_rd _ s body own.sl.right.left (by omega)) (crcSum body, ()) rfl ?_
      refine cl_in [] [] (rput_cl (J ++ seg ++ (o3 :: (seg4 ++ (o2 :: o1 :: A)))) s body own.sl.right.left (by omega) (crcSum body) 4 (by omega) (by omega)) (by simp) ?_
      rintro _ _ - ⟨s9, seg9, rfl, rfl, own9⟩
      rw [wput_4 (n := crcSum body) _ (by omega) (by omega)] at own9
      rw [List.append_nil, List.nil_append]
      refine ⟨(s9, _, ()), rfl, .drop (A := seg9 ++ A) (J := J ++ seg ++ (o3 :: (seg4 ++ [o2, o1]))) ⟨s9, seg9, rfl, rfl, own9⟩ ?_⟩
      classical
      rw [List.perm_iff_count]
      intro x
      simp only [List.append_eq, List.cons_append, List.count_append, List.count_cons, List.count_nil]
      omega
end Go.Proofs.Ytlabcgnegbdlfaa
set_option linter.unusedVariables false
set_option linter.unusedSimpArgs false
namespace Go.Proofs.Ytlabcgnegbdlfaa
open Go.HL

theorem digs_num : ∀ l : List UInt8, digs (num l) l.length = l
  | [] => rfl
  | x :: r => by
    rw [List.length_cons, digs_cons]
    have h1 : UInt8.ofNat (num (x :: r)) = x := by
      show UInt8.ofNat (x.toNat + 256 * num r) = x
      apply UInt8.toNat_inj.1
      have := x.toNat_lt
      simp
    have h2 : num (x :: r) / 256 = num r := by
      show (x.toNat + 256 * num r) / 256 = num r
      have := x.toNat_lt
      omega
    rw [h1, h2, digs_num r]
def hOf (b : List UInt8) : Hd := ((b.getD 0 0).toNat, (b.getD 1 0).toNat, (b.getD 2 0).toNat, num ((b.drop 4).take 4), (b.getD 8 0).toNat, ())
def nOf (b : List UInt8) : Nat := num ((b.drop 10).take 2)
def padOf (b : List UInt8) : List UInt8 := (b.drop (12 + nOf b)).take (b.length - 4 - (12 + nOf b))
def payOf (b : List UInt8) : List UInt8 := (b.drop 12).take (nOf b)
def pbad (b : List UInt8) : Bool := decide (b.getD 3 0 ≠ 165) || decide (b.getD 9 0 ≠ 0) || decide (nOf b > b.length - 16) || decide (hErr (hOf b) ≠ 0) || (padOf b).any fun x => decide (x ≠ 0)
def pblank (b : List UInt8) : Bool := b.all fun x => decide (x = 255)
def hz : Hd := (0, 0, 0, 0, 0, ())
/-- What bytes say as a page. -/
def parR (b : List UInt8) : Hd × List UInt8 × Int :=
  if ¬ (64 ≤ b.length ∧ b.length ≤ 512) then (hz, [], 2) else if pblank b = true then (hz, [], 15) else if crcSum (b.take (b.length - 4)) ≠ (num (b.drop (b.length - 4)) : Int) then (hz, [], 12) else if pbad b = true then (hz, [], 5) else (hOf b, payOf b, 0)
theorem cons12 {b : List UInt8} (h : 12 ≤ b.length) : ∃ b0 b1 b2 b3 b4 b5 b6 b7 b8 b9 b10 b11 r, b = b0 :: b1 :: b2 :: b3 :: b4 :: b5 :: b6 :: b7 :: b8 :: b9 :: b10 :: b11 :: r := by
  match b, h with
  | b0 :: b1 :: b2 :: b3 :: b4 :: b5 :: b6 :: b7 :: b8 :: b9 :: b10 :: b11 :: r, _ => exact ⟨b0, b1, b2, b3, b4, b5, b6, b7, b8, b9, b10, b11, r, rfl⟩
theorem dig_b (x : UInt8) : digs x.toNat 1 = [x] := by
  have := digs_num [x]
  simpa [num] using this
theorem hBytes_of (b0 b1 b2 b3 b4 b5 b6 b7 b8 b9 b10 b11 : UInt8) (r : List UInt8) : hBytes (hOf (b0 :: b1 :: b2 :: b3 :: b4 :: b5 :: b6 :: b7 :: b8 :: b9 :: b10 :: b11 :: r)) (nOf (b0 :: b1 :: b2 :: b3 :: b4 :: b5 :: b6 :: b7 :: b8 :: b9 :: b10 :: b11 :: r)) = [b0, b1, b2, 165, b4, b5, b6, b7, b8, 0, b10, b11] := by
  have h4 : digs (num [b4, b5, b6, b7]) 4 = [b4, b5, b6, b7] := digs_num _
  have h2 : digs (num [b10, b11]) 2 = [b10, b11] := digs_num _
  show digs ((b0.toNat : Int)).toNat 1 ++ digs ((b1.toNat : Int)).toNat 1 ++ digs ((b2.toNat : Int)).toNat 1 ++ digs 165 1 ++ digs ((num [b4, b5, b6, b7] : Int)).toNat 4 ++ digs ((b8.toNat : Int)).toNat 1 ++ digs 0 1 ++ digs (num [b10, b11]) 2 = _
  simp only [Int.toNat_natCast, dig_b, h4, h2]
  rfl
theorem nOf_lt (b : List UInt8) : nOf b < 65536 := by
  have h1 := num_lt ((b.drop 10).take 2)
  have h2 : 256 ^ ((b.drop 10).take 2).length ≤ 256 ^ 2 := Nat.pow_le_pow_right (by omega) (by rw [List.length_take]; omega)
  unfold nOf
  omega
theorem payOf_len {b : List UInt8} (h : 12 + nOf b ≤ b.length) : (payOf b).length = nOf b := by
  unfold payOf; rw [List.length_take, List.length_drop]; omega
/-- The bytes of a page are those of its image, where they can be. -/
theorem again {b : List UInt8} (h1 : 64 ≤ b.length) (hc : crcSum (b.take (b.length - 4)) = (num (b.drop (b.length - 4)) : Int)) (hn : nOf b ≤ b.length - 16) :
    iAll (hOf b) (payOf b) b.length = b ↔ b.getD 3 0 = 165 ∧ b.getD 9 0 = 0 ∧ ∀ x ∈ padOf b, x = 0 := by
  have hpl := payOf_len (b := b) (by omega)
  obtain ⟨b0, b1, b2, b3, b4, b5, b6, b7, b8, b9, b10, b11, r, rfl⟩ := cons12 (b := b) (by omega)
  have hb := hBytes_of b0 b1 b2 b3 b4 b5 b6 b7 b8 b9 b10 b11 r
  generalize hB : b0 :: b1 :: b2 :: b3 :: b4 :: b5 :: b6 :: b7 :: b8 :: b9 :: b10 :: b11 :: r = b at *
  have hlen : b.length = r.length + 12 := by subst hB; simp
  have hpay : payOf b = r.take (nOf b) := by unfold payOf; subst hB; rfl
  have hpad : padOf b = (r.drop (nOf b)).take (b.length - 16 - nOf b) := by
    unfold padOf
    rw [show b.length - 4 - (12 + nOf b) = b.length - 16 - nOf b by omega]
    congr 1
    subst hB
    rw [← List.drop_drop]; rfl
  have hlast : b.drop (b.length - 4) = r.drop (b.length - 16) := by
    rw [show b.length - 4 = 12 + (b.length - 16) by omega, ← List.drop_drop]
    congr 1
    subst hB; rfl
  have hpadl : (padOf b).length = b.length - 16 - nOf b := by rw [hpad, List.length_take, List.length_drop]; omega
  have hr : r = payOf b ++ padOf b ++ b.drop (b.length - 4) := by
    rw [hpay, hpad, hlast]
    have e1 : r.drop (b.length - 16) = (r.drop (nOf b)).drop (b.length - 16 - nOf b) := by rw [List.drop_drop]; congr 1; omega
    rw [e1, List.append_assoc, List.take_append_drop, List.take_append_drop]
  have hg3 : b.getD 3 0 = b3 := by subst hB; rfl
  have hg9 : b.getD 9 0 = b9 := by subst hB; rfl
  have hbt : b.take (b.length - 4) = [b0, b1, b2, b3, b4, b5, b6, b7, b8, b9, b10, b11] ++ (payOf b ++ padOf b) := by
    have : b = ([b0, b1, b2, b3, b4, b5, b6, b7, b8, b9, b10, b11] ++ (payOf b ++ padOf b)) ++ b.drop (b.length - 4) := by
      rw [List.append_assoc, ← hr, ← hB]; rfl
    have e := congrArg (List.take (b.length - 4)) this
    rw [List.take_left' (by
      rw [List.length_append, List.length_append, hpl, hpadl]
      simp only [List.length_cons, List.length_nil]
      omega)] at e
    exact e
  have hll : (b.drop (b.length - 4)).length = 4 := by rw [List.length_drop]; omega
  have hbody : iBody (hOf b) (payOf b) b.length = [b0, b1, b2, 165, b4, b5, b6, b7, b8, 0, b10, b11] ++ (payOf b ++ List.replicate (b.length - 16 - nOf b) 0) := by
    unfold iBody
    rw [hpl, hb, List.append_assoc]
  have hpad0 : (∀ x ∈ padOf b, x = 0) ↔ List.replicate (b.length - 16 - nOf b) 0 = padOf b := by
    rw [← hpadl]
    constructor
    · intro h; exact (List.eq_replicate_iff.2 ⟨rfl, h⟩).symm
    · intro h x hx; rw [← h] at hx; exact List.eq_of_mem_replicate hx
  rw [hg3, hg9, hpad0]
  have hB2 : b = [b0, b1, b2, b3, b4, b5, b6, b7, b8, b9, b10, b11] ++ (payOf b ++ (padOf b ++ b.drop (b.length - 4))) := by
    rw [← List.append_assoc (payOf b), ← hr, ← hB]; rfl
  constructor
  · intro h
    unfold iAll at h
    rw [hbody, List.append_assoc, List.append_assoc] at h
    have h' := h.trans hB2
    obtain ⟨e1, e2⟩ := List.append_inj h' rfl
    obtain ⟨e3, e4⟩ := List.append_inj e2 rfl
    obtain ⟨e5, e6⟩ := List.append_inj e4 (by rw [List.length_replicate, hpadl])
    simp only [List.cons.injEq, and_true, true_and] at e1
    exact ⟨e1.1.symm, e1.2.symm, e5⟩
  · rintro ⟨rfl, rfl, e5⟩
    have : iBody (hOf b) (payOf b) b.length = b.take (b.length - 4) := by rw [hbody, e5, hbt]
    unfold iAll
    rw [this, hc, Int.toNat_natCast]
    have h4 := digs_num (b.drop (b.length - 4))
    rw [hll] at h4
    rw [h4, List.take_append_drop]
end Go.Proofs.Ytlabcgnegbdlfaa
set_option linter.unusedVariables false
set_option linter.unusedSimpArgs false
namespace Go.Proofs.Ytlabcgnegbdlfaa
open Go.HL

theorem ne255 (x : UInt8) : ((x.toNat : Int) ≠ 255) ↔ x ≠ 255 := by
  constructor
  · rintro h rfl; exact h rfl
  · intro h e
    apply h
    apply UInt8.toNat_inj.1
    show x.toNat = 255
    omega
theorem eq_u8 (x : UInt8) (n : Nat) (hn : n < 256) : ((x.toNat : Int) = n) ↔ x = UInt8.ofNat n := by
  constructor
  · intro h; apply UInt8.toNat_inj.1; simp; omega
  · rintro rfl; simp; omega
theorem pblank_rd (L : HList) (v : SlV) (b : List UInt8) (hb : BSl L v b) (hl : b.length ≤ 1000000) : Reads PP 96 #[.slice v.a v.len v.cap] L (.bool (pblank b)) := by
  refine Reads.of (args := [.slice v.a v.len v.cap]) noNum mixed Try.func96 (e96 v _) ?_
  unfold t96
  have hlen := hb.len
  refine lp_of (fun k z L' => L' = L ∧ ∃ i : Nat, i ≤ b.length ∧ k = b.length - i ∧ z = ((i : Int), ()) ∧ ∀ x ∈ b.take i, x = 255) b.length ⟨rfl, 0, by omega, by omega, rfl, by simp⟩ ?_
  rintro k z L' ⟨rfl, i, hi, rfl, rfl, hall⟩
  refine ifD_of (fun (hlt : (i : Int) < v.len) => ?_) (fun (hge : ¬ (i : Int) < v.len) => ?_)
  · have hi' : i < b.length := by omega
    obtain ⟨a, ha⟩ := hb.some hi'
    refine nilc_of ha (ixn_of (show (0 : Int) ≤ i by omega) hlt (ld_of (b[i].toNat : Int) (hb.rd hi' ha _ (by simp)) ?_))
    refine ifNe_of (fun hne => .of ⟨?_, rfl⟩) (fun he => ⟨b.length - (i + 1), by omega, rfl, i + 1, by omega, rfl, ?_, fun x hx => ?_⟩)
    · have : pblank b = false := by
        unfold pblank
        rw [List.all_eq_false]
        exact ⟨b[i], List.getElem_mem hi', by simpa using (ne255 _).1 hne⟩
      rw [this]
    · rw [w64_id (by first | omega | (simp only; omega)) (by first | omega | (simp only; omega))]
      rfl
    · rw [List.take_succ_eq_append_getElem hi'] at hx
      rcases List.mem_append.1 hx with hx | hx
      · exact hall x hx
      · rw [List.mem_singleton.1 hx]
        exact Decidable.byContradiction fun hc => (ne255 _).2 hc he
  · obtain rfl : i = b.length := by omega
    rw [List.take_length] at hall
    refine .of ⟨?_, rfl⟩
    have : pblank b = true := by
      unfold pblank
      rw [List.all_eq_true]
      intro x hx
      simpa using hall x hx
    rw [this]
theorem rblank_rd (L : HList) (v : SlV) (b : List UInt8) (hb : BSl L v b) (hl : b.length ≤ 1000000) : Reads PP 64 #[.slice v.a v.len v.cap] L (.bool (pblank b)) := by
  refine Reads.of (args := [.slice v.a v.len v.cap]) noNum mixed Try.func64 (e64 v _) ?_
  unfold t64
  have hlen := hb.len
  refine lp_of (fun k z L' => L' = L ∧ ∃ i : Nat, i ≤ b.length ∧ k = b.length - i ∧ z = ((i : Int), ()) ∧ ∀ x ∈ b.take i, x = 255) b.length ⟨rfl, 0, by omega, by omega, rfl, by simp⟩ ?_
  rintro k z L' ⟨rfl, i, hi, rfl, rfl, hall⟩
  refine ifD_of (fun (hlt : (i : Int) < v.len) => ?_) (fun (hge : ¬ (i : Int) < v.len) => ?_)
  · have hi' : i < b.length := by omega
    obtain ⟨a, ha⟩ := hb.some hi'
    refine nilc_of ha (ixn_of (show (0 : Int) ≤ i by omega) hlt (ld_of (b[i].toNat : Int) (hb.rd hi' ha _ (by simp)) ?_))
    refine ifNe_of (fun hne => .of ⟨?_, rfl⟩) (fun he => ⟨b.length - (i + 1), by omega, rfl, i + 1, by omega, rfl, ?_, fun x hx => ?_⟩)
    · have : pblank b = false := by
        unfold pblank
        rw [List.all_eq_false]
        exact ⟨b[i], List.getElem_mem hi', by simpa using (ne255 _).1 hne⟩
      rw [this]
    · rw [w64_id (by first | omega | (simp only; omega)) (by first | omega | (simp only; omega))]
      rfl
    · rw [List.take_succ_eq_append_getElem hi'] at hx
      rcases List.mem_append.1 hx with hx | hx
      · exact hall x hx
      · rw [List.mem_singleton.1 hx]
        exact Decidable.byContradiction fun hc => (ne255 _).2 hc he
  · obtain rfl : i = b.length := by omega
    rw [List.take_length] at hall
    refine .of ⟨?_, rfl⟩
    have : pblank b = true := by
      unfold pblank
      rw [List.all_eq_true]
      intro x hx
      simpa using hall x hx
    rw [this]
theorem pat_rd (L : HList) (v : SlV) (b : List UInt8) (hb : BSl L v b) (hl : b.length ≤ 1000000) (a w : Int) : Reads PP 103 #[.slice v.a v.len v.cap, .int .i64 a, .int .i64 w] L (.int .i64 (wget b a w).1) := by
  refine Reads.of (args := [.slice v.a v.len v.cap, .int .i64 a, .int .i64 w]) noNum mixed Try.func103 (e103 v a w _) ?_
  unfold t103
  exact cl_rd (wget_rd _ v b hb (by omega) a w) ((wget b a w).1, (wget b a w).2, ()) rfl (.of ⟨rfl, rfl⟩)
def ParK (b : List UInt8) (A : HList) (v : Value) (L' : HList) : Prop := ∃ (s : SlV) (seg : HList), v = .tuple #[.agg #[.int .i64 (parR b).1.1, .int .i64 (parR b).1.2.1, .int .i64 (parR b).1.2.2.1, .int .i64 (parR b).1.2.2.2.1, .int .i64 (parR b).1.2.2.2.2.1], .slice s.a s.len s.cap, .int .i64 (parR b).2.2] ∧ L' = seg ++ A ∧ Own s 1 eB (bvs (parR b).2.1) seg
theorem ParK.err {b : List UInt8} {A : HList} {e : Int} (he : parR b = (hz, [], e)) : ParK b A (.tuple #[.agg #[.int .i64 0, .int .i64 0, .int .i64 0, .int .i64 0, .int .i64 0], .slice none 0 0, .int .i64 e]) A := ⟨⟨none, 0, 0⟩, [], by rw [he]; rfl, rfl, by rw [he]; exact own_nil⟩
theorem wget_at {b : List UInt8} {a w : Nat} (h : 1 ≤ w) (h7 : w ≤ 7) (h2 : a + w ≤ b.length) : (wget b (a : Int) (w : Int)).1 = (num ((b.drop a).take w) : Int) := by rw [wget_ok h h7 h2]
theorem getD_at {b : List UInt8} {i : Nat} (h : i < b.length) : b.getD i 0 = b[i] := by simp [List.getD_eq_getElem?_getD, h]
theorem parR_size {b : List UInt8} (h : ¬ (64 ≤ b.length ∧ b.length ≤ 512)) : parR b = (hz, [], 2) := by unfold parR; rw [if_pos h]
theorem parR_blank {b : List UInt8} (h : 64 ≤ b.length ∧ b.length ≤ 512) (h2 : pblank b = true) : parR b = (hz, [], 15) := by unfold parR; rw [if_neg (by simpa using h), if_pos h2]
theorem parR_sum {b : List UInt8} (h : 64 ≤ b.length ∧ b.length ≤ 512) (h2 : pblank b = false) (h3 : crcSum (b.take (b.length - 4)) ≠ (num (b.drop (b.length - 4)) : Int)) : parR b = (hz, [], 12) := by
  unfold parR; rw [if_neg (by simpa using h), if_neg (by rw [h2]; decide), if_pos h3]
theorem parR_bad {b : List UInt8} (h : 64 ≤ b.length ∧ b.length ≤ 512) (h2 : pblank b = false) (h3 : crcSum (b.take (b.length - 4)) = (num (b.drop (b.length - 4)) : Int)) (h4 : pbad b = true) : parR b = (hz, [], 5) := by
  unfold parR; rw [if_neg (by simpa using h), if_neg (by rw [h2]; decide), if_neg (by simpa using h3), if_pos h4]
theorem parR_ok {b : List UInt8} (h : 64 ≤ b.length ∧ b.length ≤ 512) (h2 : pblank b = false) (h3 : crcSum (b.take (b.length - 4)) = (num (b.drop (b.length - 4)) : Int)) (h4 : pbad b = false) : parR b = (hOf b, payOf b, 0) := by
  unfold parR; rw [if_neg (by simpa using h), if_neg (by rw [h2]; decide), if_neg (by simpa using h3), if_neg (by rw [h4]; decide)]
theorem pbad_iff (b : List UInt8) : pbad b = true ↔ b.getD 3 0 ≠ 165 ∨ b.getD 9 0 ≠ 0 ∨ nOf b > b.length - 16 ∨ hErr (hOf b) ≠ 0 ∨ ∃ x ∈ padOf b, x ≠ 0 := by
  unfold pbad
  simp only [Bool.or_eq_true, decide_eq_true_iff, List.any_eq_true]
  constructor
  · rintro ((((h | h) | h) | h) | h)
    · exact .inl h
    · exact .inr (.inl h)
    · exact .inr (.inr (.inl h))
    · exact .inr (.inr (.inr (.inl h)))
    · exact .inr (.inr (.inr (.inr h)))
  · rintro (h | h | h | h | h)
    · exact .inl (.inl (.inl (.inl h)))
    · exact .inl (.inl (.inl (.inr h)))
    · exact .inl (.inl (.inr h))
    · exact .inl (.inr h)
    · exact .inr h
theorem pbad_f {b : List UInt8} (h1 : b.getD 3 0 = 165) (h2 : b.getD 9 0 = 0) (h3 : nOf b ≤ b.length - 16) (h4 : hErr (hOf b) = 0) (h5 : ∀ x ∈ padOf b, x = 0) : pbad b = false := by
  rw [Bool.eq_false_iff]
  intro h
  rcases (pbad_iff b).1 h with h | h | h | h | ⟨x, hx, h⟩
  · exact h h1
  · exact h h2
  · omega
  · exact h h4
  · exact h (h5 x hx)
section
variable {b : List UInt8} {A : HList} {n1 : Nat} {e : Int}
/-- The way out where something is wrong. -/
theorem par_err (X : HList) (he : parR b = (hz, [], e)) :
    (st ⟨n1, 0, none⟩ [.int .i64 0, .int .i64 0, .int .i64 0, .int .i64 0, .int .i64 0] <|
      ld ⟨n1, 0, none⟩ (.agg [.int .i64, .int .i64, .int .i64, .int .i64, .int .i64]) fun v1 =>
      HL.Ends (ParK b A) (.tuple #[.agg #[.int .i64 v1.1, .int .i64 v1.2.1, .int .i64 v1.2.2.1, .int .i64 v1.2.2.2.1, .int .i64 v1.2.2.2.2.1], .slice none 0 0, .int .i64 e])) (X ++ (n1, Obj.cells #[.int .i64 0, .int .i64 0, .int .i64 0, .int .i64 0, .int .i64 0] 111) :: A) := by
  refine st_of X A rfl rfl (by simp) (.inl (Nat.le_refl _)) #[.int .i64 0, .int .i64 0, .int .i64 0, .int .i64 0, .int .i64 0] rfl ?_
  exact ld_of (0, 0, 0, 0, 0, ()) (ldB (n := n1) (c := #[.int .i64 0, .int .i64 0, .int .i64 0, .int .i64 0, .int .i64 0]) (T := 111) (fz := (0, 0)) (by simp) rfl) (.app (.cons (.of (ParK.err he))))
end
theorem par_end {b : List UInt8} {A : HList} {n1 : Nat} {h : Hd} {q : List UInt8} (hok : parR b = (h, q, 0)) {s : SlV} {seg : HList} (own : Own s 1 eB (bvs q) seg) (Y X : HList) :
    (st ⟨n1, 0, none⟩ [.int .i64 h.1, .int .i64 h.2.1, .int .i64 h.2.2.1, .int .i64 h.2.2.2.1, .int .i64 h.2.2.2.2.1] <|
      ld ⟨n1, 0, none⟩ (.agg [.int .i64, .int .i64, .int .i64, .int .i64, .int .i64]) fun v1 =>
      HL.Ends (ParK b A) (.tuple #[.agg #[.int .i64 v1.1, .int .i64 v1.2.1, .int .i64 v1.2.2.1, .int .i64 v1.2.2.2.1, .int .i64 v1.2.2.2.2.1], .slice s.a s.len s.cap, .int .i64 0])) (Y ++ seg ++ (X ++ (n1, Obj.cells #[.int .i64 0, .int .i64 0, .int .i64 0, .int .i64 0, .int .i64 0] 111) :: A)) := by
  obtain ⟨k, pa, ps, ep, pg, u⟩ := h
  simp only
  refine st_of (n := n1) (off := 0) (c := #[.int .i64 0, .int .i64 0, .int .i64 0, .int .i64 0, .int .i64 0]) (T := 111) (fz := (0, 0)) (Y ++ seg ++ X) A rfl (by simp) (by simp) (.inl (Nat.le_refl _)) #[.int .i64 k, .int .i64 pa, .int .i64 ps, .int .i64 ep, .int .i64 pg] rfl ?_
  have lh : LdAt ⟨n1, 0, none⟩ [.int .i64 k, .int .i64 pa, .int .i64 ps, .int .i64 ep, .int .i64 pg] (Y ++ seg ++ X ++ (n1, Obj.cells #[.int .i64 k, .int .i64 pa, .int .i64 ps, .int .i64 ep, .int .i64 pg] 111) :: A) := ldB (n := n1) (c := #[.int .i64 k, .int .i64 pa, .int .i64 ps, .int .i64 ep, .int .i64 pg]) (T := 111) (fz := (0, 0)) (by simp) rfl
  refine ld_of (k, pa, ps, ep, pg, ()) lh ?_
  refine .drop (A := seg ++ A) (J := Y ++ X ++ [(n1, Obj.cells #[.int .i64 k, .int .i64 pa, .int .i64 ps, .int .i64 ep, .int .i64 pg] 111)]) ⟨s, seg, by rw [hok], rfl, by rw [hok]; exact own⟩ ?_
  classical
  rw [List.perm_iff_count]
  intro x
  simp only [List.append_eq, List.cons_append, List.count_append, List.count_cons, List.count_nil]
  omega
theorem pparse_cl (A : HList) (v : SlV) (b : List UInt8) (hb : BSl A v b) (hl : b.length ≤ 1000000) :
    CallF PP 67 #[.slice v.a v.len v.cap] A (ParK b A) := by
  refine CallF.of (args := [.slice v.a v.len v.cap]) noNum mixed Try.func67 (e67 v _) ?_
  unfold t67
  have hlen := hb.len
  have hcap := hb.cap
  refine nw_of fun n1 _ => ?_
  have hb1 : ∀ {X : HList}, BSl (X ++ (n1, Obj.cells #[.int .i64 0, .int .i64 0, .int .i64 0, .int .i64 0, .int .i64 0] 111) :: A) v b := fun {X} => hb.cons.right
  have hvl : ((v.len : Nat) : Int) = ((b.length : Nat) : Int) := by omega
  refine cl_rd (psized_rd _ v.len) (szd v.len, ()) rfl ?_
  cases hsz : szd v.len with
  | false => exact ifT rfl (par_err [] (parR_size (b := b) (by have := szd_f hsz; omega)))
  | true =>
    have hS : 64 ≤ b.length ∧ b.length ≤ 512 := by have := szd_t hsz; omega
    refine ifF rfl (cl_rd (pblank_rd _ v b (hb1 (X := [])) hl) (pblank b, ()) rfl ?_)
    cases hbk : pblank b with
    | true => exact ifT rfl (par_err [] (parR_blank hS hbk))
    | false =>
      refine ifF rfl ?_
      have hw : IntKind.i64.wrap ((v.len : Int) - 4) = ((b.length - 4 : Nat) : Int) := by rw [w64_id (by omega) (by omega)]; omega
      simp only [hw]
      refine slc_of (l' := 0) (h' := b.length - 4) (m' := v.cap) rfl rfl rfl (by omega) (by omega) (Nat.le_refl _) ?_
      have hs1 : BSl ((n1, Obj.cells #[.int .i64 0, .int .i64 0, .int .i64 0, .int .i64 0, .int .i64 0] 111) :: A) (slcV v ((0 : Nat) : Int) ((b.length - 4 : Nat) : Int) v.cap 1) (b.take (b.length - 4)) := by
        have := Sl.slc (m := v.cap) (hb1 (X := [])) (by omega) (l := 0) (h' := b.length - 4) (by omega) (by omega) (by omega)
        rw [bvs_slc] at this
        simpa using this
      have hnum : (wget b ((b.length - 4 : Nat) : Int) 4).1 = (num (b.drop (b.length - 4)) : Int) := by
        have e := wget_at (b := b) (a := b.length - 4) (w := 4) (by decide) (by decide) (by omega)
        rw [List.take_of_length_le (by rw [List.length_drop]; omega)] at e
        exact e
      refine cl_rd (pat_rd _ v b (hb1 (X := [])) hl _ 4) ((wget b ((b.length - 4 : Nat) : Int) 4).1, ()) rfl ?_
      rw [hnum]
      refine cl_rd (check_rd _ _ _ hs1 (by rw [List.length_take]; omega) _) (crcSum (b.take (b.length - 4)) == (num (b.drop (b.length - 4)) : Int), ()) rfl ?_
      clear hs1
      by_cases hcs : crcSum (b.take (b.length - 4)) = (num (b.drop (b.length - 4)) : Int)
      · refine ifF (by simp [hcs]) ?_
        obtain ⟨a, ha⟩ := hb.some (show 0 < b.length by omega)
        have hrd : ∀ {X : HList} (i : Nat) (hi : i < b.length) (j : Nat), j = i * 1 → LdAt (Addr.add a j) [.int .u8 (b[i].toNat : Int)] (X ++ (n1, Obj.cells #[.int .i64 0, .int .i64 0, .int .i64 0, .int .i64 0, .int .i64 0] 111) :: A) := fun {X} i hi j hj => (hb1 (X := X)).rd hi ha j hj
        refine nilc_of ha (ixn_of (by decide) (by omega) (nilc_of ha (ixn_of (by decide) (by omega) (nilc_of ha (ixn_of (by decide) (by omega) (nilc_of ha (ixn_of (by decide) (by omega) ?_)))))))
        refine ld_of (b[0].toNat : Int) (hrd (X := []) 0 (by omega) _ rfl) (ld_of (b[1].toNat : Int) (hrd (X := []) 1 (by omega) _ rfl) (ld_of (b[2].toNat : Int) (hrd (X := []) 2 (by omega) _ rfl) (ld_of (b[8].toNat : Int) (hrd (X := []) 8 (by omega) _ rfl) ?_)))
        refine cl_rd (pat_rd _ v b (hb1 (X := [])) hl 4 4) ((num ((b.drop 4).take 4) : Int), ()) (by rw [← wget_at (by decide) (by decide) (by omega)]; rfl) ?_
        refine keep_of (hrd (X := []) 8 (by omega) _ rfl) (keep_of (hrd (X := []) 2 (by omega) _ rfl) (keep_of (hrd (X := []) 1 (by omega) _ rfl) (keep_of (hrd (X := []) 0 (by omega) _ rfl) ?_)))
        have hu : ∀ x : UInt8, IntKind.i64.wrap (x.toNat : Int) = (x.toNat : Int) := fun x => by have := x.toNat_lt; exact w64_id (by omega) (by omega)
        have hh : hOf b = ((b[0].toNat : Int), (b[1].toNat : Int), (b[2].toNat : Int), (num ((b.drop 4).take 4) : Int), (b[8].toNat : Int), ()) := by
          unfold hOf
          rw [getD_at (show 0 < b.length by omega), getD_at (show 1 < b.length by omega), getD_at (show 2 < b.length by omega), getD_at (show 8 < b.length by omega)]
        simp only [hu]
        refine nw_of fun n2 _ => st_of [] _ rfl rfl (by simp) (.inl (Nat.le_refl _)) #[.int .i64 b[0].toNat, .int .i64 b[1].toNat, .int .i64 b[2].toNat, .int .i64 (num ((b.drop 4).take 4)), .int .i64 b[8].toNat] rfl ?_
        rw [List.nil_append]
        have l2 : ∀ {X : HList}, LdAt ⟨n2, 0, none⟩ (hEnc (hOf b)) (X ++ (n2, Obj.cells #[.int .i64 b[0].toNat, .int .i64 b[1].toNat, .int .i64 b[2].toNat, .int .i64 (num ((b.drop 4).take 4)), .int .i64 b[8].toNat] 111) :: (n1, Obj.cells #[.int .i64 0, .int .i64 0, .int .i64 0, .int .i64 0, .int .i64 0] 111) :: A) := fun {X} => by
          rw [hh]
          exact ldB (n := n2) (c := #[.int .i64 b[0].toNat, .int .i64 b[1].toNat, .int .i64 b[2].toNat, .int .i64 (num ((b.drop 4).take 4)), .int .i64 b[8].toNat]) (T := 111) (fz := (0, 0)) (by simp) rfl
        generalize (n2, Obj.cells #[.int .i64 b[0].toNat, .int .i64 b[1].toNat, .int .i64 b[2].toNat, .int .i64 (num ((b.drop 4).take 4)), .int .i64 b[8].toNat] 111) = o2 at l2 ⊢
        clear hu hh
        have hn : nOf b < 65536 := nOf_lt b
        refine cl_rd (pat_rd _ v b (hb1 (X := [o2])) hl 10 2) ((nOf b : Int), ()) (by unfold nOf; rw [← wget_at (by decide) (by decide) (by omega)]; rfl) ?_
        refine nilc_of ha (ixn_of (by decide) (by omega) (ld_of (b[3].toNat : Int) (hrd (X := [o2]) 3 (by omega) _ rfl) ?_))
        refine ifNe_of (fun hne => par_err [o2] (parR_bad hS hbk hcs ((pbad_iff b).2 (.inl ?_)))) (fun h3 => ?_)
        · rw [getD_at (show 3 < b.length by omega)]
          rintro e
          rw [e] at hne
          exact hne rfl
        have h3' : b.getD 3 0 = 165 := by rw [getD_at (show 3 < b.length by omega)]; exact (eq_u8 _ 165 (by decide)).1 h3
        refine nilc_of ha (ixn_of (by decide) (by omega) (ld_of (b[9].toNat : Int) (hrd (X := [o2]) 9 (by omega) _ rfl) ?_))
        refine ifNe_of (fun hne => par_err [o2] (parR_bad hS hbk hcs ((pbad_iff b).2 (.inr (.inl ?_))))) (fun h9 => ?_)
        · rw [getD_at (show 9 < b.length by omega)]
          rintro e
          rw [e] at hne
          exact hne rfl
        have h9' : b.getD 9 0 = 0 := by rw [getD_at (show 9 < b.length by omega)]; exact (eq_u8 _ 0 (by decide)).1 h9
        clear h3 h9
        have hroom : roomOf (v.len : Int) = ((b.length - 16 : Nat) : Int) := by unfold roomOf; rw [if_pos (by omega)]; omega
        refine cl_rd (proom_rd _ v.len) (roomOf v.len, ()) rfl ?_
        rw [hroom]
        refine ifD_of (fun (hbig : (nOf b : Int) > ((b.length - 16 : Nat) : Int)) => par_err [o2] (parR_bad hS hbk hcs ((pbad_iff b).2 (.inr (.inr (.inl (by omega))))))) (fun (hsm : ¬ (nOf b : Int) > ((b.length - 16 : Nat) : Int)) => ?_)
        refine ld_of (hOf b) (l2 (X := [])) (cl_rd (pcheck_rd _ (hOf b)) (hErr (hOf b), ()) rfl ?_)
        refine ifNe_of (fun (he : hErr (hOf b) ≠ 0) => par_err [o2] (parR_bad hS hbk hcs ((pbad_iff b).2 (.inr (.inr (.inr (.inl he))))))) (fun (he : hErr (hOf b) = 0) => ?_)
        have hwn : IntKind.i64.wrap (12 + (nOf b : Int)) = ((12 + nOf b : Nat) : Int) := by rw [w64_id (by omega) (by omega)]; omega
        simp only [hwn]
        refine slc_of (l' := 12 + nOf b) (h' := b.length - 4) (m' := v.cap) rfl rfl rfl (by omega) (by omega) (Nat.le_refl _) ?_
        have hs2 : BSl (o2 :: (n1, Obj.cells #[.int .i64 0, .int .i64 0, .int .i64 0, .int .i64 0, .int .i64 0] 111) :: A) (slcV v ((12 + nOf b : Nat) : Int) ((b.length - 4 : Nat) : Int) v.cap 1) (padOf b) := by
          have := Sl.slc (m := v.cap) (hb1 (X := [o2])) (by omega) (l := 12 + nOf b) (h' := b.length - 4) (by omega) (by omega) (by omega)
          rw [bvs_slc] at this
          exact this
        generalize slcV v ((12 + nOf b : Nat) : Int) ((b.length - 4 : Nat) : Int) v.cap 1 = s2 at hs2 ⊢
        have hl2 := hs2.len
        have hpl : (padOf b).length ≤ b.length := by unfold padOf; rw [List.length_take, List.length_drop]; omega
        refine lp_of (fun k z L' => L' = o2 :: (n1, Obj.cells #[.int .i64 0, .int .i64 0, .int .i64 0, .int .i64 0, .int .i64 0] 111) :: A ∧ ∃ i : Nat, i ≤ (padOf b).length ∧ k = (padOf b).length - i ∧ z = ((i : Int), ()) ∧ ∀ x ∈ (padOf b).take i, x = 0) (padOf b).length ⟨rfl, 0, by omega, by omega, rfl, by simp⟩ ?_
        rintro k z L' ⟨rfl, i, hi, rfl, rfl, hall⟩
        refine ifD_of (fun (hlt : (i : Int) < s2.len) => ?_) (fun (hge : ¬ (i : Int) < s2.len) => ?_)
        · have hi' : i < (padOf b).length := by omega
          obtain ⟨a2, ha2⟩ := hs2.some hi'
          refine nilc_of ha2 (ixn_of (show (0 : Int) ≤ i by omega) hlt (ld_of ((padOf b)[i].toNat : Int) (hs2.rd hi' ha2 _ (by simp)) ?_))
          refine ifNe_of (fun hne => par_err [o2] (parR_bad hS hbk hcs ((pbad_iff b).2 (.inr (.inr (.inr (.inr ⟨(padOf b)[i], List.getElem_mem hi', ?_⟩))))))) (fun h0 => ⟨(padOf b).length - (i + 1), by omega, rfl, i + 1, by omega, rfl, ?_, fun x hx => ?_⟩)
          · rintro e
            rw [e] at hne
            exact hne rfl
          · rw [w64_id (by first | omega | (simp only; omega)) (by first | omega | (simp only; omega))]
            rfl
          · rw [List.take_succ_eq_append_getElem hi'] at hx
            rcases List.mem_append.1 hx with hx | hx
            · exact hall x hx
            · rw [List.mem_singleton.1 hx]
              exact (eq_u8 _ 0 (by decide)).1 h0
        · obtain rfl : i = (padOf b).length := by omega
          rw [List.take_length] at hall
          have hok := parR_ok hS hbk hcs (pbad_f h3' h9' (by omega) he hall)
          refine slc_of (l' := 12) (h' := 12 + nOf b) (m' := v.cap) rfl rfl rfl (by omega) (by omega) (Nat.le_refl _) ?_
          have hs3 : ∀ {o : Nat × Obj}, BSl (o :: o2 :: (n1, Obj.cells #[.int .i64 0, .int .i64 0, .int .i64 0, .int .i64 0, .int .i64 0] 111) :: A) (slcV v ((12 : Nat) : Int) ((12 + nOf b : Nat) : Int) v.cap 1) (payOf b) := by
            intro o
            have := Sl.slc (m := v.cap) (hb1 (X := [o, o2])) (by omega) (l := 12) (h' := 12 + nOf b) (by omega) (by omega) (by omega)
            rw [bvs_slc, Nat.add_sub_cancel_left] at this
            exact this
          have hsl3 : (slcV v ((12 : Nat) : Int) ((12 + nOf b : Nat) : Int) v.cap 1).len = nOf b := by simp only [slcV, Int.toNat_natCast]; omega
          generalize slcV v ((12 : Nat) : Int) ((12 + nOf b : Nat) : Int) v.cap 1 = s3 at hs3 hsl3 ⊢
          refine ld_of (hOf b) (l2 (X := [])) (nw_of fun n3 _ => append_in elemB srcB [] (o2 :: (n1, Obj.cells #[.int .i64 0, .int .i64 0, .int .i64 0, .int .i64 0, .int .i64 0] 111) :: A) own_empty rfl (.sl hs3) (bvs_plain _) (by first | omega | (simp only; omega)) fun s4 seg4 hs4 own4 => keep_of l2 ?_)
          rw [List.nil_append] at own4
          exact par_end hok own4 [] [o2]
      · exact ifT (by simp [hcs]) (par_err [] (parR_sum hS hbk hcs))
end Go.Proofs.Ytlabcgnegbdlfaa
set_option linter.unusedVariables false
set_option linter.unusedSimpArgs false
namespace Go.Proofs.Ytlabcgnegbdlfaa
open Go.HL

theorem imgR_ok {h : Hd} {p : List UInt8} {S : Nat} (h1 : 64 ≤ S ∧ S ≤ 512) (h2 : hErr h = 0) (h3 : p.length ≤ S - 16) : imgR h p (S : Int) = (iAll h p S, 0) := by
  unfold imgR
  rw [if_neg (by omega), if_neg (by simpa using h2), if_neg (by omega), Int.toNat_natCast]
theorem imgR_err {h : Hd} {p : List UInt8} {S : Nat} (h1 : 64 ≤ S ∧ S ≤ 512) (h2 : hErr h ≠ 0) : imgR h p (S : Int) = ([], hErr h) := by
  unfold imgR
  rw [if_neg (by omega), if_pos h2]
theorem rparse_cl (A : HList) (v : SlV) (b : List UInt8) (hb : BSl A v b) (hl : b.length ≤ 1000000) :
    CallF PP 62 #[.slice v.a v.len v.cap] A (ParK b A) := by
  refine CallF.of (args := [.slice v.a v.len v.cap]) noNum mixed Try.func62 (e62 v _) ?_
  unfold t62
  have hlen := hb.len
  have hcap := hb.cap
  refine nw_of fun n1 _ => ?_
  have hb1 : ∀ {X : HList}, BSl (X ++ (n1, Obj.cells #[.int .i64 0, .int .i64 0, .int .i64 0, .int .i64 0, .int .i64 0] 111) :: A) v b := fun {X} => hb.cons.right
  have hvl : ((v.len : Nat) : Int) = ((b.length : Nat) : Int) := by omega
  refine cl_rd (rsized_rd _ v.len) (szd v.len, ()) rfl ?_
  cases hsz : szd v.len with
  | false => exact ifT rfl (par_err [] (parR_size (b := b) (by have := szd_f hsz; omega)))
  | true =>
    have hS : 64 ≤ b.length ∧ b.length ≤ 512 := by have := szd_t hsz; omega
    refine ifF rfl (cl_rd (rblank_rd _ v b (hb1 (X := [])) hl) (pblank b, ()) rfl ?_)
    cases hbk : pblank b with
    | true => exact ifT rfl (par_err [] (parR_blank hS hbk))
    | false =>
      refine ifF rfl ?_
      have hw : IntKind.i64.wrap ((v.len : Int) - 4) = ((b.length - 4 : Nat) : Int) := by rw [w64_id (by omega) (by omega)]; omega
      simp only [hw]
      have hnum : (wget b ((b.length - 4 : Nat) : Int) 4).1 = (num (b.drop (b.length - 4)) : Int) := by
        have e := wget_at (b := b) (a := b.length - 4) (w := 4) (by decide) (by decide) (by omega)
        rw [List.take_of_length_le (by rw [List.length_drop]; omega)] at e
        exact e
      refine cl_rd (rget_rd _ v b (hb1 (X := [])) (by omega) _ 4) ((wget b ((b.length - 4 : Nat) : Int) 4).1, (wget b ((b.length - 4 : Nat) : Int) 4).2, ()) rfl ?_
      rw [hnum]
      refine slc_of (l' := 0) (h' := b.length - 4) (m' := v.cap) rfl rfl rfl (by omega) (by omega) (Nat.le_refl _) ?_
      have hs1 : BSl ((n1, Obj.cells #[.int .i64 0, .int .i64 0, .int .i64 0, .int .i64 0, .int .i64 0] 111) :: A) (slcV v ((0 : Nat) : Int) ((b.length - 4 : Nat) : Int) v.cap 1) (b.take (b.length - 4)) := by
        have := Sl.slc (m := v.cap) (hb1 (X := [])) (by omega) (l := 0) (h' := b.length - 4) (by omega) (by omega) (by omega)
        rw [bvs_slc] at this
        simpa using this
      refine cl_rd (rsum_rd _ _ _ hs1 (by rw [List.length_take]; omega)) (crcSum (b.take (b.length - 4)), ()) rfl ?_
      clear hs1
      refine ifNe_of (fun (hcs : (num (b.drop (b.length - 4)) : Int) ≠ crcSum (b.take (b.length - 4))) => par_err [] (parR_sum hS hbk (fun e => hcs e.symm))) (fun (hcs' : (num (b.drop (b.length - 4)) : Int) = crcSum (b.take (b.length - 4))) => ?_)
      have hcs := hcs'.symm
      obtain ⟨a, ha⟩ := hb.some (show 0 < b.length by omega)
      have hrd : ∀ {X : HList} (i : Nat) (hi : i < b.length) (j : Nat), j = i * 1 → LdAt (Addr.add a j) [.int .u8 (b[i].toNat : Int)] (X ++ (n1, Obj.cells #[.int .i64 0, .int .i64 0, .int .i64 0, .int .i64 0, .int .i64 0] 111) :: A) := fun {X} i hi j hj => (hb1 (X := X)).rd hi ha j hj
      refine cl_rd (rget_rd _ v b (hb1 (X := [])) (by omega) 4 4) ((num ((b.drop 4).take 4) : Int), (wget b 4 4).2, ()) (by rw [← wget_at (by decide) (by decide) (by omega)]; rfl) ?_
      have hn : nOf b < 65536 := nOf_lt b
      refine cl_rd (rget_rd _ v b (hb1 (X := [])) (by omega) 10 2) ((nOf b : Int), (wget b 10 2).2, ()) (by unfold nOf; rw [← wget_at (by decide) (by decide) (by omega)]; rfl) ?_
      refine nilc_of ha (ixn_of (by decide) (by omega) (nilc_of ha (ixn_of (by decide) (by omega) (nilc_of ha (ixn_of (by decide) (by omega) (nilc_of ha (ixn_of (by decide) (by omega) ?_)))))))
      refine ld_of (b[0].toNat : Int) (hrd (X := []) 0 (by omega) _ rfl) (ld_of (b[1].toNat : Int) (hrd (X := []) 1 (by omega) _ rfl) (ld_of (b[2].toNat : Int) (hrd (X := []) 2 (by omega) _ rfl) (ld_of (b[8].toNat : Int) (hrd (X := []) 8 (by omega) _ rfl) ?_)))
      have hu : ∀ x : UInt8, IntKind.i64.wrap (x.toNat : Int) = (x.toNat : Int) := fun x => by have := x.toNat_lt; exact w64_id (by omega) (by omega)
      have hh : hOf b = ((b[0].toNat : Int), (b[1].toNat : Int), (b[2].toNat : Int), (num ((b.drop 4).take 4) : Int), (b[8].toNat : Int), ()) := by
        unfold hOf
        rw [getD_at (show 0 < b.length by omega), getD_at (show 1 < b.length by omega), getD_at (show 2 < b.length by omega), getD_at (show 8 < b.length by omega)]
      simp only [hu]
      refine nw_of fun n2 _ => st_of [] _ rfl rfl (by simp) (.inl (Nat.le_refl _)) #[.int .i64 b[0].toNat, .int .i64 b[1].toNat, .int .i64 b[2].toNat, .int .i64 (num ((b.drop 4).take 4)), .int .i64 b[8].toNat] rfl ?_
      rw [List.nil_append]
      have l2 : ∀ {X : HList}, LdAt ⟨n2, 0, none⟩ (hEnc (hOf b)) (X ++ (n2, Obj.cells #[.int .i64 b[0].toNat, .int .i64 b[1].toNat, .int .i64 b[2].toNat, .int .i64 (num ((b.drop 4).take 4)), .int .i64 b[8].toNat] 111) :: (n1, Obj.cells #[.int .i64 0, .int .i64 0, .int .i64 0, .int .i64 0, .int .i64 0] 111) :: A) := fun {X} => by
        rw [hh]
        exact ldB (n := n2) (c := #[.int .i64 b[0].toNat, .int .i64 b[1].toNat, .int .i64 b[2].toNat, .int .i64 (num ((b.drop 4).take 4)), .int .i64 b[8].toNat]) (T := 111) (fz := (0, 0)) (by simp) rfl
      generalize (n2, Obj.cells #[.int .i64 b[0].toNat, .int .i64 b[1].toNat, .int .i64 b[2].toNat, .int .i64 (num ((b.drop 4).take 4)), .int .i64 b[8].toNat] 111) = o2 at l2 ⊢
      clear hu hh
      have hw16 : IntKind.i64.wrap ((v.len : Int) - 16) = ((b.length - 16 : Nat) : Int) := by rw [w64_id (by omega) (by omega)]; omega
      rw [hw16]
      refine ifD_of (fun (hbig : (nOf b : Int) > ((b.length - 16 : Nat) : Int)) => par_err [o2] (parR_bad hS hbk hcs ((pbad_iff b).2 (.inr (.inr (.inl (by omega))))))) (fun (hsm : ¬ (nOf b : Int) > ((b.length - 16 : Nat) : Int)) => ?_)
      have hwn : IntKind.i64.wrap (12 + (nOf b : Int)) = ((12 + nOf b : Nat) : Int) := by rw [w64_id (by omega) (by omega)]; omega
      simp only [hwn]
      refine nw_of fun n3 _ => slc_of (l' := 12) (h' := 12 + nOf b) (m' := v.cap) rfl rfl rfl (by omega) (by omega) (Nat.le_refl _) ?_
      have hs3 : ∀ {o : Nat × Obj}, BSl (o :: o2 :: (n1, Obj.cells #[.int .i64 0, .int .i64 0, .int .i64 0, .int .i64 0, .int .i64 0] 111) :: A) (slcV v ((12 : Nat) : Int) ((12 + nOf b : Nat) : Int) v.cap 1) (payOf b) := by
        intro o
        have := Sl.slc (m := v.cap) (hb1 (X := [o, o2])) (by omega) (l := 12) (h' := 12 + nOf b) (by omega) (by omega) (by omega)
        rw [bvs_slc, Nat.add_sub_cancel_left] at this
        exact this
      have hsl3 : (slcV v ((12 : Nat) : Int) ((12 + nOf b : Nat) : Int) v.cap 1).len = nOf b := by simp only [slcV, Int.toNat_natCast]; omega
      generalize slcV v ((12 : Nat) : Int) ((12 + nOf b : Nat) : Int) v.cap 1 = s3 at hs3 hsl3 ⊢
      refine append_in elemB srcB [] (o2 :: (n1, Obj.cells #[.int .i64 0, .int .i64 0, .int .i64 0, .int .i64 0, .int .i64 0] 111) :: A) own_empty rfl (.sl hs3) (bvs_plain _) (by first | omega | (simp only; omega)) fun s4 seg4 hs4 own4 => ?_
      rw [List.nil_append] at own4
      refine ld_of (hOf b) l2 ?_
      rw [hvl]
      refine cl_in [] [] (rimage_cl ([] ++ seg4 ++ (o2 :: (n1, Obj.cells #[.int .i64 0, .int .i64 0, .int .i64 0, .int .i64 0, .int .i64 0] 111) :: A)) (hOf b) s4 (payOf b) own4.sl.right.left ((b.length : Nat) : Int) (by omega)) (by simp) ?_
      rintro _ _ - ⟨s7, seg7, rfl, rfl, own7⟩
      rw [List.append_nil, List.nil_append, List.nil_append]
      refine ⟨(s7, _, ()), rfl, ?_⟩
      have hpl := payOf_len (b := b) (by omega)
      have hX : seg7 ++ (seg4 ++ (o2 :: (n1, Obj.cells #[.int .i64 0, .int .i64 0, .int .i64 0, .int .i64 0, .int .i64 0] 111) :: A)) = (seg7 ++ (seg4 ++ [o2])) ++ (n1, Obj.cells #[.int .i64 0, .int .i64 0, .int .i64 0, .int .i64 0, .int .i64 0] 111) :: A := by simp
      by_cases he : hErr (hOf b) = 0
      · rw [imgR_ok hS he (by omega)] at own7 ⊢
        refine ifF rfl ?_
        have hag := again hS.1 hcs (by omega)
        have hb7 : BSl (seg7 ++ (seg4 ++ (o2 :: (n1, Obj.cells #[.int .i64 0, .int .i64 0, .int .i64 0, .int .i64 0, .int .i64 0] 111) :: A))) v b := hb.cons.cons.right.right
        refine b2s_of own7.sl.left (b2s_of hb7 ?_)
        simp only [str_beq]
        by_cases hE : iAll (hOf b) (payOf b) b.length = b
        · obtain ⟨e1, e2, e3⟩ := hag.1 hE
          refine ifF (by rw [hE]; simp) ?_
          refine ld_of (hOf b) ?_ ?_
          · have := l2 (X := seg7 ++ seg4)
            rw [List.append_assoc] at this
            exact this
          rw [← List.append_assoc]
          exact par_end (parR_ok hS hbk hcs (pbad_f e1 e2 (by omega) he e3)) own4 seg7 [o2]
        · refine ifT ?_ ?_
          · simp only [Bool.not_eq_true', decide_eq_false_iff_not]
            intro e
            apply hE
            have := congrArg (fun x : ByteArray => x.data.toList) e
            simpa using this
          rw [hX]
          refine par_err _ (parR_bad hS hbk hcs ?_)
          cases hq : pbad b with
          | true => rfl
          | false =>
            exfalso
            apply hE
            apply hag.2
            have hno := fun c => (Bool.eq_false_iff.1 hq) ((pbad_iff b).2 c)
            refine ⟨Decidable.byContradiction fun c => hno (.inl c), Decidable.byContradiction fun c => hno (.inr (.inl c)), fun x hx => Decidable.byContradiction fun c => hno (.inr (.inr (.inr (.inr ⟨x, hx, c⟩))))⟩
      · rw [imgR_err hS he]
        refine ifT (by simpa using he) ?_
        rw [hX]
        exact par_err _ (parR_bad hS hbk hcs ((pbad_iff b).2 (.inr (.inr (.inr (.inl he))))))
end Go.Proofs.Ytlabcgnegbdlfaa
