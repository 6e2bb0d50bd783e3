/-
  It is proved how calls are taken in place, how stores go to objects and slices of one's own, and what slices of slices are. There are no further conditions than those that each theorem names.
-/
import Derived.Test.YtaniefdpjommnaaDoorHL17
set_option linter.unusedVariables false
set_option linter.unusedSimpArgs false
namespace Go.HL
section
variable {P : Program} {L : HList}

/-! ### 14. A call in its place -/
theorem CallF.at' {f : FuncId} {args : Array Value} {K : Value → HP} {A X Y : HList} (h : CallF P f args A K) : CallF P f args (X ++ A ++ Y) fun v L' => ∃ A', L' = X ++ A' ++ Y ∧ K v A' :=
  fun E F w hw => Calls.mono (CallF.frame (R := X ++ Y) h E F w (hw.perm (by
      refine List.Perm.append_right F ?_
      have : (X ++ A ++ Y).Perm (A ++ X ++ Y) := List.Perm.append_right Y List.perm_append_comm
      simpa [List.append_assoc] using this))) fun e w' ⟨v, L', he, hw', A', hL, hK⟩ => by
    subst hL
    refine ⟨v, X ++ A' ++ Y, he, hw'.perm (List.Perm.append_right F ?_), A', rfl, hK⟩
    have : (A' ++ X ++ Y).Perm (X ++ A' ++ Y) := List.Perm.append_right Y List.perm_append_comm
    simpa [List.append_assoc] using this
theorem cl_in {f : FuncId} {args : Array Value} {rs : List Sh} {k : RsV rs → HP} {K : Value → HP} {A : HList} (X Y : HList) (h : CallF P f args A K) (hL : L = X ++ A ++ Y)
    (hk : ∀ v A', Sat (X ++ A' ++ Y) → K v A' → ∃ r, v = rsVal rs r ∧ k r (X ++ A' ++ Y)) : cl P f args rs k L := by
  subst hL
  refine CallF.mono (CallF.at' h) ?_
  rintro v L' hs ⟨A', rfl, hK⟩
  exact hk v A' hs hK
/-- A contract on a piece, read only. -/
theorem Reads.in {f : FuncId} {args : Array Value} {A X Y : HList} {v : Value} (h : Reads P f args A v) : Reads P f args (X ++ A ++ Y) v :=
  CallF.mono (CallF.at' h) (by rintro _ _ _ ⟨A', rfl, rfl, rfl⟩; exact ⟨rfl, rfl⟩)

theorem SemF.permL {s : Sem Value} {K : Value → HP} {L' : HList} (hp : L.Perm L') (h : SemF P s K L') : SemF P s K L :=
  fun E F w hw => h E F w (hw.perm (hp.append_right F))
theorem SemF.permK {s : Sem Value} {K K' : Value → HP} (h : SemF P s K L) (hk : ∀ v L', K v L' → ∃ L'', L'.Perm L'' ∧ K' v L'') : SemF P s K' L := by
  intro E F w hw
  obtain ⟨v, w', L', hr, hw', hK⟩ := h E F w hw
  obtain ⟨L'', hp, hK'⟩ := hk v L' hK
  exact ⟨v, w', L'', hr, hw'.perm (hp.append_right F), hK'⟩
/-- 'append' to a slice that has its array for itself, in its place. -/
theorem append_in' {t t2 ty e : TypeId} {sz bytes : Nat} {z : List Value} (hT : ElemT P t e sz bytes z) (h2 : SrcT P t2)
    {v : SlV} {vs ws : List Value} {x : Value} {n : Nat} {seg : HList} (X Y : HList) (own : Own v sz e vs seg) (hL : L = X ++ seg ++ Y) (src : Src L x sz n ws) (hws : ws.all plainV = true)
    (hb : (v.len + n) * bytes ≤ 140737488355328) {k : RsV [.lf .sl] → HP} (hk : ∀ v' seg', v'.len = v.len + n → (v.len + n ≤ v.cap → v'.cap = v.cap ∧ v'.a = v.a) → v.cap ≤ v'.cap → Own v' sz e (vs ++ ws) seg' → k (v', ()) (X ++ seg' ++ Y)) :
    smW P (Builtin.append_ #[t, t2] ty #[.slice v.a v.len v.cap, x]) [.lf .sl] k L := by
  subst hL
  have hp : (X ++ seg ++ Y).Perm (seg ++ (X ++ Y)) := by
    have : (X ++ seg ++ Y).Perm (seg ++ X ++ Y) := List.Perm.append_right Y List.perm_append_comm
    simpa [List.append_assoc] using this
  have src' : Src (seg ++ (X ++ Y)) x sz n ws := by
    cases src with
    | sl h => exact .sl (h.mono fun p hq => hp.subset hq)
    | str s => exact .str s
  refine SemF.permL hp (SemF.permK (append_own' (R := X ++ Y) hT h2 own src' hws hb (k := fun r L' => ∃ seg', L' = seg' ++ (X ++ Y) ∧ k r (X ++ seg' ++ Y)) fun v' seg' h1 h2 h3 h4 => ⟨seg', rfl, hk v' seg' h1 h2 h3 h4⟩) ?_)
  rintro v' L' ⟨r, hr, seg', rfl, hk'⟩
  refine ⟨X ++ seg' ++ Y, ?_, r, hr, hk'⟩
  have : (seg' ++ X ++ Y).Perm (X ++ seg' ++ Y) := List.Perm.append_right Y List.perm_append_comm
  simpa [List.append_assoc] using this
theorem append_in {t t2 ty e : TypeId} {sz bytes : Nat} {z : List Value} (hT : ElemT P t e sz bytes z) (h2 : SrcT P t2)
    {v : SlV} {vs ws : List Value} {x : Value} {n : Nat} {seg : HList} (X Y : HList) (own : Own v sz e vs seg) (hL : L = X ++ seg ++ Y) (src : Src L x sz n ws) (hws : ws.all plainV = true)
    (hb : (v.len + n) * bytes ≤ 140737488355328) {k : RsV [.lf .sl] → HP} (hk : ∀ v' seg', v'.len = v.len + n → Own v' sz e (vs ++ ws) seg' → k (v', ()) (X ++ seg' ++ Y)) :
    smW P (Builtin.append_ #[t, t2] ty #[.slice v.a v.len v.cap, x]) [.lf .sl] k L :=
  append_in' hT h2 X Y own hL src hws hb fun v' seg' h _ _ h3 => hk v' seg' h h3
theorem ifEq {x y : Int} {A B : HP} (h : x = y) (hk : A L) : ifB (x == y) A B L := ifT (beq_iff_eq.2 h) hk
theorem ifP {p : Prop} [Decidable p] {A B : HP} (h : p) (hk : A L) : ifB (decide p) A B L := ifT (decide_eq_true h) hk
theorem ifN {p : Prop} [Decidable p] {A B : HP} (h : ¬ p) (hk : B L) : ifB (decide p) A B L := ifF (decide_eq_false h) hk
theorem elemT_of {t e : TypeId} {sz bytes : Nat} {z : List Value} (hu : P.underlying t = some (.slice e)) (h : ((P.info? e).bind fun i => i.zero.map fun v => (i.size, i.bytes, v.cells.toList)) = some (sz, bytes, z))
    (hz : z.length = sz) (hs : 0 < sz) (hb : 0 < bytes) : ElemT P t e sz bytes z := by
  refine ⟨hu, ?_, hz, hs, hb⟩
  cases hi : P.info? e with
  | none => rw [hi] at h; cases h
  | some i =>
    rw [hi] at h
    cases hv : i.zero with
    | none => simp [hv] at h
    | some v =>
      simp only [Option.bind_some, hv, Option.map_some, Option.some.injEq, Prod.mk.injEq] at h
      exact ⟨i, rfl, h.1, h.2.1, v, hv, h.2.2⟩

/-! ### 15. Objects that are known whole -/
theorem ldB {n off : Nat} {c : Array Value} {T : TypeId} {fz : Nat × Nat} {vs : List Value} (hm : (n, Obj.cells c T fz) ∈ L) (h : (c.toList.drop off).take vs.length = vs) : LdAt ⟨n, off, none⟩ vs L := by
  refine .blk hm fun i v hv => ?_
  rw [← h, List.getElem?_take] at hv
  split at hv
  · rw [List.getElem?_drop] at hv
    simpa using hv
  · cases hv
theorem st_of {ad : Addr} {ws : List Value} {k : HP} {n off : Nat} {c : Array Value} {T : TypeId} {fz : Nat × Nat} (A B : HList) (had : ad = ⟨n, off, none⟩) (hL : L = A ++ (n, Obj.cells c T fz) :: B) (hsz : off + ws.length ≤ c.size)
    (hfz : fz.2 ≤ fz.1 ∨ c.size ≤ fz.1) (c' : Array Value) (hc : wr c off ws = c') (hk : k (A ++ (n, Obj.cells c' T fz) :: B)) : st ad ws k L := by
  subst had hL hc
  exact ⟨A, B, c, T, fz, rfl, rfl, hsz, fun i hi => by simp only; omega, hk⟩

/-! ### 16. A store into a slice of one's own -/
def putL (vs : List Value) (p : Nat) (ws : List Value) : List Value := vs.take p ++ ws ++ vs.drop (p + ws.length)
theorem putL_len (vs : List Value) (p : Nat) (ws : List Value) (h : p + ws.length ≤ vs.length) : (putL vs p ws).length = vs.length := by
  simp only [putL, List.length_append, List.length_take, List.length_drop]; omega
theorem putL_get (vs : List Value) (p : Nat) (ws : List Value) (h : p + ws.length ≤ vs.length) (i : Nat) : (putL vs p ws)[i]? = if p ≤ i ∧ i < p + ws.length then ws[i - p]? else vs[i]? := by
  unfold putL
  rw [List.append_assoc, List.getElem?_append]
  have hl : (vs.take p).length = p := by rw [List.length_take]; omega
  rw [hl]
  by_cases h1 : i < p
  · rw [if_pos h1, if_neg (by omega), List.getElem?_take, if_pos h1]
  · rw [if_neg h1, List.getElem?_append]
    by_cases h2 : i - p < ws.length
    · rw [if_pos h2, if_pos (by omega)]
    · rw [if_neg h2, if_neg (by omega), List.getElem?_drop]
      congr 1; omega
theorem putL_one {vs : List Value} {p : Nat} {w : Value} (h : p < vs.length) : putL vs p [w] = vs.set p w := by
  apply List.ext_getElem?
  intro i
  rw [putL_get _ _ _ (by simp only [List.length_cons, List.length_nil]; omega), List.getElem?_set]
  by_cases hi : p = i
  · subst hi; simp [h]
  · rw [if_neg (by simp only [List.length_cons, List.length_nil]; omega), if_neg hi]
theorem Own.st {v : SlV} {sz : Nat} {T : TypeId} {vs ws : List Value} {seg : HList} (own : Own v sz T vs seg) (X Y : HList) {p : Nat} (hp : p + ws.length ≤ vs.length) (hws : 0 < ws.length) {a ad : Addr} (ha : v.a = some a) (had : ad = Addr.add a p) {k : HP}
    (hL : L = X ++ seg ++ Y) (hk : ∀ seg', Own v sz T (putL vs p ws) seg' → k (X ++ seg' ++ Y)) : st ad ws k L := by
  subst hL had
  rcases own.row with ⟨ha', _, _⟩ | ⟨b, off, c, fz, ha', rfl, hsz, hfz, hc⟩
  · rw [ha] at ha'; cases ha'
  · rw [ha] at ha'
    obtain rfl := Option.some.inj ha'
    have hlen := own.len
    have hcap := own.cap
    have hle := Nat.mul_le_mul_right sz hcap
    refine st_of (n := b) (off := off + p) (c := c) (T := T) (fz := fz) X Y (addr_add (ad := ⟨b, off, none⟩) rfl p) (by simp) (by omega) (by omega) _ rfl ?_
    have := hk [(b, Obj.cells (wr c (off + p) ws) T fz)] ⟨by rw [putL_len _ _ _ hp]; exact hlen, hcap, .inr ⟨b, off, _, fz, ha, rfl, by rw [wr_size]; exact hsz, by rw [wr_size]; exact hfz, fun i u hu => ?_⟩⟩
    · simpa using this
    · rw [putL_get _ _ _ hp] at hu
      rw [wr_get _ _ _ _ (by omega)]
      split at hu
      · rw [if_pos (by omega), show off + i - (off + p) = i - p by omega]; exact hu
      · rw [if_neg (by omega)]; exact hc i u hu
theorem bvs_set (l : List UInt8) (i : Nat) (x : UInt8) : (bvs l).set i (.int .u8 (x.toNat : Int)) = bvs (l.set i x) := by
  simp [bvs, List.map_set, bv]

/-! ### 17. A slice of a slice -/
/-- s[l:h] of a slice whose elements are known: l ≤ h ≤ len. -/
theorem Sl.slc {v : SlV} {sz : Nat} {vs : List Value} (h : Sl L v sz vs) (hsz : 0 < sz) {l h' m : Nat} (hl : l ≤ h') (hh : h' ≤ v.len) (hm : h' ≤ m) : Sl L (slcV v l h' m sz) sz ((vs.drop (l * sz)).take ((h' - l) * sz)) := by
  have hlen := h.len
  have h1 := Nat.mul_le_mul_right sz hh
  have h2 := Nat.mul_le_mul_right sz hl
  refine ⟨?_, ?_, ?_⟩
  · simp only [slcV, Int.toNat_natCast, List.length_take, List.length_drop]
    rw [Nat.min_eq_left]
    rw [Nat.sub_mul]; omega
  · simp only [slcV, Int.toNat_natCast]; omega
  · by_cases h0 : (vs.drop (l * sz)).take ((h' - l) * sz) = []
    · exact .inl h0
    · have hlt : l < h' := by
        rcases Nat.lt_or_ge l h' with h3 | h3
        · exact h3
        · exfalso; apply h0
          rw [Nat.sub_eq_zero_of_le h3, Nat.zero_mul]; rfl
      obtain ⟨ad, ha, hld⟩ := h.at' (i := l) (by omega) hsz
      refine .inr ?_
      simp only [slcV, Int.toNat_natCast]
      rw [if_neg (by omega), ha]
      refine ⟨_, rfl, hld.sub (l * sz) fun i u hu => ?_⟩
      rw [List.getElem?_take] at hu
      split at hu
      · rw [List.getElem?_drop] at hu; exact hu
      · cases hu
theorem slc_of {v : SlV} {l h m : Int} {sz : Nat} {k : SlV → HP} {l' h' m' : Nat} (hl : l = l') (hh : h = h') (hm : m = m') (h1 : l' ≤ h') (h2 : h' ≤ m') (h3 : m' ≤ v.cap) (hk : k (slcV v l' h' m' sz) L) : slc v l h m sz k L := by
  subst hl hh hm
  exact ⟨⟨by omega, by omega, by omega, by omega⟩, hk⟩
theorem bvs_slc (l : List UInt8) (i j : Nat) : ((bvs l).drop (i * 1)).take ((j - i) * 1) = bvs ((l.drop i).take (j - i)) := by
  simp [bvs, List.map_drop, List.map_take]
/-! ### 18. The elements of a slice -/
theorem flat_at {α : Type} {enc : α → List Value} {sz : Nat} (hsz : ∀ x, (enc x).length = sz) : ∀ (l : List α) (i : Nat) (h : i < l.length) (j : Nat), j < sz → (l.flatMap enc)[i * sz + j]? = (enc l[i])[j]?
  | [], i, h, j, _ => by simp at h
  | x :: r, 0, h, j, hj => by
    rw [List.flatMap_cons, List.getElem?_append_left (by rw [hsz]; omega), Nat.zero_mul, Nat.zero_add]
    rfl
  | x :: r, i + 1, h, j, hj => by
    rw [List.flatMap_cons, List.getElem?_append_right (by rw [hsz, Nat.succ_mul]; omega)]
    have : (i + 1) * sz + j - (enc x).length = i * sz + j := by rw [hsz, Nat.succ_mul]; omega
    rw [this, flat_at hsz r i (by simpa using h) j hj]
    rfl
theorem Sl.els_len {α : Type} {enc : α → List Value} {sz : Nat} {v : SlV} {l : List α} (hsz : ∀ x, (enc x).length = sz) (hpos : 0 < sz) (h : Sl L v sz (l.flatMap enc)) : v.len = l.length := by
  have h1 := h.len
  rw [flat_len hsz] at h1
  exact Nat.eq_of_mul_eq_mul_right hpos h1
theorem Sl.el {α : Type} {enc : α → List Value} {sz : Nat} {v : SlV} {l : List α} (hsz : ∀ x, (enc x).length = sz) (hpos : 0 < sz) (h : Sl L v sz (l.flatMap enc)) {i : Nat} (hi : i < l.length) :
    ∃ a, v.a = some a ∧ LdAt (Addr.add a (i * sz)) (enc l[i]) L := by
  obtain ⟨a, ha, hl⟩ := h.at' (i := i) (by rw [h.els_len hsz hpos]; exact hi) hpos
  refine ⟨a, ha, hl.sub (i * sz) fun j u hu => ?_⟩
  have hj := (List.getElem?_eq_some_iff.1 hu).1
  rw [hsz] at hj
  rw [flat_at hsz l i hi j hj]; exact hu
theorem SlOk.len' {α : Type} {w : World} {enc : α → List Value} {wf : α → Prop} {sz : Nat} {v : SlV} {l : List α} (h : SlOk w enc wf sz (v, l)) : v.len = l.length := h.len
/-! ### 19. Slices of numbers -/
def ivs (k : IntKind) (l : List Int) : List Value := l.map (Value.int k)
theorem ivs_length (k : IntKind) (l : List Int) : (ivs k l).length = l.length := by simp [ivs]
theorem ivs_append (k : IntKind) (l m : List Int) : ivs k (l ++ m) = ivs k l ++ ivs k m := by simp [ivs]
theorem ivs_plain (k : IntKind) (l : List Int) : (ivs k l).all plainV = true := by
  induction l with
  | nil => rfl
  | cons b r ih => exact ih
theorem ivs_get {k : IntKind} {l : List Int} {i : Nat} (h : i < l.length) : (ivs k l)[i]? = some (.int k l[i]) := by
  simp [ivs, h]
abbrev ISl (L : HList) (v : SlV) (k : IntKind) (l : List Int) : Prop := Sl L v 1 (ivs k l)
theorem ISl.len {L : HList} {v : SlV} {k : IntKind} {l : List Int} (h : ISl L v k l) : v.len = l.length := by
  have := Sl.len h; rw [ivs_length] at this; omega
theorem ISl.some {L : HList} {v : SlV} {k : IntKind} {l : List Int} (h : ISl L v k l) {i : Nat} (hi : i < l.length) : ∃ a, v.a = some a := by
  obtain ⟨ad, ha', hl⟩ := h.at' (i := i) (by rw [h.len]; exact hi) (by omega)
  exact ⟨ad, ha'⟩
theorem ISl.rd {L : HList} {v : SlV} {k : IntKind} {l : List Int} (h : ISl L v k l) {i : Nat} (hi : i < l.length) {a : Addr} (ha : v.a = Option.some a) (j : Nat) (hj : j = i * 1) : LdAt (Addr.add a j) [.int k l[i]] L := by
  subst hj
  obtain ⟨ad, ha', hl⟩ := h.at' (i := i) (by rw [h.len]; exact hi) (by omega)
  rw [ha] at ha'
  obtain rfl := Option.some.inj ha'
  rw [Nat.mul_one]
  exact hl.one i (ivs_get hi)
theorem ivs_set (k : IntKind) (l : List Int) (i : Nat) (x : Int) : (ivs k l).set i (.int k x) = ivs k (l.set i x) := by
  simp [ivs, List.map_set]
theorem ivs_slc (k : IntKind) (l : List Int) (i j : Nat) : ((ivs k l).drop (i * 1)).take ((j - i) * 1) = ivs k ((l.drop i).take (j - i)) := by
  simp [ivs, List.map_drop, List.map_take]
theorem SlOk.ints {w : World} {k : IntKind} {wf : Int → Prop} {p : SlV × List Int} (h : SlOk w (fun n => [.int k n]) wf 1 p) : ISl (allB w) p.1 k p.2 := by
  have h1 := h.sl
  have h2 : p.2.flatMap (fun n => [Value.int k n]) = ivs k p.2 := by
    generalize p.2 = l
    induction l with
    | nil => rfl
    | cons x r ih => rw [List.flatMap_cons, ih]; rfl
  rw [h2] at h1
  exact h1
/-- A row of numbers that is known whole. -/
theorem ISl.const {L : HList} {b : Nat} {k : IntKind} {l : List Int} {T : TypeId} {fz : Nat × Nat} (cap : Nat) (hc : l.length ≤ cap) (hm : (b, Obj.cells (ivs k l).toArray T fz) ∈ L) : ISl L ⟨Option.some ⟨b, 0, none⟩, l.length, cap⟩ k l :=
  ⟨by rw [ivs_length]; simp, hc, .inr ⟨_, rfl, .blk hm fun i v hv => by simpa using hv⟩⟩
/-! a slice of bytes that came in -/
theorem SlOk.bytes {w : World} {wf : UInt8 → Prop} {p : SlV × List UInt8} (h : SlOk w (fun b => [bv b]) wf 1 p) : BSl (allB w) p.1 p.2 := by
  have h1 := h.sl
  have h2 : p.2.flatMap (fun b => [bv b]) = bvs p.2 := by
    generalize p.2 = l
    induction l with
    | nil => rfl
    | cons x r ih => rw [List.flatMap_cons, ih]; rfl
  rw [h2] at h1
  exact h1
end
end Go.HL
