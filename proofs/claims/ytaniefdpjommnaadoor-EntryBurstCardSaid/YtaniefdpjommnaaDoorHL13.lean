/-
  It is proved how each node is taken in a proof, and what appending to a slice of one's own does. There are no further conditions than those that each theorem names.
-/
import Derived.Test.YtaniefdpjommnaaDoorHL12
import Derived.Laws.AppendOwn
set_option linter.unusedVariables false
set_option linter.unusedSimpArgs false
namespace Go.HL
section
variable {P : Program} {L : HList}

/-! ### 8. Rules for the nodes -/
theorem ld_of {ad : Addr} {sh : Sh} {k : ShV sh → HP} (x : ShV sh) (h : LdAt ad (sh.vals x) L) (hk : k x L) : ld ad sh k L := ⟨x, h, hk⟩
theorem nilc_of {p : Option Addr} {a : Addr} {k : Addr → HP} (h : p = some a) (hk : k a L) : nilc p k L := by subst h; exact hk
theorem req_of {p : Prop} {k : HP} (h : p) (hk : k L) : req p k L := ⟨h, hk⟩
theorem ixn_of {i n : Int} {k : HP} (h0 : 0 ≤ i) (h1 : i < n) (hk : k L) : ixn i n k L := ⟨⟨h0, h1⟩, hk⟩
theorem ifB_of {t : Bool} {A B : HP} (h1 : t = true → A L) (h2 : t = false → B L) : ifB t A B L := by
  cases t
  · exact h2 rfl
  · exact h1 rfl
theorem ifD_of {p : Prop} [Decidable p] {A B : HP} (h1 : p → A L) (h2 : ¬ p → B L) : ifB (decide p) A B L :=
  ifB_of (fun h => h1 (of_decide_eq_true h)) (fun h => h2 (of_decide_eq_false h))
theorem ifE_of {x y : Int} {A B : HP} (h1 : x = y → A L) (h2 : x ≠ y → B L) : ifB (x == y) A B L :=
  ifB_of (fun h => h1 (by simpa using h)) (fun h => h2 (by simpa using h))
theorem ifNe_of {x y : Int} {A B : HP} (h1 : x ≠ y → A L) (h2 : x = y → B L) : ifB (x != y) A B L :=
  ifB_of (fun h => h1 (by simpa using h)) (fun h => h2 (by simpa using h))
theorem ifT {t : Bool} {A B : HP} (h : t = true) (hk : A L) : ifB t A B L := by subst h; exact hk
theorem ifF {t : Bool} {A B : HP} (h : t = false) (hk : B L) : ifB t A B L := by subst h; exact hk
theorem keep_of {φ k : HP} (h : φ L) (hk : k L) : keep φ k L := ⟨h, hk⟩
theorem nw_of {o : Obj} {k : Nat → HP} (h : ∀ n, Sat ((n, o) :: L) → k n ((n, o) :: L)) : nw o k L := h
theorem jn_of {α : Type} {b : α → HP} {r : (α → HP) → HP} (Q : α → HP) (h1 : ∀ y L', Q y L' → b y L') (h2 : ∀ j : α → HP, (∀ y L', Q y L' → j y L') → r j L) : jn b r L := h2 b h1
theorem lp_of {sh : List Sh} {x0 : RsV sh} {body : RsV sh → (RsV sh → HP) → HP} (I : Nat → RsV sh → HP) (k0 : Nat) (h0 : I k0 x0 L)
    (h : ∀ k x L', I k x L' → body x (fun x' L'' => ∃ k', k' < k ∧ I k' x' L'') L') : lp sh x0 body L := ⟨I, ⟨k0, h0⟩, h⟩

/-- A call by its contract: nothing but the contract's own piece of memory is touched. -/
theorem cl_of {f : FuncId} {args : Array Value} {rs : List Sh} {k : RsV rs → HP} {K : Value → HP} (h : CallF P f args L K) (hk : ∀ v L', Sat L' → K v L' → ∃ r, v = rsVal rs r ∧ k r L') :
    cl P f args rs k L := CallF.mono h hk
theorem cl_fr {f : FuncId} {args : Array Value} {rs : List Sh} {k : RsV rs → HP} {K : Value → HP} {A R : HList} (h : CallF P f args A K) (hp : L.Perm (A ++ R))
    (hk : ∀ v L', Sat (L' ++ R) → K v L' → ∃ r, v = rsVal rs r ∧ k r (L' ++ R)) : cl P f args rs k L := by
  refine CallF.mono (CallF.perm hp.symm (CallF.frame (R := R) h)) ?_
  rintro v L' hs ⟨L1, rfl, hK⟩
  exact hk v L1 hs hK

/-- A contract that reads only. -/
def Reads (P : Program) (f : FuncId) (args : Array Value) (L : HList) (v : Value) : Prop := CallF P f args L fun v' L' => v' = v ∧ L' = L
theorem cl_rd {f : FuncId} {args : Array Value} {rs : List Sh} {k : RsV rs → HP} {v : Value} (h : Reads P f args L v) (r : RsV rs) (hr : v = rsVal rs r) (hk : k r L) : cl P f args rs k L :=
  CallF.mono h (by rintro _ _ _ ⟨rfl, rfl⟩; exact ⟨r, hr, hk⟩)

/-- What is there at the end: as it must be, and what nobody asks for any more. -/
def Ends (K : Value → HP) (v : Value) : HP := fun L => ∃ L' J, L.Perm (L' ++ J) ∧ K v L'
theorem Ends.of {K : Value → HP} {v : Value} (h : K v L) : Ends K v L := ⟨L, [], by simp, h⟩
theorem Ends.drop {K : Value → HP} {v : Value} {A J : HList} (h : K v A) (hp : L.Perm (A ++ J)) : Ends K v L := ⟨A, J, hp, h⟩

theorem Reads.of {f : FuncId} {fn : Func} (hN : NoNum P) (hm : P.follows .mixedOrders = true) {H : Hints} (hf : P.funcs[f]? = some fn) {args : List Value} {v : Value} {N : HP}
    (he : flatFn P H fn args (Ends fun v' L' => v' = v ∧ L' = L) = N) (h : N L) : Reads P f args.toArray L v := call_of_flat hN hm hf he h
theorem CallF.of {f : FuncId} {fn : Func} (hN : NoNum P) (hm : P.follows .mixedOrders = true) {H : Hints} (hf : P.funcs[f]? = some fn) {args : List Value} {K : Value → HP} {N : HP}
    (he : flatFn P H fn args (Ends K) = N) (h : N L) : CallF P f args.toArray L K := call_of_flat hN hm hf he h

/-! ### 9. Slices -/
theorem LdAt.mono {ad : Addr} {vs : List Value} {A : HList} (h : LdAt ad vs A) (hs : ∀ p ∈ A, p ∈ L) : LdAt ad vs L := by
  obtain ⟨c, T, fz, hm, h⟩ := h; exact ⟨c, T, fz, hs _ hm, h⟩
theorem LdAt.sub {ad : Addr} {vs ws : List Value} (h : LdAt ad vs L) (j : Nat) (hw : ∀ (i : Nat) (v : Value), ws[i]? = some v → vs[j + i]? = some v) : LdAt (Addr.add ad j) ws L := by
  obtain ⟨c, T, fz, hm, hs, hc⟩ := h
  rw [addr_add hs]
  refine ⟨c, T, fz, hm, rfl, fun i v hv => ?_⟩
  have := hc _ _ (hw i v hv)
  simp only
  rw [Nat.add_assoc]; exact this
theorem LdAt.pre {ad : Addr} {vs ws : List Value} (h : LdAt ad vs L) (hw : ∀ (i : Nat) (v : Value), ws[i]? = some v → vs[i]? = some v) : LdAt ad ws L := by
  obtain ⟨c, T, fz, hm, hs, hc⟩ := h
  exact ⟨c, T, fz, hm, hs, fun i v hv => hc _ _ (hw i v hv)⟩
theorem LdAt.one {ad : Addr} {vs : List Value} (h : LdAt ad vs L) (j : Nat) {v : Value} (hv : vs[j]? = some v) : LdAt (Addr.add ad j) [v] L := by
  refine h.sub j fun i u hu => ?_
  cases i with
  | zero => simp at hu; subst hu; exact hv
  | succ i => simp at hu
/-- A block that is known whole. -/
theorem LdAt.blk {b off : Nat} {c : Array Value} {T : TypeId} {fz : Nat × Nat} {vs : List Value} (hm : (b, Obj.cells c T fz) ∈ L) (h : ∀ (i : Nat) (v : Value), vs[i]? = some v → c[off + i]? = some v) : LdAt ⟨b, off, none⟩ vs L :=
  ⟨c, T, fz, hm, rfl, h⟩

structure Sl (L : HList) (v : SlV) (sz : Nat) (vs : List Value) : Prop where
  len : v.len * sz = vs.length
  cap : v.len ≤ v.cap
  ld : vs = [] ∨ ∃ ad, v.a = some ad ∧ LdAt ad vs L

theorem Sl.mono {v : SlV} {sz : Nat} {vs : List Value} {A : HList} (h : Sl A v sz vs) (hs : ∀ p ∈ A, p ∈ L) : Sl L v sz vs :=
  ⟨h.len, h.cap, h.ld.imp id fun ⟨ad, ha, hl⟩ => ⟨ad, ha, hl.mono hs⟩⟩
theorem Sl.left {v : SlV} {sz : Nat} {vs : List Value} {R : HList} (h : Sl L v sz vs) : Sl (L ++ R) v sz vs := h.mono fun _ hp => List.mem_append_left _ hp
theorem Sl.right {v : SlV} {sz : Nat} {vs : List Value} {R : HList} (h : Sl L v sz vs) : Sl (R ++ L) v sz vs := h.mono fun _ hp => List.mem_append_right _ hp
theorem Sl.cons {v : SlV} {sz : Nat} {vs : List Value} {p : Nat × Obj} (h : Sl L v sz vs) : Sl (p :: L) v sz vs := h.mono fun _ hp => List.mem_cons_of_mem _ hp
theorem Sl.nil (sz : Nat) : Sl L ⟨none, 0, 0⟩ sz [] := ⟨by simp, Nat.le_refl _, .inl rfl⟩
/-- The i-th element of a slice. -/
theorem Sl.at' {v : SlV} {sz : Nat} {vs : List Value} (h : Sl L v sz vs) {i : Nat} (hi : i < v.len) (hsz : 0 < sz) : ∃ ad, v.a = some ad ∧ LdAt ad vs L := by
  refine h.ld.resolve_left fun e => ?_
  have h1 := h.len
  rw [e] at h1
  have : v.len = 0 := by
    rcases Nat.mul_eq_zero.1 h1 with h | h
    · exact h
    · omega
  omega

/-- A slice that has its array for itself. -/
structure Own (v : SlV) (sz : Nat) (T : TypeId) (vs : List Value) (seg : HList) : Prop where
  len : v.len * sz = vs.length
  cap : v.len ≤ v.cap
  row : (v.a = none ∧ v.cap = 0 ∧ seg = []) ∨ ∃ b off c fz, v.a = some ⟨b, off, none⟩ ∧ seg = [(b, Obj.cells c T fz)] ∧ off + v.cap * sz ≤ c.size ∧
    (fz.2 ≤ fz.1 ∨ c.size ≤ fz.1) ∧ ∀ i u, vs[i]? = some u → c[off + i]? = some u

theorem Own.sl {v : SlV} {sz : Nat} {T : TypeId} {vs : List Value} {seg : HList} (h : Own v sz T vs seg) : Sl seg v sz vs := by
  refine ⟨h.len, h.cap, ?_⟩
  rcases h.row with ⟨ha, hc, rfl⟩ | ⟨b, off, c, fz, ha, rfl, _, _, hcs⟩
  · left
    have h1 := h.cap
    have h2 := h.len
    rw [hc] at h1
    have : v.len = 0 := by omega
    rw [this] at h2
    simpa using h2.symm
  · exact .inr ⟨_, ha, .blk (List.mem_singleton.2 rfl) hcs⟩

theorem wr_size : ∀ (vs : List Value) (c : Array Value) (o : Nat), (wr c o vs).size = c.size
  | [], c, o => rfl
  | v :: r, c, o => by simp [wr, wr_size r]
theorem wr_get : ∀ (vs : List Value) (c : Array Value) (o j : Nat), o + vs.length ≤ c.size → (wr c o vs)[j]? = if o ≤ j ∧ j < o + vs.length then vs[j - o]? else c[j]?
  | [], c, o, j, _ => by simp [wr]; omega
  | v :: r, c, o, j, h => by
    simp only [List.length_cons] at h
    simp only [wr]
    rw [wr_get r (c.setIfInBounds o v) (o + 1) j (by simp; omega)]
    by_cases h1 : j = o
    · subst h1
      rw [if_neg (by omega), if_pos (by simp)]
      simp [show j < c.size by omega]
    · by_cases h2 : o + 1 ≤ j ∧ j < o + 1 + r.length
      · rw [if_pos h2, if_pos (by simp only [List.length_cons]; omega)]
        rw [show j - o = (j - (o + 1)) + 1 by omega, List.getElem?_cons_succ]
      · rw [if_neg h2, if_neg (by simp only [List.length_cons]; omega)]
        rw [Array.getElem?_setIfInBounds_ne (by omega)]

/-- What is appended, or copied: cells that are read first. -/
inductive Src (L : HList) : Value → Nat → Nat → List Value → Prop
  | sl {v : SlV} {sz : Nat} {ws : List Value} (h : Sl L v sz ws) : Src L (.slice v.a v.len v.cap) sz v.len ws
  | str (s : ByteArray) : Src L (.string s) 1 s.size (s.data.toList.map fun b => .int .u8 b.toNat)
theorem Src.len {x : Value} {sz n : Nat} {ws : List Value} (h : Src L x sz n ws) : n * sz = ws.length := by
  cases h with
  | sl h => exact h.len
  | str s => rw [Nat.mul_one, List.length_map, Array.length_toList]; rfl
theorem Src.run {x : Value} {sz n : Nat} {ws : List Value} (h : Src L x sz n ws) {E : World} {F : HList} {w : World} (hw : Hold E w (L ++ F)) :
    (Builtin.lenOf x).run P w = .ok n w ∧ (Builtin.firstCells sz n x).run P w = .ok ws.toArray w := by
  cases h with
  | sl h =>
    rename_i v
    refine ⟨rfl, ?_⟩
    rcases h.ld with rfl | ⟨ad, ha, hl⟩
    · have h0 : v.len * sz = 0 := h.len
      cases hva : v.a with
      | none => simp [Builtin.firstCells]
      | some ad => simp only [Builtin.firstCells, h0, loadCells, loadCellsFrom]; rfl
    · rw [ha]
      simp only [Builtin.firstCells]
      rw [h.len]
      exact run_loadCells_list w ad ws (hl.cells hw)
  | str s =>
    refine ⟨rfl, ?_⟩
    simp only [Builtin.firstCells, Sem.run_pure]
    congr 1
    apply Array.ext'
    have : s.extract 0 s.size = s := by simp
    rw [this]
    simp
/-- The first n elements alone. -/
theorem Src.take {v : SlV} {sz : Nat} {ws : List Value} (h : Sl L v sz ws) {m : Nat} (hm : m ≤ v.len) {E : World} {F : HList} {w : World} (hw : Hold E w (L ++ F)) :
    (Builtin.firstCells sz m (.slice v.a v.len v.cap)).run P w = .ok (ws.take (m * sz)).toArray w := by
  rcases h.ld with rfl | ⟨ad, ha, hl⟩
  · have h0 : v.len * sz = 0 := h.len
    have hm0 : m * sz = 0 := Nat.le_zero.1 (h0 ▸ Nat.mul_le_mul_right sz hm)
    cases hva : v.a with
    | none => simp [Builtin.firstCells]
    | some ad => simp only [Builtin.firstCells, hm0, loadCells, loadCellsFrom]; simp
  · rw [ha]
    simp only [Builtin.firstCells]
    have hlen : (ws.take (m * sz)).length = m * sz := by
      rw [List.length_take, ← h.len]
      exact Nat.min_eq_left (Nat.mul_le_mul_right sz hm)
    have h1 := run_loadCells_list (P := P) w ad (ws.take (m * sz)) (fun j u hu => hl.cells hw j u (by
      rw [List.getElem?_take] at hu
      split at hu
      · exact hu
      · cases hu))
    rw [hlen] at h1
    exact h1

/-- The row of a type's table: the element's cells, bytes and zero. -/
structure ElemT (P : Program) (t e : TypeId) (sz bytes : Nat) (z : List Value) : Prop where
  und : P.underlying t = some (.slice e)
  info : ∃ i, P.info? e = some i ∧ i.size = sz ∧ i.bytes = bytes ∧ ∃ zv, i.zero = some zv ∧ zv.cells.toList = z
  zlen : z.length = sz
  pos : 0 < sz
  bpos : 0 < bytes

theorem zeroCells_size (z : Array Value) (n : Nat) : (Builtin.zeroCells z n).size = n * z.size := by simp [Builtin.zeroCells]

/-- What may be appended: a slice's elements, or a string's bytes. -/
def SrcT (P : Program) (t : TypeId) : Prop := (∃ e, P.underlying t = some (.slice e)) ∨ P.underlying t = some .string

theorem run_append_room' {t t2 ty e : TypeId} {i : TypeInfo} (ht : P.underlying t = some (.slice e)) (h2 : SrcT P t2) (hi : P.info? e = some i) {base : Option Addr} {sLen sCap n : Nat} {x : Value} {w : World}
    (hlen : (Builtin.lenOf x).run P w = .ok n w) (hroom : sLen + n ≤ sCap) {new : Array Value} (hf : (Builtin.firstCells i.size n x).run P w = .ok new w) {w' : World}
    (hst : ∀ a, base = some a → (storeCells (a.add (sLen * i.size)) new.toList).run P w = .ok () w') (hno : base = none → w' = w) :
    (Builtin.append_ #[t, t2] ty #[.slice base sLen sCap, x]).run P w = .ok (.slice base (sLen + n) sCap) w' := by
  cases base with
  | none =>
    obtain rfl := hno rfl
    rcases h2 with ⟨e2, h2⟩ | h2 <;> simp [Builtin.append_, run_underlying ht, run_underlying h2, sizeOf, typeInfo, hi, hlen, hroom, hf]
  | some a =>
    have hst := hst a rfl
    rcases h2 with ⟨e2, h2⟩ | h2 <;> simp [Builtin.append_, run_underlying ht, run_underlying h2, sizeOf, typeInfo, hi, hlen, hroom, hf, hst]

theorem run_append_grow' {t t2 ty e : TypeId} {i : TypeInfo} {z : Value} (ht : P.underlying t = some (.slice e)) (h2 : SrcT P t2) (hi : P.info? e = some i) (hz : i.zero = some z) {base : Option Addr} {sLen sCap n : Nat} {x : Value} {w : World}
    (hlen : (Builtin.lenOf x).run P w = .ok n w) (hg : ¬ sLen + n ≤ sCap) (h63 : ¬ (9223372036854775807 < ((sLen : Int) + (n : Int)) ∧ i.bytes = 0)) (hfit : ¬ (281474976710656 < Builtin.nextslicecap (sLen + n) sCap * i.bytes))
    {old new : Array Value} (hfo : (Builtin.firstCells i.size sLen (.slice base sLen sCap)).run P w.drew = .ok old w.drew) (hf : (Builtin.firstCells i.size n x).run P w.drew = .ok new w.drew) :
    (Builtin.append_ #[t, t2] ty #[.slice base sLen sCap, x]).run P w =
      .ok (.slice (some ⟨w.heap.size, 0, none⟩) (sLen + n) (grownCap w (sLen + n) sCap e)) (w.drew.alloc (.cells (old ++ new ++ Builtin.zeroCells z.cells (grownCap w (sLen + n) sCap e - (sLen + n))) e)) := by
  rcases h2 with ⟨e2, h2⟩ | h2 <;>
    simp [Builtin.append_, run_underlying ht, run_underlying h2, sizeOf, typeInfo, zeroValue, hi, hz, hlen, hg, h63, hfit, Question.forced, hf, hfo, newRow, grownCap]

/-- 'append' to a slice that has its array for itself. -/
theorem append_own' {t t2 ty e : TypeId} {sz bytes : Nat} {z : List Value} (hT : ElemT P t e sz bytes z) (h2 : SrcT P t2)
    {v : SlV} {vs ws : List Value} {x : Value} {n : Nat} {seg R : HList} (own : Own v sz e vs seg) (src : Src (seg ++ R) x sz n ws) (hws : ws.all plainV = true)
    (hb : (v.len + n) * bytes ≤ 140737488355328) {k : RsV [.lf .sl] → HP} (hk : ∀ v' seg', v'.len = v.len + n → (v.len + n ≤ v.cap → v'.cap = v.cap ∧ v'.a = v.a) → v.cap ≤ v'.cap → Own v' sz e (vs ++ ws) seg' → k (v', ()) (seg' ++ R)) :
    smW P (Builtin.append_ #[t, t2] ty #[.slice v.a v.len v.cap, x]) [.lf .sl] k (seg ++ R) := by
  obtain ⟨i, hi, his, hib, zv, hz, hzl⟩ := hT.info
  subst his hib
  intro E F w hw
  obtain ⟨hlen, hfirst⟩ := src.run (P := P) hw
  have hsz := hT.pos
  have hzs : zv.cells.size = i.size := by rw [← hT.zlen, ← hzl]; simp
  have hwsl := src.len
  have hol := own.len
  have hcat : (vs ++ ws).length = (v.len + n) * i.size := by rw [List.length_append, ← hol, ← hwsl, Nat.add_mul]
  by_cases hroom : v.len + n ≤ v.cap
  · -- there is room
    have hle := Nat.mul_le_mul_right i.size hroom
    rw [Nat.add_mul] at hle
    rcases own.row with ⟨ha, hc, rfl⟩ | ⟨b, off, c, fz, ha, rfl, hcs, hfz, hcell⟩
    · refine ⟨.slice v.a (v.len + n) v.cap, w, [] ++ R, run_append_room' hT.und h2 hi hlen hroom hfirst (by intro a h; rw [ha] at h; cases h) (fun _ => rfl), hw, (⟨v.a, v.len + n, v.cap⟩, ()), rfl, ?_⟩
      exact hk ⟨v.a, v.len + n, v.cap⟩ [] rfl (fun _ => ⟨rfl, rfl⟩) (Nat.le_refl _) ⟨by rw [hcat], hroom, .inl ⟨ha, hc, rfl⟩⟩
    · obtain ⟨w', hr, hw'⟩ := run_storeCells (P := P) (E := E) (A := []) (B := R) (F := F) (b := b) (T := e) (fz := fz) ws c (off + v.len * i.size) 0 w hws (by simpa using hw) (by omega)
        (by intro j hj; omega)
      refine ⟨.slice v.a (v.len + n) v.cap, w', [(b, Obj.cells (wr c (off + v.len * i.size + 0) ws) e fz)] ++ R, ?_, by simpa using hw', (⟨v.a, v.len + n, v.cap⟩, ()), rfl, ?_⟩
      · refine run_append_room' hT.und h2 hi hlen hroom hfirst (fun a h => ?_) (fun h => by rw [ha] at h; cases h)
        rw [ha] at h
        obtain rfl := Option.some.inj h
        rw [addr_add rfl]
        exact hr
      · refine hk ⟨v.a, v.len + n, v.cap⟩ _ rfl (fun _ => ⟨rfl, rfl⟩) (Nat.le_refl _) ⟨by rw [hcat], hroom, .inr ⟨b, off, _, fz, ha, rfl, by rw [wr_size]; exact hcs, by rw [wr_size]; exact hfz, fun j u hu => ?_⟩⟩
        rw [wr_get _ _ _ _ (by omega)]
        rw [List.getElem?_append] at hu
        split at hu
        · rw [if_neg (by omega)]; exact hcell j u hu
        · rename_i hj
          have hju := (List.getElem?_eq_some_iff.1 hu).1
          rw [if_pos (by omega), show off + j - (off + v.len * i.size + 0) = j - vs.length by omega]; exact hu
  · -- it grows
    have hlt : v.cap < v.len + n := by omega
    have hfit : ¬ (281474976710656 < Builtin.nextslicecap (v.len + n) v.cap * i.bytes) := Nat.not_lt.2 (growslice_fits hlt hb)
    have hwd : Hold E w.drew ((seg ++ R) ++ F) := hw.drew _
    have hold := Src.take (P := P) (m := v.len) (L := seg ++ R) (own.sl.left) (Nat.le_refl _) hwd
    have htk : vs.take (v.len * i.size) = vs := by rw [hol]; exact List.take_length
    rw [htk] at hold
    have hge := grownCap_ge w (v.len + n) v.cap e
    have h63 : ¬ (9223372036854775807 < ((v.len : Int) + (n : Int)) ∧ i.bytes = 0) := fun h => Nat.ne_of_gt hT.bpos h.2
    have hr := run_append_grow' (ty := ty) hT.und h2 hi hz hlen hroom h63 hfit hold (src.run (P := P) hwd).2
    refine ⟨_, _, [(w.heap.size, Obj.cells (vs.toArray ++ ws.toArray ++ Builtin.zeroCells zv.cells (grownCap w (v.len + n) v.cap e - (v.len + n))) e)] ++ R, hr, ?_, (⟨some ⟨w.heap.size, 0, none⟩, v.len + n, grownCap w (v.len + n) v.cap e⟩, ()), rfl, ?_⟩
    · have h1 := hwd.push (.cells (vs.toArray ++ ws.toArray ++ Builtin.zeroCells zv.cells (grownCap w (v.len + n) v.cap e - (v.len + n))) e)
      have h2 : Hold E (w.drew.alloc (.cells (vs.toArray ++ ws.toArray ++ Builtin.zeroCells zv.cells (grownCap w (v.len + n) v.cap e - (v.len + n))) e)) (((w.heap.size, Obj.cells (vs.toArray ++ ws.toArray ++ Builtin.zeroCells zv.cells (grownCap w (v.len + n) v.cap e - (v.len + n))) e) :: (R ++ F)) ++ seg) :=
        h1.perm (by
          simp only [List.cons_append, List.append_assoc]
          rw [← List.append_assoc R F seg]
          exact List.Perm.cons _ List.perm_append_comm)
      exact h2.left
    · refine hk ⟨some ⟨w.heap.size, 0, none⟩, v.len + n, grownCap w (v.len + n) v.cap e⟩ _ rfl (fun h => absurd h hroom) (by simp only; omega) ⟨by rw [hcat], hge, .inr ⟨w.heap.size, 0, _, (0, 0), rfl, rfl, ?_, .inl (Nat.le_refl _), fun j u hu => ?_⟩⟩
      · simp only [Array.size_append, List.size_toArray, zeroCells_size, hzs, ← hol, ← hwsl, ← Nat.add_mul]
        rw [show v.len + n + (grownCap w (v.len + n) v.cap e - (v.len + n)) = grownCap w (v.len + n) v.cap e by omega]
        simp
      · have hj := (List.getElem?_eq_some_iff.1 hu).1
        rw [Nat.zero_add, Array.getElem?_append_left (by simpa using hj), ← hu]
        simp
theorem append_own {t t2 ty e : TypeId} {sz bytes : Nat} {z : List Value} (hT : ElemT P t e sz bytes z) (h2 : SrcT P t2)
    {v : SlV} {vs ws : List Value} {x : Value} {n : Nat} {seg R : HList} (own : Own v sz e vs seg) (src : Src (seg ++ R) x sz n ws) (hws : ws.all plainV = true)
    (hb : (v.len + n) * bytes ≤ 140737488355328) {k : RsV [.lf .sl] → HP} (hk : ∀ v' seg', v'.len = v.len + n → Own v' sz e (vs ++ ws) seg' → k (v', ()) (seg' ++ R)) :
    smW P (Builtin.append_ #[t, t2] ty #[.slice v.a v.len v.cap, x]) [.lf .sl] k (seg ++ R) :=
  append_own' hT h2 own src hws hb fun v' seg' h _ _ h3 => hk v' seg' h h3
end
end Go.HL
