/-
  It is proved what the functions that the law RegionKills reaches compute, part 1. There are no further conditions than those that each theorem names.
-/
import Derived.Test.YtlabcgnegbdlfaaMRegionKills0
import Derived.Laws.StructEq
import Derived.ChangeKeysEq
import Derived.Test.YtlabcgnegbdlfaaProg
import Derived.KernelRfl
set_option linter.unusedVariables false
set_option linter.unusedSimpArgs false
namespace Go.HL
/-! ### 13. Words: what the numbers of a kind are as words -/
theorem xor64 (x y : Int) : bitI .xor .u64 x y = ((BitVec.ofInt 64 x ^^^ BitVec.ofInt 64 y).toNat : Int) := by
  simp only [bitI, IntKind.bits]; rw [w64u_bv, bv_nat]; rfl
theorem and64 (x y : Int) : bitI .and .u64 x y = ((BitVec.ofInt 64 x &&& BitVec.ofInt 64 y).toNat : Int) := by
  simp only [bitI, IntKind.bits]; rw [w64u_bv, bv_nat]; rfl
theorem or64 (x y : Int) : bitI .or .u64 x y = ((BitVec.ofInt 64 x ||| BitVec.ofInt 64 y).toNat : Int) := by
  simp only [bitI, IntKind.bits]; rw [w64u_bv, bv_nat]; rfl
theorem xor32 (x y : Int) : bitI .xor .u32 x y = ((BitVec.ofInt 32 x ^^^ BitVec.ofInt 32 y).toNat : Int) := by
  simp only [bitI, IntKind.bits]; rw [w32_bv, bv_nat]; rfl
theorem and32 (x y : Int) : bitI .and .u32 x y = ((BitVec.ofInt 32 x &&& BitVec.ofInt 32 y).toNat : Int) := by
  simp only [bitI, IntKind.bits]; rw [w32_bv, bv_nat]; rfl
theorem or32 (x y : Int) : bitI .or .u32 x y = ((BitVec.ofInt 32 x ||| BitVec.ofInt 32 y).toNat : Int) := by
  simp only [bitI, IntKind.bits]; rw [w32_bv, bv_nat]; rfl
theorem xor8 (x y : Int) : bitI .xor .u8 x y = ((BitVec.ofInt 8 x ^^^ BitVec.ofInt 8 y).toNat : Int) := by
  simp only [bitI, IntKind.bits]; rw [w8_bv, bv_nat]; rfl
theorem and8 (x y : Int) : bitI .and .u8 x y = ((BitVec.ofInt 8 x &&& BitVec.ofInt 8 y).toNat : Int) := by
  simp only [bitI, IntKind.bits]; rw [w8_bv, bv_nat]; rfl
theorem or8 (x y : Int) : bitI .or .u8 x y = ((BitVec.ofInt 8 x ||| BitVec.ofInt 8 y).toNat : Int) := by
  simp only [bitI, IntKind.bits]; rw [w8_bv, bv_nat]; rfl
theorem shr_nat {m : Nat} (a : BitVec m) (k n : Nat) (hn : n = m) : Int.fdiv (a.toNat : Int) (2 ^ (min k n)) = ((a >>> k).toNat : Int) := by
  subst hn
  rw [BitVec.toNat_ushiftRight, Nat.shiftRight_eq_div_pow, Int.fdiv_eq_ediv_of_nonneg _ (by exact Int.le_of_lt (Int.pow_pos (by omega)))]
  have h2 : (2 : Int) ^ min k n = ((2 ^ min k n : Nat) : Int) := by simp
  rw [h2, ← Int.natCast_ediv]
  congr 1
  by_cases h : k ≤ n
  · rw [Nat.min_eq_left h]
  · rw [Nat.min_eq_right (by omega)]
    have h3 := a.isLt
    rw [Nat.div_eq_of_lt h3, Nat.div_eq_of_lt (Nat.lt_of_lt_of_le h3 (Nat.pow_le_pow_right (by omega) (by omega)))]
theorem shr64 (a : BitVec 64) (k : Nat) : Int.fdiv (a.toNat : Int) (2 ^ (min k IntKind.u64.bits)) = ((a >>> k).toNat : Int) := shr_nat a _ _ rfl
theorem shr32 (a : BitVec 32) (k : Nat) : Int.fdiv (a.toNat : Int) (2 ^ (min k IntKind.u32.bits)) = ((a >>> k).toNat : Int) := shr_nat a _ _ rfl
theorem shl_nat {m : Nat} (a : BitVec m) (k n : Nat) (hn : n = m) : BitVec.ofInt m ((a.toNat : Int) * 2 ^ (min k n)) = a <<< k := by
  subst hn
  rw [BitVec.ofInt_mul, bv_nat]
  have h2 : (2 : Int) ^ min k n = ((2 ^ min k n : Nat) : Int) := by simp
  rw [h2]
  have h3 : BitVec.ofInt n ((2 ^ min k n : Nat) : Int) = BitVec.ofNat n (2 ^ min k n) := BitVec.ofInt_natCast ..
  rw [h3]
  apply BitVec.eq_of_toNat_eq
  rw [BitVec.toNat_mul, BitVec.toNat_shiftLeft, BitVec.toNat_ofNat, Nat.shiftLeft_eq]
  by_cases h : k ≤ n
  · rw [Nat.min_eq_left h, Nat.mul_mod, Nat.mod_mod, ← Nat.mul_mod]
  · rw [Nat.min_eq_right (by omega), Nat.mod_self, Nat.mul_zero, Nat.zero_mod]
    obtain ⟨d, rfl⟩ : ∃ d, k = n + d := ⟨k - n, by omega⟩
    rw [Nat.pow_add, ← Nat.mul_assoc, Nat.mul_right_comm, Nat.mul_mod_left]
theorem shl64 (a : BitVec 64) (k : Nat) : IntKind.u64.wrap ((a.toNat : Int) * 2 ^ (min k IntKind.u64.bits)) = ((a <<< k).toNat : Int) := by
  rw [w64u_bv]; exact congrArg (fun x : BitVec 64 => (x.toNat : Int)) (shl_nat a k _ rfl)
theorem shl32 (a : BitVec 32) (k : Nat) : IntKind.u32.wrap ((a.toNat : Int) * 2 ^ (min k IntKind.u32.bits)) = ((a <<< k).toNat : Int) := by
  rw [w32_bv]; exact congrArg (fun x : BitVec 32 => (x.toNat : Int)) (shl_nat a k _ rfl)

theorem ofInt_sub' (m : Nat) (x y : Int) : BitVec.ofInt m (x - y) = BitVec.ofInt m x - BitVec.ofInt m y := by
  rw [Int.sub_eq_add_neg, BitVec.ofInt_add, BitVec.ofInt_neg, BitVec.sub_eq_add_neg]
theorem ofInt_sub64 (x y : Int) : BitVec.ofInt 64 (x - y) = BitVec.ofInt 64 x - BitVec.ofInt 64 y := ofInt_sub' _ _ _
theorem wf_rng {k : IntKind} {n : Int} (h : intWf k n) : k.min ≤ n ∧ n ≤ k.max := by
  simpa only [intWf, Lit.wf, Bool.and_eq_true, decide_eq_true_eq] using h
theorem wf_u64 {n : Int} (h : intWf .u64 n) : ∃ a : BitVec 64, n = (a.toNat : Int) := by
  have h2 : 0 ≤ n ∧ n ≤ 18446744073709551615 := wf_rng h
  refine ⟨BitVec.ofInt 64 n, ?_⟩
  rw [← w64u_bv, wu64_id h2.1 h2.2]
theorem wf_u32 {n : Int} (h : intWf .u32 n) : ∃ a : BitVec 32, n = (a.toNat : Int) := by
  have h2 : 0 ≤ n ∧ n ≤ 4294967295 := wf_rng h
  refine ⟨BitVec.ofInt 32 n, ?_⟩
  rw [← w32_bv, w32_id h2.1 h2.2]
theorem wf_u8 {n : Int} (h : intWf .u8 n) : ∃ a : UInt8, n = (a.toNat : Int) := by
  have h2 : 0 ≤ n ∧ n ≤ 255 := wf_rng h
  refine ⟨UInt8.ofNat n.toNat, ?_⟩
  have : (UInt8.ofNat n.toNat).toNat = n.toNat := by simp; omega
  rw [this]; omega
theorem wf_i64 {n : Int} (h : intWf .i64 n) : -9223372036854775808 ≤ n ∧ n ≤ 9223372036854775807 := by
  exact wf_rng h
theorem u64_lt (a : BitVec 64) : (a.toNat : Int) < 18446744073709551616 := by have := a.isLt; omega
theorem ofInt_u8 (m : Nat) (c : UInt8) : BitVec.ofInt m (c.toNat : Int) = BitVec.ofNat m c.toNat := BitVec.ofInt_natCast ..
theorem Sl.head {p : Nat × Obj} {L : HList} {v : SlV} {sz : Nat} {vs : List Value} (h : Sl [p] v sz vs) : Sl (p :: L) v sz vs := h.mono fun q hq => by
  obtain rfl := List.mem_singleton.1 hq
  exact List.mem_cons_self
end Go.HL
set_option linter.unusedVariables false
set_option linter.unusedSimpArgs false
namespace Go.HL
section
variable {P : Program} {L : HList}

/-! ### 14. A call in its place -/
theorem CallF.at' {f : FuncId} {args : Array Value} {K : Value → HP} {A X Y : HList} (h : CallF P f args A K) : CallF P f args (X ++ A ++ Y) fun v L' => ∃ A', L' = X ++ A' ++ Y ∧ K v A' :=
  fun E F w hw => Calls.mono (CallF.frame (R := X ++ Y) h E F w (hw.perm (by
      refine List.Perm.append_right F ?_
      have : (X ++ A ++ Y).Perm (A ++ X ++ Y) := List.Perm.append_right Y List.perm_append_comm
      simpa [List.append_assoc] using this))) fun e w' ⟨v, L', he, hw', A', hL, hK⟩ => by
    subst hL
    refine ⟨v, X ++ A' ++ Y, he, hw'.perm (List.Perm.append_right F ?_), A', rfl, hK⟩
    have : (A' ++ X ++ Y).Perm (X ++ A' ++ Y) := List.Perm.append_right Y List.perm_append_comm
    simpa [List.append_assoc] using this
theorem cl_in {f : FuncId} {args : Array Value} {rs : List Sh} {k : RsV rs → HP} {K : Value → HP} {A : HList} (X Y : HList) (h : CallF P f args A K) (hL : L = X ++ A ++ Y)
    (hk : ∀ v A', Sat (X ++ A' ++ Y) → K v A' → ∃ r, v = rsVal rs r ∧ k r (X ++ A' ++ Y)) : cl P f args rs k L := by
  subst hL
  refine CallF.mono (CallF.at' h) ?_
  rintro v L' hs ⟨A', rfl, hK⟩
  exact hk v A' hs hK
/-- A contract on a piece, read only. -/
theorem Reads.in {f : FuncId} {args : Array Value} {A X Y : HList} {v : Value} (h : Reads P f args A v) : Reads P f args (X ++ A ++ Y) v :=
  CallF.mono (CallF.at' h) (by rintro _ _ _ ⟨A', rfl, rfl, rfl⟩; exact ⟨rfl, rfl⟩)

theorem SemF.permL {s : Sem Value} {K : Value → HP} {L' : HList} (hp : L.Perm L') (h : SemF P s K L') : SemF P s K L :=
  fun E F w hw => h E F w (hw.perm (hp.append_right F))
theorem SemF.permK {s : Sem Value} {K K' : Value → HP} (h : SemF P s K L) (hk : ∀ v L', K v L' → ∃ L'', L'.Perm L'' ∧ K' v L'') : SemF P s K' L := by
  intro E F w hw
  obtain ⟨v, w', L', hr, hw', hK⟩ := h E F w hw
  obtain ⟨L'', hp, hK'⟩ := hk v L' hK
  exact ⟨v, w', L'', hr, hw'.perm (hp.append_right F), hK'⟩
/-- 'append' to a slice that has its array for itself, in its place. -/
theorem append_in' {t t2 ty e : TypeId} {sz bytes : Nat} {z : List Value} (hT : ElemT P t e sz bytes z) (h2 : SrcT P t2)
    {v : SlV} {vs ws : List Value} {x : Value} {n : Nat} {seg : HList} (X Y : HList) (own : Own v sz e vs seg) (hL : L = X ++ seg ++ Y) (src : Src L x sz n ws) (hws : ws.all plainV = true)
    (hb : (v.len + n) * bytes ≤ 140737488355328) {k : RsV [.lf .sl] → HP} (hk : ∀ v' seg', v'.len = v.len + n → (v.len + n ≤ v.cap → v'.cap = v.cap ∧ v'.a = v.a) → v.cap ≤ v'.cap → Own v' sz e (vs ++ ws) seg' → k (v', ()) (X ++ seg' ++ Y)) :
    smW P (Builtin.append_ #[t, t2] ty #[.slice v.a v.len v.cap, x]) [.lf .sl] k L := by
  subst hL
  have hp : (X ++ seg ++ Y).Perm (seg ++ (X ++ Y)) := by
    have : (X ++ seg ++ Y).Perm (seg ++ X ++ Y) := List.Perm.append_right Y List.perm_append_comm
    simpa [List.append_assoc] using this
  have src' : Src (seg ++ (X ++ Y)) x sz n ws := by
    cases src with
    | sl h => exact .sl (h.mono fun p hq => hp.subset hq)
    | str s => exact .str s
  refine SemF.permL hp (SemF.permK (append_own' (R := X ++ Y) hT h2 own src' hws hb (k := fun r L' => ∃ seg', L' = seg' ++ (X ++ Y) ∧ k r (X ++ seg' ++ Y)) fun v' seg' h1 h2 h3 h4 => ⟨seg', rfl, hk v' seg' h1 h2 h3 h4⟩) ?_)
  rintro v' L' ⟨r, hr, seg', rfl, hk'⟩
  refine ⟨X ++ seg' ++ Y, ?_, r, hr, hk'⟩
  have : (seg' ++ X ++ Y).Perm (X ++ seg' ++ Y) := List.Perm.append_right Y List.perm_append_comm
  simpa [List.append_assoc] using this
theorem append_in {t t2 ty e : TypeId} {sz bytes : Nat} {z : List Value} (hT : ElemT P t e sz bytes z) (h2 : SrcT P t2)
    {v : SlV} {vs ws : List Value} {x : Value} {n : Nat} {seg : HList} (X Y : HList) (own : Own v sz e vs seg) (hL : L = X ++ seg ++ Y) (src : Src L x sz n ws) (hws : ws.all plainV = true)
    (hb : (v.len + n) * bytes ≤ 140737488355328) {k : RsV [.lf .sl] → HP} (hk : ∀ v' seg', v'.len = v.len + n → Own v' sz e (vs ++ ws) seg' → k (v', ()) (X ++ seg' ++ Y)) :
    smW P (Builtin.append_ #[t, t2] ty #[.slice v.a v.len v.cap, x]) [.lf .sl] k L :=
  append_in' hT h2 X Y own hL src hws hb fun v' seg' h _ _ h3 => hk v' seg' h h3
theorem ifEq {x y : Int} {A B : HP} (h : x = y) (hk : A L) : ifB (x == y) A B L := ifT (beq_iff_eq.2 h) hk
theorem ifP {p : Prop} [Decidable p] {A B : HP} (h : p) (hk : A L) : ifB (decide p) A B L := ifT (decide_eq_true h) hk
theorem ifN {p : Prop} [Decidable p] {A B : HP} (h : ¬ p) (hk : B L) : ifB (decide p) A B L := ifF (decide_eq_false h) hk
theorem elemT_of {t e : TypeId} {sz bytes : Nat} {z : List Value} (hu : P.underlying t = some (.slice e)) (h : ((P.info? e).bind fun i => i.zero.map fun v => (i.size, i.bytes, v.cells.toList)) = some (sz, bytes, z))
    (hz : z.length = sz) (hs : 0 < sz) (hb : 0 < bytes) : ElemT P t e sz bytes z := by
  refine ⟨hu, ?_, hz, hs, hb⟩
  cases hi : P.info? e with
  | none => rw [hi] at h; cases h
  | some i =>
    rw [hi] at h
    cases hv : i.zero with
    | none => simp [hv] at h
    | some v =>
      simp only [Option.bind_some, hv, Option.map_some, Option.some.injEq, Prod.mk.injEq] at h
      exact ⟨i, rfl, h.1, h.2.1, v, hv, h.2.2⟩

/-! ### 15. Objects that are known whole -/
theorem ldB {n off : Nat} {c : Array Value} {T : TypeId} {fz : Nat × Nat} {vs : List Value} (hm : (n, Obj.cells c T fz) ∈ L) (h : (c.toList.drop off).take vs.length = vs) : LdAt ⟨n, off, none⟩ vs L := by
  refine .blk hm fun i v hv => ?_
  rw [← h, List.getElem?_take] at hv
  split at hv
  · rw [List.getElem?_drop] at hv
    simpa using hv
  · cases hv
theorem st_of {ad : Addr} {ws : List Value} {k : HP} {n off : Nat} {c : Array Value} {T : TypeId} {fz : Nat × Nat} (A B : HList) (had : ad = ⟨n, off, none⟩) (hL : L = A ++ (n, Obj.cells c T fz) :: B) (hsz : off + ws.length ≤ c.size)
    (hfz : fz.2 ≤ fz.1 ∨ c.size ≤ fz.1) (c' : Array Value) (hc : wr c off ws = c') (hk : k (A ++ (n, Obj.cells c' T fz) :: B)) : st ad ws k L := by
  subst had hL hc
  exact ⟨A, B, c, T, fz, rfl, rfl, hsz, fun i hi => by simp only; omega, hk⟩

/-! ### 16. A store into a slice of one's own -/
def putL (vs : List Value) (p : Nat) (ws : List Value) : List Value := vs.take p ++ ws ++ vs.drop (p + ws.length)
theorem putL_len (vs : List Value) (p : Nat) (ws : List Value) (h : p + ws.length ≤ vs.length) : (putL vs p ws).length = vs.length := by
  simp only [putL, List.length_append, List.length_take, List.length_drop]; omega
theorem putL_get (vs : List Value) (p : Nat) (ws : List Value) (h : p + ws.length ≤ vs.length) (i : Nat) : (putL vs p ws)[i]? = if p ≤ i ∧ i < p + ws.length then ws[i - p]? else vs[i]? := by
  unfold putL
  rw [List.append_assoc, List.getElem?_append]
  have hl : (vs.take p).length = p := by rw [List.length_take]; omega
  rw [hl]
  by_cases h1 : i < p
  · rw [if_pos h1, if_neg (by omega), List.getElem?_take, if_pos h1]
  · rw [if_neg h1, List.getElem?_append]
    by_cases h2 : i - p < ws.length
    · rw [if_pos h2, if_pos (by omega)]
    · rw [if_neg h2, if_neg (by omega), List.getElem?_drop]
      congr 1; omega
theorem putL_one {vs : List Value} {p : Nat} {w : Value} (h : p < vs.length) : putL vs p [w] = vs.set p w := by
  apply List.ext_getElem?
  intro i
  rw [putL_get _ _ _ (by simp only [List.length_cons, List.length_nil]; omega), List.getElem?_set]
  by_cases hi : p = i
  · subst hi; simp [h]
  · rw [if_neg (by simp only [List.length_cons, List.length_nil]; omega), if_neg hi]
theorem Own.st {v : SlV} {sz : Nat} {T : TypeId} {vs ws : List Value} {seg : HList} (own : Own v sz T vs seg) (X Y : HList) {p : Nat} (hp : p + ws.length ≤ vs.length) (hws : 0 < ws.length) {a ad : Addr} (ha : v.a = some a) (had : ad = Addr.add a p) {k : HP}
    (hL : L = X ++ seg ++ Y) (hk : ∀ seg', Own v sz T (putL vs p ws) seg' → k (X ++ seg' ++ Y)) : st ad ws k L := by
  subst hL had
  rcases own.row with ⟨ha', _, _⟩ | ⟨b, off, c, fz, ha', rfl, hsz, hfz, hc⟩
  · rw [ha] at ha'; cases ha'
  · rw [ha] at ha'
    obtain rfl := Option.some.inj ha'
    have hlen := own.len
    have hcap := own.cap
    have hle := Nat.mul_le_mul_right sz hcap
    refine st_of (n := b) (off := off + p) (c := c) (T := T) (fz := fz) X Y (addr_add (ad := ⟨b, off, none⟩) rfl p) (by simp) (by omega) (by omega) _ rfl ?_
    have := hk [(b, Obj.cells (wr c (off + p) ws) T fz)] ⟨by rw [putL_len _ _ _ hp]; exact hlen, hcap, .inr ⟨b, off, _, fz, ha, rfl, by rw [wr_size]; exact hsz, by rw [wr_size]; exact hfz, fun i u hu => ?_⟩⟩
    · simpa using this
    · rw [putL_get _ _ _ hp] at hu
      rw [wr_get _ _ _ _ (by omega)]
      split at hu
      · rw [if_pos (by omega), show off + i - (off + p) = i - p by omega]; exact hu
      · rw [if_neg (by omega)]; exact hc i u hu
theorem bvs_set (l : List UInt8) (i : Nat) (x : UInt8) : (bvs l).set i (.int .u8 (x.toNat : Int)) = bvs (l.set i x) := by
  simp [bvs, List.map_set, bv]

/-! ### 17. A slice of a slice -/
/-- s[l:h] of a slice whose elements are known: l ≤ h ≤ len. -/
theorem Sl.slc {v : SlV} {sz : Nat} {vs : List Value} (h : Sl L v sz vs) (hsz : 0 < sz) {l h' m : Nat} (hl : l ≤ h') (hh : h' ≤ v.len) (hm : h' ≤ m) : Sl L (slcV v l h' m sz) sz ((vs.drop (l * sz)).take ((h' - l) * sz)) := by
  have hlen := h.len
  have h1 := Nat.mul_le_mul_right sz hh
  have h2 := Nat.mul_le_mul_right sz hl
  refine ⟨?_, ?_, ?_⟩
  · simp only [slcV, Int.toNat_natCast, List.length_take, List.length_drop]
    rw [Nat.min_eq_left]
    rw [Nat.sub_mul]; omega
  · simp only [slcV, Int.toNat_natCast]; omega
  · by_cases h0 : (vs.drop (l * sz)).take ((h' - l) * sz) = []
    · exact .inl h0
    · have hlt : l < h' := by
        rcases Nat.lt_or_ge l h' with h3 | h3
        · exact h3
        · exfalso; apply h0
          rw [Nat.sub_eq_zero_of_le h3, Nat.zero_mul]; rfl
      obtain ⟨ad, ha, hld⟩ := h.at' (i := l) (by omega) hsz
      refine .inr ?_
      simp only [slcV, Int.toNat_natCast]
      rw [if_neg (by omega), ha]
      refine ⟨_, rfl, hld.sub (l * sz) fun i u hu => ?_⟩
      rw [List.getElem?_take] at hu
      split at hu
      · rw [List.getElem?_drop] at hu; exact hu
      · cases hu
theorem slc_of {v : SlV} {l h m : Int} {sz : Nat} {k : SlV → HP} {l' h' m' : Nat} (hl : l = l') (hh : h = h') (hm : m = m') (h1 : l' ≤ h') (h2 : h' ≤ m') (h3 : m' ≤ v.cap) (hk : k (slcV v l' h' m' sz) L) : slc v l h m sz k L := by
  subst hl hh hm
  exact ⟨⟨by omega, by omega, by omega, by omega⟩, hk⟩
theorem bvs_slc (l : List UInt8) (i j : Nat) : ((bvs l).drop (i * 1)).take ((j - i) * 1) = bvs ((l.drop i).take (j - i)) := by
  simp [bvs, List.map_drop, List.map_take]
/-! ### 18. The elements of a slice -/
theorem flat_at {α : Type} {enc : α → List Value} {sz : Nat} (hsz : ∀ x, (enc x).length = sz) : ∀ (l : List α) (i : Nat) (h : i < l.length) (j : Nat), j < sz → (l.flatMap enc)[i * sz + j]? = (enc l[i])[j]?
  | [], i, h, j, _ => by simp at h
  | x :: r, 0, h, j, hj => by
    rw [List.flatMap_cons, List.getElem?_append_left (by rw [hsz]; omega), Nat.zero_mul, Nat.zero_add]
    rfl
  | x :: r, i + 1, h, j, hj => by
    rw [List.flatMap_cons, List.getElem?_append_right (by rw [hsz, Nat.succ_mul]; omega)]
    have : (i + 1) * sz + j - (enc x).length = i * sz + j := by rw [hsz, Nat.succ_mul]; omega
    rw [this, flat_at hsz r i (by simpa using h) j hj]
    rfl
theorem Sl.els_len {α : Type} {enc : α → List Value} {sz : Nat} {v : SlV} {l : List α} (hsz : ∀ x, (enc x).length = sz) (hpos : 0 < sz) (h : Sl L v sz (l.flatMap enc)) : v.len = l.length := by
  have h1 := h.len
  rw [flat_len hsz] at h1
  exact Nat.eq_of_mul_eq_mul_right hpos h1
theorem Sl.el {α : Type} {enc : α → List Value} {sz : Nat} {v : SlV} {l : List α} (hsz : ∀ x, (enc x).length = sz) (hpos : 0 < sz) (h : Sl L v sz (l.flatMap enc)) {i : Nat} (hi : i < l.length) :
    ∃ a, v.a = some a ∧ LdAt (Addr.add a (i * sz)) (enc l[i]) L := by
  obtain ⟨a, ha, hl⟩ := h.at' (i := i) (by rw [h.els_len hsz hpos]; exact hi) hpos
  refine ⟨a, ha, hl.sub (i * sz) fun j u hu => ?_⟩
  have hj := (List.getElem?_eq_some_iff.1 hu).1
  rw [hsz] at hj
  rw [flat_at hsz l i hi j hj]; exact hu
theorem SlOk.len' {α : Type} {w : World} {enc : α → List Value} {wf : α → Prop} {sz : Nat} {v : SlV} {l : List α} (h : SlOk w enc wf sz (v, l)) : v.len = l.length := h.len
/-! ### 19. Slices of numbers -/
def ivs (k : IntKind) (l : List Int) : List Value := l.map (Value.int k)
theorem ivs_length (k : IntKind) (l : List Int) : (ivs k l).length = l.length := by simp [ivs]
theorem ivs_append (k : IntKind) (l m : List Int) : ivs k (l ++ m) = ivs k l ++ ivs k m := by simp [ivs]
theorem ivs_plain (k : IntKind) (l : List Int) : (ivs k l).all plainV = true := by
  induction l with
  | nil => rfl
  | cons b r ih => exact ih
theorem ivs_get {k : IntKind} {l : List Int} {i : Nat} (h : i < l.length) : (ivs k l)[i]? = some (.int k l[i]) := by
  simp [ivs, h]
abbrev ISl (L : HList) (v : SlV) (k : IntKind) (l : List Int) : Prop := Sl L v 1 (ivs k l)
theorem ISl.len {L : HList} {v : SlV} {k : IntKind} {l : List Int} (h : ISl L v k l) : v.len = l.length := by
  have := Sl.len h; rw [ivs_length] at this; omega
theorem ISl.some {L : HList} {v : SlV} {k : IntKind} {l : List Int} (h : ISl L v k l) {i : Nat} (hi : i < l.length) : ∃ a, v.a = some a := by
  obtain ⟨ad, ha', hl⟩ := h.at' (i := i) (by rw [h.len]; exact hi) (by omega)
  exact ⟨ad, ha'⟩
theorem ISl.rd {L : HList} {v : SlV} {k : IntKind} {l : List Int} (h : ISl L v k l) {i : Nat} (hi : i < l.length) {a : Addr} (ha : v.a = Option.some a) (j : Nat) (hj : j = i * 1) : LdAt (Addr.add a j) [.int k l[i]] L := by
  subst hj
  obtain ⟨ad, ha', hl⟩ := h.at' (i := i) (by rw [h.len]; exact hi) (by omega)
  rw [ha] at ha'
  obtain rfl := Option.some.inj ha'
  rw [Nat.mul_one]
  exact hl.one i (ivs_get hi)
theorem ivs_set (k : IntKind) (l : List Int) (i : Nat) (x : Int) : (ivs k l).set i (.int k x) = ivs k (l.set i x) := by
  simp [ivs, List.map_set]
theorem ivs_slc (k : IntKind) (l : List Int) (i j : Nat) : ((ivs k l).drop (i * 1)).take ((j - i) * 1) = ivs k ((l.drop i).take (j - i)) := by
  simp [ivs, List.map_drop, List.map_take]
theorem SlOk.ints {w : World} {k : IntKind} {wf : Int → Prop} {p : SlV × List Int} (h : SlOk w (fun n => [.int k n]) wf 1 p) : ISl (allB w) p.1 k p.2 := by
  have h1 := h.sl
  have h2 : p.2.flatMap (fun n => [Value.int k n]) = ivs k p.2 := by
    generalize p.2 = l
    induction l with
    | nil => rfl
    | cons x r ih => rw [List.flatMap_cons, ih]; rfl
  rw [h2] at h1
  exact h1
/-- A row of numbers that is known whole. -/
theorem ISl.const {L : HList} {b : Nat} {k : IntKind} {l : List Int} {T : TypeId} {fz : Nat × Nat} (cap : Nat) (hc : l.length ≤ cap) (hm : (b, Obj.cells (ivs k l).toArray T fz) ∈ L) : ISl L ⟨Option.some ⟨b, 0, none⟩, l.length, cap⟩ k l :=
  ⟨by rw [ivs_length]; simp, hc, .inr ⟨_, rfl, .blk hm fun i v hv => by simpa using hv⟩⟩
/-! a slice of bytes that came in -/
theorem SlOk.bytes {w : World} {wf : UInt8 → Prop} {p : SlV × List UInt8} (h : SlOk w (fun b => [bv b]) wf 1 p) : BSl (allB w) p.1 p.2 := by
  have h1 := h.sl
  have h2 : p.2.flatMap (fun b => [bv b]) = bvs p.2 := by
    generalize p.2 = l
    induction l with
    | nil => rfl
    | cons x r ih => rw [List.flatMap_cons, ih]; rfl
  rw [h2] at h1
  exact h1
end
end Go.HL
set_option linter.unusedVariables false
set_option linter.unusedSimpArgs false
namespace Go.HL
section
variable {P : Program} {L : HList}

/-- s[l:h] of a slice of one's own, which stands for it from then on. -/
theorem Own.slc {v : SlV} {sz : Nat} {T : TypeId} {vs : List Value} {seg : HList} (own : Own v sz T vs seg) {l h : Nat} (hl : l ≤ h) (hh : h ≤ v.len) :
    Own (slcV v l h v.cap sz) sz T ((vs.drop (l * sz)).take ((h - l) * sz)) seg := by
  have hlen := own.len
  have hcap := own.cap
  have h1 := Nat.mul_le_mul_right sz hh
  have h2 := Nat.mul_le_mul_right sz hl
  have h3 := Nat.mul_le_mul_right sz hcap
  refine ⟨?_, ?_, ?_⟩
  · simp only [slcV, Int.toNat_natCast, List.length_take, List.length_drop]
    rw [Nat.min_eq_left]
    rw [Nat.sub_mul]; omega
  · simp only [slcV, Int.toNat_natCast]; omega
  · rcases own.row with ⟨ha, hc, rfl⟩ | ⟨b, off, c, fz, ha, rfl, hsz, hfz, hcell⟩
    · refine .inl ⟨?_, ?_, rfl⟩
      · simp only [slcV, Int.toNat_natCast, ha]; split <;> rfl
      · simp only [slcV, Int.toNat_natCast]; omega
    · by_cases he : v.cap = l
      · refine .inr ⟨b, off, c, fz, ?_, rfl, ?_, hfz, ?_⟩
        · simp only [slcV, Int.toNat_natCast, if_pos he, ha]
        · simp only [slcV, Int.toNat_natCast]; rw [he, Nat.sub_self, Nat.zero_mul]; omega
        · intro i u hu
          have : h = l := by omega
          subst this
          simp at hu
      · refine .inr ⟨b, off + l * sz, c, fz, ?_, rfl, ?_, hfz, ?_⟩
        · simp only [slcV, Int.toNat_natCast, if_neg he, ha, Option.map_some]
          rw [addr_add rfl]
        · simp only [slcV, Int.toNat_natCast]
          rw [Nat.sub_mul]
          have := Nat.mul_le_mul_right sz (show l ≤ v.cap by omega)
          omega
        · intro i u hu
          rw [List.getElem?_take] at hu
          split at hu
          · rw [List.getElem?_drop] at hu
            rw [Nat.add_assoc]
            exact hcell _ _ hu
          · cases hu

theorem run_clear_none {t ty : TypeId} {d : TypeDesc} (hu : P.underlying t = some d) {a : Option Addr} {n c : Nat} (h : a = none ∨ n = 0) (w : World) : (Builtin.clear_ #[t] ty #[.slice a n c]).run P w = .ok (.tuple #[]) w := by
  rcases h with rfl | rfl
  · cases d <;> simp [Builtin.clear_, run_und hu]
  · cases a <;> cases d <;> simp [Builtin.clear_, run_und hu]
theorem run_clear_some {t ty e : TypeId} {i : TypeInfo} {zv : Value} (hu : P.underlying t = some (.slice e)) (hi : P.info? e = some i) (hz : i.zero = some zv) {a : Addr} {n c : Nat} (hn : n ≠ 0) {w w' : World}
    (hs : (storeCells a (Builtin.zeroCells zv.cells n).toList).run P w = .ok () w') : (Builtin.clear_ #[t] ty #[.slice (some a) n c]).run P w = .ok (.tuple #[]) w' := by
  cases n with
  | zero => exact absurd rfl hn
  | succ n => simp [Builtin.clear_, run_und hu, zeroValue, typeInfo, hi, hz, hs]

/-- 'clear(s[len(s):h])': what lies behind the elements. -/
theorem clear_own {t ty e : TypeId} {sz bytes : Nat} {z : List Value} (hT : ElemT P t e sz bytes z) (hz : z.all plainV = true) {v : SlV} {vs : List Value} {seg : HList} (X Y : HList) (own : Own v sz e vs seg) (hL : L = X ++ seg ++ Y) {h : Nat} (h1 : v.len ≤ h) (h2 : h ≤ v.cap)
    {s : SlV} (hs : s = slcV v v.len h v.cap sz) {k : RsV [] → HP} (hk : ∀ seg', Own v sz e vs seg' → k () (X ++ seg' ++ Y)) : smW P (Builtin.clear_ #[t] ty #[.slice s.a s.len s.cap]) [] k L := by
  subst hL hs
  obtain ⟨i, hi, his, hib, zv, hzv, hzl⟩ := hT.info
  subst his
  have hsl : (slcV v v.len h v.cap i.size).len = h - v.len := by simp only [slcV, Int.toNat_natCast]
  intro E F w hw
  by_cases hn : h - v.len = 0
  · exact ⟨_, w, _, run_clear_none hT.und (.inr (by rw [hsl]; exact hn)) w, hw, (), rfl, hk seg own⟩
  · rcases own.row with ⟨ha, hc, rfl⟩ | ⟨b, off, c, fz, ha, rfl, hsz, hfz, hcell⟩
    · omega
    · have haa : (slcV v v.len h v.cap i.size).a = some ⟨b, off + v.len * i.size, none⟩ := by
        simp only [slcV, Int.toNat_natCast]
        rw [if_neg (by omega), ha, Option.map_some, addr_add rfl]
      have hlen := own.len
      have hle := Nat.mul_le_mul_right i.size h2
      have hle1 := Nat.mul_le_mul_right i.size h1
      have hzs : zv.cells.size = i.size := by rw [← hT.zlen, ← hzl]; simp
      have hzlen : (Builtin.zeroCells zv.cells (h - v.len)).toList.length = (h - v.len) * i.size := by
        rw [Array.length_toList, zeroCells_size, hzs]
      have hsub : (h - v.len) * i.size = h * i.size - v.len * i.size := Nat.sub_mul ..
      have hpl : (Builtin.zeroCells zv.cells (h - v.len)).toList.all plainV = true := by
        rw [List.all_eq_true] at hz ⊢
        intro x hx
        refine hz x ?_
        rw [← hzl]
        unfold Builtin.zeroCells at hx
        simp only [Array.toList_map, List.mem_map] at hx
        obtain ⟨l, _, rfl⟩ := hx
        have hlt : l % zv.cells.size < zv.cells.size := Nat.mod_lt _ (by rw [hzs]; exact hT.pos)
        rw [getElem!_pos zv.cells _ hlt]
        simp
      obtain ⟨w', hr, hw'⟩ := run_storeCells (P := P) (E := E) (A := X) (B := Y) (F := F) (b := b) (T := e) (fz := fz) (Builtin.zeroCells zv.cells (h - v.len)).toList c (off + v.len * i.size) 0 w hpl (by simpa using hw) (by rw [hzlen]; omega) (by rw [hzlen]; intro j hj; omega)
      refine ⟨_, w', X ++ [(b, Obj.cells (wr c (off + v.len * i.size + 0) (Builtin.zeroCells zv.cells (h - v.len)).toList) e fz)] ++ Y, ?_, by simpa using hw', (), rfl, hk _ ⟨hlen, own.cap, .inr ⟨b, off, _, fz, ha, rfl, by rw [wr_size]; exact hsz, by rw [wr_size]; exact hfz, fun j u hu => ?_⟩⟩⟩
      · rw [haa, hsl]
        exact run_clear_some hT.und hi hzv hn hr
      · have hj := (List.getElem?_eq_some_iff.1 hu).1
        rw [wr_get _ _ _ _ (by rw [hzlen]; omega), if_neg (by omega)]
        exact hcell j u hu
theorem Ends.app {K : Value → HP} {v : Value} {J L : HList} (h : Ends K v L) : Ends K v (J ++ L) := by
  obtain ⟨A, J', hp, hK⟩ := h
  refine ⟨A, J' ++ J, ?_, hK⟩
  have h1 : (J ++ L).Perm (L ++ J) := List.perm_append_comm
  exact h1.trans (by simpa [List.append_assoc] using hp.append_right J)
theorem Ends.cons {K : Value → HP} {v : Value} {p : Nat × Obj} {L : HList} (h : Ends K v L) : Ends K v (p :: L) := Ends.app (J := [p]) h
/-- A store over a whole block. -/
theorem wr_all (c : Array Value) (vs : List Value) (h : vs.length = c.size) : wr c 0 vs = vs.toArray := by
  apply Array.ext_getElem?
  intro i
  rw [wr_get _ _ _ _ (by omega)]
  split
  · simp
  · rename_i hi
    rw [Array.getElem?_eq_none (by omega), List.getElem?_toArray, List.getElem?_eq_none (by omega)]
end
end Go.HL
set_option linter.unusedVariables false
set_option linter.unusedSimpArgs false
set_option linter.unusedSectionVars false
namespace Go.HL
section
variable {P : Program} {L : HList} {κ : Type} [DecidableEq κ]

/-- Keys of one kind. -/
structure KeyT (P : Program) (kt : TypeId) (kv : κ → Value) : Prop where
  und : ∃ d, P.underlying kt = some d ∧ ∀ a b, Instr.sameNow d (kv a) (kv b) = some (decide (a = b))
  chk : ∀ e k w, (Instr.checkKey e 10000 kt (kv k)).run P w = .ok () w
  bits : ∀ a, Instr.sameBits 10000 (kv a) (kv a) = true
theorem run_getO {w : World} {r : Nat} {es : Array MapEntry} {c : Nat} (h : w.heap[r]? = some (.map es c)) : (getObj r).run P w = .ok (.map es c) w := by simp [getObj, Sem.run, h]
theorem run_setO {w : World} {r : Nat} {es : Array MapEntry} {c : Nat} (o : Obj) (h : w.heap[r]? = some (.map es c)) : (setObj r o).run P w = .ok () { w with heap := w.heap.setIfInBounds r o } := by simp [setObj, Sem.run, h]
theorem ba_beq (a b : ByteArray) : (a == b) = decide (a = b) := by
  cases a with | mk x => cases b with | mk y =>
    show (x == y) = decide (ByteArray.mk x = ByteArray.mk y)
    by_cases h : x = y
    · subst h; simp
    · rw [beq_eq_false_iff_ne.2 h, decide_eq_false (by simpa using h)]
theorem chk_plain {kt : TypeId} {v : Value} (hu : P.underlying kt = some .string ∨ ∃ k, P.underlying kt = some (.int k)) (e : Bool) (n : Nat) (w : World) : (Instr.checkKey e (n + 1) kt v).run P w = .ok () w := by
  rcases hu with hu | ⟨k, hu⟩ <;> simp only [Instr.checkKey, Sem.run_bind, run_und hu, Result.andThen_ok, Sem.run_pure]
theorem keyStr {kt : TypeId} (hu : P.underlying kt = some .string) : KeyT P kt Value.string := by
  refine ⟨⟨_, hu, fun a b => ?_⟩, fun e k w => chk_plain (.inl hu) e 9999 w, fun a => ?_⟩
  · show some (a == b) = _
    rw [ba_beq]
  · show (a == a) = true
    rw [ba_beq]; simp
theorem keyInt {kt : TypeId} {ik : IntKind} (hu : P.underlying kt = some (.int ik)) : KeyT P kt (Value.int ik) := by
  refine ⟨⟨_, hu, fun a b => ?_⟩, fun e k w => chk_plain (.inr ⟨_, hu⟩) e 9999 w, fun a => ?_⟩
  · show (if ik = ik then some (a == b) else none) = _
    rw [if_pos rfl]
    congr 1
  · show (ik == ik && a == a) = true
    simp

/-- What a map's entries are. -/
def Mp (kv : κ → Value) (es : Array MapEntry) (m : List (κ × Value)) : Prop := es.toList.map (fun e => (e.key, e.val)) = m.map fun p => (kv p.1, p.2)
theorem Mp.size {kv : κ → Value} {es : Array MapEntry} {m : List (κ × Value)} (h : Mp kv es m) : es.size = m.length := by
  have := congrArg List.length h
  simpa using this
def mget (m : List (κ × Value)) (k : κ) : Option Value := (m.find? fun p => decide (k = p.1)).map Prod.snd
def midx (m : List (κ × Value)) (k : κ) (i : Nat) : Option (Nat × Value) :=
  match m with
  | [] => none
  | p :: r => if k = p.1 then some (i, p.2) else midx r k (i + 1)
theorem midx_get : ∀ (m : List (κ × Value)) (k : κ) (i : Nat), (midx m k i).map Prod.snd = mget m k
  | [], k, i => rfl
  | p :: r, k, i => by
    unfold midx mget
    by_cases h : k = p.1
    · rw [if_pos h, List.find?_cons_of_pos (by simpa using h)]; rfl
    · rw [if_neg h, List.find?_cons_of_neg (by simpa using h)]; exact midx_get r k (i + 1)
theorem findNow_midx {kv : κ → Value} {d : TypeDesc} (hs : ∀ a b, Instr.sameNow d (kv a) (kv b) = some (decide (a = b))) (k : κ) : ∀ (es : List MapEntry) (m : List (κ × Value)) (i : Nat), es.map (fun e => (e.key, e.val)) = m.map (fun p => (kv p.1, p.2)) →
    Instr.findNow d (kv k) es i = some (midx m k i)
  | [], [], i, _ => rfl
  | [], p :: r, i, h => by simp at h
  | e :: es, [], i, h => by simp at h
  | e :: es, p :: r, i, h => by
    simp only [List.map_cons, List.cons.injEq, Prod.mk.injEq] at h
    unfold Instr.findNow midx
    rw [h.1.1, hs, h.1.2]
    by_cases hk : k = p.1
    · simp [hk]
    · simp only [hk, decide_false, if_false]
      exact findNow_midx hs k es r (i + 1) h.2
theorem run_findKey {kt : TypeId} {kv : κ → Value} (K : KeyT P kt kv) {es : Array MapEntry} {m : List (κ × Value)} (h : Mp kv es m) (k : κ) (w : World) : (Instr.findKey kt (kv k) es.toList).run P w = .ok (midx m k 0) w := by
  obtain ⟨d, hu, hs⟩ := K.und
  simp only [Instr.findKey, Sem.run_bind, run_und hu, Result.andThen_ok, findNow_midx hs k es.toList m 0 h, Sem.run_pure]

/-- A map's type. -/
structure MapT (P : Program) (t kt et : TypeId) (kv : κ → Value) (z : Value) : Prop where
  und : P.underlying t = some (.map kt et)
  key : KeyT P kt kv
  zero : ∃ i, P.info? et = some i ∧ i.zero = some z
theorem mapT_of {t kt et : TypeId} {kv : κ → Value} {z : Value} (hu : P.underlying t = some (.map kt et)) (hk : KeyT P kt kv) (hz : ((P.info? et).bind fun i => i.zero) = some z) : MapT P t kt et kv z := by
  refine ⟨hu, hk, ?_⟩
  cases hi : P.info? et with
  | none => rw [hi] at hz; cases hz
  | some i => exact ⟨i, rfl, by rw [hi] at hz; exact hz⟩
theorem lookup_rd {t kt et : TypeId} {kv : κ → Value} {z : Value} (hT : MapT P t kt et kv z) {r : Nat} {es : Array MapEntry} {clock : Nat} {m : List (κ × Value)} (hm : (r, Obj.map es clock) ∈ L) (h : Mp kv es m) (k : κ) :
    RdV P (Instr.lookup t (.map (some r)) (kv k) false) ((mget m k).getD z) L := by
  intro E F w hw
  have hb : w.heap[r]? = some (Obj.map es clock) := hw.blk _ (List.mem_append_left F hm)
  obtain ⟨i, hi, hz⟩ := hT.zero
  rw [← midx_get m k 0]
  simp only [Instr.lookup, Sem.run_bind, run_und hT.und, Result.andThen_ok, run_getO hb, Sem.run_pure, hT.key.chk, run_findKey hT.key h]
  cases midx m k 0 with
  | none => simp [zeroValue, typeInfo, hi, hz]
  | some p => simp
theorem lookup2_rd {t kt et : TypeId} {kv : κ → Value} {z : Value} (hT : MapT P t kt et kv z) {r : Nat} {es : Array MapEntry} {clock : Nat} {m : List (κ × Value)} (hm : (r, Obj.map es clock) ∈ L) (h : Mp kv es m) (k : κ) :
    RdV P (Instr.lookup t (.map (some r)) (kv k) true) (.tuple #[(mget m k).getD z, .bool (mget m k).isSome]) L := by
  intro E F w hw
  have hb : w.heap[r]? = some (Obj.map es clock) := hw.blk _ (List.mem_append_left F hm)
  obtain ⟨i, hi, hz⟩ := hT.zero
  rw [← midx_get m k 0]
  simp only [Instr.lookup, Sem.run_bind, run_und hT.und, Result.andThen_ok, run_getO hb, Sem.run_pure, hT.key.chk, run_findKey hT.key h]
  cases midx m k 0 with
  | none => simp [zeroValue, typeInfo, hi, hz]
  | some p => simp
theorem mlen_rd {t ty kt et : TypeId} (hu : P.underlying t = some (.map kt et)) {r : Nat} {es : Array MapEntry} {clock : Nat} (hm : (r, Obj.map es clock) ∈ L) : RdV P (Builtin.len_ #[t] ty #[.map (some r)]) (.int .i64 es.size) L := by
  intro E F w hw
  have hb : w.heap[r]? = some (Obj.map es clock) := hw.blk _ (List.mem_append_left F hm)
  simp only [Builtin.len_, List.getElem?_toArray, List.getElem?_cons_zero, Sem.run_bind, run_und hu, Result.andThen_ok, run_getO hb, Sem.run_pure, goInt]

def mput (m : List (κ × Value)) (k : κ) (v : Value) : List (κ × Value) :=
  match m with
  | [] => [(k, v)]
  | p :: r => if k = p.1 then (k, v) :: r else p :: mput r k v
def mdel (m : List (κ × Value)) (k : κ) : List (κ × Value) :=
  match m with
  | [] => []
  | p :: r => if k = p.1 then r else p :: mdel r k
theorem put_entries {kv : κ → Value} (k : κ) (v : Value) : ∀ (es : List MapEntry) (m : List (κ × Value)) (j : Nat), es.map (fun e => (e.key, e.val)) = m.map (fun p => (kv p.1, p.2)) →
    (midx m k j = none → mput m k v = m ++ [(k, v)]) ∧ (∀ i u, midx m k j = some (i, u) → j ≤ i ∧ i - j < es.length ∧ (es[i - j]?).map (·.key) = some (kv k) ∧ (es.modify (i - j) fun e => { e with key := kv k, val := v }).map (fun e => (e.key, e.val)) = (mput m k v).map fun p => (kv p.1, p.2))
  | [], [], j, _ => ⟨fun _ => rfl, fun i u h => by simp [midx] at h⟩
  | [], p :: r, j, h => by simp at h
  | e :: es, [], j, h => by simp at h
  | e :: es, p :: r, j, h => by
    have h0 := h
    simp only [List.map_cons, List.cons.injEq, Prod.mk.injEq] at h
    obtain ⟨i1, i2⟩ := put_entries k v es r (j + 1) h.2
    unfold midx mput
    by_cases hk : k = p.1
    · rw [if_pos hk, if_pos hk]
      refine ⟨fun h => (by cases h), fun i u hi => ?_⟩
      simp only [Option.some.injEq, Prod.mk.injEq] at hi
      obtain ⟨rfl, rfl⟩ := hi
      refine ⟨Nat.le_refl _, by simp, by simp [h.1.1, hk], ?_⟩
      simp [h.2]
    · rw [if_neg hk, if_neg hk]
      refine ⟨fun h => by rw [i1 h]; rfl, fun i u hi => ?_⟩
      obtain ⟨a1, a2, a3, a4⟩ := i2 i u hi
      have e1 : i - j = (i - (j + 1)) + 1 := by omega
      rw [e1]
      refine ⟨by omega, by simp only [List.length_cons]; omega, by simpa using a3, ?_⟩
      simp only [List.modify_succ_cons, List.map_cons, h.1.1, h.1.2, a4]
theorem update_of {t kt et : TypeId} {kv : κ → Value} {z : Value} (hT : MapT P t kt et kv z) {r : Nat} {es : Array MapEntry} {clock : Nat} {m : List (κ × Value)} (A B : HList) (hL : L = A ++ (r, Obj.map es clock) :: B) (h : Mp kv es m) (k : κ) (v : Value) {K : HP}
    (hk : ∀ es' clock', Mp kv es' (mput m k v) → K (A ++ (r, Obj.map es' clock') :: B)) : smU P (Instr.mapUpdate t (.map (some r)) (kv k) v) K L := by
  subst hL
  intro E F w hw
  have hb : w.heap[r]? = some (Obj.map es clock) := hw.blk (r, Obj.map es clock) (by simp)
  have hw0 : Hold E w (A ++ (r, Obj.map es clock) :: (B ++ F)) := by simpa using hw
  obtain ⟨i1, i2⟩ := put_entries (kv := kv) k v es.toList m 0 h
  cases hf : midx m k 0 with
  | none =>
    refine ⟨{ w with heap := w.heap.setIfInBounds r (Obj.map (es.push { key := kv k, val := v, born := clock }) (clock + 1)) }, A ++ (r, Obj.map (es.push { key := kv k, val := v, born := clock }) (clock + 1)) :: B, ?_, ?_, hk _ _ ?_⟩
    · simp only [Instr.mapUpdate, Sem.run_bind, run_und hT.und, Result.andThen_ok, run_getO hb, hT.key.chk, run_findKey hT.key h, hf]
      exact run_setO _ hb
    · simpa using hw0.put (Obj.map (es.push { key := kv k, val := v, born := clock }) (clock + 1))
    · unfold Mp at h ⊢
      rw [i1 hf, Array.toList_push, List.map_append, List.map_append, h]
      rfl
  | some p =>
    obtain ⟨i, u⟩ := p
    obtain ⟨a1, a2, a3, a4⟩ := i2 i u hf
    rw [Nat.sub_zero] at a2 a3 a4
    have hkey : ((es[i]?).map (·.key)).getD (kv k) = kv k := by
      rw [Array.getElem?_toList] at a3
      rw [a3]; rfl
    refine ⟨{ w with heap := w.heap.setIfInBounds r (Obj.map (es.modify i fun e => { e with key := kv k, val := v }) clock) }, A ++ (r, Obj.map (es.modify i fun e => { e with key := kv k, val := v }) clock) :: B, ?_, ?_, hk _ _ ?_⟩
    · simp only [Instr.mapUpdate, Sem.run_bind, run_und hT.und, Result.andThen_ok, run_getO hb, hT.key.chk, run_findKey hT.key h, hf, hkey, Instr.keyThatStays, hT.key.bits, if_true, Sem.run_pure]
      exact run_setO _ hb
    · simpa using hw0.put (Obj.map (es.modify i fun e => { e with key := kv k, val := v }) clock)
    · unfold Mp
      rw [Array.toList_modify]
      exact a4
theorem del_entries {kv : κ → Value} (k : κ) : ∀ (es : List MapEntry) (m : List (κ × Value)) (j : Nat), es.map (fun e => (e.key, e.val)) = m.map (fun p => (kv p.1, p.2)) →
    (midx m k j = none → mdel m k = m) ∧ (∀ i u, midx m k j = some (i, u) → j ≤ i ∧ (es.eraseIdx (i - j)).map (fun e => (e.key, e.val)) = (mdel m k).map fun p => (kv p.1, p.2))
  | [], [], j, _ => ⟨fun _ => rfl, fun i u h => by simp [midx] at h⟩
  | [], p :: r, j, h => by simp at h
  | e :: es, [], j, h => by simp at h
  | e :: es, p :: r, j, h => by
    simp only [List.map_cons, List.cons.injEq, Prod.mk.injEq] at h
    obtain ⟨i1, i2⟩ := del_entries k es r (j + 1) h.2
    unfold midx mdel
    by_cases hk : k = p.1
    · rw [if_pos hk, if_pos hk]
      refine ⟨fun h => (by cases h), fun i u hi => ?_⟩
      simp only [Option.some.injEq, Prod.mk.injEq] at hi
      obtain ⟨rfl, rfl⟩ := hi
      exact ⟨Nat.le_refl _, by simpa using h.2⟩
    · rw [if_neg hk, if_neg hk]
      refine ⟨fun h => by rw [i1 h], fun i u hi => ?_⟩
      obtain ⟨a1, a4⟩ := i2 i u hi
      have e1 : i - j = (i - (j + 1)) + 1 := by omega
      rw [e1]
      refine ⟨by omega, ?_⟩
      simp only [List.eraseIdx_cons_succ, List.map_cons, h.1.1, h.1.2, a4]
theorem delete_of {t t2 ty kt et : TypeId} {kv : κ → Value} {z : Value} (hT : MapT P t kt et kv z) {r : Nat} {es : Array MapEntry} {clock : Nat} {m : List (κ × Value)} (A B : HList) (hL : L = A ++ (r, Obj.map es clock) :: B) (h : Mp kv es m) (k : κ) {K : RsV [] → HP}
    (hk : ∀ es' clock', Mp kv es' (mdel m k) → K () (A ++ (r, Obj.map es' clock') :: B)) : smW P (Builtin.delete_ #[t, t2] ty #[.map (some r), kv k]) [] K L := by
  subst hL
  intro E F w hw
  have hb : w.heap[r]? = some (Obj.map es clock) := hw.blk (r, Obj.map es clock) (by simp)
  have hw0 : Hold E w (A ++ (r, Obj.map es clock) :: (B ++ F)) := by simpa using hw
  obtain ⟨i1, i2⟩ := del_entries (kv := kv) k es.toList m 0 h
  have key : ∀ (o : Obj), (match midx m k 0 with | some (i, _) => setObj r (.map (es.eraseIdxIfInBounds i) clock) | none => setObj r (.map es clock)).run P w = .ok () { w with heap := w.heap.setIfInBounds r o } →
      (Builtin.delete_ #[t, t2] ty #[.map (some r), kv k]).run P w = .ok (.tuple #[]) { w with heap := w.heap.setIfInBounds r o } := by
    intro o ho
    simp only [Builtin.delete_, List.getElem?_toArray, List.getElem?_cons_zero, List.getElem?_cons_succ, Sem.run_bind, run_und hT.und, Result.andThen_ok, run_getO hb, hT.key.chk, run_findKey hT.key h]
    cases hf : midx m k 0 with
    | none =>
      rw [hf] at ho
      simp only [Sem.run_bind]
      rw [ho]
      rfl
    | some p =>
      rw [hf] at ho
      simp only [Sem.run_bind]
      rw [ho]
      rfl
  cases hf : midx m k 0 with
  | none =>
    refine ⟨_, _, A ++ (r, Obj.map es clock) :: B, key (.map es clock) (by rw [hf]; exact run_setO _ hb), ?_, (), rfl, hk _ _ ?_⟩
    · simpa using hw0.put (Obj.map es clock)
    · rw [i1 hf]; exact h
  | some p =>
    obtain ⟨i, u⟩ := p
    obtain ⟨a1, a4⟩ := i2 i u hf
    rw [Nat.sub_zero] at a4
    refine ⟨_, _, A ++ (r, Obj.map (es.eraseIdxIfInBounds i) clock) :: B, key (.map (es.eraseIdxIfInBounds i) clock) (by rw [hf]; exact run_setO _ hb), ?_, (), rfl, hk _ _ ?_⟩
    · simpa using hw0.put (Obj.map (es.eraseIdxIfInBounds i) clock)
    · unfold Mp
      have e : (es.eraseIdxIfInBounds i).toList = es.toList.eraseIdx i := by
        unfold Array.eraseIdxIfInBounds
        split
        · simp
        · rename_i hge
          rw [List.eraseIdx_of_length_le (by simpa using hge)]
      rw [e]; exact a4
/-- A call, with what it leaves in an order of one's own. -/
theorem cl_pm {f : FuncId} {args : Array Value} {rs : List Sh} {k : RsV rs → HP} {K : Value → HP} {A R : HList} (h : CallF P f args A K) (hp : L.Perm (A ++ R))
    (hk : ∀ v A', K v A' → ∃ L'', (A' ++ R).Perm L'' ∧ ∃ r, v = rsVal rs r ∧ k r L'') : cl P f args rs k L := by
  intro E F w hw
  refine Calls.mono (CallF.frame (R := R) h E F w (hw.perm (hp.append_right F))) ?_
  rintro e w' ⟨v, L', he, hw', A', rfl, hK⟩
  obtain ⟨L'', hp2, hk2⟩ := hk v A' hK
  exact ⟨v, L'', he, hw'.perm (hp2.append_right F), hk2⟩
theorem cl_rpm {f : FuncId} {args : Array Value} {rs : List Sh} {k : RsV rs → HP} {A R : HList} {v : Value} (h : Reads P f args A v) (hp : L.Perm (A ++ R)) (r : RsV rs) (hr : v = rsVal rs r) (hk : k r L) : cl P f args rs k L :=
  cl_pm h hp (by rintro _ _ ⟨rfl, rfl⟩; exact ⟨L, hp.symm, r, hr, hk⟩)
end
/-! ### pieces of a slice's elements -/
theorem flat_drop {α : Type} {enc : α → List Value} {sz : Nat} (hsz : ∀ x, (enc x).length = sz) : ∀ (l : List α) (i : Nat), (l.flatMap enc).drop (i * sz) = (l.drop i).flatMap enc
  | [], i => by simp
  | e :: r, 0 => by simp
  | e :: r, i + 1 => by
    rw [List.flatMap_cons, Nat.succ_mul, Nat.add_comm, ← List.drop_drop, List.drop_left' (hsz e), flat_drop hsz r i]
    rfl
theorem flat_take {α : Type} {enc : α → List Value} {sz : Nat} (hsz : ∀ x, (enc x).length = sz) : ∀ (l : List α) (i : Nat), (l.flatMap enc).take (i * sz) = (l.take i).flatMap enc
  | [], i => by simp
  | e :: r, 0 => by simp
  | e :: r, i + 1 => by
    have h1 : (enc e).take ((i + 1) * sz) = enc e := List.take_of_length_le (by rw [hsz, Nat.succ_mul]; omega)
    have h2 : (i + 1) * sz - (enc e).length = i * sz := by rw [hsz, Nat.succ_mul]; omega
    rw [List.flatMap_cons, List.take_append, h1, h2, flat_take hsz r i]
    rfl
theorem flat_slc {α : Type} {enc : α → List Value} {sz : Nat} (hsz : ∀ x, (enc x).length = sz) (l : List α) (i j : Nat) : ((l.flatMap enc).drop (i * sz)).take ((j - i) * sz) = ((l.drop i).take (j - i)).flatMap enc := by
  rw [flat_drop hsz, flat_take hsz]
/-! ### texts -/
theorem ba_loop (b : ByteArray) : ∀ (n i : Nat) (r : List UInt8), b.size - i = n → ByteArray.toList.loop b i r = r.reverse ++ b.data.toList.drop i := by
  intro n
  induction n with
  | zero =>
    intro i r h
    unfold ByteArray.toList.loop
    rw [if_neg (by omega), List.drop_of_length_le (by rw [Array.length_toList]; show b.size ≤ i; omega)]
    simp
  | succ n ih =>
    intro i r h
    unfold ByteArray.toList.loop
    have hi : i < b.size := by omega
    rw [if_pos hi, ih (i + 1) _ (by omega)]
    have hi2 : i < b.data.toList.length := by rw [Array.length_toList]; exact hi
    rw [List.drop_eq_getElem_cons hi2]
    simp [ByteArray.get!, hi]
theorem ba_toList (b : ByteArray) : b.toList = b.data.toList := by
  unfold ByteArray.toList
  rw [ba_loop b _ 0 [] rfl]; simp
theorem str_beq (a b : ByteArray) : (a.toList == b.toList) = decide (a = b) := by
  rw [ba_toList, ba_toList]
  by_cases h : a = b
  · subst h; simp
  · rw [decide_eq_false h, beq_eq_false_iff_ne]
    intro he
    apply h
    cases a with | mk x => cases b with | mk y =>
      have : x = y := Array.toList_inj.1 he
      rw [this]
end Go.HL
set_option linter.unusedVariables false
set_option linter.unusedSimpArgs false
namespace Go.HL
section
variable {P : Program} {L : HList}

/-- What '==' says of two values of a type, by their cells. -/
def eqAt (P : Program) : Nat → TypeId → List Value → List Value → Option Bool
  | 0, _, _, _ => none
  | d + 1, t, xs, ys =>
    match P.underlying t with
    | some .bool => match xs, ys with | [.bool a], [.bool b] => some (a == b) | _, _ => none
    | some (.int _) => match xs, ys with | [.int k a], [.int k' b] => if k = k' then some (a == b) else none | _, _ => none
    | some .string => match xs, ys with | [.string a], [.string b] => some (a.toList == b.toList) | _, _ => none
    | some (.struct fs) =>
      if P.stoodInHeld t = false then
        fs.toList.foldr (fun f acc => if f.name = "_" then none else acc.bind fun r => (eqAt P d f.type ((xs.drop f.offset).take (P.cellsOf f.type)) ((ys.drop f.offset).take (P.cellsOf f.type))).map (· && r)) (some true)
      else none
    | _ => none
def RepC (P : Program) (t : TypeId) (x : Value) (xs : List Value) : Prop :=
  match P.underlying t with
  | some (.struct _) => x = .agg xs.toArray
  | _ => xs = [x]
theorem take_one {xs : List Value} {off s : Nat} {v : Value} (h : (xs.drop off).take s = [v]) : xs.toArray[off]? = some v := by
  have h0 : ((xs.drop off).take s)[0]? = some v := by rw [h]; rfl
  rw [List.getElem?_take] at h0
  split at h0
  · rw [List.getElem?_drop] at h0
    simpa using h0
  · cases h0
theorem run_part_eq {t : TypeId} {n : Nat} {xs ys : List Value} {off : Nat} {r : Bool} (h : eqAt P n t ((xs.drop off).take (P.cellsOf t)) ((ys.drop off).take (P.cellsOf t)) = some r) (w : World) :
    ∃ a b, (part t xs.toArray off).run P w = .ok a w ∧ (part t ys.toArray off).run P w = .ok b w ∧ RepC P t a ((xs.drop off).take (P.cellsOf t)) ∧ RepC P t b ((ys.drop off).take (P.cellsOf t)) := by
  cases n with
  | zero => simp [eqAt] at h
  | succ n =>
    unfold eqAt at h
    have plainP : ∀ {d : TypeDesc}, P.underlying t = some d → (match d with | .struct _ | .array _ _ => true | _ => false) = false → ∀ {a b : Value}, (xs.drop off).take (P.cellsOf t) = [a] → (ys.drop off).take (P.cellsOf t) = [b] →
        ∃ a b, (part t xs.toArray off).run P w = .ok a w ∧ (part t ys.toArray off).run P w = .ok b w ∧ RepC P t a ((xs.drop off).take (P.cellsOf t)) ∧ RepC P t b ((ys.drop off).take (P.cellsOf t)) := by
      intro d hu hd a b ha hb
      have hr : ∀ {v : Value} {l : List Value}, l = [v] → RepC P t v l := by
        intro v l hl
        unfold RepC
        rw [hu]
        cases d <;> simp_all
      have hp : ∀ {zs : List Value} {v : Value}, (zs.drop off).take (P.cellsOf t) = [v] → (part t zs.toArray off).run P w = .ok v w := by
        intro zs v hv
        have hg : (isAgg t).run P w = .ok false w := by
          unfold isAgg
          rw [Sem.run_bind, run_underlying hu]
          cases d <;> simp_all
        unfold part
        rw [Sem.run_bind, hg]
        simp only [Result.andThen_ok, Bool.false_eq_true, if_false, take_one hv, Sem.run_pure]
      exact ⟨a, b, hp ha, hp hb, hr ha, hr hb⟩
    cases hu : P.underlying t with
    | none => rw [hu] at h; simp at h
    | some d =>
      rw [hu] at h
      cases d with
      | bool =>
        simp only at h
        split at h
        · exact plainP hu rfl (by assumption) (by assumption)
        · cases h
      | int k =>
        simp only at h
        split at h
        · exact plainP hu rfl (by assumption) (by assumption)
        · cases h
      | string =>
        simp only at h
        split at h
        · exact plainP hu rfl (by assumption) (by assumption)
        · cases h
      | struct fs =>
        obtain ⟨i, hi⟩ : ∃ i, P.info? t = some i := by
          cases hi : P.info? t with
          | none => unfold Program.underlying at hu; simp [hi] at hu
          | some i => exact ⟨i, rfl⟩
        have hp : ∀ zs : List Value, (part t zs.toArray off).run P w = .ok (.agg ((zs.drop off).take (P.cellsOf t)).toArray) w := by
          intro zs
          have hg : (isAgg t).run P w = .ok true w := by
            unfold isAgg
            rw [Sem.run_bind, run_underlying hu]
            simp
          unfold part
          rw [Sem.run_bind, hg]
          simp only [Result.andThen_ok, if_true, Sem.run_bind, run_sizeOf w hi, Sem.run_pure]
          rw [List.extract_toArray, List.extract_eq_take_drop, Nat.add_sub_cancel_left]
        refine ⟨_, _, hp xs, hp ys, ?_, ?_⟩ <;> (unfold RepC; rw [hu])
      | _ => simp at h
theorem run_eqAt (d : Nat) : ∀ (n : Nat) (t : TypeId) (xs ys : List Value) (r : Bool), eqAt P n t xs ys = some r → ∀ (x y : Value), RepC P t x xs → RepC P t y ys → ∀ w, (Op.equalIn (d + n) t x y).run P w = .ok r w
  | 0, _, _, _, _, h, _, _, _, _, _ => by simp [eqAt] at h
  | n + 1, t, xs, ys, r, h, x, y, hx, hy, w => by
    unfold eqAt at h
    unfold RepC at hx hy
    cases hu : P.underlying t with
    | none => rw [hu] at h; simp at h
    | some q =>
      rw [hu] at h hx hy
      cases q with
      | bool =>
        simp only at h hx hy
        subst hx hy
        split at h
        · rename_i a b e1 e2
          cases e1; cases e2
          cases h
          exact run_equalIn_bool' w (d + n) t a b hu
        · cases h
      | int k =>
        simp only at h hx hy
        subst hx hy
        split at h
        · rename_i k a k' b e1 e2
          cases e1; cases e2
          split at h
          · rename_i hk
            subst hk
            cases h
            exact run_equalIn_int w (d + n) t k _ a b hu
          · cases h
        · cases h
      | string =>
        simp only at h hx hy
        subst hx hy
        split at h
        · rename_i a b e1 e2
          cases e1; cases e2
          cases h
          exact run_equalIn_string w (d + n) t a b hu
        · cases h
      | struct fs =>
        simp only at h hx hy
        subst hx hy
        split at h
        · rename_i hst
          have hf : P.underlying t = some (.struct (P.fieldsOf t)) := by unfold Program.fieldsOf; rw [hu]
          have hfs : P.fieldsOf t = fs := by unfold Program.fieldsOf; rw [hu]
          show (Op.equalIn ((d + n) + 1) t (.agg xs.toArray) (.agg ys.toArray)).run P w = .ok r w
          rw [run_equalIn_agg w (d + n) t _ _ hf hst, hfs]
          revert h
          generalize fs.toList = l
          clear hu hf hfs hst
          induction l generalizing r with
          | nil => intro h; cases h; simp [Op.eqFields]
          | cons f l ih =>
            intro h
            rw [List.foldr_cons] at h
            split at h
            · cases h
            · rename_i hn
              rw [Option.bind_eq_some_iff] at h
              obtain ⟨r', h1, h2⟩ := h
              rw [Option.map_eq_some_iff] at h2
              obtain ⟨q, h3, rfl⟩ := h2
              obtain ⟨a, b, p1, p2, ra, rb⟩ := run_part_eq h3 w
              have h4 := run_eqAt d n f.type _ _ q h3 a b ra rb w
              have h5 := ih r' h1
              unfold Op.eqFields
              simp only [hn, ne_eq, not_false_eq_true, if_true, Sem.run_bind, p1, p2, h4, Result.andThen_ok]
              cases q
              · simp
              · simpa using h5
        · cases h
      | _ => simp at h
def isStr (P : Program) (t : TypeId) : Bool := match P.underlying t with | some (.struct _) => true | _ => false
theorem isStr_rep {t : TypeId} (h : isStr P t = true) (xs : Array Value) : RepC P t (.agg xs) xs.toList := by
  unfold isStr at h
  unfold RepC
  split at h
  · simp
  · cases h
theorem eqS_of {t : TypeId} {xs ys : Array Value} {r : Bool} (hu : isStr P t = true) (h : eqAt P 100 t xs.toList ys.toList = some r) {k : ShV (.lf .bool) → HP} (hk : k r L) :
    smP P (binOp .eql t (.agg xs) (.agg ys)) (.lf .bool) k L := by
  refine ⟨r, fun w => ?_, hk⟩
  rw [run_eql_struct, run_eqAt 9900 100 t _ _ r h (.agg xs) (.agg ys) (isStr_rep hu xs) (isStr_rep hu ys) w]
  rfl
theorem neS_of {t : TypeId} {xs ys : Array Value} {r : Bool} (hu : isStr P t = true) (h : eqAt P 100 t xs.toList ys.toList = some r) {k : ShV (.lf .bool) → HP} (hk : k (!r) L) :
    smP P (binOp .neq t (.agg xs) (.agg ys)) (.lf .bool) k L := by
  refine ⟨!r, fun w => ?_, hk⟩
  rw [run_neq_struct, run_eqAt 9900 100 t _ _ r h (.agg xs) (.agg ys) (isStr_rep hu xs) (isStr_rep hu ys) w]
  rfl
/-- A function value that is called. -/
theorem clv_of {f : FuncId} {args captured : Array Value} {rs : List Sh} {k : RsV rs → HP} (ho : calleeOk P f = true) (h : cl P f (args ++ captured) rs k L) : clv P (.func f) args captured rs k L := ⟨f, rfl, ho, h⟩
end
end Go.HL
set_option linter.unusedVariables false
set_option linter.unusedSimpArgs false
namespace Go.HL
section
variable {P : Program} {L : HList}
/-- 'copy' into a part of a slice of one's own. -/
theorem copy_own {t t2 ty e T : TypeId} {sz : Nat} (hu : P.underlying t = some (.slice e)) (hs : sizeOfT P e = some sz) {v : SlV} {vs : List Value} {seg : HList} (X Y : HList) (own : Own v sz T vs seg) (hL : L = X ++ seg ++ Y)
    {d : SlV} {l : Nat} {a : Addr} (ha : v.a = some a) (hd : d.a = some (Addr.add a (l * sz))) (hdl : l + d.len ≤ v.len) {u : SlV} {ws : List Value} (src : Sl L u sz ws) (hpl : ws.all plainV = true) {k : RsV [.lf (.int .i64)] → HP}
    (hk : ∀ seg', Own v sz T (putL vs (l * sz) (ws.take (min u.len d.len * sz))) seg' → k (((min u.len d.len : Nat) : Int), ()) (X ++ seg' ++ Y)) :
    smW P (Builtin.copy_ #[t, t2] ty #[.slice d.a d.len d.cap, .slice u.a u.len u.cap]) [.lf (.int .i64)] k L := by
  subst hL
  rcases own.row with ⟨ha', _, _⟩ | ⟨b, off, c, fz, ha', rfl, hsz, hfz, hc⟩
  · rw [ha] at ha'; cases ha'
  · rw [ha] at ha'
    obtain rfl := Option.some.inj ha'
    have hlen := own.len
    have hcap := own.cap
    have h1 := Nat.mul_le_mul_right sz (show l + d.len ≤ v.cap by omega)
    have h2 := Nat.mul_le_mul_right sz hdl
    rw [Nat.add_mul] at h1 h2
    have hle : min u.len d.len * sz ≤ d.len * sz := Nat.mul_le_mul_right _ (Nat.min_le_right _ _)
    have hlt : (ws.take (min u.len d.len * sz)).length ≤ min u.len d.len * sz := List.length_take_le _ _
    have hp : l * sz + (ws.take (min u.len d.len * sz)).length ≤ vs.length := by omega
    have hL2 : X ++ [(b, Obj.cells c T fz)] ++ Y = X ++ (b, Obj.cells c T fz) :: Y := by simp
    rw [hL2] at src ⊢
    refine copy_of (off := off + l * sz) hu hs (by rw [hd]; exact congrArg some (addr_add (ad := ⟨b, off, none⟩) rfl (l * sz))) src hpl (by omega) hfz ?_
    have := hk [(b, Obj.cells (wr c (off + l * sz) (ws.take (min u.len d.len * sz))) T fz)] ⟨by rw [putL_len _ _ _ hp]; exact hlen, hcap, .inr ⟨b, off, _, fz, ha, rfl, by rw [wr_size]; exact hsz, by rw [wr_size]; exact hfz, fun i x hx => ?_⟩⟩
    · simpa using this
    · rw [putL_get _ _ _ hp] at hx
      rw [wr_get _ _ _ _ (by omega)]
      split at hx
      · rw [if_pos (by omega), show off + i - (off + l * sz) = i - l * sz by omega]; exact hx
      · rw [if_neg (by omega)]; exact hc i x hx
theorem bvs_put (l : List UInt8) (p : Nat) (ws : List UInt8) : putL (bvs l) p (bvs ws) = bvs (l.take p ++ ws ++ l.drop (p + ws.length)) := by
  simp [putL, bvs, List.map_append, List.map_take, List.map_drop]
theorem bvs_take (l : List UInt8) (n : Nat) : (bvs l).take n = bvs (l.take n) := by simp [bvs, List.map_take]
theorem bvs_drop (l : List UInt8) (n : Nat) : (bvs l).drop n = bvs (l.drop n) := by simp [bvs, List.map_drop]
theorem zeros_bvs (n : Nat) : zeros [.int .u8 0] n = bvs (List.replicate n 0) := by
  induction n with
  | zero => rfl
  | succ n ih => rw [List.replicate_succ]; simp only [zeros] at ih ⊢; rw [List.replicate_succ, List.flatten_cons, ih]; rfl
end
end Go.HL
set_option linter.unusedVariables false
set_option maxRecDepth 100000
namespace Go.Proofs.Ytlabcgnegbdlfaa
open Go.HL
noncomputable abbrev PP : Program := Try.prog
theorem noNum : NoNum PP := by unfold NoNum; kernel_rfl
theorem mixed : PP.follows .mixedOrders = true := by kernel_rfl

/-- depot/depotlaw25.RegionScans -/
def h3 : Hints := ⟨[], [], [(5, [0, 2, 1, 3, 4, 5, 6, 8, 7, 9, 10, 11, 12, 13, 15, 14, 16, 17, 18, 19, 20, 21, 22, 23, 24, 25, 28, 26, 29, 27, 30, 31, 32, 33, 34, 35, 36])]⟩
def t3 (x0 : SlV) (x1 : ShV (.agg [.int .i64, .int .i64, .int .i64])) (K : Value → HP) : HP :=
  nw (.cells #[.int .i64 x1.1, .int .i64 x1.2.1, .int .i64 x1.2.2.1] 24) fun n1 =>
  cl PP 8 #[.slice x0.a x0.len x0.cap, .int .i64 20, .int .i64 600] [.lf .bool] fun r1 =>
  ifB (!r1.1) (
   cl PP 9 #[] [.lf .bool] fun r2 =>
   K (.bool r2.1)) (
   cl PP 10 #[.slice x0.a x0.len x0.cap] [.agg [.int .i64, .bool, .sl], .lf .bool] fun r3 =>
   nw (.cells #[.int .i64 0, .bool false, .slice none 0 0] 29) fun n2 =>
   st ⟨n2, 0, none⟩ [.int .i64 r3.1.1, .bool r3.1.2.1, .slice r3.1.2.2.1.a r3.1.2.2.1.len r3.1.2.2.1.cap] <|
   cl PP 11 #[.slice x0.a x0.len x0.cap] [.agg [.int .i64, .bool, .sl], .lf .bool] fun r4 =>
   nw (.cells #[.int .i64 0, .bool false, .slice none 0 0] 32) fun n3 =>
   st ⟨n3, 0, none⟩ [.int .i64 r4.1.1, .bool r4.1.2.1, .slice r4.1.2.2.1.a r4.1.2.2.1.len r4.1.2.2.1.cap] <|
   ld ⟨n2, 0, none⟩ (.lf (.int .i64)) fun v1 =>
   ld ⟨n3, 0, none⟩ (.lf (.int .i64)) fun v2 =>
   ifB ((v1 : Int) == v2) (
    ld (Addr.add ⟨n2, 0, none⟩ 1) (.lf .bool) fun v3 =>
    ld (Addr.add ⟨n3, 0, none⟩ 1) (.lf .bool) fun v4 =>
    ifB (v3 == v4) (
     ld (Addr.add ⟨n2, 0, none⟩ 2) (.lf .sl) fun v5 =>
     ld (Addr.add ⟨n3, 0, none⟩ 2) (.lf .sl) fun v6 =>
     cl PP 12 #[.slice v5.a v5.len v5.cap, .slice v6.a v6.len v6.cap] [.lf .bool] fun r5 =>
     ifB r5.1 (
      ifB (r3.2.1 == r4.2.1) (
       ld ⟨n1, 0, none⟩ (.agg [.int .i64, .int .i64, .int .i64]) fun v7 =>
       ld ⟨n1, 0, none⟩ (.agg [.int .i64, .int .i64, .int .i64]) fun v8 =>
       cl PP 14 #[.slice x0.a x0.len x0.cap, .agg #[.int .i64 v7.1, .int .i64 v7.2.1, .int .i64 v7.2.2.1]] [.lf .sl] fun r6 =>
       keep (LdAt ⟨n1, 0, none⟩ [.int .i64 v8.1, .int .i64 v8.2.1, .int .i64 v8.2.2.1]) <|
       cl PP 15 #[.slice x0.a x0.len x0.cap, .agg #[.int .i64 v8.1, .int .i64 v8.2.1, .int .i64 v8.2.2.1]] [.lf .sl] fun r7 =>
       cl PP 13 #[.slice r6.1.a r6.1.len r6.1.cap, .slice r7.1.a r7.1.len r7.1.cap] [.lf .bool] fun r8 =>
       ifB r8.1 (
        cl PP 9 #[] [.lf .bool] fun r9 =>
        K (.bool r9.1)) (
        K (.bool false))) (
       K (.bool false))) (
      K (.bool false))) (
     K (.bool false))) (
    K (.bool false)))
theorem e3 (x0 : SlV) (x1 : ShV (.agg [.int .i64, .int .i64, .int .i64])) (K : Value → HP) : flatFn PP h3 Try.f3 [.slice x0.a x0.len x0.cap, .agg #[.int .i64 x1.1, .int .i64 x1.2.1, .int .i64 x1.2.2.1]] K = t3 x0 x1 K := by kernel_rfl

/-- depot/depotlaw25.RegionKills -/
def h4 : Hints := ⟨[], [(11, [])], []⟩
def t4 (x0 : SlV) (x1 : SlV) (K : Value → HP) : HP :=
  ifB (decide ((x0.len : Int) > 200)) (
   cl PP 9 #[] [.lf .bool] fun r1 =>
   K (.bool r1.1)) (
   ifB (decide ((x1.len : Int) > 1000)) (
    cl PP 9 #[] [.lf .bool] fun r2 =>
    K (.bool r2.1)) (
    cl PP 16 #[.slice x0.a x0.len x0.cap] [.lf .sl, .lf (.int .i64)] fun r3 =>
    cl PP 17 #[.slice x0.a x0.len x0.cap] [.lf .sl, .lf (.int .i64)] fun r4 =>
    cl PP 18 #[.slice x1.a x1.len x1.cap] [.lf .sl, .lf (.int .i64)] fun r5 =>
    cl PP 19 #[.slice x1.a x1.len x1.cap] [.lf .sl, .lf (.int .i64)] fun r6 =>
    jn (fun y1 : RsV [] =>
     cl PP 21 #[.slice r3.1.a r3.1.len r3.1.cap, .slice r4.1.a r4.1.len r4.1.cap] [.lf .bool] fun r9 =>
     ifB r9.1 (
      ifB ((r3.2.1 : Int) == r4.2.1) (
       cl PP 20 #[.slice r5.1.a r5.1.len r5.1.cap, .slice r6.1.a r6.1.len r6.1.cap] [.lf .bool] fun r10 =>
       ifB r10.1 (
        ifB ((r5.2.1 : Int) == r6.2.1) (
         cl PP 9 #[] [.lf .bool] fun r11 =>
         K (.bool r11.1)) (
         K (.bool false))) (
        K (.bool false))) (
       K (.bool false))) (
      K (.bool false))) fun j1 =>
    ifB ((r3.2.1 : Int) == 0) (
      cl PP 18 #[.slice r3.1.a r3.1.len r3.1.cap] [.lf .sl, .lf (.int .i64)] fun r7 =>
      ifB ((r7.2.1 : Int) != 0) (
       K (.bool false)) (
       cl PP 20 #[.slice r7.1.a r7.1.len r7.1.cap, .slice x0.a x0.len x0.cap] [.lf .bool] fun r8 =>
       ifB (!r8.1) (
        K (.bool false)) (
        j1 (())))) (
      j1 (()))))
theorem e4 (x0 : SlV) (x1 : SlV) (K : Value → HP) : flatFn PP h4 Try.f4 [.slice x0.a x0.len x0.cap, .slice x1.a x1.len x1.cap] K = t4 x0 x1 K := by kernel_rfl

/-- depot/depotlaw32.PlainDoes -/
def h5 : Hints := ⟨[(0, [(5, .lf (.int .i64))])], [(22, [(7, .lf .bool), (8, .lf .bool)])], [(21, [0, 1, 3, 5, 8, 9, 11, 13, 2, 4, 6, 10, 12, 14, 7, 15, 16, 17]), (10, [0, 1, 3, 5, 8, 9, 11, 13, 2, 4, 6, 10, 12, 14, 7, 15, 16, 17])]⟩
def t5 (x0 : SlV) (K : Value → HP) : HP :=
  cl PP 22 #[.slice x0.a x0.len x0.cap, .int .i64 300, .int .i64 300] [.lf .bool] fun r1 =>
  ifB (!r1.1) (
   cl PP 23 #[] [.lf .bool] fun r2 =>
   K (.bool r2.1)) (
   cl PP 24 #[] [.lf .ptr] fun r3 =>
   nw (.cells #[.slice none 0 0] 60) fun n1 =>
   lp [.lf (.int .i64)] (0, ()) fun z1 go1 =>   -- i
    ifB (decide ((z1.1 : Int) < x0.len)) (
     nilc x0.a fun a1 =>
     ixn z1.1 x0.len <|
     ld (Addr.add a1 (z1.1.toNat * 4)) (.agg [.int .i64, .str, .str, .bool]) fun v1 =>
     nw (.cells #[.int .i64 0, .string ByteArray.empty, .string ByteArray.empty, .bool false] 62) fun n2 =>
     st ⟨n2, 0, none⟩ [.int .i64 v1.1, .string v1.2.1, .string v1.2.2.1, .bool v1.2.2.2.1] <|
     jn (fun y1 : RsV [.lf .bool, .lf .bool] =>
      ifB (!(y1.1 == y1.2.1)) (
       K (.bool false)) (
       cl PP 36 #[.pointer r3.1] [.lf .sl] fun r14 =>
       cl PP 37 #[.pointer (some ⟨n1, 0, none⟩)] [.lf .sl] fun r15 =>
       cl PP 35 #[.slice r14.1.a r14.1.len r14.1.cap, .slice r15.1.a r15.1.len r15.1.cap] [.lf .bool] fun r16 =>
       ifB (!r16.1) (
        K (.bool false)) (
        go1 (IntKind.i64.wrap (z1.1 + 1), ())))) fun j1 =>
     ld ⟨n2, 0, none⟩ (.lf (.int .i64)) fun v2 =>
      ifB ((v2 : Int) == 0) (
       ld (Addr.add ⟨n2, 0, none⟩ 1) (.lf .str) fun v3 =>
       ld (Addr.add ⟨n2, 0, none⟩ 2) (.lf .str) fun v4 =>
       cl PP 25 #[.pointer r3.1, .string v3, .string v4] [] fun r4 =>
       ld (Addr.add ⟨n2, 0, none⟩ 1) (.lf .str) fun v5 =>
       ld (Addr.add ⟨n2, 0, none⟩ 2) (.lf .str) fun v6 =>
       cl PP 26 #[.pointer (some ⟨n1, 0, none⟩), .string v5, .string v6] [] fun r5 =>
       j1 (true, true, ())) (
       ifB ((v2 : Int) == 1) (
        ld (Addr.add ⟨n2, 0, none⟩ 1) (.lf .str) fun v7 =>
        cl PP 27 #[.pointer r3.1, .string v7] [] fun r6 =>
        ld (Addr.add ⟨n2, 0, none⟩ 1) (.lf .str) fun v8 =>
        cl PP 28 #[.pointer (some ⟨n1, 0, none⟩), .string v8] [] fun r7 =>
        j1 (true, true, ())) (
        ifB ((v2 : Int) == 2) (
         cl PP 29 #[.pointer r3.1] [] fun r8 =>
         cl PP 30 #[.pointer (some ⟨n1, 0, none⟩)] [] fun r9 =>
         j1 (true, true, ())) (
         ifB ((v2 : Int) == 3) (
          ld (Addr.add ⟨n2, 0, none⟩ 1) (.lf .str) fun v9 =>
          ld (Addr.add ⟨n2, 0, none⟩ 2) (.lf .str) fun v10 =>
          ld (Addr.add ⟨n2, 0, none⟩ 3) (.lf .bool) fun v11 =>
          ld (Addr.add ⟨n2, 0, none⟩ 1) (.lf .str) fun v12 =>
          ld (Addr.add ⟨n2, 0, none⟩ 2) (.lf .str) fun v13 =>
          ld (Addr.add ⟨n2, 0, none⟩ 3) (.lf .bool) fun v14 =>
          cl PP 31 #[.pointer r3.1, .string v9, .string v10, .bool v11] [.lf .bool] fun r10 =>
          keep (LdAt (Addr.add ⟨n2, 0, none⟩ 3) [.bool v14]) <|
          keep (LdAt (Addr.add ⟨n2, 0, none⟩ 2) [.string v13]) <|
          keep (LdAt (Addr.add ⟨n2, 0, none⟩ 1) [.string v12]) <|
          cl PP 32 #[.pointer (some ⟨n1, 0, none⟩), .string v12, .string v13, .bool v14] [.lf .bool] fun r11 =>
          j1 (r10.1, r11.1, ())) (
          ld (Addr.add ⟨n2, 0, none⟩ 1) (.lf .str) fun v15 =>
          ld (Addr.add ⟨n2, 0, none⟩ 2) (.lf .str) fun v16 =>
          ld (Addr.add ⟨n2, 0, none⟩ 3) (.lf .bool) fun v17 =>
          ld (Addr.add ⟨n2, 0, none⟩ 1) (.lf .str) fun v18 =>
          ld (Addr.add ⟨n2, 0, none⟩ 2) (.lf .str) fun v19 =>
          ld (Addr.add ⟨n2, 0, none⟩ 3) (.lf .bool) fun v20 =>
          cl PP 33 #[.pointer r3.1, .string v15, .string v16, .bool v17] [.lf .bool] fun r12 =>
          keep (LdAt (Addr.add ⟨n2, 0, none⟩ 3) [.bool v20]) <|
          keep (LdAt (Addr.add ⟨n2, 0, none⟩ 2) [.string v19]) <|
          keep (LdAt (Addr.add ⟨n2, 0, none⟩ 1) [.string v18]) <|
          cl PP 34 #[.pointer (some ⟨n1, 0, none⟩), .string v18, .string v19, .bool v20] [.lf .bool] fun r13 =>
          j1 (r12.1, r13.1, ())))))) (
     cl PP 23 #[] [.lf .bool] fun r17 =>
     K (.bool r17.1)))
theorem e5 (x0 : SlV) (K : Value → HP) : flatFn PP h5 Try.f5 [.slice x0.a x0.len x0.cap] K = t5 x0 K := by kernel_rfl

/-- depot/depotlaw25.RegionTorn -/
def h6 : Hints := ⟨[(0, [(11, .lf (.int .i64))]), (2, [(12, .lf (.int .i64)), (14, .lf (.int .i64)), (15, .lf .sl), (16, .lf (.int .i64))])], [(27, [(12, .lf (.int .i64)), (14, .lf (.int .i64)), (15, .lf .sl)]), (31, [(12, .lf (.int .i64)), (20, .lf .bool)])], [(37, [0, 1, 2, 3, 4, 5, 6, 9, 10, 11, 7, 8, 12, 13, 14, 15, 16]), (24, [0, 1, 2, 3, 4, 5, 6, 7, 8, 9, 11, 12, 13, 14, 10, 15, 16, 17, 18, 19, 20, 23, 24, 25, 21, 22, 26, 27, 28, 29, 30])]⟩
def t6 (x0 : SlV) (x1 : Bool) (x2 : Int) (x3 : Int) (K : Value → HP) : HP :=
  cl PP 38 #[.agg #[.int .i64 2, .int .i64 16, .int .i64 64, .int .i64 9]] [.lf .ptr, .lf (.int .i64)] fun r1 =>
  ifB ((r1.2.1 : Int) != 0) (
   K (.bool false)) (
   ifB (decide ((x0.len : Int) > 20)) (
    cl PP 9 #[] [.lf .bool] fun r2 =>
    K (.bool r2.1)) (
    lp [.lf (.int .i64)] (0, ()) fun z1 go1 =>   -- i
     ifB (decide ((z1.1 : Int) < x0.len)) (
      nilc x0.a fun a1 =>
      ixn z1.1 x0.len <|
      ld (Addr.add a1 (z1.1.toNat * 1)) (.lf .sl) fun v1 =>
      cl PP 8 #[.slice v1.a v1.len v1.cap, .int .i64 8, .int .i64 48] [.lf .bool] fun r3 =>
      ifB (!r3.1) (
       cl PP 9 #[] [.lf .bool] fun r4 =>
       K (.bool r4.1)) (
       nilc x0.a fun a2 =>
       ixn z1.1 x0.len <|
       ld (Addr.add a2 (z1.1.toNat * 1)) (.lf .sl) fun v2 =>
       ifB ((v2.len : Int) == 0) (
        cl PP 9 #[] [.lf .bool] fun r5 =>
        K (.bool r5.1)) (
        go1 (IntKind.i64.wrap (z1.1 + 1), ())))) (
      cl PP 39 #[.pointer r1.1, .int .i64 x2, .int .i64 x3] [] fun r6 =>
      cl PP 40 #[.pointer r1.1, .int .i64 1, .int .i64 9] [.lf (.int .i64)] fun r7 =>
      jn (fun y1 : RsV [.lf (.int .i64), .lf (.int .i64), .lf .sl] =>
       jn (fun y2 : RsV [.lf (.int .i64), .lf .bool] =>
        ifB ((y2.1 : Int) != 0) (
         ifB ((y2.1 : Int) != 11) (
          K (.bool false)) (
          cl PP 44 #[.pointer r1.1] [] fun r11 =>
          cl PP 42 #[.pointer r1.1] [.lf .sl] fun r12 =>
          ifB (decide ((r12.1.len : Int) > 1)) (
           K (.bool false)) (
           ifB (!(((r12.1.len : Int) == 1) == ((y2.1 : Int) == 11))) (
            K (.bool false)) (
            ifB ((r12.1.len : Int) == 1) (
             nilc r12.1.a fun a8 =>
             ixn 0 r12.1.len <|
             nilc r12.1.a fun a9 =>
             ixn 0 r12.1.len <|
             ld (Addr.add (Addr.add a8 ((0 : Int).toNat * 4)) 3) (.lf .sl) fun v14 =>
             smR PP (Conv.bytesToString (.slice v14.a v14.len v14.cap)) [.lf .str] fun v15 =>
             ld (Addr.add (Addr.add a9 ((0 : Int).toNat * 4)) 2) (.lf .sl) fun v16 =>
             smR PP (Conv.bytesToString (.slice v16.a v16.len v16.cap)) [.lf .str] fun v17 =>
             ifB ((r12.1.len : Int) == 1) (
              ifB (!(ByteArray.toList v15.1 == ByteArray.toList v17.1)) (
               nilc r12.1.a fun a10 =>
               ixn 0 r12.1.len <|
               ld (Addr.add (Addr.add a10 ((0 : Int).toNat * 4)) 3) (.lf .sl) fun v18 =>
               cl PP 45 #[.slice v18.a v18.len v18.cap] [.lf .bool] fun r13 =>
               ifB r13.1 (
                cl PP 9 #[] [.lf .bool] fun r14 =>
                K (.bool r14.1)) (
                cl PP 46 #[.pointer r1.1, .int .i64 1] [.lf .sl, .lf (.int .i64)] fun r15 =>
                cl PP 10 #[.slice r15.1.a r15.1.len r15.1.cap] [.agg [.int .i64, .bool, .sl], .lf .bool] fun r16 =>
                nw (.cells #[.int .i64 0, .bool false, .slice none 0 0] 29) fun n4 =>
                st ⟨n4, 0, none⟩ [.int .i64 r16.1.1, .bool r16.1.2.1, .slice r16.1.2.2.1.a r16.1.2.2.1.len r16.1.2.2.1.cap] <|
                ifB (!((r7.1 : Int) == 0)) (
                 ifB ((r15.2.1 : Int) == 0) (
                  ifB (r16.2.1 == (ByteArray.toList v15.1 == ByteArray.toList v17.1)) (
                   ld (Addr.add ⟨n4, 0, none⟩ 2) (.lf .sl) fun v19 =>
                   ifB ((v19.len : Int) == 0) (
                    cl PP 9 #[] [.lf .bool] fun r17 =>
                    K (.bool r17.1)) (
                    K (.bool false))) (
                   K (.bool false))) (
                  K (.bool false))) (
                 ifB ((r15.2.1 : Int) == 0) (
                  ifB r16.2.1 (
                   ld ⟨n4, 0, none⟩ (.lf (.int .i64)) fun v20 =>
                   ifB ((v20 : Int) == 9) (
                    ld (Addr.add ⟨n4, 0, none⟩ 2) (.lf .sl) fun v21 =>
                    cl PP 12 #[.slice v21.a v21.len v21.cap, .slice y1.2.2.1.a y1.2.2.1.len y1.2.2.1.cap] [.lf .bool] fun r18 =>
                    ifB r18.1 (
                     ld (Addr.add ⟨n4, 0, none⟩ 1) (.lf .bool) fun v22 =>
                     ifB (v22 == y2.2.1) (
                      cl PP 9 #[] [.lf .bool] fun r19 =>
                      K (.bool r19.1)) (
                      ifB (ByteArray.toList v15.1 == ByteArray.toList v17.1) (
                       ld (Addr.add ⟨n4, 0, none⟩ 1) (.lf .bool) fun v23 =>
                       ifB (v23 == x1) (
                        cl PP 9 #[] [.lf .bool] fun r20 =>
                        K (.bool r20.1)) (
                        K (.bool false))) (
                       K (.bool false)))) (
                     K (.bool false))) (
                    K (.bool false))) (
                   K (.bool false))) (
                  K (.bool false))))) (
               cl PP 46 #[.pointer r1.1, .int .i64 1] [.lf .sl, .lf (.int .i64)] fun r21 =>
               cl PP 10 #[.slice r21.1.a r21.1.len r21.1.cap] [.agg [.int .i64, .bool, .sl], .lf .bool] fun r22 =>
               nw (.cells #[.int .i64 0, .bool false, .slice none 0 0] 29) fun n5 =>
               st ⟨n5, 0, none⟩ [.int .i64 r22.1.1, .bool r22.1.2.1, .slice r22.1.2.2.1.a r22.1.2.2.1.len r22.1.2.2.1.cap] <|
               ifB (!((r7.1 : Int) == 0)) (
                ifB ((r21.2.1 : Int) == 0) (
                 ifB (r22.2.1 == (ByteArray.toList v15.1 == ByteArray.toList v17.1)) (
                  ld (Addr.add ⟨n5, 0, none⟩ 2) (.lf .sl) fun v24 =>
                  ifB ((v24.len : Int) == 0) (
                   cl PP 9 #[] [.lf .bool] fun r23 =>
                   K (.bool r23.1)) (
                   K (.bool false))) (
                  K (.bool false))) (
                 K (.bool false))) (
                ifB ((r21.2.1 : Int) == 0) (
                 ifB r22.2.1 (
                  ld ⟨n5, 0, none⟩ (.lf (.int .i64)) fun v25 =>
                  ifB ((v25 : Int) == 9) (
                   ld (Addr.add ⟨n5, 0, none⟩ 2) (.lf .sl) fun v26 =>
                   cl PP 12 #[.slice v26.a v26.len v26.cap, .slice y1.2.2.1.a y1.2.2.1.len y1.2.2.1.cap] [.lf .bool] fun r24 =>
                   ifB r24.1 (
                    ld (Addr.add ⟨n5, 0, none⟩ 1) (.lf .bool) fun v27 =>
                    ifB (v27 == y2.2.1) (
                     cl PP 9 #[] [.lf .bool] fun r25 =>
                     K (.bool r25.1)) (
                     ifB (ByteArray.toList v15.1 == ByteArray.toList v17.1) (
                      ld (Addr.add ⟨n5, 0, none⟩ 1) (.lf .bool) fun v28 =>
                      ifB (v28 == x1) (
                       cl PP 9 #[] [.lf .bool] fun r26 =>
                       K (.bool r26.1)) (
                       K (.bool false))) (
                      K (.bool false)))) (
                    K (.bool false))) (
                   K (.bool false))) (
                  K (.bool false))) (
                 K (.bool false))))) (
              cl PP 46 #[.pointer r1.1, .int .i64 1] [.lf .sl, .lf (.int .i64)] fun r27 =>
              cl PP 10 #[.slice r27.1.a r27.1.len r27.1.cap] [.agg [.int .i64, .bool, .sl], .lf .bool] fun r28 =>
              nw (.cells #[.int .i64 0, .bool false, .slice none 0 0] 29) fun n6 =>
              st ⟨n6, 0, none⟩ [.int .i64 r28.1.1, .bool r28.1.2.1, .slice r28.1.2.2.1.a r28.1.2.2.1.len r28.1.2.2.1.cap] <|
              ifB (!((r7.1 : Int) == 0)) (
               ifB ((r27.2.1 : Int) == 0) (
                ifB (r28.2.1 == (ByteArray.toList v15.1 == ByteArray.toList v17.1)) (
                 ld (Addr.add ⟨n6, 0, none⟩ 2) (.lf .sl) fun v29 =>
                 ifB ((v29.len : Int) == 0) (
                  cl PP 9 #[] [.lf .bool] fun r29 =>
                  K (.bool r29.1)) (
                  K (.bool false))) (
                 K (.bool false))) (
                K (.bool false))) (
               ifB ((r27.2.1 : Int) == 0) (
                ifB r28.2.1 (
                 ld ⟨n6, 0, none⟩ (.lf (.int .i64)) fun v30 =>
                 ifB ((v30 : Int) == 9) (
                  ld (Addr.add ⟨n6, 0, none⟩ 2) (.lf .sl) fun v31 =>
                  cl PP 12 #[.slice v31.a v31.len v31.cap, .slice y1.2.2.1.a y1.2.2.1.len y1.2.2.1.cap] [.lf .bool] fun r30 =>
                  ifB r30.1 (
                   ld (Addr.add ⟨n6, 0, none⟩ 1) (.lf .bool) fun v32 =>
                   ifB (v32 == y2.2.1) (
                    cl PP 9 #[] [.lf .bool] fun r31 =>
                    K (.bool r31.1)) (
                    ifB (ByteArray.toList v15.1 == ByteArray.toList v17.1) (
                     ld (Addr.add ⟨n6, 0, none⟩ 1) (.lf .bool) fun v33 =>
                     ifB (v33 == x1) (
                      cl PP 9 #[] [.lf .bool] fun r32 =>
                      K (.bool r32.1)) (
                      K (.bool false))) (
                     K (.bool false)))) (
                   K (.bool false))) (
                  K (.bool false))) (
                 K (.bool false))) (
                K (.bool false))))) (
             ifB ((r12.1.len : Int) == 1) (
              nilc r12.1.a fun a11 =>
              ixn 0 r12.1.len <|
              ld (Addr.add (Addr.add a11 ((0 : Int).toNat * 4)) 3) (.lf .sl) fun v34 =>
              cl PP 45 #[.slice v34.a v34.len v34.cap] [.lf .bool] fun r33 =>
              ifB r33.1 (
               cl PP 9 #[] [.lf .bool] fun r34 =>
               K (.bool r34.1)) (
               cl PP 46 #[.pointer r1.1, .int .i64 1] [.lf .sl, .lf (.int .i64)] fun r35 =>
               cl PP 10 #[.slice r35.1.a r35.1.len r35.1.cap] [.agg [.int .i64, .bool, .sl], .lf .bool] fun r36 =>
               nw (.cells #[.int .i64 0, .bool false, .slice none 0 0] 29) fun n7 =>
               st ⟨n7, 0, none⟩ [.int .i64 r36.1.1, .bool r36.1.2.1, .slice r36.1.2.2.1.a r36.1.2.2.1.len r36.1.2.2.1.cap] <|
               ifB (!((r7.1 : Int) == 0)) (
                ifB ((r35.2.1 : Int) == 0) (
                 ifB (r36.2.1 == false) (
                  ld (Addr.add ⟨n7, 0, none⟩ 2) (.lf .sl) fun v35 =>
                  ifB ((v35.len : Int) == 0) (
                   cl PP 9 #[] [.lf .bool] fun r37 =>
                   K (.bool r37.1)) (
                   K (.bool false))) (
                  K (.bool false))) (
                 K (.bool false))) (
                ifB ((r35.2.1 : Int) == 0) (
                 ifB r36.2.1 (
                  ld ⟨n7, 0, none⟩ (.lf (.int .i64)) fun v36 =>
                  ifB ((v36 : Int) == 9) (
                   ld (Addr.add ⟨n7, 0, none⟩ 2) (.lf .sl) fun v37 =>
                   cl PP 12 #[.slice v37.a v37.len v37.cap, .slice y1.2.2.1.a y1.2.2.1.len y1.2.2.1.cap] [.lf .bool] fun r38 =>
                   ifB r38.1 (
                    ld (Addr.add ⟨n7, 0, none⟩ 1) (.lf .bool) fun v38 =>
                    ifB (v38 == y2.2.1) (
                     cl PP 9 #[] [.lf .bool] fun r39 =>
                     K (.bool r39.1)) (
                     K (.bool false))) (
                    K (.bool false))) (
                   K (.bool false))) (
                  K (.bool false))) (
                 K (.bool false))))) (
              cl PP 46 #[.pointer r1.1, .int .i64 1] [.lf .sl, .lf (.int .i64)] fun r40 =>
              cl PP 10 #[.slice r40.1.a r40.1.len r40.1.cap] [.agg [.int .i64, .bool, .sl], .lf .bool] fun r41 =>
              nw (.cells #[.int .i64 0, .bool false, .slice none 0 0] 29) fun n8 =>
              st ⟨n8, 0, none⟩ [.int .i64 r41.1.1, .bool r41.1.2.1, .slice r41.1.2.2.1.a r41.1.2.2.1.len r41.1.2.2.1.cap] <|
              ifB (!((r7.1 : Int) == 0)) (
               ifB ((r40.2.1 : Int) == 0) (
                ifB (r41.2.1 == false) (
                 ld (Addr.add ⟨n8, 0, none⟩ 2) (.lf .sl) fun v39 =>
                 ifB ((v39.len : Int) == 0) (
                  cl PP 9 #[] [.lf .bool] fun r42 =>
                  K (.bool r42.1)) (
                  K (.bool false))) (
                 K (.bool false))) (
                K (.bool false))) (
               ifB ((r40.2.1 : Int) == 0) (
                ifB r41.2.1 (
                 ld ⟨n8, 0, none⟩ (.lf (.int .i64)) fun v40 =>
                 ifB ((v40 : Int) == 9) (
                  ld (Addr.add ⟨n8, 0, none⟩ 2) (.lf .sl) fun v41 =>
                  cl PP 12 #[.slice v41.a v41.len v41.cap, .slice y1.2.2.1.a y1.2.2.1.len y1.2.2.1.cap] [.lf .bool] fun r43 =>
                  ifB r43.1 (
                   ld (Addr.add ⟨n8, 0, none⟩ 1) (.lf .bool) fun v42 =>
                   ifB (v42 == y2.2.1) (
                    cl PP 9 #[] [.lf .bool] fun r44 =>
                    K (.bool r44.1)) (
                    K (.bool false))) (
                   K (.bool false))) (
                  K (.bool false))) (
                 K (.bool false))) (
                K (.bool false))))))))) (
         cl PP 44 #[.pointer r1.1] [] fun r45 =>
         cl PP 42 #[.pointer r1.1] [.lf .sl] fun r46 =>
         ifB (decide ((r46.1.len : Int) > 1)) (
          K (.bool false)) (
          ifB (!(((r46.1.len : Int) == 1) == ((y2.1 : Int) == 11))) (
           K (.bool false)) (
           ifB ((r46.1.len : Int) == 1) (
            nilc r46.1.a fun a12 =>
            ixn 0 r46.1.len <|
            nilc r46.1.a fun a13 =>
            ixn 0 r46.1.len <|
            ld (Addr.add (Addr.add a12 ((0 : Int).toNat * 4)) 3) (.lf .sl) fun v43 =>
            smR PP (Conv.bytesToString (.slice v43.a v43.len v43.cap)) [.lf .str] fun v44 =>
            ld (Addr.add (Addr.add a13 ((0 : Int).toNat * 4)) 2) (.lf .sl) fun v45 =>
            smR PP (Conv.bytesToString (.slice v45.a v45.len v45.cap)) [.lf .str] fun v46 =>
            ifB ((r46.1.len : Int) == 1) (
             ifB (!(ByteArray.toList v44.1 == ByteArray.toList v46.1)) (
              nilc r46.1.a fun a14 =>
              ixn 0 r46.1.len <|
              ld (Addr.add (Addr.add a14 ((0 : Int).toNat * 4)) 3) (.lf .sl) fun v47 =>
              cl PP 45 #[.slice v47.a v47.len v47.cap] [.lf .bool] fun r47 =>
              ifB r47.1 (
               cl PP 9 #[] [.lf .bool] fun r48 =>
               K (.bool r48.1)) (
               cl PP 46 #[.pointer r1.1, .int .i64 1] [.lf .sl, .lf (.int .i64)] fun r49 =>
               cl PP 10 #[.slice r49.1.a r49.1.len r49.1.cap] [.agg [.int .i64, .bool, .sl], .lf .bool] fun r50 =>
               nw (.cells #[.int .i64 0, .bool false, .slice none 0 0] 29) fun n9 =>
               st ⟨n9, 0, none⟩ [.int .i64 r50.1.1, .bool r50.1.2.1, .slice r50.1.2.2.1.a r50.1.2.2.1.len r50.1.2.2.1.cap] <|
               ifB (!((r7.1 : Int) == 0)) (
                ifB ((r49.2.1 : Int) == 0) (
                 ifB (r50.2.1 == (ByteArray.toList v44.1 == ByteArray.toList v46.1)) (
                  ld (Addr.add ⟨n9, 0, none⟩ 2) (.lf .sl) fun v48 =>
                  ifB ((v48.len : Int) == 0) (
                   cl PP 9 #[] [.lf .bool] fun r51 =>
                   K (.bool r51.1)) (
                   K (.bool false))) (
                  K (.bool false))) (
                 K (.bool false))) (
                ifB ((r49.2.1 : Int) == 0) (
                 ifB r50.2.1 (
                  ld ⟨n9, 0, none⟩ (.lf (.int .i64)) fun v49 =>
                  ifB ((v49 : Int) == 9) (
                   ld (Addr.add ⟨n9, 0, none⟩ 2) (.lf .sl) fun v50 =>
                   cl PP 12 #[.slice v50.a v50.len v50.cap, .slice y1.2.2.1.a y1.2.2.1.len y1.2.2.1.cap] [.lf .bool] fun r52 =>
                   ifB r52.1 (
                    ld (Addr.add ⟨n9, 0, none⟩ 1) (.lf .bool) fun v51 =>
                    ifB (v51 == y2.2.1) (
                     cl PP 9 #[] [.lf .bool] fun r53 =>
                     K (.bool r53.1)) (
                     ifB (ByteArray.toList v44.1 == ByteArray.toList v46.1) (
                      ld (Addr.add ⟨n9, 0, none⟩ 1) (.lf .bool) fun v52 =>
                      ifB (v52 == x1) (
                       cl PP 9 #[] [.lf .bool] fun r54 =>
                       K (.bool r54.1)) (
                       K (.bool false))) (
                      K (.bool false)))) (
                    K (.bool false))) (
                   K (.bool false))) (
                  K (.bool false))) (
                 K (.bool false))))) (
              cl PP 46 #[.pointer r1.1, .int .i64 1] [.lf .sl, .lf (.int .i64)] fun r55 =>
              cl PP 10 #[.slice r55.1.a r55.1.len r55.1.cap] [.agg [.int .i64, .bool, .sl], .lf .bool] fun r56 =>
              nw (.cells #[.int .i64 0, .bool false, .slice none 0 0] 29) fun n10 =>
              st ⟨n10, 0, none⟩ [.int .i64 r56.1.1, .bool r56.1.2.1, .slice r56.1.2.2.1.a r56.1.2.2.1.len r56.1.2.2.1.cap] <|
              ifB (!((r7.1 : Int) == 0)) (
               ifB ((r55.2.1 : Int) == 0) (
                ifB (r56.2.1 == (ByteArray.toList v44.1 == ByteArray.toList v46.1)) (
                 ld (Addr.add ⟨n10, 0, none⟩ 2) (.lf .sl) fun v53 =>
                 ifB ((v53.len : Int) == 0) (
                  cl PP 9 #[] [.lf .bool] fun r57 =>
                  K (.bool r57.1)) (
                  K (.bool false))) (
                 K (.bool false))) (
                K (.bool false))) (
               ifB ((r55.2.1 : Int) == 0) (
                ifB r56.2.1 (
                 ld ⟨n10, 0, none⟩ (.lf (.int .i64)) fun v54 =>
                 ifB ((v54 : Int) == 9) (
                  ld (Addr.add ⟨n10, 0, none⟩ 2) (.lf .sl) fun v55 =>
                  cl PP 12 #[.slice v55.a v55.len v55.cap, .slice y1.2.2.1.a y1.2.2.1.len y1.2.2.1.cap] [.lf .bool] fun r58 =>
                  ifB r58.1 (
                   ld (Addr.add ⟨n10, 0, none⟩ 1) (.lf .bool) fun v56 =>
                   ifB (v56 == y2.2.1) (
                    cl PP 9 #[] [.lf .bool] fun r59 =>
                    K (.bool r59.1)) (
                    ifB (ByteArray.toList v44.1 == ByteArray.toList v46.1) (
                     ld (Addr.add ⟨n10, 0, none⟩ 1) (.lf .bool) fun v57 =>
                     ifB (v57 == x1) (
                      cl PP 9 #[] [.lf .bool] fun r60 =>
                      K (.bool r60.1)) (
                      K (.bool false))) (
                     K (.bool false)))) (
                   K (.bool false))) (
                  K (.bool false))) (
                 K (.bool false))) (
                K (.bool false))))) (
             cl PP 46 #[.pointer r1.1, .int .i64 1] [.lf .sl, .lf (.int .i64)] fun r61 =>
             cl PP 10 #[.slice r61.1.a r61.1.len r61.1.cap] [.agg [.int .i64, .bool, .sl], .lf .bool] fun r62 =>
             nw (.cells #[.int .i64 0, .bool false, .slice none 0 0] 29) fun n11 =>
             st ⟨n11, 0, none⟩ [.int .i64 r62.1.1, .bool r62.1.2.1, .slice r62.1.2.2.1.a r62.1.2.2.1.len r62.1.2.2.1.cap] <|
             ifB (!((r7.1 : Int) == 0)) (
              ifB ((r61.2.1 : Int) == 0) (
               ifB (r62.2.1 == (ByteArray.toList v44.1 == ByteArray.toList v46.1)) (
                ld (Addr.add ⟨n11, 0, none⟩ 2) (.lf .sl) fun v58 =>
                ifB ((v58.len : Int) == 0) (
                 cl PP 9 #[] [.lf .bool] fun r63 =>
                 K (.bool r63.1)) (
                 K (.bool false))) (
                K (.bool false))) (
               K (.bool false))) (
              ifB ((r61.2.1 : Int) == 0) (
               ifB r62.2.1 (
                ld ⟨n11, 0, none⟩ (.lf (.int .i64)) fun v59 =>
                ifB ((v59 : Int) == 9) (
                 ld (Addr.add ⟨n11, 0, none⟩ 2) (.lf .sl) fun v60 =>
                 cl PP 12 #[.slice v60.a v60.len v60.cap, .slice y1.2.2.1.a y1.2.2.1.len y1.2.2.1.cap] [.lf .bool] fun r64 =>
                 ifB r64.1 (
                  ld (Addr.add ⟨n11, 0, none⟩ 1) (.lf .bool) fun v61 =>
                  ifB (v61 == y2.2.1) (
                   cl PP 9 #[] [.lf .bool] fun r65 =>
                   K (.bool r65.1)) (
                   ifB (ByteArray.toList v44.1 == ByteArray.toList v46.1) (
                    ld (Addr.add ⟨n11, 0, none⟩ 1) (.lf .bool) fun v62 =>
                    ifB (v62 == x1) (
                     cl PP 9 #[] [.lf .bool] fun r66 =>
                     K (.bool r66.1)) (
                     K (.bool false))) (
                    K (.bool false)))) (
                  K (.bool false))) (
                 K (.bool false))) (
                K (.bool false))) (
               K (.bool false))))) (
            ifB ((r46.1.len : Int) == 1) (
             nilc r46.1.a fun a15 =>
             ixn 0 r46.1.len <|
             ld (Addr.add (Addr.add a15 ((0 : Int).toNat * 4)) 3) (.lf .sl) fun v63 =>
             cl PP 45 #[.slice v63.a v63.len v63.cap] [.lf .bool] fun r67 =>
             ifB r67.1 (
              cl PP 9 #[] [.lf .bool] fun r68 =>
              K (.bool r68.1)) (
              cl PP 46 #[.pointer r1.1, .int .i64 1] [.lf .sl, .lf (.int .i64)] fun r69 =>
              cl PP 10 #[.slice r69.1.a r69.1.len r69.1.cap] [.agg [.int .i64, .bool, .sl], .lf .bool] fun r70 =>
              nw (.cells #[.int .i64 0, .bool false, .slice none 0 0] 29) fun n12 =>
              st ⟨n12, 0, none⟩ [.int .i64 r70.1.1, .bool r70.1.2.1, .slice r70.1.2.2.1.a r70.1.2.2.1.len r70.1.2.2.1.cap] <|
              ifB (!((r7.1 : Int) == 0)) (
               ifB ((r69.2.1 : Int) == 0) (
                ifB (r70.2.1 == false) (
                 ld (Addr.add ⟨n12, 0, none⟩ 2) (.lf .sl) fun v64 =>
                 ifB ((v64.len : Int) == 0) (
                  cl PP 9 #[] [.lf .bool] fun r71 =>
                  K (.bool r71.1)) (
                  K (.bool false))) (
                 K (.bool false))) (
                K (.bool false))) (
               ifB ((r69.2.1 : Int) == 0) (
                ifB r70.2.1 (
                 ld ⟨n12, 0, none⟩ (.lf (.int .i64)) fun v65 =>
                 ifB ((v65 : Int) == 9) (
                  ld (Addr.add ⟨n12, 0, none⟩ 2) (.lf .sl) fun v66 =>
                  cl PP 12 #[.slice v66.a v66.len v66.cap, .slice y1.2.2.1.a y1.2.2.1.len y1.2.2.1.cap] [.lf .bool] fun r72 =>
                  ifB r72.1 (
                   ld (Addr.add ⟨n12, 0, none⟩ 1) (.lf .bool) fun v67 =>
                   ifB (v67 == y2.2.1) (
                    cl PP 9 #[] [.lf .bool] fun r73 =>
                    K (.bool r73.1)) (
                    K (.bool false))) (
                   K (.bool false))) (
                  K (.bool false))) (
                 K (.bool false))) (
                K (.bool false))))) (
             cl PP 46 #[.pointer r1.1, .int .i64 1] [.lf .sl, .lf (.int .i64)] fun r74 =>
             cl PP 10 #[.slice r74.1.a r74.1.len r74.1.cap] [.agg [.int .i64, .bool, .sl], .lf .bool] fun r75 =>
             nw (.cells #[.int .i64 0, .bool false, .slice none 0 0] 29) fun n13 =>
             st ⟨n13, 0, none⟩ [.int .i64 r75.1.1, .bool r75.1.2.1, .slice r75.1.2.2.1.a r75.1.2.2.1.len r75.1.2.2.1.cap] <|
             ifB (!((r7.1 : Int) == 0)) (
              ifB ((r74.2.1 : Int) == 0) (
               ifB (r75.2.1 == false) (
                ld (Addr.add ⟨n13, 0, none⟩ 2) (.lf .sl) fun v68 =>
                ifB ((v68.len : Int) == 0) (
                 cl PP 9 #[] [.lf .bool] fun r76 =>
                 K (.bool r76.1)) (
                 K (.bool false))) (
                K (.bool false))) (
               K (.bool false))) (
              ifB ((r74.2.1 : Int) == 0) (
               ifB r75.2.1 (
                ld ⟨n13, 0, none⟩ (.lf (.int .i64)) fun v69 =>
                ifB ((v69 : Int) == 9) (
                 ld (Addr.add ⟨n13, 0, none⟩ 2) (.lf .sl) fun v70 =>
                 cl PP 12 #[.slice v70.a v70.len v70.cap, .slice y1.2.2.1.a y1.2.2.1.len y1.2.2.1.cap] [.lf .bool] fun r77 =>
                 ifB r77.1 (
                  ld (Addr.add ⟨n13, 0, none⟩ 1) (.lf .bool) fun v71 =>
                  ifB (v71 == y2.2.1) (
                   cl PP 9 #[] [.lf .bool] fun r78 =>
                   K (.bool r78.1)) (
                   K (.bool false))) (
                  K (.bool false))) (
                 K (.bool false))) (
                K (.bool false))) (
               K (.bool false))))))))) fun j2 =>
       ifB ((y1.1 : Int) == 0) (
         ifB x1 (
          cl PP 43 #[.pointer r1.1, .int .i64 1, .int .i64 9, .int .i64 y1.2.1, .slice y1.2.2.1.a y1.2.2.1.len y1.2.2.1.cap] [.lf (.int .i64)] fun r10 =>
          j2 (r10.1, (r10.1 : Int) == 0, ())) (
          j2 (y1.1, false, ()))) (
         j2 (y1.1, false, ()))) fun j1 =>
      lp [.lf (.int .i64), .lf (.int .i64), .lf .sl, .lf (.int .i64)] (r7.1, 1, ⟨none, 0, 0⟩, 0, ()) fun z2 go2 =>   -- a, at, want, i
        ifB (decide ((z2.2.2.2.1 : Int) < x0.len)) (
         ifB ((z2.1 : Int) == 0) (
          nilc x0.a fun a3 =>
          ixn z2.2.2.2.1 x0.len <|
          ld (Addr.add a3 (z2.2.2.2.1.toNat * 1)) (.lf .sl) fun v3 =>
          ifB (decide ((IntKind.i64.wrap (z2.2.1 + v3.len) : Int) > 15)) (
           j1 (z2.1, z2.2.1, ⟨z2.2.2.1.a, z2.2.2.1.len, z2.2.2.1.cap⟩, ())) (
           nilc x0.a fun a4 =>
           ixn z2.2.2.2.1 x0.len <|
           ld (Addr.add a4 (z2.2.2.2.1.toNat * 1)) (.lf .sl) fun v4 =>
           cl PP 41 #[.pointer r1.1, .int .i64 1, .int .i64 9, .int .i64 z2.2.1, .int .i64 2, .slice v4.a v4.len v4.cap] [.lf (.int .i64)] fun r8 =>
           nw (.cells #[.int .i64 0, .int .i64 0, .int .i64 0] 24) fun n1 =>
           st ⟨n1, 0, none⟩ [.int .i64 2, .int .i64 z2.2.1, .int .i64 v3.len] <|
           cl PP 42 #[.pointer r1.1] [.lf .sl] fun r9 =>
           ifB ((r8.1 : Int) == 0) (
            ld ⟨n1, 0, none⟩ (.agg [.int .i64, .int .i64, .int .i64]) fun v5 =>
            nw (.cells #[.int .i64 v5.1, .int .i64 v5.2.1, .int .i64 v5.2.2.1] 24) fun n2 =>
            smW PP (Builtin.append_ #[27, 27] 27 #[.slice z2.2.2.1.a z2.2.2.1.len z2.2.2.1.cap, .slice (some ⟨n2, 0, none⟩) 1 1]) [.lf .sl] fun v6 =>
            go2 (r8.1, IntKind.i64.wrap (z2.2.1 + v3.len), ⟨v6.1.a, v6.1.len, v6.1.cap⟩, IntKind.i64.wrap (z2.2.2.2.1 + 1), ())) (
            ifB ((r9.1.len : Int) == 1) (
             nilc r9.1.a fun a5 =>
             ixn 0 r9.1.len <|
             ld (Addr.add (Addr.add a5 ((0 : Int).toNat * 4)) 1) (.lf (.int .i64)) fun v7 =>
             ifB ((v7 : Int) == (IntKind.i64.wrap ((IntKind.i64.wrap (z2.2.1 + v3.len)) - 1))) (
              nilc r9.1.a fun a6 =>
              ixn 0 r9.1.len <|
              nilc r9.1.a fun a7 =>
              ixn 0 r9.1.len <|
              ld (Addr.add (Addr.add a6 ((0 : Int).toNat * 4)) 3) (.lf .sl) fun v8 =>
              smR PP (Conv.bytesToString (.slice v8.a v8.len v8.cap)) [.lf .str] fun v9 =>
              ld (Addr.add (Addr.add a7 ((0 : Int).toNat * 4)) 2) (.lf .sl) fun v10 =>
              smR PP (Conv.bytesToString (.slice v10.a v10.len v10.cap)) [.lf .str] fun v11 =>
              ifB (ByteArray.toList v9.1 == ByteArray.toList v11.1) (
               ld ⟨n1, 0, none⟩ (.agg [.int .i64, .int .i64, .int .i64]) fun v12 =>
               nw (.cells #[.int .i64 v12.1, .int .i64 v12.2.1, .int .i64 v12.2.2.1] 24) fun n3 =>
               smW PP (Builtin.append_ #[27, 27] 27 #[.slice z2.2.2.1.a z2.2.2.1.len z2.2.2.1.cap, .slice (some ⟨n3, 0, none⟩) 1 1]) [.lf .sl] fun v13 =>
               go2 (r8.1, IntKind.i64.wrap (z2.2.1 + v3.len), ⟨v13.1.a, v13.1.len, v13.1.cap⟩, IntKind.i64.wrap (z2.2.2.2.1 + 1), ())) (
               go2 (r8.1, IntKind.i64.wrap (z2.2.1 + v3.len), ⟨z2.2.2.1.a, z2.2.2.1.len, z2.2.2.1.cap⟩, IntKind.i64.wrap (z2.2.2.2.1 + 1), ()))) (
              go2 (r8.1, IntKind.i64.wrap (z2.2.1 + v3.len), ⟨z2.2.2.1.a, z2.2.2.1.len, z2.2.2.1.cap⟩, IntKind.i64.wrap (z2.2.2.2.1 + 1), ()))) (
             go2 (r8.1, IntKind.i64.wrap (z2.2.1 + v3.len), ⟨z2.2.2.1.a, z2.2.2.1.len, z2.2.2.1.cap⟩, IntKind.i64.wrap (z2.2.2.2.1 + 1), ()))))) (
          j1 (z2.1, z2.2.1, ⟨z2.2.2.1.a, z2.2.2.1.len, z2.2.2.1.cap⟩, ()))) (
         j1 (z2.1, z2.2.1, ⟨z2.2.2.1.a, z2.2.2.1.len, z2.2.2.1.cap⟩, ())))))
theorem e6 (x0 : SlV) (x1 : Bool) (x2 : Int) (x3 : Int) (K : Value → HP) : flatFn PP h6 Try.f6 [.slice x0.a x0.len x0.cap, .bool x1, .int .i64 x2, .int .i64 x3] K = t6 x0 x1 x2 x3 K := by kernel_rfl

/-- depot/depotlaw25.RegionWrites -/
def h7 : Hints := ⟨[(0, [(7, .lf (.int .i64))])], [(28, [(9, .lf (.int .i64)), (10, .lf (.int .i64))])], [(17, [0, 1, 3, 6, 7, 9, 2, 4, 8, 10, 5, 11, 12, 13]), (19, [0, 1, 3, 5, 7, 9, 12, 13, 15, 17, 19, 21, 2, 4, 6, 8, 10, 14, 16, 18, 20, 22, 11, 23, 24, 25]), (21, [0, 1, 3, 5, 7, 10, 11, 13, 15, 17, 2, 4, 6, 8, 12, 14, 16, 18, 9, 19, 20, 21]), (15, [0, 1, 4, 5, 2, 6, 3, 7, 8, 9])]⟩
def t7 (x0 : SlV) (K : Value → HP) : HP :=
  cl PP 47 #[] [.agg [.int .i64, .int .i64, .int .i64, .int .i64]] fun r1 =>
  cl PP 38 #[.agg #[.int .i64 r1.1.1, .int .i64 r1.1.2.1, .int .i64 r1.1.2.2.1, .int .i64 r1.1.2.2.2.1]] [.lf .ptr, .lf (.int .i64)] fun r2 =>
  cl PP 47 #[] [.agg [.int .i64, .int .i64, .int .i64, .int .i64]] fun r3 =>
  cl PP 48 #[.agg #[.int .i64 r3.1.1, .int .i64 r3.1.2.1, .int .i64 r3.1.2.2.1, .int .i64 r3.1.2.2.2.1]] [.lf .ptr, .lf (.int .i64)] fun r4 =>
  ifB ((r2.2.1 : Int) != 0) (
   K (.bool false)) (
   ifB (decide ((x0.len : Int) > 60)) (
    cl PP 9 #[] [.lf .bool] fun r5 =>
    K (.bool r5.1)) (
    lp [.lf (.int .i64)] (0, ()) fun z1 go1 =>   -- i
     ifB (decide ((z1.1 : Int) < x0.len)) (
      nilc x0.a fun a1 =>
      ixn z1.1 x0.len <|
      ld (Addr.add a1 (z1.1.toNat * 9)) (.agg [.int .i64, .int .i64, .int .i64, .int .i64, .int .i64, .sl, .sl, .int .i64, .int .i64]) fun v1 =>
      nw (.cells #[.int .i64 0, .int .i64 0, .int .i64 0, .int .i64 0, .int .i64 0, .slice none 0 0, .slice none 0 0, .int .i64 0, .int .i64 0] 94) fun n1 =>
      st ⟨n1, 0, none⟩ [.int .i64 v1.1, .int .i64 v1.2.1, .int .i64 v1.2.2.1, .int .i64 v1.2.2.2.1, .int .i64 v1.2.2.2.2.1, .slice v1.2.2.2.2.2.1.a v1.2.2.2.2.2.1.len v1.2.2.2.2.2.1.cap, .slice v1.2.2.2.2.2.2.1.a v1.2.2.2.2.2.2.1.len v1.2.2.2.2.2.2.1.cap, .int .i64 v1.2.2.2.2.2.2.2.1, .int .i64 v1.2.2.2.2.2.2.2.2.1] <|
      ld (Addr.add ⟨n1, 0, none⟩ 5) (.lf .sl) fun v2 =>
      cl PP 8 #[.slice v2.a v2.len v2.cap, .int .i64 20, .int .i64 600] [.lf .bool] fun r6 =>
      ifB (!r6.1) (
       cl PP 9 #[] [.lf .bool] fun r7 =>
       K (.bool r7.1)) (
       ld (Addr.add ⟨n1, 0, none⟩ 6) (.lf .sl) fun v3 =>
       ifB (decide ((v3.len : Int) > 300)) (
        cl PP 9 #[] [.lf .bool] fun r8 =>
        K (.bool r8.1)) (
        jn (fun y1 : RsV [.lf (.int .i64), .lf (.int .i64)] =>
         ld (Addr.add ⟨n1, 0, none⟩ 1) (.lf (.int .i64)) fun v33 =>
         cl PP 46 #[.pointer r2.1, .int .i64 v33] [.lf .sl, .lf (.int .i64)] fun r21 =>
         ld (Addr.add ⟨n1, 0, none⟩ 1) (.lf (.int .i64)) fun v34 =>
         cl PP 56 #[.pointer r4.1, .int .i64 v34] [.lf .sl, .lf (.int .i64)] fun r22 =>
         ifB ((y1.1 : Int) != y1.2.1) (
          K (.bool false)) (
          cl PP 13 #[.slice r21.1.a r21.1.len r21.1.cap, .slice r22.1.a r22.1.len r22.1.cap] [.lf .bool] fun r23 =>
          ifB (!r23.1) (
           K (.bool false)) (
           ifB ((r21.2.1 : Int) != r22.2.1) (
            K (.bool false)) (
            go1 (IntKind.i64.wrap (z1.1 + 1), ()))))) fun j1 =>
        ld ⟨n1, 0, none⟩ (.lf (.int .i64)) fun v4 =>
         ifB ((v4 : Int) == 0) (
          ld (Addr.add ⟨n1, 0, none⟩ 1) (.lf (.int .i64)) fun v5 =>
          ld (Addr.add ⟨n1, 0, none⟩ 2) (.lf (.int .i64)) fun v6 =>
          ld (Addr.add ⟨n1, 0, none⟩ 1) (.lf (.int .i64)) fun v7 =>
          ld (Addr.add ⟨n1, 0, none⟩ 2) (.lf (.int .i64)) fun v8 =>
          cl PP 40 #[.pointer r2.1, .int .i64 v5, .int .i64 v6] [.lf (.int .i64)] fun r9 =>
          keep (LdAt (Addr.add ⟨n1, 0, none⟩ 2) [.int .i64 v8]) <|
          keep (LdAt (Addr.add ⟨n1, 0, none⟩ 1) [.int .i64 v7]) <|
          cl PP 49 #[.pointer r4.1, .int .i64 v7, .int .i64 v8] [.lf (.int .i64)] fun r10 =>
          j1 (r9.1, r10.1, ())) (
          ifB ((v4 : Int) == 1) (
           ld (Addr.add ⟨n1, 0, none⟩ 1) (.lf (.int .i64)) fun v9 =>
           ld (Addr.add ⟨n1, 0, none⟩ 2) (.lf (.int .i64)) fun v10 =>
           ld (Addr.add ⟨n1, 0, none⟩ 3) (.lf (.int .i64)) fun v11 =>
           ld (Addr.add ⟨n1, 0, none⟩ 4) (.lf (.int .i64)) fun v12 =>
           ld (Addr.add ⟨n1, 0, none⟩ 5) (.lf .sl) fun v13 =>
           ld (Addr.add ⟨n1, 0, none⟩ 1) (.lf (.int .i64)) fun v14 =>
           ld (Addr.add ⟨n1, 0, none⟩ 2) (.lf (.int .i64)) fun v15 =>
           ld (Addr.add ⟨n1, 0, none⟩ 3) (.lf (.int .i64)) fun v16 =>
           ld (Addr.add ⟨n1, 0, none⟩ 4) (.lf (.int .i64)) fun v17 =>
           ld (Addr.add ⟨n1, 0, none⟩ 5) (.lf .sl) fun v18 =>
           cl PP 41 #[.pointer r2.1, .int .i64 v9, .int .i64 v10, .int .i64 v11, .int .i64 v12, .slice v13.a v13.len v13.cap] [.lf (.int .i64)] fun r11 =>
           keep (LdAt (Addr.add ⟨n1, 0, none⟩ 5) [.slice v18.a v18.len v18.cap]) <|
           keep (LdAt (Addr.add ⟨n1, 0, none⟩ 4) [.int .i64 v17]) <|
           keep (LdAt (Addr.add ⟨n1, 0, none⟩ 3) [.int .i64 v16]) <|
           keep (LdAt (Addr.add ⟨n1, 0, none⟩ 2) [.int .i64 v15]) <|
           keep (LdAt (Addr.add ⟨n1, 0, none⟩ 1) [.int .i64 v14]) <|
           cl PP 50 #[.pointer r4.1, .int .i64 v14, .int .i64 v15, .int .i64 v16, .int .i64 v17, .slice v18.a v18.len v18.cap] [.lf (.int .i64)] fun r12 =>
           j1 (r11.1, r12.1, ())) (
           ifB ((v4 : Int) == 2) (
            ld (Addr.add ⟨n1, 0, none⟩ 1) (.lf (.int .i64)) fun v19 =>
            ld (Addr.add ⟨n1, 0, none⟩ 2) (.lf (.int .i64)) fun v20 =>
            ld (Addr.add ⟨n1, 0, none⟩ 3) (.lf (.int .i64)) fun v21 =>
            ld (Addr.add ⟨n1, 0, none⟩ 6) (.lf .sl) fun v22 =>
            ld (Addr.add ⟨n1, 0, none⟩ 1) (.lf (.int .i64)) fun v23 =>
            ld (Addr.add ⟨n1, 0, none⟩ 2) (.lf (.int .i64)) fun v24 =>
            ld (Addr.add ⟨n1, 0, none⟩ 3) (.lf (.int .i64)) fun v25 =>
            ld (Addr.add ⟨n1, 0, none⟩ 6) (.lf .sl) fun v26 =>
            cl PP 43 #[.pointer r2.1, .int .i64 v19, .int .i64 v20, .int .i64 v21, .slice v22.a v22.len v22.cap] [.lf (.int .i64)] fun r13 =>
            keep (LdAt (Addr.add ⟨n1, 0, none⟩ 6) [.slice v26.a v26.len v26.cap]) <|
            keep (LdAt (Addr.add ⟨n1, 0, none⟩ 3) [.int .i64 v25]) <|
            keep (LdAt (Addr.add ⟨n1, 0, none⟩ 2) [.int .i64 v24]) <|
            keep (LdAt (Addr.add ⟨n1, 0, none⟩ 1) [.int .i64 v23]) <|
            cl PP 51 #[.pointer r4.1, .int .i64 v23, .int .i64 v24, .int .i64 v25, .slice v26.a v26.len v26.cap] [.lf (.int .i64)] fun r14 =>
            j1 (r13.1, r14.1, ())) (
            ifB ((v4 : Int) == 3) (
             ld (Addr.add ⟨n1, 0, none⟩ 7) (.lf (.int .i64)) fun v27 =>
             ld (Addr.add ⟨n1, 0, none⟩ 8) (.lf (.int .i64)) fun v28 =>
             cl PP 39 #[.pointer r2.1, .int .i64 v27, .int .i64 v28] [] fun r15 =>
             ld (Addr.add ⟨n1, 0, none⟩ 7) (.lf (.int .i64)) fun v29 =>
             ld (Addr.add ⟨n1, 0, none⟩ 8) (.lf (.int .i64)) fun v30 =>
             cl PP 52 #[.pointer r4.1, .int .i64 v29, .int .i64 v30] [] fun r16 =>
             j1 (0, 0, ())) (
             ifB ((v4 : Int) == 4) (
              cl PP 44 #[.pointer r2.1] [] fun r17 =>
              cl PP 53 #[.pointer r4.1] [] fun r18 =>
              j1 (0, 0, ())) (
              ld (Addr.add ⟨n1, 0, none⟩ 1) (.lf (.int .i64)) fun v31 =>
              ld (Addr.add ⟨n1, 0, none⟩ 1) (.lf (.int .i64)) fun v32 =>
              cl PP 54 #[.pointer r2.1, .int .i64 v31] [.lf (.int .i64)] fun r19 =>
              keep (LdAt (Addr.add ⟨n1, 0, none⟩ 1) [.int .i64 v32]) <|
              cl PP 55 #[.pointer r4.1, .int .i64 v32] [.lf (.int .i64)] fun r20 =>
              j1 (r19.1, r20.1, ()))))))))) (
      cl PP 9 #[] [.lf .bool] fun r24 =>
      K (.bool r24.1))))
theorem e7 (x0 : SlV) (K : Value → HP) : flatFn PP h7 Try.f7 [.slice x0.a x0.len x0.cap] K = t7 x0 K := by kernel_rfl

/-- depot/depotref24.Few -/
def h8 : Hints := ⟨[(0, [(7, .lf (.int .i64))])], [], []⟩
def t8 (x0 : SlV) (x1 : Int) (x2 : Int) (K : Value → HP) : HP :=
  lp [.lf (.int .i64)] (0, ()) fun z1 go1 =>   -- i
   ifB (decide ((z1.1 : Int) < x0.len)) (
    ifB (decide ((z1.1 : Int) ≤ x1)) (
     nilc x0.a fun a1 =>
     ixn z1.1 x0.len <|
     ld (Addr.add a1 (z1.1.toNat * 1)) (.lf .sl) fun v1 =>
     ifB (decide ((v1.len : Int) > x2)) (
      K (.bool false)) (
      go1 (IntKind.i64.wrap (z1.1 + 1), ()))) (
     K (.bool (decide ((x0.len : Int) ≤ x1))))) (
    K (.bool (decide ((x0.len : Int) ≤ x1))))
theorem e8 (x0 : SlV) (x1 : Int) (x2 : Int) (K : Value → HP) : flatFn PP h8 Try.f8 [.slice x0.a x0.len x0.cap, .int .i64 x1, .int .i64 x2] K = t8 x0 x1 x2 K := by kernel_rfl

/-- depot/depotlaw25.regions -/
def h9 : Hints := ⟨[], [], []⟩
def t9 (K : Value → HP) : HP :=
  cl PP 47 #[] [.agg [.int .i64, .int .i64, .int .i64, .int .i64]] fun r1 =>
  cl PP 38 #[.agg #[.int .i64 r1.1.1, .int .i64 r1.1.2.1, .int .i64 r1.1.2.2.1, .int .i64 r1.1.2.2.2.1]] [.lf .ptr, .lf (.int .i64)] fun r2 =>
  ifB ((r2.2.1 : Int) != 0) (
   K (.bool false)) (
   cl PP 40 #[.pointer r2.1, .int .i64 0, .int .i64 7] [.lf (.int .i64)] fun r3 =>
   nw (.cells #[.int .u8 5] 5) fun n1 =>
   nw (.cells #[.slice (some ⟨n1, 0, none⟩) 1 1] 40) fun n2 =>
   cl PP 41 #[.pointer r2.1, .int .i64 0, .int .i64 7, .int .i64 1, .int .i64 2, .slice (some ⟨n2, 0, none⟩) 1 1] [.lf (.int .i64)] fun r4 =>
   nw (.cells #[.int .u8 6] 5) fun n3 =>
   nw (.cells #[.int .u8 7] 5) fun n4 =>
   nw (.cells #[.slice (some ⟨n3, 0, none⟩) 1 1, .slice (some ⟨n4, 0, none⟩) 1 1] 40) fun n5 =>
   cl PP 41 #[.pointer r2.1, .int .i64 0, .int .i64 7, .int .i64 2, .int .i64 2, .slice (some ⟨n5, 0, none⟩) 2 2] [.lf (.int .i64)] fun r5 =>
   cl PP 46 #[.pointer r2.1, .int .i64 0] [.lf .sl, .lf (.int .i64)] fun r6 =>
   cl PP 10 #[.slice r6.1.a r6.1.len r6.1.cap] [.agg [.int .i64, .bool, .sl], .lf .bool] fun r7 =>
   nw (.cells #[.int .i64 0, .bool false, .slice none 0 0] 29) fun n6 =>
   st ⟨n6, 0, none⟩ [.int .i64 r7.1.1, .bool r7.1.2.1, .slice r7.1.2.2.1.a r7.1.2.2.1.len r7.1.2.2.1.cap] <|
   ld (Addr.add ⟨n6, 0, none⟩ 2) (.lf .sl) fun v1 =>
   cl PP 43 #[.pointer r2.1, .int .i64 0, .int .i64 7, .int .i64 4, .slice v1.a v1.len v1.cap] [.lf (.int .i64)] fun r8 =>
   cl PP 46 #[.pointer r2.1, .int .i64 0] [.lf .sl, .lf (.int .i64)] fun r9 =>
   cl PP 10 #[.slice r9.1.a r9.1.len r9.1.cap] [.agg [.int .i64, .bool, .sl], .lf .bool] fun r10 =>
   nw (.cells #[.int .i64 0, .bool false, .slice none 0 0] 29) fun n7 =>
   st ⟨n7, 0, none⟩ [.int .i64 r10.1.1, .bool r10.1.2.1, .slice r10.1.2.2.1.a r10.1.2.2.1.len r10.1.2.2.1.cap] <|
   cl PP 14 #[.slice r9.1.a r9.1.len r9.1.cap, .agg #[.int .i64 2, .int .i64 2, .int .i64 2]] [.lf .sl] fun r11 =>
   nw (.cells #[.int .i64 1, .int .i64 2, .int .i64 3] 104) fun n8 =>
   cl PP 16 #[.slice (some ⟨n8, 0, none⟩) 1 1] [.lf .sl, .lf (.int .i64)] fun r12 =>
   cl PP 18 #[.slice r12.1.a r12.1.len r12.1.cap] [.lf .sl, .lf (.int .i64)] fun r13 =>
   ifB ((r3.1 : Int) == 0) (
    ifB ((r4.1 : Int) == 0) (
     ifB ((r5.1 : Int) == 0) (
      ifB ((r8.1 : Int) == 0) (
       ifB ((r6.2.1 : Int) == 0) (
        ifB ((r9.2.1 : Int) == 0) (
         ifB r7.2.1 (
          ld (Addr.add ⟨n6, 0, none⟩ 1) (.lf .bool) fun v2 =>
          ifB (!v2) (
           ifB r10.2.1 (
            ld (Addr.add ⟨n7, 0, none⟩ 1) (.lf .bool) fun v3 =>
            ifB v3 (
             ld ⟨n7, 0, none⟩ (.lf (.int .i64)) fun v4 =>
             ifB ((v4 : Int) == 7) (
              ld (Addr.add ⟨n7, 0, none⟩ 2) (.lf .sl) fun v5 =>
              ifB ((v5.len : Int) == 2) (
               ld (Addr.add ⟨n6, 0, none⟩ 2) (.lf .sl) fun v6 =>
               ld (Addr.add ⟨n7, 0, none⟩ 2) (.lf .sl) fun v7 =>
               cl PP 12 #[.slice v6.a v6.len v6.cap, .slice v7.a v7.len v7.cap] [.lf .bool] fun r14 =>
               ifB r14.1 (
                ifB ((r11.1.len : Int) == 2) (
                 nilc r11.1.a fun a1 =>
                 ixn 1 r11.1.len <|
                 ld (Addr.add a1 ((1 : Int).toNat * 1)) (.lf .sl) fun v8 =>
                 ifB ((v8.len : Int) == 1) (
                  nilc r11.1.a fun a2 =>
                  ixn 1 r11.1.len <|
                  ld (Addr.add a2 ((1 : Int).toNat * 1)) (.lf .sl) fun v9 =>
                  nilc v9.a fun a3 =>
                  ixn 0 v9.len <|
                  ld (Addr.add a3 ((0 : Int).toNat * 1)) (.lf (.int .u8)) fun v10 =>
                  ifB ((v10 : Int) == 7) (
                   ifB ((r12.2.1 : Int) == 0) (
                    ifB ((r12.1.len : Int) == 6) (
                     ifB ((r13.2.1 : Int) == 0) (
                      ifB ((r13.1.len : Int) == 1) (
                       nilc r13.1.a fun a4 =>
                       ixn 0 r13.1.len <|
                       ld (Addr.add (Addr.add a4 ((0 : Int).toNat * 3)) 2) (.lf (.int .i64)) fun v11 =>
                       K (.bool ((v11 : Int) == 3))) (
                       K (.bool false))) (
                      K (.bool false))) (
                     K (.bool false))) (
                    K (.bool false))) (
                   K (.bool false))) (
                  K (.bool false))) (
                 K (.bool false))) (
                K (.bool false))) (
               K (.bool false))) (
              K (.bool false))) (
             K (.bool false))) (
            K (.bool false))) (
           K (.bool false))) (
          K (.bool false))) (
         K (.bool false))) (
        K (.bool false))) (
       K (.bool false))) (
      K (.bool false))) (
     K (.bool false))) (
    K (.bool false)))
theorem e9 (K : Value → HP) : flatFn PP h9 Try.f9 [] K = t9 K := by kernel_rfl

/-- depot/region.Scan -/
def h10 : Hints := ⟨[], [(12, [])], [(12, [0, 1, 2, 4, 5, 6, 3, 7, 8, 9, 10])]⟩
def t10 (x0 : SlV) (K : Value → HP) : HP :=
  nw (.cells #[.int .i64 0, .bool false, .slice none 0 0] 29) fun n1 =>
  cl PP 57 #[.slice x0.a x0.len x0.cap] [.lf .ptr] fun r1 =>
  nilc r1.1 fun a1 =>
  ld a1 (.lf .sl) fun v1 =>
  ifB ((v1.len : Int) == 0) (
   st ⟨n1, 0, none⟩ [.int .i64 0, .bool false, .slice none 0 0] <|
   ld ⟨n1, 0, none⟩ (.agg [.int .i64, .bool, .sl]) fun v2 =>
   K (.tuple #[.agg #[.int .i64 v2.1, .bool v2.2.1, .slice v2.2.2.1.a v2.2.2.1.len v2.2.2.1.cap], .bool false])) (
   nilc r1.1 fun a2 =>
   ld a2 (.lf .sl) fun v3 =>
   nilc v3.a fun a3 =>
   ixn 0 v3.len <|
   ld (Addr.add (Addr.add a3 ((0 : Int).toNat * 7)) 3) (.lf (.int .i64)) fun v4 =>
   nilc r1.1 fun a4 =>
   st (Addr.add a4 1) [.int .i64 v4] <|
   cl PP 58 #[.pointer r1.1, .int .i64 0, .agg #[.int .i64 1, .int .i64 0, .int .i64 1, .int .i64 0, .int .i64 0]] [.lf .sl, .lf .bool] fun r2 =>
   ifB (!r2.2.1) (
    st ⟨n1, 0, none⟩ [.int .i64 0, .bool false, .slice none 0 0] <|
    ld ⟨n1, 0, none⟩ (.agg [.int .i64, .bool, .sl]) fun v5 =>
    K (.tuple #[.agg #[.int .i64 v5.1, .bool v5.2.1, .slice v5.2.2.1.a v5.2.2.1.len v5.2.2.1.cap], .bool false])) (
    ifB (decide ((r2.1.len : Int) > 0)) (
     st ⟨n1, 0, none⟩ [.int .i64 0, .bool false, .slice none 0 0] <|
     ld ⟨n1, 0, none⟩ (.agg [.int .i64, .bool, .sl]) fun v6 =>
     K (.tuple #[.agg #[.int .i64 v6.1, .bool v6.2.1, .slice v6.2.2.1.a v6.2.2.1.len v6.2.2.1.cap], .bool false])) (
     jn (fun y1 : RsV [] =>
      nilc r1.1 fun a7 =>
      ld (Addr.add a7 1) (.lf (.int .i64)) fun v10 =>
      cl PP 60 #[.pointer r1.1, .func (.func 61) #[.pointer r1.1] #[]] [.lf .sl] fun r4 =>
      keep (LdAt (Addr.add a7 1) [.int .i64 v10]) <|
      st ⟨n1, 0, none⟩ [.int .i64 v10, .bool false, .slice r4.1.a r4.1.len r4.1.cap] <|
      ld ⟨n1, 0, none⟩ (.agg [.int .i64, .bool, .sl]) fun v11 =>
      K (.tuple #[.agg #[.int .i64 v11.1, .bool v11.2.1, .slice v11.2.2.1.a v11.2.2.1.len v11.2.2.1.cap], .bool true])) fun j1 =>
     nilc r1.1 fun a5 =>
      ld (Addr.add a5 2) (.lf (.int .i64)) fun v7 =>
      ifB (decide ((v7 : Int) > 0)) (
       cl PP 59 #[.pointer r1.1] [.lf .sl, .lf .bool] fun r3 =>
       ifB r3.2.1 (
        nilc r1.1 fun a6 =>
        ld (Addr.add a6 1) (.lf (.int .i64)) fun v8 =>
        st ⟨n1, 0, none⟩ [.int .i64 v8, .bool true, .slice r3.1.a r3.1.len r3.1.cap] <|
        ld ⟨n1, 0, none⟩ (.agg [.int .i64, .bool, .sl]) fun v9 =>
        K (.tuple #[.agg #[.int .i64 v9.1, .bool v9.2.1, .slice v9.2.2.1.a v9.2.2.1.len v9.2.2.1.cap], .bool true])) (
        j1 (()))) (
       j1 (())))))
theorem e10 (x0 : SlV) (K : Value → HP) : flatFn PP h10 Try.f10 [.slice x0.a x0.len x0.cap] K = t10 x0 K := by kernel_rfl

end Go.Proofs.Ytlabcgnegbdlfaa
set_option linter.unusedVariables false
set_option maxRecDepth 100000
namespace Go.Proofs.Ytlabcgnegbdlfaa
open Go.HL
/-- depot/depotref25.Scan -/
def h11 : Hints := ⟨[(0, [(10, .lf (.int .i64))]), (2, [(15, .lf (.int .i64))])], [(19, []), (19, [])], []⟩
def t11 (x0 : SlV) (K : Value → HP) : HP :=
  nw (.cells #[.int .i64 0, .bool false, .slice none 0 0] 32) fun n1 =>
  ifB ((x0.len : Int) == 0) (
   st ⟨n1, 0, none⟩ [.int .i64 0, .bool false, .slice none 0 0] <|
   ld ⟨n1, 0, none⟩ (.agg [.int .i64, .bool, .sl]) fun v1 =>
   K (.tuple #[.agg #[.int .i64 v1.1, .bool v1.2.1, .slice v1.2.2.1.a v1.2.2.1.len v1.2.2.1.cap], .bool false])) (
   nilc x0.a fun a1 =>
   ixn 0 x0.len <|
   ld (Addr.add a1 ((0 : Int).toNat * 1)) (.lf .sl) fun v2 =>
   cl PP 62 #[.slice v2.a v2.len v2.cap] [.agg [.int .i64, .int .i64, .int .i64, .int .i64, .int .i64], .lf .sl, .lf (.int .i64)] fun r1 =>
   nw (.cells #[.int .i64 0, .int .i64 0, .int .i64 0, .int .i64 0, .int .i64 0] 111) fun n2 =>
   st ⟨n2, 0, none⟩ [.int .i64 r1.1.1, .int .i64 r1.1.2.1, .int .i64 r1.1.2.2.1, .int .i64 r1.1.2.2.2.1, .int .i64 r1.1.2.2.2.2.1] <|
   ld (Addr.add ⟨n2, 0, none⟩ 3) (.lf (.int .i64)) fun v3 =>
   cl PP 63 #[.slice x0.a x0.len x0.cap, .int .i64 0, .agg #[.int .i64 1, .int .i64 0, .int .i64 1, .int .i64 v3, .int .i64 0]] [.lf .sl, .lf .bool] fun r2 =>
   ifB (!r2.2.1) (
    st ⟨n1, 0, none⟩ [.int .i64 0, .bool false, .slice none 0 0] <|
    ld ⟨n1, 0, none⟩ (.agg [.int .i64, .bool, .sl]) fun v4 =>
    K (.tuple #[.agg #[.int .i64 v4.1, .bool v4.2.1, .slice v4.2.2.1.a v4.2.2.1.len v4.2.2.1.cap], .bool false])) (
    ifB (decide ((r2.1.len : Int) > 0)) (
     st ⟨n1, 0, none⟩ [.int .i64 0, .bool false, .slice none 0 0] <|
     ld ⟨n1, 0, none⟩ (.agg [.int .i64, .bool, .sl]) fun v5 =>
     K (.tuple #[.agg #[.int .i64 v5.1, .bool v5.2.1, .slice v5.2.2.1.a v5.2.2.1.len v5.2.2.1.cap], .bool false])) (
     ld (Addr.add ⟨n2, 0, none⟩ 3) (.lf (.int .i64)) fun v6 =>
     nw (.cells #[.int .i64 0, .bool false, .slice none 0 0] 32) fun n3 =>
     st ⟨n3, 0, none⟩ [.int .i64 v6, .bool false, .slice none 0 0] <|
     lp [.lf (.int .i64)] (IntKind.i64.wrap ((imin x0.len 16) - 1), ()) fun z1 go1 =>   -- last
      ifB (decide ((z1.1 : Int) > 0)) (
       nilc x0.a fun a2 =>
       ixn z1.1 x0.len <|
       ld (Addr.add a2 (z1.1.toNat * 1)) (.lf .sl) fun v7 =>
       cl PP 64 #[.slice v7.a v7.len v7.cap] [.lf .bool] fun r3 =>
       ifB r3.1 (
        go1 (IntKind.i64.wrap (z1.1 - 1), ())) (
        jn (fun y1 : RsV [] =>
         lp [.lf (.int .i64)] (1, ()) fun z2 go2 =>   -- at
          ifB (decide ((z2.1 : Int) ≤ z1.1)) (
           ld (Addr.add ⟨n2, 0, none⟩ 3) (.lf (.int .i64)) fun v11 =>
           cl PP 66 #[.slice x0.a x0.len x0.cap, .int .i64 z2.1, .int .i64 v11] [.agg [.int .i64, .int .i64, .int .i64], .lf .bool] fun r6 =>
           nw (.cells #[.int .i64 0, .int .i64 0, .int .i64 0] 24) fun n4 =>
           st ⟨n4, 0, none⟩ [.int .i64 r6.1.1, .int .i64 r6.1.2.1, .int .i64 r6.1.2.2.1] <|
           ifB r6.2.1 (
            ld (Addr.add ⟨n3, 0, none⟩ 2) (.lf .sl) fun v12 =>
            ld ⟨n4, 0, none⟩ (.agg [.int .i64, .int .i64, .int .i64]) fun v13 =>
            nw (.cells #[.int .i64 v13.1, .int .i64 v13.2.1, .int .i64 v13.2.2.1] 24) fun n5 =>
            smW PP (Builtin.append_ #[27, 27] 27 #[.slice v12.a v12.len v12.cap, .slice (some ⟨n5, 0, none⟩) 1 1]) [.lf .sl] fun v14 =>
            st (Addr.add ⟨n3, 0, none⟩ 2) [.slice v14.1.a v14.1.len v14.1.cap] <|
            ld (Addr.add ⟨n4, 0, none⟩ 2) (.lf (.int .i64)) fun v15 =>
            go2 (IntKind.i64.wrap (z2.1 + v15), ())) (
            go2 (IntKind.i64.wrap (z2.1 + 1), ()))) (
           ld ⟨n3, 0, none⟩ (.agg [.int .i64, .bool, .sl]) fun v16 =>
           st ⟨n1, 0, none⟩ [.int .i64 v16.1, .bool v16.2.1, .slice v16.2.2.1.a v16.2.2.1.len v16.2.2.1.cap] <|
           ld ⟨n1, 0, none⟩ (.agg [.int .i64, .bool, .sl]) fun v17 =>
           K (.tuple #[.agg #[.int .i64 v17.1, .bool v17.2.1, .slice v17.2.2.1.a v17.2.2.1.len v17.2.2.1.cap], .bool true]))) fun j1 =>
        ifB (decide ((z1.1 : Int) > 0)) (
          ld (Addr.add ⟨n2, 0, none⟩ 3) (.lf (.int .i64)) fun v8 =>
          cl PP 63 #[.slice x0.a x0.len x0.cap, .int .i64 z1.1, .agg #[.int .i64 4, .int .i64 0, .int .i64 1, .int .i64 v8, .int .i64 z1.1]] [.lf .sl, .lf .bool] fun r4 =>
          ifB r4.2.1 (
           cl PP 65 #[.slice r4.1.a r4.1.len r4.1.cap, .int .i64 z1.1] [.lf .sl, .lf .bool] fun r5 =>
           ifB r5.2.1 (
            st (Addr.add ⟨n3, 0, none⟩ 1) [.bool true] <|
            st (Addr.add ⟨n3, 0, none⟩ 2) [.slice r5.1.a r5.1.len r5.1.cap] <|
            ld ⟨n3, 0, none⟩ (.agg [.int .i64, .bool, .sl]) fun v9 =>
            st ⟨n1, 0, none⟩ [.int .i64 v9.1, .bool v9.2.1, .slice v9.2.2.1.a v9.2.2.1.len v9.2.2.1.cap] <|
            ld ⟨n1, 0, none⟩ (.agg [.int .i64, .bool, .sl]) fun v10 =>
            K (.tuple #[.agg #[.int .i64 v10.1, .bool v10.2.1, .slice v10.2.2.1.a v10.2.2.1.len v10.2.2.1.cap], .bool true])) (
            j1 (()))) (
           j1 (()))) (
          j1 (())))) (
       jn (fun y2 : RsV [] =>
        lp [.lf (.int .i64)] (1, ()) fun z3 go3 =>   -- at
         ifB (decide ((z3.1 : Int) ≤ z1.1)) (
          ld (Addr.add ⟨n2, 0, none⟩ 3) (.lf (.int .i64)) fun v21 =>
          cl PP 66 #[.slice x0.a x0.len x0.cap, .int .i64 z3.1, .int .i64 v21] [.agg [.int .i64, .int .i64, .int .i64], .lf .bool] fun r9 =>
          nw (.cells #[.int .i64 0, .int .i64 0, .int .i64 0] 24) fun n6 =>
          st ⟨n6, 0, none⟩ [.int .i64 r9.1.1, .int .i64 r9.1.2.1, .int .i64 r9.1.2.2.1] <|
          ifB r9.2.1 (
           ld (Addr.add ⟨n3, 0, none⟩ 2) (.lf .sl) fun v22 =>
           ld ⟨n6, 0, none⟩ (.agg [.int .i64, .int .i64, .int .i64]) fun v23 =>
           nw (.cells #[.int .i64 v23.1, .int .i64 v23.2.1, .int .i64 v23.2.2.1] 24) fun n7 =>
           smW PP (Builtin.append_ #[27, 27] 27 #[.slice v22.a v22.len v22.cap, .slice (some ⟨n7, 0, none⟩) 1 1]) [.lf .sl] fun v24 =>
           st (Addr.add ⟨n3, 0, none⟩ 2) [.slice v24.1.a v24.1.len v24.1.cap] <|
           ld (Addr.add ⟨n6, 0, none⟩ 2) (.lf (.int .i64)) fun v25 =>
           go3 (IntKind.i64.wrap (z3.1 + v25), ())) (
           go3 (IntKind.i64.wrap (z3.1 + 1), ()))) (
          ld ⟨n3, 0, none⟩ (.agg [.int .i64, .bool, .sl]) fun v26 =>
          st ⟨n1, 0, none⟩ [.int .i64 v26.1, .bool v26.2.1, .slice v26.2.2.1.a v26.2.2.1.len v26.2.2.1.cap] <|
          ld ⟨n1, 0, none⟩ (.agg [.int .i64, .bool, .sl]) fun v27 =>
          K (.tuple #[.agg #[.int .i64 v27.1, .bool v27.2.1, .slice v27.2.2.1.a v27.2.2.1.len v27.2.2.1.cap], .bool true]))) fun j2 =>
       ifB (decide ((z1.1 : Int) > 0)) (
         ld (Addr.add ⟨n2, 0, none⟩ 3) (.lf (.int .i64)) fun v18 =>
         cl PP 63 #[.slice x0.a x0.len x0.cap, .int .i64 z1.1, .agg #[.int .i64 4, .int .i64 0, .int .i64 1, .int .i64 v18, .int .i64 z1.1]] [.lf .sl, .lf .bool] fun r7 =>
         ifB r7.2.1 (
          cl PP 65 #[.slice r7.1.a r7.1.len r7.1.cap, .int .i64 z1.1] [.lf .sl, .lf .bool] fun r8 =>
          ifB r8.2.1 (
           st (Addr.add ⟨n3, 0, none⟩ 1) [.bool true] <|
           st (Addr.add ⟨n3, 0, none⟩ 2) [.slice r8.1.a r8.1.len r8.1.cap] <|
           ld ⟨n3, 0, none⟩ (.agg [.int .i64, .bool, .sl]) fun v19 =>
           st ⟨n1, 0, none⟩ [.int .i64 v19.1, .bool v19.2.1, .slice v19.2.2.1.a v19.2.2.1.len v19.2.2.1.cap] <|
           ld ⟨n1, 0, none⟩ (.agg [.int .i64, .bool, .sl]) fun v20 =>
           K (.tuple #[.agg #[.int .i64 v20.1, .bool v20.2.1, .slice v20.2.2.1.a v20.2.2.1.len v20.2.2.1.cap], .bool true])) (
           j2 (()))) (
          j2 (()))) (
         j2 (()))))))
theorem e11 (x0 : SlV) (K : Value → HP) : flatFn PP h11 Try.f11 [.slice x0.a x0.len x0.cap] K = t11 x0 K := by kernel_rfl

/-- depot/depotref25.Items -/
def h12 : Hints := ⟨[(0, [(5, .lf (.int .i64))])], [], [(6, [0, 1, 2, 4, 5, 6, 3, 7, 8])]⟩
def t12 (x0 : SlV) (x1 : SlV) (K : Value → HP) : HP :=
  ifB ((x0.len : Int) != x1.len) (
   K (.bool false)) (
   lp [.lf (.int .i64)] (0, ()) fun z1 go1 =>   -- i
    ifB (decide ((z1.1 : Int) < x0.len)) (
     nilc x0.a fun a1 =>
     ixn z1.1 x0.len <|
     nilc x1.a fun a2 =>
     ixn z1.1 x1.len <|
     ld (Addr.add a1 (z1.1.toNat * 3)) (.agg [.int .i64, .int .i64, .int .i64]) fun v1 =>
     ld (Addr.add a2 (z1.1.toNat * 3)) (.agg [.int .i64, .int .i64, .int .i64]) fun v2 =>
     smP PP (binOp .neq 24 (.agg #[.int .i64 v1.1, .int .i64 v1.2.1, .int .i64 v1.2.2.1]) (.agg #[.int .i64 v2.1, .int .i64 v2.2.1, .int .i64 v2.2.2.1])) (.lf .bool) fun v3 =>
     ifB v3 (
      K (.bool false)) (
      go1 (IntKind.i64.wrap (z1.1 + 1), ()))) (
     K (.bool true)))
theorem e12 (x0 : SlV) (x1 : SlV) (K : Value → HP) : flatFn PP h12 Try.f12 [.slice x0.a x0.len x0.cap, .slice x1.a x1.len x1.cap] K = t12 x0 x1 K := by kernel_rfl

/-- depot/depotref24.Same -/
def h13 : Hints := ⟨[(0, [(5, .lf (.int .i64))])], [], [(6, [0, 1, 2, 5, 6, 7, 3, 4, 8, 9, 10])]⟩
def t13 (x0 : SlV) (x1 : SlV) (K : Value → HP) : HP :=
  ifB ((x0.len : Int) != x1.len) (
   K (.bool false)) (
   lp [.lf (.int .i64)] (0, ()) fun z1 go1 =>   -- i
    ifB (decide ((z1.1 : Int) < x0.len)) (
     nilc x0.a fun a1 =>
     ixn z1.1 x0.len <|
     nilc x1.a fun a2 =>
     ixn z1.1 x1.len <|
     ld (Addr.add a1 (z1.1.toNat * 1)) (.lf .sl) fun v1 =>
     smR PP (Conv.bytesToString (.slice v1.a v1.len v1.cap)) [.lf .str] fun v2 =>
     ld (Addr.add a2 (z1.1.toNat * 1)) (.lf .sl) fun v3 =>
     smR PP (Conv.bytesToString (.slice v3.a v3.len v3.cap)) [.lf .str] fun v4 =>
     ifB (!(ByteArray.toList v2.1 == ByteArray.toList v4.1)) (
      K (.bool false)) (
      go1 (IntKind.i64.wrap (z1.1 + 1), ()))) (
     K (.bool true)))
theorem e13 (x0 : SlV) (x1 : SlV) (K : Value → HP) : flatFn PP h13 Try.f13 [.slice x0.a x0.len x0.cap, .slice x1.a x1.len x1.cap] K = t13 x0 x1 K := by kernel_rfl

/-- depot/region.Parts -/
def h14 : Hints := ⟨[(0, [(5, .lf .sl), (6, .lf (.int .i64))])], [], []⟩
def t14 (x0 : SlV) (x1 : ShV (.agg [.int .i64, .int .i64, .int .i64])) (K : Value → HP) : HP :=
  nw (.cells #[.int .i64 x1.1, .int .i64 x1.2.1, .int .i64 x1.2.2.1] 24) fun n1 =>
  lp [.lf .sl, .lf (.int .i64)] (⟨none, 0, 0⟩, 0, ()) fun z1 go1 =>   -- l, i
   ld (Addr.add ⟨n1, 0, none⟩ 2) (.lf (.int .i64)) fun v1 =>
   ifB (decide ((z1.2.1 : Int) < v1)) (
    ld (Addr.add ⟨n1, 0, none⟩ 1) (.lf (.int .i64)) fun v2 =>
    ifB (decide ((v2 : Int) < 0)) (
     K (.slice none 0 0)) (
     ld (Addr.add ⟨n1, 0, none⟩ 1) (.lf (.int .i64)) fun v3 =>
     ifB (decide ((v3 : Int) ≥ (IntKind.i64.wrap (x0.len - z1.2.1)))) (
      K (.slice none 0 0)) (
      ld (Addr.add ⟨n1, 0, none⟩ 1) (.lf (.int .i64)) fun v4 =>
      nilc x0.a fun a1 =>
      ixn (IntKind.i64.wrap (v4 + z1.2.1)) x0.len <|
      ld (Addr.add a1 ((IntKind.i64.wrap (v4 + z1.2.1)).toNat * 1)) (.lf .sl) fun v5 =>
      cl PP 67 #[.slice v5.a v5.len v5.cap] [.agg [.int .i64, .int .i64, .int .i64, .int .i64, .int .i64], .lf .sl, .lf (.int .i64)] fun r1 =>
      nw (.cells #[.int .i64 0, .int .i64 0, .int .i64 0, .int .i64 0, .int .i64 0] 111) fun n2 =>
      st ⟨n2, 0, none⟩ [.int .i64 r1.1.1, .int .i64 r1.1.2.1, .int .i64 r1.1.2.2.1, .int .i64 r1.1.2.2.2.1, .int .i64 r1.1.2.2.2.2.1] <|
      ifB ((r1.2.2.1 : Int) != 0) (
       K (.slice none 0 0)) (
       nw (.cells #[.slice r1.2.1.a r1.2.1.len r1.2.1.cap] 40) fun n3 =>
       smW PP (Builtin.append_ #[22, 22] 22 #[.slice z1.1.a z1.1.len z1.1.cap, .slice (some ⟨n3, 0, none⟩) 1 1]) [.lf .sl] fun v6 =>
       go1 (⟨v6.1.a, v6.1.len, v6.1.cap⟩, IntKind.i64.wrap (z1.2.1 + 1), ()))))) (
    K (.slice z1.1.a z1.1.len z1.1.cap))
theorem e14 (x0 : SlV) (x1 : ShV (.agg [.int .i64, .int .i64, .int .i64])) (K : Value → HP) : flatFn PP h14 Try.f14 [.slice x0.a x0.len x0.cap, .agg #[.int .i64 x1.1, .int .i64 x1.2.1, .int .i64 x1.2.2.1]] K = t14 x0 x1 K := by kernel_rfl

/-- depot/depotref25.Parts -/
def h15 : Hints := ⟨[(0, [(5, .lf .sl), (6, .lf (.int .i64))])], [], []⟩
def t15 (x0 : SlV) (x1 : ShV (.agg [.int .i64, .int .i64, .int .i64])) (K : Value → HP) : HP :=
  nw (.cells #[.int .i64 x1.1, .int .i64 x1.2.1, .int .i64 x1.2.2.1] 24) fun n1 =>
  lp [.lf .sl, .lf (.int .i64)] (⟨none, 0, 0⟩, 0, ()) fun z1 go1 =>   -- out, i
   ld (Addr.add ⟨n1, 0, none⟩ 2) (.lf (.int .i64)) fun v1 =>
   ifB (decide ((z1.2.1 : Int) < v1)) (
    ld (Addr.add ⟨n1, 0, none⟩ 1) (.lf (.int .i64)) fun v2 =>
    ifB (decide ((v2 : Int) < 0)) (
     K (.slice none 0 0)) (
     ld (Addr.add ⟨n1, 0, none⟩ 1) (.lf (.int .i64)) fun v3 =>
     ifB (decide ((v3 : Int) ≥ x0.len)) (
      K (.slice none 0 0)) (
      ld (Addr.add ⟨n1, 0, none⟩ 1) (.lf (.int .i64)) fun v4 =>
      ifB (decide ((IntKind.i64.wrap (v4 + z1.2.1) : Int) ≥ x0.len)) (
       K (.slice none 0 0)) (
       ld (Addr.add ⟨n1, 0, none⟩ 1) (.lf (.int .i64)) fun v5 =>
       nilc x0.a fun a1 =>
       ixn (IntKind.i64.wrap (v5 + z1.2.1)) x0.len <|
       ld (Addr.add a1 ((IntKind.i64.wrap (v5 + z1.2.1)).toNat * 1)) (.lf .sl) fun v6 =>
       cl PP 62 #[.slice v6.a v6.len v6.cap] [.agg [.int .i64, .int .i64, .int .i64, .int .i64, .int .i64], .lf .sl, .lf (.int .i64)] fun r1 =>
       nw (.cells #[.int .i64 0, .int .i64 0, .int .i64 0, .int .i64 0, .int .i64 0] 111) fun n2 =>
       st ⟨n2, 0, none⟩ [.int .i64 r1.1.1, .int .i64 r1.1.2.1, .int .i64 r1.1.2.2.1, .int .i64 r1.1.2.2.2.1, .int .i64 r1.1.2.2.2.2.1] <|
       ifB ((r1.2.2.1 : Int) != 0) (
        K (.slice none 0 0)) (
        nw (.cells #[.slice r1.2.1.a r1.2.1.len r1.2.1.cap] 40) fun n3 =>
        smW PP (Builtin.append_ #[22, 22] 22 #[.slice z1.1.a z1.1.len z1.1.cap, .slice (some ⟨n3, 0, none⟩) 1 1]) [.lf .sl] fun v7 =>
        go1 (⟨v7.1.a, v7.1.len, v7.1.cap⟩, IntKind.i64.wrap (z1.2.1 + 1), ())))))) (
    K (.slice z1.1.a z1.1.len z1.1.cap))
theorem e15 (x0 : SlV) (x1 : ShV (.agg [.int .i64, .int .i64, .int .i64])) (K : Value → HP) : flatFn PP h15 Try.f15 [.slice x0.a x0.len x0.cap, .agg #[.int .i64 x1.1, .int .i64 x1.2.1, .int .i64 x1.2.2.1]] K = t15 x0 x1 K := by kernel_rfl

/-- depot/region.KillLoad -/
def h16 : Hints := ⟨[(0, [(4, .lf .sl), (9, .lf (.int .i64))])], [], []⟩
def t16 (x0 : SlV) (K : Value → HP) : HP :=
  lp [.lf .sl, .lf (.int .i64)] (⟨none, 0, 0⟩, 0, ()) fun z1 go1 =>   -- b, 
   ifB (decide ((z1.2.1 : Int) < x0.len)) (
    nilc x0.a fun a1 =>
    ixn z1.2.1 x0.len <|
    ld (Addr.add a1 (z1.2.1.toNat * 3)) (.agg [.int .i64, .int .i64, .int .i64]) fun v1 =>
    nw (.cells #[.int .i64 0, .int .i64 0, .int .i64 0] 104) fun n1 =>
    st ⟨n1, 0, none⟩ [.int .i64 v1.1, .int .i64 v1.2.1, .int .i64 v1.2.2.1] <|
    ld ⟨n1, 0, none⟩ (.agg [.int .i64, .int .i64, .int .i64]) fun v2 =>
    cl PP 68 #[.agg #[.int .i64 v2.1, .int .i64 v2.2.1, .int .i64 v2.2.2.1]] [.lf .bool] fun r1 =>
    ifB (!r1.1) (
     K (.tuple #[.slice none 0 0, .int .i64 3])) (
     ld ⟨n1, 0, none⟩ (.lf (.int .i64)) fun v3 =>
     ld (Addr.add ⟨n1, 0, none⟩ 1) (.lf (.int .i64)) fun v4 =>
     nw (.cells #[.int .i64 v3, .int .i64 v4] 3) fun n2 =>
     cl PP 69 #[.slice z1.1.a z1.1.len z1.1.cap, .slice (some ⟨n2, 0, none⟩) 2 2] [.lf .sl, .lf .bool] fun r2 =>
     ld (Addr.add ⟨n1, 0, none⟩ 2) (.lf (.int .i64)) fun v5 =>
     cl PP 70 #[.slice r2.1.a r2.1.len r2.1.cap, .int .i64 v5, .int .i64 4] [.lf .sl, .lf (.int .i64)] fun r3 =>
     go1 (⟨r3.1.a, r3.1.len, r3.1.cap⟩, IntKind.i64.wrap (z1.2.1 + 1), ()))) (
    K (.tuple #[.slice z1.1.a z1.1.len z1.1.cap, .int .i64 0]))
theorem e16 (x0 : SlV) (K : Value → HP) : flatFn PP h16 Try.f16 [.slice x0.a x0.len x0.cap] K = t16 x0 K := by kernel_rfl

/-- depot/depotref25.KillLoad -/
def h17 : Hints := ⟨[(0, [(4, .lf .sl), (5, .lf (.int .i64))])], [], []⟩
def t17 (x0 : SlV) (K : Value → HP) : HP :=
  lp [.lf .sl, .lf (.int .i64)] (⟨none, 0, 0⟩, 0, ()) fun z1 go1 =>   -- b, i
   ifB (decide ((z1.2.1 : Int) < x0.len)) (
    nilc x0.a fun a1 =>
    ixn z1.2.1 x0.len <|
    ld (Addr.add a1 (z1.2.1.toNat * 3)) (.agg [.int .i64, .int .i64, .int .i64]) fun v1 =>
    nw (.cells #[.int .i64 0, .int .i64 0, .int .i64 0] 104) fun n1 =>
    st ⟨n1, 0, none⟩ [.int .i64 v1.1, .int .i64 v1.2.1, .int .i64 v1.2.2.1] <|
    ld ⟨n1, 0, none⟩ (.lf (.int .i64)) fun v2 =>
    ifB (decide ((v2 : Int) < 0)) (
     K (.tuple #[.slice none 0 0, .int .i64 3])) (
     ld ⟨n1, 0, none⟩ (.lf (.int .i64)) fun v3 =>
     ifB (decide ((v3 : Int) > 15)) (
      K (.tuple #[.slice none 0 0, .int .i64 3])) (
      ld (Addr.add ⟨n1, 0, none⟩ 1) (.lf (.int .i64)) fun v4 =>
      ifB (decide ((v4 : Int) < 0)) (
       K (.tuple #[.slice none 0 0, .int .i64 3])) (
       ld (Addr.add ⟨n1, 0, none⟩ 1) (.lf (.int .i64)) fun v5 =>
       ifB (decide ((v5 : Int) > 15)) (
        K (.tuple #[.slice none 0 0, .int .i64 3])) (
        ld (Addr.add ⟨n1, 0, none⟩ 2) (.lf (.int .i64)) fun v6 =>
        ifB (decide ((v6 : Int) < 1)) (
         K (.tuple #[.slice none 0 0, .int .i64 3])) (
         ld (Addr.add ⟨n1, 0, none⟩ 2) (.lf (.int .i64)) fun v7 =>
         ifB (decide ((v7 : Int) > 1073741824)) (
          K (.tuple #[.slice none 0 0, .int .i64 3])) (
          ld ⟨n1, 0, none⟩ (.lf (.int .i64)) fun v8 =>
          ld (Addr.add ⟨n1, 0, none⟩ 1) (.lf (.int .i64)) fun v9 =>
          nw (.cells #[.int .u8 (IntKind.u8.wrap v8), .int .u8 (IntKind.u8.wrap v9)] 5) fun n2 =>
          smW PP (Builtin.append_ #[40, 40] 40 #[.slice z1.1.a z1.1.len z1.1.cap, .slice (some ⟨n2, 0, none⟩) 2 2]) [.lf .sl] fun v10 =>
          ld (Addr.add ⟨n1, 0, none⟩ 2) (.lf (.int .i64)) fun v11 =>
          cl PP 71 #[.slice v10.1.a v10.1.len v10.1.cap, .int .i64 v11, .int .i64 4] [.lf .sl, .lf (.int .i64)] fun r1 =>
          go1 (⟨r1.1.a, r1.1.len, r1.1.cap⟩, IntKind.i64.wrap (z1.2.1 + 1), ())))))))) (
    K (.tuple #[.slice z1.1.a z1.1.len z1.1.cap, .int .i64 0]))
theorem e17 (x0 : SlV) (K : Value → HP) : flatFn PP h17 Try.f17 [.slice x0.a x0.len x0.cap] K = t17 x0 K := by kernel_rfl

/-- depot/region.Kills -/
def h18 : Hints := ⟨[(0, [(4, .lf .sl), (5, .lf .sl)])], [], [(8, [0, 1, 4, 5, 8, 2, 3, 6, 7, 9, 10, 11])]⟩
def t18 (x0 : SlV) (K : Value → HP) : HP :=
  req ((6 : Int) ≠ 0) <|
  ifB ((Int.tmod x0.len 6 : Int) != 0) (
   K (.tuple #[.slice none 0 0, .int .i64 5])) (
   lp [.lf .sl, .lf .sl] (⟨none, 0, 0⟩, ⟨x0.a, x0.len, x0.cap⟩, ()) fun z1 go1 =>   -- l, b
    ifB (decide ((z1.2.1.len : Int) > 0)) (
     cl PP 72 #[.slice z1.2.1.a z1.2.1.len z1.2.1.cap, .int .i64 2, .int .i64 4] [.lf (.int .i64), .lf (.int .i64)] fun r1 =>
     nilc z1.2.1.a fun a1 =>
     ixn 0 z1.2.1.len <|
     nilc z1.2.1.a fun a2 =>
     ixn 1 z1.2.1.len <|
     ld (Addr.add a1 ((0 : Int).toNat * 1)) (.lf (.int .u8)) fun v1 =>
     ld (Addr.add a2 ((1 : Int).toNat * 1)) (.lf (.int .u8)) fun v2 =>
     nw (.cells #[.int .i64 0, .int .i64 0, .int .i64 0] 104) fun n1 =>
     st ⟨n1, 0, none⟩ [.int .i64 (IntKind.i64.wrap v1), .int .i64 (IntKind.i64.wrap v2), .int .i64 r1.1] <|
     ld ⟨n1, 0, none⟩ (.agg [.int .i64, .int .i64, .int .i64]) fun v3 =>
     cl PP 68 #[.agg #[.int .i64 v3.1, .int .i64 v3.2.1, .int .i64 v3.2.2.1]] [.lf .bool] fun r2 =>
     ifB (!r2.1) (
      K (.tuple #[.slice none 0 0, .int .i64 5])) (
      ld ⟨n1, 0, none⟩ (.agg [.int .i64, .int .i64, .int .i64]) fun v4 =>
      nw (.cells #[.int .i64 v4.1, .int .i64 v4.2.1, .int .i64 v4.2.2.1] 104) fun n2 =>
      smW PP (Builtin.append_ #[39, 39] 39 #[.slice z1.1.a z1.1.len z1.1.cap, .slice (some ⟨n2, 0, none⟩) 1 1]) [.lf .sl] fun v5 =>
      slc ⟨z1.2.1.a, z1.2.1.len, z1.2.1.cap⟩ 6 z1.2.1.len z1.2.1.cap 1 fun s1 =>
      go1 (⟨v5.1.a, v5.1.len, v5.1.cap⟩, ⟨s1.a, s1.len, s1.cap⟩, ()))) (
     K (.tuple #[.slice z1.1.a z1.1.len z1.1.cap, .int .i64 0])))
theorem e18 (x0 : SlV) (K : Value → HP) : flatFn PP h18 Try.f18 [.slice x0.a x0.len x0.cap] K = t18 x0 K := by kernel_rfl

/-- depot/depotref25.Kills -/
def h19 : Hints := ⟨[(0, [(4, .lf .sl), (5, .lf (.int .i64))])], [], [(8, [0, 1, 2, 3, 6, 7, 8, 9, 12, 4, 5, 10, 11, 13, 14, 15, 16])]⟩
def t19 (x0 : SlV) (K : Value → HP) : HP :=
  req ((6 : Int) ≠ 0) <|
  ifB ((Int.tmod x0.len 6 : Int) != 0) (
   K (.tuple #[.slice none 0 0, .int .i64 5])) (
   lp [.lf .sl, .lf (.int .i64)] (⟨none, 0, 0⟩, 0, ()) fun z1 go1 =>   -- out, i
    ifB (decide ((z1.2.1 : Int) < x0.len)) (
     cl PP 73 #[.slice x0.a x0.len x0.cap, .int .i64 (IntKind.i64.wrap (z1.2.1 + 2)), .int .i64 4] [.lf (.int .i64), .lf (.int .i64)] fun r1 =>
     nilc x0.a fun a1 =>
     ixn z1.2.1 x0.len <|
     nilc x0.a fun a2 =>
     ixn (IntKind.i64.wrap (z1.2.1 + 1)) x0.len <|
     ld (Addr.add a1 (z1.2.1.toNat * 1)) (.lf (.int .u8)) fun v1 =>
     ld (Addr.add a2 ((IntKind.i64.wrap (z1.2.1 + 1)).toNat * 1)) (.lf (.int .u8)) fun v2 =>
     nw (.cells #[.int .i64 (IntKind.i64.wrap v1), .int .i64 (IntKind.i64.wrap v2), .int .i64 r1.1] 104) fun n1 =>
     smW PP (Builtin.append_ #[39, 39] 39 #[.slice z1.1.a z1.1.len z1.1.cap, .slice (some ⟨n1, 0, none⟩) 1 1]) [.lf .sl] fun v3 =>
     go1 (⟨v3.1.a, v3.1.len, v3.1.cap⟩, IntKind.i64.wrap (z1.2.1 + 6), ())) (
     cl PP 17 #[.slice z1.1.a z1.1.len z1.1.cap] [.lf .sl, .lf (.int .i64)] fun r2 =>
     ifB ((r2.2.1 : Int) != 0) (
      K (.tuple #[.slice none 0 0, .int .i64 5])) (
      K (.tuple #[.slice z1.1.a z1.1.len z1.1.cap, .int .i64 0]))))
theorem e19 (x0 : SlV) (K : Value → HP) : flatFn PP h19 Try.f19 [.slice x0.a x0.len x0.cap] K = t19 x0 K := by kernel_rfl

/-- depot/depotref25.Places -/
def h20 : Hints := ⟨[(0, [(5, .lf (.int .i64))])], [], [(6, [0, 1, 2, 4, 5, 6, 3, 7, 8])]⟩
def t20 (x0 : SlV) (x1 : SlV) (K : Value → HP) : HP :=
  ifB ((x0.len : Int) != x1.len) (
   K (.bool false)) (
   lp [.lf (.int .i64)] (0, ()) fun z1 go1 =>   -- i
    ifB (decide ((z1.1 : Int) < x0.len)) (
     nilc x0.a fun a1 =>
     ixn z1.1 x0.len <|
     nilc x1.a fun a2 =>
     ixn z1.1 x1.len <|
     ld (Addr.add a1 (z1.1.toNat * 3)) (.agg [.int .i64, .int .i64, .int .i64]) fun v1 =>
     ld (Addr.add a2 (z1.1.toNat * 3)) (.agg [.int .i64, .int .i64, .int .i64]) fun v2 =>
     smP PP (binOp .neq 104 (.agg #[.int .i64 v1.1, .int .i64 v1.2.1, .int .i64 v1.2.2.1]) (.agg #[.int .i64 v2.1, .int .i64 v2.2.1, .int .i64 v2.2.2.1])) (.lf .bool) fun v3 =>
     ifB v3 (
      K (.bool false)) (
      go1 (IntKind.i64.wrap (z1.1 + 1), ()))) (
     K (.bool true)))
theorem e20 (x0 : SlV) (x1 : SlV) (K : Value → HP) : flatFn PP h20 Try.f20 [.slice x0.a x0.len x0.cap, .slice x1.a x1.len x1.cap] K = t20 x0 x1 K := by kernel_rfl

/-- depot/depotref03.Same -/
def h21 : Hints := ⟨[], [], []⟩
def t21 (x0 : SlV) (x1 : SlV) (K : Value → HP) : HP :=
  smR PP (Conv.bytesToString (.slice x0.a x0.len x0.cap)) [.lf .str] fun v1 =>
  smR PP (Conv.bytesToString (.slice x1.a x1.len x1.cap)) [.lf .str] fun v2 =>
  K (.bool (ByteArray.toList v1.1 == ByteArray.toList v2.1))
theorem e21 (x0 : SlV) (x1 : SlV) (K : Value → HP) : flatFn PP h21 Try.f21 [.slice x0.a x0.len x0.cap, .slice x1.a x1.len x1.cap] K = t21 x0 x1 K := by kernel_rfl

/-- depot/flash.New -/
def h38 : Hints := ⟨[(0, [(34, .lf (.int .i64))])], [], []⟩
def t38 (x0 : ShV (.agg [.int .i64, .int .i64, .int .i64, .int .i64])) (K : Value → HP) : HP :=
  nw (.cells #[.int .i64 x0.1, .int .i64 x0.2.1, .int .i64 x0.2.2.1, .int .i64 x0.2.2.2.1] 75) fun n1 =>
  ld ⟨n1, 0, none⟩ (.lf (.int .i64)) fun v1 =>
  cl PP 80 #[.int .i64 v1, .int .i64 2, .int .i64 16] [.lf .bool] fun r1 =>
  ifB r1.1 (
   ld (Addr.add ⟨n1, 0, none⟩ 1) (.lf (.int .i64)) fun v2 =>
   cl PP 80 #[.int .i64 v2, .int .i64 4, .int .i64 16] [.lf .bool] fun r2 =>
   ifB (!r2.1) (
    K (.tuple #[.pointer none, .int .i64 30])) (
    ld (Addr.add ⟨n1, 0, none⟩ 2) (.lf (.int .i64)) fun v3 =>
    cl PP 80 #[.int .i64 v3, .int .i64 64, .int .i64 512] [.lf .bool] fun r3 =>
    ifB (!r3.1) (
     K (.tuple #[.pointer none, .int .i64 30])) (
     ld (Addr.add ⟨n1, 0, none⟩ 3) (.lf (.int .i64)) fun v4 =>
     cl PP 80 #[.int .i64 v4, .int .i64 1, .int .i64 1048576] [.lf .bool] fun r4 =>
     ifB (!r4.1) (
      K (.tuple #[.pointer none, .int .i64 30])) (
      ld ⟨n1, 0, none⟩ (.agg [.int .i64, .int .i64, .int .i64, .int .i64]) fun v5 =>
      nw (.cells #[.int .i64 0, .int .i64 0, .bool false, .int .i64 v5.1, .int .i64 v5.2.1, .int .i64 v5.2.2.1, .int .i64 v5.2.2.2.1, .slice none 0 0, .int .i64 0, .slice none 0 0] 158) fun n2 =>
      ld ⟨n1, 0, none⟩ (.lf (.int .i64)) fun v6 =>
      lp [.lf (.int .i64)] (0, ()) fun z1 go1 =>   -- 
       ifB (decide ((z1.1 : Int) < v6)) (
        ld (Addr.add ⟨n1, 0, none⟩ 1) (.lf (.int .i64)) fun v7 =>
        smA PP (Instr.makeSlice 22 (.int .i64 v7) (.int .i64 v7)) (.lf .sl) fun v8 =>
        nw (.cells #[.slice v8.a v8.len v8.cap, .int .i64 0, .int .i64 0, .bool false] 161) fun n3 =>
        ld (Addr.add ⟨n1, 0, none⟩ 1) (.lf (.int .i64)) fun v9 =>
        ld (Addr.add ⟨n1, 0, none⟩ 2) (.lf (.int .i64)) fun v10 =>
        cl PP 81 #[.pointer (some ⟨n3, 0, none⟩), .int .i64 v9, .int .i64 v10] [] fun r5 =>
        ld (Addr.add ⟨n2, 0, none⟩ 7) (.lf .sl) fun v11 =>
        nw (.cells #[.pointer (some ⟨n3, 0, none⟩)] 159) fun n4 =>
        smW PP (Builtin.append_ #[156, 156] 156 #[.slice v11.a v11.len v11.cap, .slice (some ⟨n4, 0, none⟩) 1 1]) [.lf .sl] fun v12 =>
        st (Addr.add ⟨n2, 0, none⟩ 7) [.slice v12.1.a v12.1.len v12.1.cap] <|
        go1 (IntKind.i64.wrap (z1.1 + 1), ())) (
        K (.tuple #[.pointer (some ⟨n2, 0, none⟩), .int .i64 0])))))) (
   K (.tuple #[.pointer none, .int .i64 30]))
theorem e38 (x0 : ShV (.agg [.int .i64, .int .i64, .int .i64, .int .i64])) (K : Value → HP) : flatFn PP h38 Try.f38 [.agg #[.int .i64 x0.1, .int .i64 x0.2.1, .int .i64 x0.2.2.1, .int .i64 x0.2.2.2.1]] K = t38 x0 K := by kernel_rfl

/-- (*depot/flash.Flash).Arm -/
def h39 : Hints := ⟨[], [], []⟩
def t39 (x0 : Option Addr) (x1 : Int) (x2 : Int) (K : Value → HP) : HP :=
  ifB (!(Option.isNone x0)) (
   nilc x0 fun a1 =>
   ld (Addr.add a1 2) (.lf .bool) fun v1 =>
   ifB (!v1) (
    nilc x0 fun a2 =>
    st a2 [.int .i64 (imax x1 0)] <|
    nilc x0 fun a3 =>
    st (Addr.add a3 1) [.int .i64 x2] <|
    K (.tuple #[])) (
    K (.tuple #[]))) (
   K (.tuple #[]))
theorem e39 (x0 : Option Addr) (x1 : Int) (x2 : Int) (K : Value → HP) : flatFn PP h39 Try.f39 [.pointer x0, .int .i64 x1, .int .i64 x2] K = t39 x0 x1 x2 K := by kernel_rfl

/-- depot/region.Open -/
def h40 : Hints := ⟨[], [], []⟩
def t40 (x0 : Option Addr) (x1 : Int) (x2 : Int) (K : Value → HP) : HP :=
  cl PP 82 #[.pointer x0, .int .i64 x1, .agg #[.int .i64 1, .int .i64 0, .int .i64 1, .int .i64 x2, .int .i64 0], .slice none 0 0] [.lf (.int .i64)] fun r1 =>
  K (.int .i64 r1.1)
theorem e40 (x0 : Option Addr) (x1 : Int) (x2 : Int) (K : Value → HP) : flatFn PP h40 Try.f40 [.pointer x0, .int .i64 x1, .int .i64 x2] K = t40 x0 x1 x2 K := by kernel_rfl

/-- depot/region.Append -/
def h41 : Hints := ⟨[(0, [(28, .lf (.int .i64))])], [], []⟩
def t41 (x0 : Option Addr) (x1 : Int) (x2 : Int) (x3 : Int) (x4 : Int) (x5 : SlV) (K : Value → HP) : HP :=
  ifB ((x5.len : Int) == 0) (
   K (.int .i64 2)) (
   nw (.cells #[.int .i64 0, .int .i64 0, .int .i64 0, .int .i64 0, .int .i64 0] 111) fun n1 =>
   st ⟨n1, 0, none⟩ [.int .i64 x4, .int .i64 0, .int .i64 x5.len, .int .i64 x2, .int .i64 x3] <|
   lp [.lf (.int .i64)] (0, ()) fun z1 go1 =>   -- 
    ifB (decide ((z1.1 : Int) < x5.len)) (
     nilc x5.a fun a1 =>
     ixn z1.1 x5.len <|
     ld (Addr.add a1 (z1.1.toNat * 1)) (.lf .sl) fun v1 =>
     st (Addr.add ⟨n1, 0, none⟩ 1) [.int .i64 z1.1] <|
     ld ⟨n1, 0, none⟩ (.agg [.int .i64, .int .i64, .int .i64, .int .i64, .int .i64]) fun v2 =>
     cl PP 82 #[.pointer x0, .int .i64 x1, .agg #[.int .i64 v2.1, .int .i64 v2.2.1, .int .i64 v2.2.2.1, .int .i64 v2.2.2.2.1, .int .i64 v2.2.2.2.2.1], .slice v1.a v1.len v1.cap] [.lf (.int .i64)] fun r1 =>
     ifB ((r1.1 : Int) != 0) (
      K (.int .i64 r1.1)) (
      ld (Addr.add ⟨n1, 0, none⟩ 4) (.lf (.int .i64)) fun v3 =>
      st (Addr.add ⟨n1, 0, none⟩ 4) [.int .i64 (IntKind.i64.wrap (v3 + 1))] <|
      go1 (IntKind.i64.wrap (z1.1 + 1), ()))) (
     K (.int .i64 0)))
theorem e41 (x0 : Option Addr) (x1 : Int) (x2 : Int) (x3 : Int) (x4 : Int) (x5 : SlV) (K : Value → HP) : flatFn PP h41 Try.f41 [.pointer x0, .int .i64 x1, .int .i64 x2, .int .i64 x3, .int .i64 x4, .slice x5.a x5.len x5.cap] K = t41 x0 x1 x2 x3 x4 x5 K := by kernel_rfl

/-- (*depot/flash.Flash).Torn -/
def h42 : Hints := ⟨[(0, [(3, .lf .sl), (13, .lf (.int .i64))])], [], [(7, [1, 5, 2, 6, 0, 3, 8, 4, 7, 9, 10, 11])]⟩
def t42 (x0 : Option Addr) (K : Value → HP) : HP :=
  ifB (Option.isNone x0) (
   K (.slice none 0 0)) (
   nilc x0 fun a1 =>
   ld (Addr.add a1 9) (.lf .sl) fun v1 =>
   lp [.lf .sl, .lf (.int .i64)] (⟨none, 0, 0⟩, 0, ()) fun z1 go1 =>   -- l, 
    ifB (decide ((z1.2.1 : Int) < v1.len)) (
     nilc v1.a fun a2 =>
     ixn z1.2.1 v1.len <|
     ld (Addr.add a2 (z1.2.1.toNat * 4)) (.agg [.int .i64, .int .i64, .sl, .sl]) fun v2 =>
     nw (.cells #[.int .i64 0, .int .i64 0, .slice none 0 0, .slice none 0 0] 82) fun n1 =>
     st ⟨n1, 0, none⟩ [.int .i64 v2.1, .int .i64 v2.2.1, .slice v2.2.2.1.a v2.2.2.1.len v2.2.2.1.cap, .slice v2.2.2.2.1.a v2.2.2.2.1.len v2.2.2.2.1.cap] <|
     ld (Addr.add ⟨n1, 0, none⟩ 2) (.lf .sl) fun v3 =>
     ld (Addr.add ⟨n1, 0, none⟩ 3) (.lf .sl) fun v4 =>
     nw (.cells #[] 5) fun n2 =>
     smW PP (Builtin.append_ #[40, 40] 40 #[.slice (some ⟨n2, 0, none⟩) 0 0, .slice v3.a v3.len v3.cap]) [.lf .sl] fun v5 =>
     keep (LdAt (Addr.add ⟨n1, 0, none⟩ 3) [.slice v4.a v4.len v4.cap]) <|
     nw (.cells #[] 5) fun n3 =>
     smW PP (Builtin.append_ #[40, 40] 40 #[.slice (some ⟨n3, 0, none⟩) 0 0, .slice v4.a v4.len v4.cap]) [.lf .sl] fun v6 =>
     st (Addr.add ⟨n1, 0, none⟩ 2) [.slice v5.1.a v5.1.len v5.1.cap] <|
     st (Addr.add ⟨n1, 0, none⟩ 3) [.slice v6.1.a v6.1.len v6.1.cap] <|
     ld ⟨n1, 0, none⟩ (.agg [.int .i64, .int .i64, .sl, .sl]) fun v7 =>
     nw (.cells #[.int .i64 v7.1, .int .i64 v7.2.1, .slice v7.2.2.1.a v7.2.2.1.len v7.2.2.1.cap, .slice v7.2.2.2.1.a v7.2.2.2.1.len v7.2.2.2.1.cap] 82) fun n4 =>
     smW PP (Builtin.append_ #[79, 79] 79 #[.slice z1.1.a z1.1.len z1.1.cap, .slice (some ⟨n4, 0, none⟩) 1 1]) [.lf .sl] fun v8 =>
     go1 (⟨v8.1.a, v8.1.len, v8.1.cap⟩, IntKind.i64.wrap (z1.2.1 + 1), ())) (
     K (.slice z1.1.a z1.1.len z1.1.cap)))
theorem e42 (x0 : Option Addr) (K : Value → HP) : flatFn PP h42 Try.f42 [.pointer x0] K = t42 x0 K := by kernel_rfl

/-- depot/region.Seal -/
def h43 : Hints := ⟨[(0, [(11, .lf .sl), (18, .lf (.int .i64))])], [], []⟩
def t43 (x0 : Option Addr) (x1 : Int) (x2 : Int) (x3 : Int) (x4 : SlV) (K : Value → HP) : HP :=
  lp [.lf .sl, .lf (.int .i64)] (⟨none, 0, 0⟩, 0, ()) fun z1 go1 =>   -- b, 
   ifB (decide ((z1.2.1 : Int) < x4.len)) (
    nilc x4.a fun a1 =>
    ixn z1.2.1 x4.len <|
    ld (Addr.add a1 (z1.2.1.toNat * 3)) (.agg [.int .i64, .int .i64, .int .i64]) fun v1 =>
    nw (.cells #[.int .i64 0, .int .i64 0, .int .i64 0] 24) fun n1 =>
    st ⟨n1, 0, none⟩ [.int .i64 v1.1, .int .i64 v1.2.1, .int .i64 v1.2.2.1] <|
    ld ⟨n1, 0, none⟩ (.lf (.int .i64)) fun v2 =>
    ld (Addr.add ⟨n1, 0, none⟩ 1) (.lf (.int .i64)) fun v3 =>
    ld (Addr.add ⟨n1, 0, none⟩ 2) (.lf (.int .i64)) fun v4 =>
    nw (.cells #[.int .i64 v2, .int .i64 v3, .int .i64 v4] 3) fun n2 =>
    cl PP 69 #[.slice z1.1.a z1.1.len z1.1.cap, .slice (some ⟨n2, 0, none⟩) 3 3] [.lf .sl, .lf .bool] fun r1 =>
    ifB (!r1.2.1) (
     K (.int .i64 3)) (
     go1 (⟨r1.1.a, r1.1.len, r1.1.cap⟩, IntKind.i64.wrap (z1.2.1 + 1), ()))) (
    cl PP 82 #[.pointer x0, .int .i64 x1, .agg #[.int .i64 4, .int .i64 0, .int .i64 1, .int .i64 x2, .int .i64 x3], .slice z1.1.a z1.1.len z1.1.cap] [.lf (.int .i64)] fun r2 =>
    K (.int .i64 r2.1))
theorem e43 (x0 : Option Addr) (x1 : Int) (x2 : Int) (x3 : Int) (x4 : SlV) (K : Value → HP) : flatFn PP h43 Try.f43 [.pointer x0, .int .i64 x1, .int .i64 x2, .int .i64 x3, .slice x4.a x4.len x4.cap] K = t43 x0 x1 x2 x3 x4 K := by kernel_rfl

/-- (*depot/flash.Flash).Restart -/
def h44 : Hints := ⟨[], [], []⟩
def t44 (x0 : Option Addr) (K : Value → HP) : HP :=
  ifB (!(Option.isNone x0)) (
   nilc x0 fun a1 =>
   st (Addr.add a1 2) [.bool false] <|
   nilc x0 fun a2 =>
   st a2 [.int .i64 0] <|
   K (.tuple #[])) (
   K (.tuple #[]))
theorem e44 (x0 : Option Addr) (K : Value → HP) : flatFn PP h44 Try.f44 [.pointer x0] K = t44 x0 K := by kernel_rfl

/-- depot/region.Load -/
def h46 : Hints := ⟨[(0, [(6, .lf .sl), (15, .lf (.int .i64))])], [], []⟩
def t46 (x0 : Option Addr) (x1 : Int) (K : Value → HP) : HP :=
  ifB (Option.isNone x0) (
   K (.tuple #[.slice none 0 0, .int .i64 1])) (
   cl PP 83 #[.pointer x0] [.agg [.int .i64, .int .i64, .int .i64, .int .i64]] fun r1 =>
   lp [.lf .sl, .lf (.int .i64)] (⟨none, 0, 0⟩, 0, ()) fun z1 go1 =>   -- l, 
    ifB (decide ((z1.2.1 : Int) < r1.1.2.1)) (
     cl PP 84 #[.pointer x0, .int .i64 x1, .int .i64 z1.2.1] [.lf .sl, .lf (.int .i64)] fun r2 =>
     ifB ((r2.2.1 : Int) != 0) (
      K (.tuple #[.slice none 0 0, .int .i64 r2.2.1])) (
      nw (.cells #[.slice r2.1.a r2.1.len r2.1.cap] 40) fun n1 =>
      smW PP (Builtin.append_ #[22, 22] 22 #[.slice z1.1.a z1.1.len z1.1.cap, .slice (some ⟨n1, 0, none⟩) 1 1]) [.lf .sl] fun v1 =>
      go1 (⟨v1.1.a, v1.1.len, v1.1.cap⟩, IntKind.i64.wrap (z1.2.1 + 1), ()))) (
     K (.tuple #[.slice z1.1.a z1.1.len z1.1.cap, .int .i64 0])))
theorem e46 (x0 : Option Addr) (x1 : Int) (K : Value → HP) : flatFn PP h46 Try.f46 [.pointer x0, .int .i64 x1] K = t46 x0 x1 K := by kernel_rfl

/-- depot/depotlaw25.device -/
def h47 : Hints := ⟨[], [], []⟩
def t47 (K : Value → HP) : HP :=
  nw (.cells #[.int .i64 0, .int .i64 0, .int .i64 0, .int .i64 0] 75) fun n1 =>
  st ⟨n1, 0, none⟩ [.int .i64 2, .int .i64 8, .int .i64 64, .int .i64 9] <|
  ld ⟨n1, 0, none⟩ (.agg [.int .i64, .int .i64, .int .i64, .int .i64]) fun v1 =>
  K (.agg #[.int .i64 v1.1, .int .i64 v1.2.1, .int .i64 v1.2.2.1, .int .i64 v1.2.2.2.1])
theorem e47 (K : Value → HP) : flatFn PP h47 Try.f47 [] K = t47 K := by kernel_rfl

/-- depot/depotref21.New -/
def h48 : Hints := ⟨[(0, [(5, .lf (.int .i64))]), (2, [(6, .lf .sl), (7, .lf (.int .i64))])], [], []⟩
def t48 (x0 : ShV (.agg [.int .i64, .int .i64, .int .i64, .int .i64])) (K : Value → HP) : HP :=
  nw (.cells #[.int .i64 x0.1, .int .i64 x0.2.1, .int .i64 x0.2.2.1, .int .i64 x0.2.2.2.1] 75) fun n1 =>
  ld ⟨n1, 0, none⟩ (.agg [.int .i64, .int .i64, .int .i64, .int .i64]) fun v1 =>
  cl PP 85 #[.agg #[.int .i64 v1.1, .int .i64 v1.2.1, .int .i64 v1.2.2.1, .int .i64 v1.2.2.2.1]] [.lf .bool] fun r1 =>
  ifB (!r1.1) (
   K (.tuple #[.pointer none, .int .i64 30])) (
   ld ⟨n1, 0, none⟩ (.agg [.int .i64, .int .i64, .int .i64, .int .i64]) fun v2 =>
   nw (.cells #[.int .i64 v2.1, .int .i64 v2.2.1, .int .i64 v2.2.2.1, .int .i64 v2.2.2.2.1, .slice none 0 0, .slice none 0 0, .slice none 0 0, .slice none 0 0, .int .i64 0, .bool false, .int .i64 0, .int .i64 0, .slice none 0 0] 169) fun n2 =>
   lp [.lf (.int .i64)] (0, ()) fun z1 go1 =>   -- b
    ld ⟨n1, 0, none⟩ (.lf (.int .i64)) fun v3 =>
    ifB (decide ((z1.1 : Int) < v3)) (
     lp [.lf .sl, .lf (.int .i64)] (⟨none, 0, 0⟩, 0, ()) fun z2 go2 =>   -- l, p
      ld (Addr.add ⟨n1, 0, none⟩ 1) (.lf (.int .i64)) fun v4 =>
      ifB (decide ((z2.2.1 : Int) < v4)) (
       ld (Addr.add ⟨n1, 0, none⟩ 2) (.lf (.int .i64)) fun v5 =>
       cl PP 86 #[.int .i64 v5] [.lf .str] fun r2 =>
       nw (.cells #[.string r2.1] 9) fun n3 =>
       smW PP (Builtin.append_ #[67, 67] 67 #[.slice z2.1.a z2.1.len z2.1.cap, .slice (some ⟨n3, 0, none⟩) 1 1]) [.lf .sl] fun v6 =>
       go2 (⟨v6.1.a, v6.1.len, v6.1.cap⟩, IntKind.i64.wrap (z2.2.1 + 1), ())) (
       ld (Addr.add ⟨n2, 0, none⟩ 4) (.lf .sl) fun v7 =>
       nw (.cells #[.slice z2.1.a z2.1.len z2.1.cap] 67) fun n4 =>
       smW PP (Builtin.append_ #[165, 165] 165 #[.slice v7.a v7.len v7.cap, .slice (some ⟨n4, 0, none⟩) 1 1]) [.lf .sl] fun v8 =>
       st (Addr.add ⟨n2, 0, none⟩ 4) [.slice v8.1.a v8.1.len v8.1.cap] <|
       ld (Addr.add ⟨n2, 0, none⟩ 5) (.lf .sl) fun v9 =>
       nw (.cells #[.int .i64 0] 3) fun n5 =>
       smW PP (Builtin.append_ #[166, 166] 166 #[.slice v9.a v9.len v9.cap, .slice (some ⟨n5, 0, none⟩) 1 1]) [.lf .sl] fun v10 =>
       st (Addr.add ⟨n2, 0, none⟩ 5) [.slice v10.1.a v10.1.len v10.1.cap] <|
       ld (Addr.add ⟨n2, 0, none⟩ 6) (.lf .sl) fun v11 =>
       nw (.cells #[.int .i64 0] 3) fun n6 =>
       smW PP (Builtin.append_ #[166, 166] 166 #[.slice v11.a v11.len v11.cap, .slice (some ⟨n6, 0, none⟩) 1 1]) [.lf .sl] fun v12 =>
       st (Addr.add ⟨n2, 0, none⟩ 6) [.slice v12.1.a v12.1.len v12.1.cap] <|
       ld (Addr.add ⟨n2, 0, none⟩ 7) (.lf .sl) fun v13 =>
       nw (.cells #[.bool false] 4) fun n7 =>
       smW PP (Builtin.append_ #[167, 167] 167 #[.slice v13.a v13.len v13.cap, .slice (some ⟨n7, 0, none⟩) 1 1]) [.lf .sl] fun v14 =>
       st (Addr.add ⟨n2, 0, none⟩ 7) [.slice v14.1.a v14.1.len v14.1.cap] <|
       go1 (IntKind.i64.wrap (z1.1 + 1), ()))) (
     K (.tuple #[.pointer (some ⟨n2, 0, none⟩), .int .i64 0])))
theorem e48 (x0 : ShV (.agg [.int .i64, .int .i64, .int .i64, .int .i64])) (K : Value → HP) : flatFn PP h48 Try.f48 [.agg #[.int .i64 x0.1, .int .i64 x0.2.1, .int .i64 x0.2.2.1, .int .i64 x0.2.2.2.1]] K = t48 x0 K := by kernel_rfl

/-- depot/depotref25.Open -/
def h49 : Hints := ⟨[], [], []⟩
def t49 (x0 : Option Addr) (x1 : Int) (x2 : Int) (K : Value → HP) : HP :=
  cl PP 87 #[.pointer x0, .int .i64 x1, .agg #[.int .i64 1, .int .i64 0, .int .i64 1, .int .i64 x2, .int .i64 0], .slice none 0 0] [.lf (.int .i64)] fun r1 =>
  K (.int .i64 r1.1)
theorem e49 (x0 : Option Addr) (x1 : Int) (x2 : Int) (K : Value → HP) : flatFn PP h49 Try.f49 [.pointer x0, .int .i64 x1, .int .i64 x2] K = t49 x0 x1 x2 K := by kernel_rfl

/-- depot/depotref25.Append -/
def h50 : Hints := ⟨[(0, [(13, .lf (.int .i64))])], [], []⟩
def t50 (x0 : Option Addr) (x1 : Int) (x2 : Int) (x3 : Int) (x4 : Int) (x5 : SlV) (K : Value → HP) : HP :=
  ifB ((x5.len : Int) == 0) (
   K (.int .i64 2)) (
   lp [.lf (.int .i64)] (0, ()) fun z1 go1 =>   -- i
    ifB (decide ((z1.1 : Int) < x5.len)) (
     nilc x5.a fun a1 =>
     ixn z1.1 x5.len <|
     ld (Addr.add a1 (z1.1.toNat * 1)) (.lf .sl) fun v1 =>
     cl PP 87 #[.pointer x0, .int .i64 x1, .agg #[.int .i64 x4, .int .i64 z1.1, .int .i64 x5.len, .int .i64 x2, .int .i64 (IntKind.i64.wrap (x3 + z1.1))], .slice v1.a v1.len v1.cap] [.lf (.int .i64)] fun r1 =>
     ifB ((r1.1 : Int) != 0) (
      K (.int .i64 r1.1)) (
      go1 (IntKind.i64.wrap (z1.1 + 1), ()))) (
     K (.int .i64 0)))
theorem e50 (x0 : Option Addr) (x1 : Int) (x2 : Int) (x3 : Int) (x4 : Int) (x5 : SlV) (K : Value → HP) : flatFn PP h50 Try.f50 [.pointer x0, .int .i64 x1, .int .i64 x2, .int .i64 x3, .int .i64 x4, .slice x5.a x5.len x5.cap] K = t50 x0 x1 x2 x3 x4 x5 K := by kernel_rfl

/-- depot/depotref25.Seal -/
def h51 : Hints := ⟨[], [], []⟩
def t51 (x0 : Option Addr) (x1 : Int) (x2 : Int) (x3 : Int) (x4 : SlV) (K : Value → HP) : HP :=
  cl PP 88 #[.slice x4.a x4.len x4.cap] [.lf .sl, .lf (.int .i64)] fun r1 =>
  ifB ((r1.2.1 : Int) != 0) (
   K (.int .i64 r1.2.1)) (
   cl PP 87 #[.pointer x0, .int .i64 x1, .agg #[.int .i64 4, .int .i64 0, .int .i64 1, .int .i64 x2, .int .i64 x3], .slice r1.1.a r1.1.len r1.1.cap] [.lf (.int .i64)] fun r2 =>
   K (.int .i64 r2.1))
theorem e51 (x0 : Option Addr) (x1 : Int) (x2 : Int) (x3 : Int) (x4 : SlV) (K : Value → HP) : flatFn PP h51 Try.f51 [.pointer x0, .int .i64 x1, .int .i64 x2, .int .i64 x3, .slice x4.a x4.len x4.cap] K = t51 x0 x1 x2 x3 x4 K := by kernel_rfl

end Go.Proofs.Ytlabcgnegbdlfaa
set_option linter.unusedVariables false
set_option maxRecDepth 100000
namespace Go.Proofs.Ytlabcgnegbdlfaa
open Go.HL
/-- (*depot/depotref21.Flash).Arm -/
def h52 : Hints := ⟨[], [], []⟩
def t52 (x0 : Option Addr) (x1 : Int) (x2 : Int) (K : Value → HP) : HP :=
  nilc x0 fun a1 =>
  ld (Addr.add a1 9) (.lf .bool) fun v1 =>
  ifB (!v1) (
   nilc x0 fun a2 =>
   st (Addr.add a2 10) [.int .i64 (imax x1 0)] <|
   nilc x0 fun a3 =>
   st (Addr.add a3 11) [.int .i64 x2] <|
   K (.tuple #[])) (
   K (.tuple #[]))
theorem e52 (x0 : Option Addr) (x1 : Int) (x2 : Int) (K : Value → HP) : flatFn PP h52 Try.f52 [.pointer x0, .int .i64 x1, .int .i64 x2] K = t52 x0 x1 x2 K := by kernel_rfl

/-- (*depot/depotref21.Flash).Restart -/
def h53 : Hints := ⟨[], [], []⟩
def t53 (x0 : Option Addr) (K : Value → HP) : HP :=
  nilc x0 fun a1 =>
  st (Addr.add a1 9) [.bool false] <|
  nilc x0 fun a2 =>
  st (Addr.add a2 10) [.int .i64 0] <|
  K (.tuple #[])
theorem e53 (x0 : Option Addr) (K : Value → HP) : flatFn PP h53 Try.f53 [.pointer x0] K = t53 x0 K := by kernel_rfl

/-- (*depot/flash.Flash).Erase -/
def h54 : Hints := ⟨[], [], [(10, [0, 1, 2, 3, 4, 6, 7, 8, 9, 5, 10, 11]), (7, [0, 1, 2, 3, 4, 5, 6, 7, 10, 11, 12, 13, 8, 14, 9, 15])]⟩
def t54 (x0 : Option Addr) (x1 : Int) (K : Value → HP) : HP :=
  cl PP 89 #[.pointer x0, .int .i64 x1, .int .i64 0] [.lf .ptr, .lf (.int .i64)] fun r1 =>
  ifB ((r1.2.1 : Int) != 0) (
   K (.int .i64 r1.2.1)) (
   nilc r1.1 fun a1 =>
   ld (Addr.add a1 3) (.lf .bool) fun v1 =>
   ifB v1 (
    K (.int .i64 10)) (
    nilc x0 fun a2 =>
    cl PP 90 #[.pointer (some a2)] [.lf .bool] fun r2 =>
    ifB r2.1 (
     nilc x0 fun a3 =>
     nilc x0 fun a4 =>
     nilc x0 fun a5 =>
     ld (Addr.add (Addr.add a4 3) 1) (.lf (.int .i64)) fun v2 =>
     ld (Addr.add (Addr.add a5 3) 2) (.lf (.int .i64)) fun v3 =>
     cl PP 91 #[.pointer (some a3), .int .i64 v2] [.lf (.int .i64)] fun r3 =>
     keep (LdAt (Addr.add (Addr.add a5 3) 2) [.int .i64 v3]) <|
     cl PP 81 #[.pointer r1.1, .int .i64 r3.1, .int .i64 v3] [] fun r4 =>
     nilc x0 fun a6 =>
     ld (Addr.add (Addr.add a6 3) 1) (.lf (.int .i64)) fun v4 =>
     nilc r1.1 fun a7 =>
     st (Addr.add a7 1) [.int .i64 v4] <|
     K (.int .i64 11)) (
     nilc x0 fun a8 =>
     nilc x0 fun a9 =>
     ld (Addr.add (Addr.add a8 3) 1) (.lf (.int .i64)) fun v5 =>
     ld (Addr.add (Addr.add a9 3) 2) (.lf (.int .i64)) fun v6 =>
     cl PP 81 #[.pointer r1.1, .int .i64 v5, .int .i64 v6] [] fun r5 =>
     nilc x0 fun a10 =>
     ld (Addr.add (Addr.add a10 3) 3) (.lf (.int .i64)) fun v7 =>
     cl PP 92 #[.pointer r1.1, .int .i64 v7] [.lf .bool] fun r6 =>
     ifB r6.1 (
      K (.int .i64 10)) (
      K (.int .i64 0)))))
theorem e54 (x0 : Option Addr) (x1 : Int) (K : Value → HP) : flatFn PP h54 Try.f54 [.pointer x0, .int .i64 x1] K = t54 x0 x1 K := by kernel_rfl

/-- (*depot/depotref21.Flash).Erase -/
def h55 : Hints := ⟨[(0, [(7, .lf (.int .i64))])], [(11, [(6, .lf (.int .i64))])], [(20, [0, 1, 2, 4, 5, 6, 7, 9, 12, 13, 14, 15, 3, 8, 10, 11, 16, 17, 18, 19]), (19, [0, 1, 2, 4, 5, 6, 7, 9, 3, 8, 10, 11, 12, 13, 14]), (16, [0, 1, 2, 4, 5, 6, 7, 8, 3, 9, 10, 11]), (14, [0, 1, 2, 4, 7, 8, 9, 10, 11, 3, 5, 6, 12, 13, 14, 15])]⟩
def t55 (x0 : Option Addr) (x1 : Int) (K : Value → HP) : HP :=
  nilc x0 fun a1 =>
  ld (Addr.add a1 9) (.lf .bool) fun v1 =>
  ifB v1 (
   K (.int .i64 11)) (
   cl PP 93 #[.pointer x0, .int .i64 x1, .int .i64 0] [.lf .bool] fun r1 =>
   ifB (!r1.1) (
    K (.int .i64 2)) (
    nilc x0 fun a2 =>
    ld (Addr.add a2 7) (.lf .sl) fun v2 =>
    nilc v2.a fun a3 =>
    ixn x1 v2.len <|
    ld (Addr.add a3 (x1.toNat * 1)) (.lf .bool) fun v3 =>
    ifB v3 (
     K (.int .i64 10)) (
     cl PP 94 #[.pointer x0] [.lf .bool] fun r2 =>
     nilc x0 fun a4 =>
     ld (Addr.add a4 1) (.lf (.int .i64)) fun v4 =>
     jn (fun y1 : RsV [.lf (.int .i64)] =>
      lp [.lf (.int .i64)] (0, ()) fun z1 go1 =>   -- p
       ifB (decide ((z1.1 : Int) < y1.1)) (
        nilc x0 fun a6 =>
        nilc x0 fun a7 =>
        ld (Addr.add a6 4) (.lf .sl) fun v6 =>
        nilc v6.a fun a8 =>
        ixn x1 v6.len <|
        ld (Addr.add a8 (x1.toNat * 1)) (.lf .sl) fun v7 =>
        ld (Addr.add a7 2) (.lf (.int .i64)) fun v8 =>
        cl PP 86 #[.int .i64 v8] [.lf .str] fun r3 =>
        keep (LdAt (Addr.add a8 (x1.toNat * 1)) [.slice v7.a v7.len v7.cap]) <|
        keep (LdAt (Addr.add a6 4) [.slice v6.a v6.len v6.cap]) <|
        nilc v7.a fun a9 =>
        ixn z1.1 v7.len <|
        st (Addr.add a9 (z1.1.toNat * 1)) [.string r3.1] <|
        go1 (IntKind.i64.wrap (z1.1 + 1), ())) (
        ifB r2.1 (
         nilc x0 fun a10 =>
         nilc x0 fun a11 =>
         ld (Addr.add a10 5) (.lf .sl) fun v9 =>
         ld (Addr.add a11 1) (.lf (.int .i64)) fun v10 =>
         nilc v9.a fun a12 =>
         ixn x1 v9.len <|
         st (Addr.add a12 (x1.toNat * 1)) [.int .i64 v10] <|
         K (.int .i64 11)) (
         nilc x0 fun a13 =>
         ld (Addr.add a13 5) (.lf .sl) fun v11 =>
         nilc v11.a fun a14 =>
         ixn x1 v11.len <|
         st (Addr.add a14 (x1.toNat * 1)) [.int .i64 0] <|
         nilc x0 fun a15 =>
         nilc x0 fun a16 =>
         ld (Addr.add a15 6) (.lf .sl) fun v12 =>
         ld (Addr.add a16 6) (.lf .sl) fun v13 =>
         nilc v13.a fun a17 =>
         ixn x1 v13.len <|
         ld (Addr.add a17 (x1.toNat * 1)) (.lf (.int .i64)) fun v14 =>
         nilc v12.a fun a18 =>
         ixn x1 v12.len <|
         st (Addr.add a18 (x1.toNat * 1)) [.int .i64 (IntKind.i64.wrap (v14 + 1))] <|
         nilc x0 fun a19 =>
         nilc x0 fun a20 =>
         nilc x0 fun a21 =>
         ld (Addr.add a19 7) (.lf .sl) fun v15 =>
         ld (Addr.add a20 6) (.lf .sl) fun v16 =>
         nilc v16.a fun a22 =>
         ixn x1 v16.len <|
         ld (Addr.add a22 (x1.toNat * 1)) (.lf (.int .i64)) fun v17 =>
         ld (Addr.add a21 3) (.lf (.int .i64)) fun v18 =>
         nilc v15.a fun a23 =>
         ixn x1 v15.len <|
         st (Addr.add a23 (x1.toNat * 1)) [.bool ((v17 : Int) == v18)] <|
         nilc x0 fun a24 =>
         ld (Addr.add a24 7) (.lf .sl) fun v19 =>
         nilc v19.a fun a25 =>
         ixn x1 v19.len <|
         ld (Addr.add a25 (x1.toNat * 1)) (.lf .bool) fun v20 =>
         ifB v20 (
          K (.int .i64 10)) (
          K (.int .i64 0))))) fun j1 =>
     ifB r2.1 (
       nilc x0 fun a5 =>
       ld (Addr.add a5 11) (.lf (.int .i64)) fun v5 =>
       j1 (imin (imax v5 0) v4, ())) (
       j1 (v4, ())))))
theorem e55 (x0 : Option Addr) (x1 : Int) (K : Value → HP) : flatFn PP h55 Try.f55 [.pointer x0, .int .i64 x1] K = t55 x0 x1 K := by kernel_rfl

/-- depot/depotref25.Load -/
def h56 : Hints := ⟨[(0, [(6, .lf .sl), (7, .lf (.int .i64))])], [], []⟩
def t56 (x0 : Option Addr) (x1 : Int) (K : Value → HP) : HP :=
  lp [.lf .sl, .lf (.int .i64)] (⟨none, 0, 0⟩, 0, ()) fun z1 go1 =>   -- out, p
   nilc x0 fun a1 =>
   ld (Addr.add a1 1) (.lf (.int .i64)) fun v1 =>
   ifB (decide ((z1.2.1 : Int) < v1)) (
    cl PP 95 #[.pointer x0, .int .i64 x1, .int .i64 z1.2.1] [.lf .sl, .lf (.int .i64)] fun r1 =>
    ifB ((r1.2.1 : Int) != 0) (
     K (.tuple #[.slice none 0 0, .int .i64 r1.2.1])) (
     nw (.cells #[.slice r1.1.a r1.1.len r1.1.cap] 40) fun n1 =>
     smW PP (Builtin.append_ #[22, 22] 22 #[.slice z1.1.a z1.1.len z1.1.cap, .slice (some ⟨n1, 0, none⟩) 1 1]) [.lf .sl] fun v2 =>
     go1 (⟨v2.1.a, v2.1.len, v2.1.cap⟩, IntKind.i64.wrap (z1.2.1 + 1), ()))) (
    K (.tuple #[.slice z1.1.a z1.1.len z1.1.cap, .int .i64 0]))
theorem e56 (x0 : Option Addr) (x1 : Int) (K : Value → HP) : flatFn PP h56 Try.f56 [.pointer x0, .int .i64 x1] K = t56 x0 x1 K := by kernel_rfl

/-- depot/region.look -/
def h57 : Hints := ⟨[(0, [(17, .lf (.int .i64))])], [], [(6, [0, 1, 2, 3, 6, 7, 8, 4, 5, 9, 10, 11, 12, 13, 14])]⟩
def t57 (x0 : SlV) (K : Value → HP) : HP :=
  nw (.cells #[.slice none 0 0, .int .i64 0, .int .i64 0] 109) fun n1 =>
  slc ⟨x0.a, x0.len, x0.cap⟩ 0 (imin x0.len 16) x0.cap 1 fun s1 =>
  lp [.lf (.int .i64)] (0, ()) fun z1 go1 =>   -- 
   ifB (decide ((z1.1 : Int) < s1.len)) (
    nilc s1.a fun a1 =>
    ixn z1.1 s1.len <|
    ld (Addr.add a1 (z1.1.toNat * 1)) (.lf .sl) fun v1 =>
    cl PP 67 #[.slice v1.a v1.len v1.cap] [.agg [.int .i64, .int .i64, .int .i64, .int .i64, .int .i64], .lf .sl, .lf (.int .i64)] fun r1 =>
    nw (.cells #[.int .i64 0, .int .i64 0, .int .i64 0, .int .i64 0, .int .i64 0] 111) fun n2 =>
    st ⟨n2, 0, none⟩ [.int .i64 r1.1.1, .int .i64 r1.1.2.1, .int .i64 r1.1.2.2.1, .int .i64 r1.1.2.2.2.1, .int .i64 r1.1.2.2.2.2.1] <|
    ld ⟨n1, 0, none⟩ (.lf .sl) fun v2 =>
    ld ⟨n2, 0, none⟩ (.agg [.int .i64, .int .i64, .int .i64, .int .i64, .int .i64]) fun v3 =>
    nw (.cells #[.int .i64 v3.1, .int .i64 v3.2.1, .int .i64 v3.2.2.1, .int .i64 v3.2.2.2.1, .int .i64 v3.2.2.2.2.1, .slice r1.2.1.a r1.2.1.len r1.2.1.cap, .bool ((r1.2.2.1 : Int) == 0)] 113) fun n3 =>
    smW PP (Builtin.append_ #[107, 107] 107 #[.slice v2.a v2.len v2.cap, .slice (some ⟨n3, 0, none⟩) 1 1]) [.lf .sl] fun v4 =>
    st ⟨n1, 0, none⟩ [.slice v4.1.a v4.1.len v4.1.cap] <|
    cl PP 96 #[.slice v1.a v1.len v1.cap] [.lf .bool] fun r2 =>
    ifB (!r2.1) (
     st (Addr.add ⟨n1, 0, none⟩ 2) [.int .i64 z1.1] <|
     go1 (IntKind.i64.wrap (z1.1 + 1), ())) (
     go1 (IntKind.i64.wrap (z1.1 + 1), ()))) (
    K (.pointer (some ⟨n1, 0, none⟩)))
theorem e57 (x0 : SlV) (K : Value → HP) : flatFn PP h57 Try.f57 [.slice x0.a x0.len x0.cap] K = t57 x0 K := by kernel_rfl

/-- (*depot/region.scanner).says -/
def h58 : Hints := ⟨[], [], [(2, [0, 1, 2, 3, 4, 5, 6, 7, 8, 9, 10, 11, 12, 13, 14, 16, 15, 17, 18, 19, 20, 21, 22, 23, 24, 25, 27, 26, 28, 29, 30, 31, 32, 33])]⟩
def t58 (x0 : Option Addr) (x1 : Int) (x2 : ShV (.agg [.int .i64, .int .i64, .int .i64, .int .i64, .int .i64])) (K : Value → HP) : HP :=
  nw (.cells #[.int .i64 x2.1, .int .i64 x2.2.1, .int .i64 x2.2.2.1, .int .i64 x2.2.2.2.1, .int .i64 x2.2.2.2.2.1] 111) fun n1 =>
  nilc x0 fun a1 =>
  ld (Addr.add a1 1) (.lf (.int .i64)) fun v1 =>
  st (Addr.add ⟨n1, 0, none⟩ 3) [.int .i64 v1] <|
  st (Addr.add ⟨n1, 0, none⟩ 4) [.int .i64 x1] <|
  ifB (decide ((x1 : Int) < 0)) (
   K (.tuple #[.slice none 0 0, .bool false])) (
   nilc x0 fun a2 =>
   ld a2 (.lf .sl) fun v2 =>
   ifB (decide ((x1 : Int) ≥ v2.len)) (
    K (.tuple #[.slice none 0 0, .bool false])) (
    nilc x0 fun a3 =>
    ld a3 (.lf .sl) fun v3 =>
    nilc v3.a fun a4 =>
    ixn x1 v3.len <|
    ld (Addr.add (Addr.add a4 (x1.toNat * 7)) 6) (.lf .bool) fun v4 =>
    ifB (!v4) (
     K (.tuple #[.slice none 0 0, .bool false])) (
     nilc x0 fun a5 =>
     ld a5 (.lf .sl) fun v5 =>
     nilc v5.a fun a6 =>
     ixn x1 v5.len <|
     ld (Addr.add a6 (x1.toNat * 7)) (.agg [.int .i64, .int .i64, .int .i64, .int .i64, .int .i64]) fun v6 =>
     ld ⟨n1, 0, none⟩ (.agg [.int .i64, .int .i64, .int .i64, .int .i64, .int .i64]) fun v7 =>
     smP PP (binOp .neq 111 (.agg #[.int .i64 v6.1, .int .i64 v6.2.1, .int .i64 v6.2.2.1, .int .i64 v6.2.2.2.1, .int .i64 v6.2.2.2.2.1]) (.agg #[.int .i64 v7.1, .int .i64 v7.2.1, .int .i64 v7.2.2.1, .int .i64 v7.2.2.2.1, .int .i64 v7.2.2.2.2.1])) (.lf .bool) fun v8 =>
     ifB v8 (
      K (.tuple #[.slice none 0 0, .bool false])) (
      nilc x0 fun a7 =>
      ld a7 (.lf .sl) fun v9 =>
      nilc v9.a fun a8 =>
      ixn x1 v9.len <|
      ld (Addr.add (Addr.add a8 (x1.toNat * 7)) 5) (.lf .sl) fun v10 =>
      K (.tuple #[.slice v10.a v10.len v10.cap, .bool true])))))
theorem e58 (x0 : Option Addr) (x1 : Int) (x2 : ShV (.agg [.int .i64, .int .i64, .int .i64, .int .i64, .int .i64])) (K : Value → HP) : flatFn PP h58 Try.f58 [.pointer x0, .int .i64 x1, .agg #[.int .i64 x2.1, .int .i64 x2.2.1, .int .i64 x2.2.2.1, .int .i64 x2.2.2.2.1, .int .i64 x2.2.2.2.2.1]] K = t58 x0 x1 x2 K := by kernel_rfl

/-- (*depot/region.scanner).seal -/
def h59 : Hints := ⟨[(0, [(4, .lf .sl), (6, .lf .sl), (7, .lf (.int .i64))])], [], [(13, [0, 1, 2, 3, 4, 7, 5, 6, 8]), (8, [0, 1, 4, 5, 8, 9, 2, 3, 6, 7, 10, 11, 12, 13, 14])]⟩
def t59 (x0 : Option Addr) (K : Value → HP) : HP :=
  nilc x0 fun a1 =>
  ld (Addr.add a1 2) (.lf (.int .i64)) fun v1 =>
  cl PP 58 #[.pointer x0, .int .i64 v1, .agg #[.int .i64 4, .int .i64 0, .int .i64 1, .int .i64 0, .int .i64 0]] [.lf .sl, .lf .bool] fun r1 =>
  ifB (!r1.2.1) (
   K (.tuple #[.slice none 0 0, .bool false])) (
   req ((3 : Int) ≠ 0) <|
   ifB ((Int.tmod r1.1.len 3 : Int) != 0) (
    K (.tuple #[.slice none 0 0, .bool false])) (
    lp [.lf .sl, .lf .sl, .lf (.int .i64)] (⟨r1.1.a, r1.1.len, r1.1.cap⟩, ⟨none, 0, 0⟩, 1, ()) fun z1 go1 =>   -- b, l, next
     ifB (decide ((z1.1.len : Int) > 0)) (
      nilc z1.1.a fun a2 =>
      ixn 0 z1.1.len <|
      nilc z1.1.a fun a3 =>
      ixn 1 z1.1.len <|
      nilc z1.1.a fun a4 =>
      ixn 2 z1.1.len <|
      ld (Addr.add a2 ((0 : Int).toNat * 1)) (.lf (.int .u8)) fun v2 =>
      ld (Addr.add a3 ((1 : Int).toNat * 1)) (.lf (.int .u8)) fun v3 =>
      ld (Addr.add a4 ((2 : Int).toNat * 1)) (.lf (.int .u8)) fun v4 =>
      nw (.cells #[.int .i64 0, .int .i64 0, .int .i64 0] 24) fun n1 =>
      st ⟨n1, 0, none⟩ [.int .i64 (IntKind.i64.wrap v2), .int .i64 (IntKind.i64.wrap v3), .int .i64 (IntKind.i64.wrap v4)] <|
      ld ⟨n1, 0, none⟩ (.lf (.int .i64)) fun v5 =>
      cl PP 97 #[.int .i64 v5] [.lf .bool] fun r2 =>
      ifB (!r2.1) (
       K (.tuple #[.slice none 0 0, .bool false])) (
       ld (Addr.add ⟨n1, 0, none⟩ 2) (.lf (.int .i64)) fun v6 =>
       ifB ((v6 : Int) == 0) (
        K (.tuple #[.slice none 0 0, .bool false])) (
        ld (Addr.add ⟨n1, 0, none⟩ 1) (.lf (.int .i64)) fun v7 =>
        ifB ((v7 : Int) != z1.2.2.1) (
         K (.tuple #[.slice none 0 0, .bool false])) (
         ld (Addr.add ⟨n1, 0, none⟩ 2) (.lf (.int .i64)) fun v8 =>
         ld ⟨n1, 0, none⟩ (.agg [.int .i64, .int .i64, .int .i64]) fun v9 =>
         nw (.cells #[.int .i64 v9.1, .int .i64 v9.2.1, .int .i64 v9.2.2.1] 24) fun n2 =>
         smW PP (Builtin.append_ #[27, 27] 27 #[.slice z1.2.1.a z1.2.1.len z1.2.1.cap, .slice (some ⟨n2, 0, none⟩) 1 1]) [.lf .sl] fun v10 =>
         slc ⟨z1.1.a, z1.1.len, z1.1.cap⟩ 3 z1.1.len z1.1.cap 1 fun s1 =>
         go1 (⟨s1.a, s1.len, s1.cap⟩, ⟨v10.1.a, v10.1.len, v10.1.cap⟩, IntKind.i64.wrap (z1.2.2.1 + v8), ()))))) (
      nilc x0 fun a5 =>
      ld (Addr.add a5 2) (.lf (.int .i64)) fun v11 =>
      K (.tuple #[.slice z1.2.1.a z1.2.1.len z1.2.1.cap, .bool ((z1.2.2.1 : Int) == v11)]))))
theorem e59 (x0 : Option Addr) (K : Value → HP) : flatFn PP h59 Try.f59 [.pointer x0] K = t59 x0 K := by kernel_rfl

/-- (*depot/region.scanner).each -/
def h60 : Hints := ⟨[(0, [(5, .lf .sl), (6, .lf (.int .i64))])], [], []⟩
def t60 (x0 : Option Addr) (x1 : FnV) (K : Value → HP) : HP :=
  lp [.lf .sl, .lf (.int .i64)] (⟨none, 0, 0⟩, 1, ()) fun z1 go1 =>   -- l, p
   nilc x0 fun a1 =>
   ld (Addr.add a1 2) (.lf (.int .i64)) fun v1 =>
   ifB (decide ((z1.2.1 : Int) ≤ v1)) (
    clv PP x1.fn (x1.first ++ #[.int .i64 z1.2.1]) x1.captured [.agg [.int .i64, .int .i64, .int .i64], .lf .bool] fun r1 =>
    nw (.cells #[.int .i64 0, .int .i64 0, .int .i64 0] 24) fun n1 =>
    st ⟨n1, 0, none⟩ [.int .i64 r1.1.1, .int .i64 r1.1.2.1, .int .i64 r1.1.2.2.1] <|
    ifB (!r1.2.1) (
     go1 (⟨z1.1.a, z1.1.len, z1.1.cap⟩, IntKind.i64.wrap (z1.2.1 + 1), ())) (
     ld ⟨n1, 0, none⟩ (.agg [.int .i64, .int .i64, .int .i64]) fun v2 =>
     nw (.cells #[.int .i64 v2.1, .int .i64 v2.2.1, .int .i64 v2.2.2.1] 24) fun n2 =>
     smW PP (Builtin.append_ #[27, 27] 27 #[.slice z1.1.a z1.1.len z1.1.cap, .slice (some ⟨n2, 0, none⟩) 1 1]) [.lf .sl] fun v3 =>
     ld (Addr.add ⟨n1, 0, none⟩ 2) (.lf (.int .i64)) fun v4 =>
     go1 (⟨v3.1.a, v3.1.len, v3.1.cap⟩, IntKind.i64.wrap ((IntKind.i64.wrap (z1.2.1 + (IntKind.i64.wrap (v4 - 1)))) + 1), ()))) (
    K (.slice z1.1.a z1.1.len z1.1.cap))
theorem e60 (x0 : Option Addr) (x1 : FnV) (K : Value → HP) : flatFn PP h60 Try.f60 [.pointer x0, .func x1.fn x1.first x1.captured] K = t60 x0 x1 K := by kernel_rfl

/-- (*depot/region.scanner).at -/
def h61 : Hints := ⟨[(0, [(31, .lf (.int .i64))])], [], []⟩
def t61 (x0 : Option Addr) (x1 : Int) (K : Value → HP) : HP :=
  nw (.cells #[.int .i64 0, .int .i64 0, .int .i64 0] 24) fun n1 =>
  nilc x0 fun a1 =>
  ld a1 (.lf .sl) fun v1 =>
  nilc v1.a fun a2 =>
  ixn x1 v1.len <|
  ld (Addr.add a2 (x1.toNat * 7)) (.agg [.int .i64, .int .i64, .int .i64, .int .i64, .int .i64, .sl, .bool]) fun v2 =>
  nw (.cells #[.int .i64 0, .int .i64 0, .int .i64 0, .int .i64 0, .int .i64 0, .slice none 0 0, .bool false] 113) fun n2 =>
  st ⟨n2, 0, none⟩ [.int .i64 v2.1, .int .i64 v2.2.1, .int .i64 v2.2.2.1, .int .i64 v2.2.2.2.1, .int .i64 v2.2.2.2.2.1, .slice v2.2.2.2.2.2.1.a v2.2.2.2.2.2.1.len v2.2.2.2.2.2.1.cap, .bool v2.2.2.2.2.2.2.1] <|
  ld (Addr.add ⟨n2, 0, none⟩ 6) (.lf .bool) fun v3 =>
  ifB (!v3) (
   st ⟨n1, 0, none⟩ [.int .i64 0, .int .i64 0, .int .i64 0] <|
   ld ⟨n1, 0, none⟩ (.agg [.int .i64, .int .i64, .int .i64]) fun v4 =>
   K (.tuple #[.agg #[.int .i64 v4.1, .int .i64 v4.2.1, .int .i64 v4.2.2.1], .bool false])) (
   ld ⟨n2, 0, none⟩ (.lf (.int .i64)) fun v5 =>
   cl PP 97 #[.int .i64 v5] [.lf .bool] fun r1 =>
   ifB (!r1.1) (
    st ⟨n1, 0, none⟩ [.int .i64 0, .int .i64 0, .int .i64 0] <|
    ld ⟨n1, 0, none⟩ (.agg [.int .i64, .int .i64, .int .i64]) fun v6 =>
    K (.tuple #[.agg #[.int .i64 v6.1, .int .i64 v6.2.1, .int .i64 v6.2.2.1], .bool false])) (
    ld (Addr.add ⟨n2, 0, none⟩ 2) (.lf (.int .i64)) fun v7 =>
    lp [.lf (.int .i64)] (0, ()) fun z1 go1 =>   -- 
     ifB (decide ((z1.1 : Int) < v7)) (
      ld ⟨n2, 0, none⟩ (.lf (.int .i64)) fun v8 =>
      ld (Addr.add ⟨n2, 0, none⟩ 2) (.lf (.int .i64)) fun v9 =>
      cl PP 58 #[.pointer x0, .int .i64 (IntKind.i64.wrap (x1 + z1.1)), .agg #[.int .i64 v8, .int .i64 z1.1, .int .i64 v9, .int .i64 0, .int .i64 0]] [.lf .sl, .lf .bool] fun r2 =>
      ifB (!r2.2.1) (
       st ⟨n1, 0, none⟩ [.int .i64 0, .int .i64 0, .int .i64 0] <|
       ld ⟨n1, 0, none⟩ (.agg [.int .i64, .int .i64, .int .i64]) fun v10 =>
       K (.tuple #[.agg #[.int .i64 v10.1, .int .i64 v10.2.1, .int .i64 v10.2.2.1], .bool false])) (
       go1 (IntKind.i64.wrap (z1.1 + 1), ()))) (
      ld ⟨n2, 0, none⟩ (.lf (.int .i64)) fun v11 =>
      ld (Addr.add ⟨n2, 0, none⟩ 2) (.lf (.int .i64)) fun v12 =>
      st ⟨n1, 0, none⟩ [.int .i64 v11, .int .i64 x1, .int .i64 v12] <|
      ld ⟨n1, 0, none⟩ (.agg [.int .i64, .int .i64, .int .i64]) fun v13 =>
      K (.tuple #[.agg #[.int .i64 v13.1, .int .i64 v13.2.1, .int .i64 v13.2.2.1], .bool true]))))
theorem e61 (x0 : Option Addr) (x1 : Int) (K : Value → HP) : flatFn PP h61 Try.f61 [.pointer x0, .int .i64 x1] K = t61 x0 x1 K := by kernel_rfl

/-- depot/depotref23.Parse -/
def h62 : Hints := ⟨[], [], [(10, [0, 1, 4, 5, 8, 9, 12, 13, 14, 2, 3, 6, 7, 10, 11, 15, 16, 17, 18, 19])]⟩
def t62 (x0 : SlV) (K : Value → HP) : HP :=
  nw (.cells #[.int .i64 0, .int .i64 0, .int .i64 0, .int .i64 0, .int .i64 0] 111) fun n1 =>
  cl PP 98 #[.int .i64 x0.len] [.lf .bool] fun r1 =>
  ifB (!r1.1) (
   st ⟨n1, 0, none⟩ [.int .i64 0, .int .i64 0, .int .i64 0, .int .i64 0, .int .i64 0] <|
   ld ⟨n1, 0, none⟩ (.agg [.int .i64, .int .i64, .int .i64, .int .i64, .int .i64]) fun v1 =>
   K (.tuple #[.agg #[.int .i64 v1.1, .int .i64 v1.2.1, .int .i64 v1.2.2.1, .int .i64 v1.2.2.2.1, .int .i64 v1.2.2.2.2.1], .slice none 0 0, .int .i64 2])) (
   cl PP 64 #[.slice x0.a x0.len x0.cap] [.lf .bool] fun r2 =>
   ifB r2.1 (
    st ⟨n1, 0, none⟩ [.int .i64 0, .int .i64 0, .int .i64 0, .int .i64 0, .int .i64 0] <|
    ld ⟨n1, 0, none⟩ (.agg [.int .i64, .int .i64, .int .i64, .int .i64, .int .i64]) fun v2 =>
    K (.tuple #[.agg #[.int .i64 v2.1, .int .i64 v2.2.1, .int .i64 v2.2.2.1, .int .i64 v2.2.2.2.1, .int .i64 v2.2.2.2.2.1], .slice none 0 0, .int .i64 15])) (
    cl PP 73 #[.slice x0.a x0.len x0.cap, .int .i64 (IntKind.i64.wrap (x0.len - 4)), .int .i64 4] [.lf (.int .i64), .lf (.int .i64)] fun r3 =>
    slc ⟨x0.a, x0.len, x0.cap⟩ 0 (IntKind.i64.wrap (x0.len - 4)) x0.cap 1 fun s1 =>
    cl PP 99 #[.slice s1.a s1.len s1.cap] [.lf (.int .i64)] fun r4 =>
    ifB ((r3.1 : Int) != r4.1) (
     st ⟨n1, 0, none⟩ [.int .i64 0, .int .i64 0, .int .i64 0, .int .i64 0, .int .i64 0] <|
     ld ⟨n1, 0, none⟩ (.agg [.int .i64, .int .i64, .int .i64, .int .i64, .int .i64]) fun v3 =>
     K (.tuple #[.agg #[.int .i64 v3.1, .int .i64 v3.2.1, .int .i64 v3.2.2.1, .int .i64 v3.2.2.2.1, .int .i64 v3.2.2.2.2.1], .slice none 0 0, .int .i64 12])) (
     cl PP 73 #[.slice x0.a x0.len x0.cap, .int .i64 4, .int .i64 4] [.lf (.int .i64), .lf (.int .i64)] fun r5 =>
     cl PP 73 #[.slice x0.a x0.len x0.cap, .int .i64 10, .int .i64 2] [.lf (.int .i64), .lf (.int .i64)] fun r6 =>
     nilc x0.a fun a1 =>
     ixn 0 x0.len <|
     nilc x0.a fun a2 =>
     ixn 1 x0.len <|
     nilc x0.a fun a3 =>
     ixn 2 x0.len <|
     nilc x0.a fun a4 =>
     ixn 8 x0.len <|
     ld (Addr.add a1 ((0 : Int).toNat * 1)) (.lf (.int .u8)) fun v4 =>
     ld (Addr.add a2 ((1 : Int).toNat * 1)) (.lf (.int .u8)) fun v5 =>
     ld (Addr.add a3 ((2 : Int).toNat * 1)) (.lf (.int .u8)) fun v6 =>
     ld (Addr.add a4 ((8 : Int).toNat * 1)) (.lf (.int .u8)) fun v7 =>
     nw (.cells #[.int .i64 0, .int .i64 0, .int .i64 0, .int .i64 0, .int .i64 0] 111) fun n2 =>
     st ⟨n2, 0, none⟩ [.int .i64 (IntKind.i64.wrap v4), .int .i64 (IntKind.i64.wrap v5), .int .i64 (IntKind.i64.wrap v6), .int .i64 r5.1, .int .i64 (IntKind.i64.wrap v7)] <|
     ifB (decide ((r6.1 : Int) > (IntKind.i64.wrap (x0.len - 16)))) (
      st ⟨n1, 0, none⟩ [.int .i64 0, .int .i64 0, .int .i64 0, .int .i64 0, .int .i64 0] <|
      ld ⟨n1, 0, none⟩ (.agg [.int .i64, .int .i64, .int .i64, .int .i64, .int .i64]) fun v8 =>
      K (.tuple #[.agg #[.int .i64 v8.1, .int .i64 v8.2.1, .int .i64 v8.2.2.1, .int .i64 v8.2.2.2.1, .int .i64 v8.2.2.2.2.1], .slice none 0 0, .int .i64 5])) (
      nw (.cells #[] 5) fun n3 =>
      slc ⟨x0.a, x0.len, x0.cap⟩ 12 (IntKind.i64.wrap (12 + r6.1)) x0.cap 1 fun s2 =>
      smW PP (Builtin.append_ #[40, 40] 40 #[.slice (some ⟨n3, 0, none⟩) 0 0, .slice s2.a s2.len s2.cap]) [.lf .sl] fun v9 =>
      ld ⟨n2, 0, none⟩ (.agg [.int .i64, .int .i64, .int .i64, .int .i64, .int .i64]) fun v10 =>
      cl PP 100 #[.agg #[.int .i64 v10.1, .int .i64 v10.2.1, .int .i64 v10.2.2.1, .int .i64 v10.2.2.2.1, .int .i64 v10.2.2.2.2.1], .slice v9.1.a v9.1.len v9.1.cap, .int .i64 x0.len] [.lf .sl, .lf (.int .i64)] fun r7 =>
      ifB ((r7.2.1 : Int) != 0) (
       st ⟨n1, 0, none⟩ [.int .i64 0, .int .i64 0, .int .i64 0, .int .i64 0, .int .i64 0] <|
       ld ⟨n1, 0, none⟩ (.agg [.int .i64, .int .i64, .int .i64, .int .i64, .int .i64]) fun v11 =>
       K (.tuple #[.agg #[.int .i64 v11.1, .int .i64 v11.2.1, .int .i64 v11.2.2.1, .int .i64 v11.2.2.2.1, .int .i64 v11.2.2.2.2.1], .slice none 0 0, .int .i64 5])) (
       smR PP (Conv.bytesToString (.slice r7.1.a r7.1.len r7.1.cap)) [.lf .str] fun v12 =>
       smR PP (Conv.bytesToString (.slice x0.a x0.len x0.cap)) [.lf .str] fun v13 =>
       ifB (!(ByteArray.toList v12.1 == ByteArray.toList v13.1)) (
        st ⟨n1, 0, none⟩ [.int .i64 0, .int .i64 0, .int .i64 0, .int .i64 0, .int .i64 0] <|
        ld ⟨n1, 0, none⟩ (.agg [.int .i64, .int .i64, .int .i64, .int .i64, .int .i64]) fun v14 =>
        K (.tuple #[.agg #[.int .i64 v14.1, .int .i64 v14.2.1, .int .i64 v14.2.2.1, .int .i64 v14.2.2.2.1, .int .i64 v14.2.2.2.2.1], .slice none 0 0, .int .i64 5])) (
        ld ⟨n2, 0, none⟩ (.agg [.int .i64, .int .i64, .int .i64, .int .i64, .int .i64]) fun v15 =>
        st ⟨n1, 0, none⟩ [.int .i64 v15.1, .int .i64 v15.2.1, .int .i64 v15.2.2.1, .int .i64 v15.2.2.2.1, .int .i64 v15.2.2.2.2.1] <|
        ld ⟨n1, 0, none⟩ (.agg [.int .i64, .int .i64, .int .i64, .int .i64, .int .i64]) fun v16 =>
        K (.tuple #[.agg #[.int .i64 v16.1, .int .i64 v16.2.1, .int .i64 v16.2.2.1, .int .i64 v16.2.2.2.1, .int .i64 v16.2.2.2.2.1], .slice v9.1.a v9.1.len v9.1.cap, .int .i64 0])))))))
theorem e62 (x0 : SlV) (K : Value → HP) : flatFn PP h62 Try.f62 [.slice x0.a x0.len x0.cap] K = t62 x0 K := by kernel_rfl

/-- depot/depotref25.is -/
def h63 : Hints := ⟨[], [], [(4, [0, 1, 2, 3, 8, 4, 5, 6, 7, 9])]⟩
def t63 (x0 : SlV) (x1 : Int) (x2 : ShV (.agg [.int .i64, .int .i64, .int .i64, .int .i64, .int .i64])) (K : Value → HP) : HP :=
  nw (.cells #[.int .i64 x2.1, .int .i64 x2.2.1, .int .i64 x2.2.2.1, .int .i64 x2.2.2.2.1, .int .i64 x2.2.2.2.2.1] 111) fun n1 =>
  ifB (decide ((x1 : Int) ≥ x0.len)) (
   K (.tuple #[.slice none 0 0, .bool false])) (
   ifB (decide ((x1 : Int) ≥ 16)) (
    K (.tuple #[.slice none 0 0, .bool false])) (
    nilc x0.a fun a1 =>
    ixn x1 x0.len <|
    ld (Addr.add a1 (x1.toNat * 1)) (.lf .sl) fun v1 =>
    cl PP 62 #[.slice v1.a v1.len v1.cap] [.agg [.int .i64, .int .i64, .int .i64, .int .i64, .int .i64], .lf .sl, .lf (.int .i64)] fun r1 =>
    nw (.cells #[.int .i64 0, .int .i64 0, .int .i64 0, .int .i64 0, .int .i64 0] 111) fun n2 =>
    st ⟨n2, 0, none⟩ [.int .i64 r1.1.1, .int .i64 r1.1.2.1, .int .i64 r1.1.2.2.1, .int .i64 r1.1.2.2.2.1, .int .i64 r1.1.2.2.2.2.1] <|
    ifB ((r1.2.2.1 : Int) == 0) (
     ld ⟨n2, 0, none⟩ (.agg [.int .i64, .int .i64, .int .i64, .int .i64, .int .i64]) fun v2 =>
     ld ⟨n1, 0, none⟩ (.agg [.int .i64, .int .i64, .int .i64, .int .i64, .int .i64]) fun v3 =>
     smP PP (binOp .eql 111 (.agg #[.int .i64 v2.1, .int .i64 v2.2.1, .int .i64 v2.2.2.1, .int .i64 v2.2.2.2.1, .int .i64 v2.2.2.2.2.1]) (.agg #[.int .i64 v3.1, .int .i64 v3.2.1, .int .i64 v3.2.2.1, .int .i64 v3.2.2.2.1, .int .i64 v3.2.2.2.2.1])) (.lf .bool) fun v4 =>
     K (.tuple #[.slice r1.2.1.a r1.2.1.len r1.2.1.cap, .bool v4])) (
     K (.tuple #[.slice r1.2.1.a r1.2.1.len r1.2.1.cap, .bool false]))))
theorem e63 (x0 : SlV) (x1 : Int) (x2 : ShV (.agg [.int .i64, .int .i64, .int .i64, .int .i64, .int .i64])) (K : Value → HP) : flatFn PP h63 Try.f63 [.slice x0.a x0.len x0.cap, .int .i64 x1, .agg #[.int .i64 x2.1, .int .i64 x2.2.1, .int .i64 x2.2.2.1, .int .i64 x2.2.2.2.1, .int .i64 x2.2.2.2.2.1]] K = t63 x0 x1 x2 K := by kernel_rfl

/-- depot/depotref23.Blank -/
def h64 : Hints := ⟨[(0, [(3, .lf (.int .i64))])], [], []⟩
def t64 (x0 : SlV) (K : Value → HP) : HP :=
  lp [.lf (.int .i64)] (0, ()) fun z1 go1 =>   -- i
   ifB (decide ((z1.1 : Int) < x0.len)) (
    nilc x0.a fun a1 =>
    ixn z1.1 x0.len <|
    ld (Addr.add a1 (z1.1.toNat * 1)) (.lf (.int .u8)) fun v1 =>
    ifB ((v1 : Int) != 255) (
     K (.bool false)) (
     go1 (IntKind.i64.wrap (z1.1 + 1), ()))) (
    K (.bool true))
theorem e64 (x0 : SlV) (K : Value → HP) : flatFn PP h64 Try.f64 [.slice x0.a x0.len x0.cap] K = t64 x0 K := by kernel_rfl

/-- depot/depotref25.sealed -/
def h65 : Hints := ⟨[(0, [(6, .lf .sl), (7, .lf (.int .i64)), (8, .lf (.int .i64))])], [], [(8, [0, 1, 2, 5, 6, 7, 8, 11, 12, 13, 14, 3, 4, 9, 10, 15, 16, 17, 18, 19])]⟩
def t65 (x0 : SlV) (x1 : Int) (K : Value → HP) : HP :=
  req ((3 : Int) ≠ 0) <|
  ifB ((Int.tmod x0.len 3 : Int) != 0) (
   K (.tuple #[.slice none 0 0, .bool false])) (
   lp [.lf .sl, .lf (.int .i64), .lf (.int .i64)] (⟨none, 0, 0⟩, 1, 0, ()) fun z1 go1 =>   -- out, next, i
    ifB (decide ((z1.2.2.1 : Int) < x0.len)) (
     nilc x0.a fun a1 =>
     ixn z1.2.2.1 x0.len <|
     nilc x0.a fun a2 =>
     ixn (IntKind.i64.wrap (z1.2.2.1 + 1)) x0.len <|
     nilc x0.a fun a3 =>
     ixn (IntKind.i64.wrap (z1.2.2.1 + 2)) x0.len <|
     ld (Addr.add a1 (z1.2.2.1.toNat * 1)) (.lf (.int .u8)) fun v1 =>
     ld (Addr.add a2 ((IntKind.i64.wrap (z1.2.2.1 + 1)).toNat * 1)) (.lf (.int .u8)) fun v2 =>
     ld (Addr.add a3 ((IntKind.i64.wrap (z1.2.2.1 + 2)).toNat * 1)) (.lf (.int .u8)) fun v3 =>
     nw (.cells #[.int .i64 0, .int .i64 0, .int .i64 0] 24) fun n1 =>
     st ⟨n1, 0, none⟩ [.int .i64 (IntKind.i64.wrap v1), .int .i64 (IntKind.i64.wrap v2), .int .i64 (IntKind.i64.wrap v3)] <|
     ld ⟨n1, 0, none⟩ (.lf (.int .i64)) fun v4 =>
     ifB ((v4 : Int) != 2) (
      ld ⟨n1, 0, none⟩ (.lf (.int .i64)) fun v5 =>
      ifB ((v5 : Int) != 3) (
       K (.tuple #[.slice none 0 0, .bool false])) (
       ld (Addr.add ⟨n1, 0, none⟩ 2) (.lf (.int .i64)) fun v6 =>
       ifB (decide ((v6 : Int) < 1)) (
        K (.tuple #[.slice none 0 0, .bool false])) (
        ld (Addr.add ⟨n1, 0, none⟩ 1) (.lf (.int .i64)) fun v7 =>
        ifB ((v7 : Int) != z1.2.1) (
         K (.tuple #[.slice none 0 0, .bool false])) (
         ld (Addr.add ⟨n1, 0, none⟩ 2) (.lf (.int .i64)) fun v8 =>
         ld ⟨n1, 0, none⟩ (.agg [.int .i64, .int .i64, .int .i64]) fun v9 =>
         nw (.cells #[.int .i64 v9.1, .int .i64 v9.2.1, .int .i64 v9.2.2.1] 24) fun n2 =>
         smW PP (Builtin.append_ #[27, 27] 27 #[.slice z1.1.a z1.1.len z1.1.cap, .slice (some ⟨n2, 0, none⟩) 1 1]) [.lf .sl] fun v10 =>
         go1 (⟨v10.1.a, v10.1.len, v10.1.cap⟩, IntKind.i64.wrap (z1.2.1 + v8), IntKind.i64.wrap (z1.2.2.1 + 3), ()))))) (
      ld (Addr.add ⟨n1, 0, none⟩ 2) (.lf (.int .i64)) fun v11 =>
      ifB (decide ((v11 : Int) < 1)) (
       K (.tuple #[.slice none 0 0, .bool false])) (
       ld (Addr.add ⟨n1, 0, none⟩ 1) (.lf (.int .i64)) fun v12 =>
       ifB ((v12 : Int) != z1.2.1) (
        K (.tuple #[.slice none 0 0, .bool false])) (
        ld (Addr.add ⟨n1, 0, none⟩ 2) (.lf (.int .i64)) fun v13 =>
        ld ⟨n1, 0, none⟩ (.agg [.int .i64, .int .i64, .int .i64]) fun v14 =>
        nw (.cells #[.int .i64 v14.1, .int .i64 v14.2.1, .int .i64 v14.2.2.1] 24) fun n3 =>
        smW PP (Builtin.append_ #[27, 27] 27 #[.slice z1.1.a z1.1.len z1.1.cap, .slice (some ⟨n3, 0, none⟩) 1 1]) [.lf .sl] fun v15 =>
        go1 (⟨v15.1.a, v15.1.len, v15.1.cap⟩, IntKind.i64.wrap (z1.2.1 + v13), IntKind.i64.wrap (z1.2.2.1 + 3), ()))))) (
     K (.tuple #[.slice z1.1.a z1.1.len z1.1.cap, .bool ((z1.2.1 : Int) == x1)])))
theorem e65 (x0 : SlV) (x1 : Int) (K : Value → HP) : flatFn PP h65 Try.f65 [.slice x0.a x0.len x0.cap, .int .i64 x1] K = t65 x0 x1 K := by kernel_rfl

/-- depot/depotref25.found -/
def h66 : Hints := ⟨[(0, [(11, .lf (.int .i64))])], [], []⟩
def t66 (x0 : SlV) (x1 : Int) (x2 : Int) (K : Value → HP) : HP :=
  nw (.cells #[.int .i64 0, .int .i64 0, .int .i64 0] 24) fun n1 =>
  nilc x0.a fun a1 =>
  ixn x1 x0.len <|
  ld (Addr.add a1 (x1.toNat * 1)) (.lf .sl) fun v1 =>
  cl PP 62 #[.slice v1.a v1.len v1.cap] [.agg [.int .i64, .int .i64, .int .i64, .int .i64, .int .i64], .lf .sl, .lf (.int .i64)] fun r1 =>
  nw (.cells #[.int .i64 0, .int .i64 0, .int .i64 0, .int .i64 0, .int .i64 0] 111) fun n2 =>
  st ⟨n2, 0, none⟩ [.int .i64 r1.1.1, .int .i64 r1.1.2.1, .int .i64 r1.1.2.2.1, .int .i64 r1.1.2.2.2.1, .int .i64 r1.1.2.2.2.2.1] <|
  ifB ((r1.2.2.1 : Int) != 0) (
   st ⟨n1, 0, none⟩ [.int .i64 0, .int .i64 0, .int .i64 0] <|
   ld ⟨n1, 0, none⟩ (.agg [.int .i64, .int .i64, .int .i64]) fun v2 =>
   K (.tuple #[.agg #[.int .i64 v2.1, .int .i64 v2.2.1, .int .i64 v2.2.2.1], .bool false])) (
   ld ⟨n2, 0, none⟩ (.lf (.int .i64)) fun v3 =>
   ifB ((v3 : Int) != 2) (
    ld ⟨n2, 0, none⟩ (.lf (.int .i64)) fun v4 =>
    ifB ((v4 : Int) != 3) (
     st ⟨n1, 0, none⟩ [.int .i64 0, .int .i64 0, .int .i64 0] <|
     ld ⟨n1, 0, none⟩ (.agg [.int .i64, .int .i64, .int .i64]) fun v5 =>
     K (.tuple #[.agg #[.int .i64 v5.1, .int .i64 v5.2.1, .int .i64 v5.2.2.1], .bool false])) (
     lp [.lf (.int .i64)] (0, ()) fun z1 go1 =>   -- i
      ld (Addr.add ⟨n2, 0, none⟩ 2) (.lf (.int .i64)) fun v6 =>
      ifB (decide ((z1.1 : Int) < v6)) (
       ld ⟨n2, 0, none⟩ (.lf (.int .i64)) fun v7 =>
       ld (Addr.add ⟨n2, 0, none⟩ 2) (.lf (.int .i64)) fun v8 =>
       cl PP 63 #[.slice x0.a x0.len x0.cap, .int .i64 (IntKind.i64.wrap (x1 + z1.1)), .agg #[.int .i64 v7, .int .i64 z1.1, .int .i64 v8, .int .i64 x2, .int .i64 (IntKind.i64.wrap (x1 + z1.1))]] [.lf .sl, .lf .bool] fun r2 =>
       ifB (!r2.2.1) (
        st ⟨n1, 0, none⟩ [.int .i64 0, .int .i64 0, .int .i64 0] <|
        ld ⟨n1, 0, none⟩ (.agg [.int .i64, .int .i64, .int .i64]) fun v9 =>
        K (.tuple #[.agg #[.int .i64 v9.1, .int .i64 v9.2.1, .int .i64 v9.2.2.1], .bool false])) (
        go1 (IntKind.i64.wrap (z1.1 + 1), ()))) (
       ld ⟨n2, 0, none⟩ (.lf (.int .i64)) fun v10 =>
       ld (Addr.add ⟨n2, 0, none⟩ 2) (.lf (.int .i64)) fun v11 =>
       st ⟨n1, 0, none⟩ [.int .i64 v10, .int .i64 x1, .int .i64 v11] <|
       ld ⟨n1, 0, none⟩ (.agg [.int .i64, .int .i64, .int .i64]) fun v12 =>
       K (.tuple #[.agg #[.int .i64 v12.1, .int .i64 v12.2.1, .int .i64 v12.2.2.1], .bool true])))) (
    lp [.lf (.int .i64)] (0, ()) fun z2 go2 =>   -- i
     ld (Addr.add ⟨n2, 0, none⟩ 2) (.lf (.int .i64)) fun v13 =>
     ifB (decide ((z2.1 : Int) < v13)) (
      ld ⟨n2, 0, none⟩ (.lf (.int .i64)) fun v14 =>
      ld (Addr.add ⟨n2, 0, none⟩ 2) (.lf (.int .i64)) fun v15 =>
      cl PP 63 #[.slice x0.a x0.len x0.cap, .int .i64 (IntKind.i64.wrap (x1 + z2.1)), .agg #[.int .i64 v14, .int .i64 z2.1, .int .i64 v15, .int .i64 x2, .int .i64 (IntKind.i64.wrap (x1 + z2.1))]] [.lf .sl, .lf .bool] fun r3 =>
      ifB (!r3.2.1) (
       st ⟨n1, 0, none⟩ [.int .i64 0, .int .i64 0, .int .i64 0] <|
       ld ⟨n1, 0, none⟩ (.agg [.int .i64, .int .i64, .int .i64]) fun v16 =>
       K (.tuple #[.agg #[.int .i64 v16.1, .int .i64 v16.2.1, .int .i64 v16.2.2.1], .bool false])) (
       go2 (IntKind.i64.wrap (z2.1 + 1), ()))) (
      ld ⟨n2, 0, none⟩ (.lf (.int .i64)) fun v17 =>
      ld (Addr.add ⟨n2, 0, none⟩ 2) (.lf (.int .i64)) fun v18 =>
      st ⟨n1, 0, none⟩ [.int .i64 v17, .int .i64 x1, .int .i64 v18] <|
      ld ⟨n1, 0, none⟩ (.agg [.int .i64, .int .i64, .int .i64]) fun v19 =>
      K (.tuple #[.agg #[.int .i64 v19.1, .int .i64 v19.2.1, .int .i64 v19.2.2.1], .bool true]))))
theorem e66 (x0 : SlV) (x1 : Int) (x2 : Int) (K : Value → HP) : flatFn PP h66 Try.f66 [.slice x0.a x0.len x0.cap, .int .i64 x1, .int .i64 x2] K = t66 x0 x1 x2 K := by kernel_rfl

/-- depot/page.Parse -/
def h67 : Hints := ⟨[(1, [(84, .lf (.int .i64))])], [], [(19, [2, 3, 4, 0, 1, 5, 6, 7, 8]), (8, [0, 1, 4, 5, 8, 9, 12, 14, 15, 2, 3, 6, 7, 10, 11, 16, 17, 13, 18, 19, 20]), (6, [0, 1, 2, 3, 4, 5, 6, 7])]⟩
def t67 (x0 : SlV) (K : Value → HP) : HP :=
  nw (.cells #[.int .i64 0, .int .i64 0, .int .i64 0, .int .i64 0, .int .i64 0] 111) fun n1 =>
  cl PP 101 #[.int .i64 x0.len] [.lf .bool] fun r1 =>
  ifB (!r1.1) (
   st ⟨n1, 0, none⟩ [.int .i64 0, .int .i64 0, .int .i64 0, .int .i64 0, .int .i64 0] <|
   ld ⟨n1, 0, none⟩ (.agg [.int .i64, .int .i64, .int .i64, .int .i64, .int .i64]) fun v1 =>
   K (.tuple #[.agg #[.int .i64 v1.1, .int .i64 v1.2.1, .int .i64 v1.2.2.1, .int .i64 v1.2.2.2.1, .int .i64 v1.2.2.2.2.1], .slice none 0 0, .int .i64 2])) (
   cl PP 96 #[.slice x0.a x0.len x0.cap] [.lf .bool] fun r2 =>
   ifB r2.1 (
    st ⟨n1, 0, none⟩ [.int .i64 0, .int .i64 0, .int .i64 0, .int .i64 0, .int .i64 0] <|
    ld ⟨n1, 0, none⟩ (.agg [.int .i64, .int .i64, .int .i64, .int .i64, .int .i64]) fun v2 =>
    K (.tuple #[.agg #[.int .i64 v2.1, .int .i64 v2.2.1, .int .i64 v2.2.2.1, .int .i64 v2.2.2.2.1, .int .i64 v2.2.2.2.2.1], .slice none 0 0, .int .i64 15])) (
    slc ⟨x0.a, x0.len, x0.cap⟩ 0 (IntKind.i64.wrap (x0.len - 4)) x0.cap 1 fun s1 =>
    cl PP 103 #[.slice x0.a x0.len x0.cap, .int .i64 (IntKind.i64.wrap (x0.len - 4)), .int .i64 4] [.lf (.int .i64)] fun r3 =>
    cl PP 102 #[.slice s1.a s1.len s1.cap, .int .i64 r3.1] [.lf .bool] fun r4 =>
    ifB (!r4.1) (
     st ⟨n1, 0, none⟩ [.int .i64 0, .int .i64 0, .int .i64 0, .int .i64 0, .int .i64 0] <|
     ld ⟨n1, 0, none⟩ (.agg [.int .i64, .int .i64, .int .i64, .int .i64, .int .i64]) fun v3 =>
     K (.tuple #[.agg #[.int .i64 v3.1, .int .i64 v3.2.1, .int .i64 v3.2.2.1, .int .i64 v3.2.2.2.1, .int .i64 v3.2.2.2.2.1], .slice none 0 0, .int .i64 12])) (
     nilc x0.a fun a1 =>
     ixn 0 x0.len <|
     nilc x0.a fun a2 =>
     ixn 1 x0.len <|
     nilc x0.a fun a3 =>
     ixn 2 x0.len <|
     nilc x0.a fun a4 =>
     ixn 8 x0.len <|
     ld (Addr.add a1 ((0 : Int).toNat * 1)) (.lf (.int .u8)) fun v4 =>
     ld (Addr.add a2 ((1 : Int).toNat * 1)) (.lf (.int .u8)) fun v5 =>
     ld (Addr.add a3 ((2 : Int).toNat * 1)) (.lf (.int .u8)) fun v6 =>
     ld (Addr.add a4 ((8 : Int).toNat * 1)) (.lf (.int .u8)) fun v7 =>
     cl PP 103 #[.slice x0.a x0.len x0.cap, .int .i64 4, .int .i64 4] [.lf (.int .i64)] fun r5 =>
     keep (LdAt (Addr.add a4 ((8 : Int).toNat * 1)) [.int .u8 v7]) <|
     keep (LdAt (Addr.add a3 ((2 : Int).toNat * 1)) [.int .u8 v6]) <|
     keep (LdAt (Addr.add a2 ((1 : Int).toNat * 1)) [.int .u8 v5]) <|
     keep (LdAt (Addr.add a1 ((0 : Int).toNat * 1)) [.int .u8 v4]) <|
     nw (.cells #[.int .i64 0, .int .i64 0, .int .i64 0, .int .i64 0, .int .i64 0] 111) fun n2 =>
     st ⟨n2, 0, none⟩ [.int .i64 (IntKind.i64.wrap v4), .int .i64 (IntKind.i64.wrap v5), .int .i64 (IntKind.i64.wrap v6), .int .i64 r5.1, .int .i64 (IntKind.i64.wrap v7)] <|
     cl PP 103 #[.slice x0.a x0.len x0.cap, .int .i64 10, .int .i64 2] [.lf (.int .i64)] fun r6 =>
     nilc x0.a fun a5 =>
     ixn 3 x0.len <|
     ld (Addr.add a5 ((3 : Int).toNat * 1)) (.lf (.int .u8)) fun v8 =>
     ifB ((v8 : Int) != 165) (
      st ⟨n1, 0, none⟩ [.int .i64 0, .int .i64 0, .int .i64 0, .int .i64 0, .int .i64 0] <|
      ld ⟨n1, 0, none⟩ (.agg [.int .i64, .int .i64, .int .i64, .int .i64, .int .i64]) fun v9 =>
      K (.tuple #[.agg #[.int .i64 v9.1, .int .i64 v9.2.1, .int .i64 v9.2.2.1, .int .i64 v9.2.2.2.1, .int .i64 v9.2.2.2.2.1], .slice none 0 0, .int .i64 5])) (
      nilc x0.a fun a6 =>
      ixn 9 x0.len <|
      ld (Addr.add a6 ((9 : Int).toNat * 1)) (.lf (.int .u8)) fun v10 =>
      ifB ((v10 : Int) != 0) (
       st ⟨n1, 0, none⟩ [.int .i64 0, .int .i64 0, .int .i64 0, .int .i64 0, .int .i64 0] <|
       ld ⟨n1, 0, none⟩ (.agg [.int .i64, .int .i64, .int .i64, .int .i64, .int .i64]) fun v11 =>
       K (.tuple #[.agg #[.int .i64 v11.1, .int .i64 v11.2.1, .int .i64 v11.2.2.1, .int .i64 v11.2.2.2.1, .int .i64 v11.2.2.2.2.1], .slice none 0 0, .int .i64 5])) (
       cl PP 104 #[.int .i64 x0.len] [.lf (.int .i64)] fun r7 =>
       ifB (decide ((r6.1 : Int) > r7.1)) (
        st ⟨n1, 0, none⟩ [.int .i64 0, .int .i64 0, .int .i64 0, .int .i64 0, .int .i64 0] <|
        ld ⟨n1, 0, none⟩ (.agg [.int .i64, .int .i64, .int .i64, .int .i64, .int .i64]) fun v12 =>
        K (.tuple #[.agg #[.int .i64 v12.1, .int .i64 v12.2.1, .int .i64 v12.2.2.1, .int .i64 v12.2.2.2.1, .int .i64 v12.2.2.2.2.1], .slice none 0 0, .int .i64 5])) (
        ld ⟨n2, 0, none⟩ (.agg [.int .i64, .int .i64, .int .i64, .int .i64, .int .i64]) fun v13 =>
        cl PP 105 #[.agg #[.int .i64 v13.1, .int .i64 v13.2.1, .int .i64 v13.2.2.1, .int .i64 v13.2.2.2.1, .int .i64 v13.2.2.2.2.1]] [.lf (.int .i64)] fun r8 =>
        ifB ((r8.1 : Int) != 0) (
         st ⟨n1, 0, none⟩ [.int .i64 0, .int .i64 0, .int .i64 0, .int .i64 0, .int .i64 0] <|
         ld ⟨n1, 0, none⟩ (.agg [.int .i64, .int .i64, .int .i64, .int .i64, .int .i64]) fun v14 =>
         K (.tuple #[.agg #[.int .i64 v14.1, .int .i64 v14.2.1, .int .i64 v14.2.2.1, .int .i64 v14.2.2.2.1, .int .i64 v14.2.2.2.2.1], .slice none 0 0, .int .i64 5])) (
         slc ⟨x0.a, x0.len, x0.cap⟩ (IntKind.i64.wrap (12 + r6.1)) (IntKind.i64.wrap (x0.len - 4)) x0.cap 1 fun s2 =>
         lp [.lf (.int .i64)] (0, ()) fun z1 go1 =>   -- 
          ifB (decide ((z1.1 : Int) < s2.len)) (
           nilc s2.a fun a7 =>
           ixn z1.1 s2.len <|
           ld (Addr.add a7 (z1.1.toNat * 1)) (.lf (.int .u8)) fun v15 =>
           ifB ((v15 : Int) != 0) (
            st ⟨n1, 0, none⟩ [.int .i64 0, .int .i64 0, .int .i64 0, .int .i64 0, .int .i64 0] <|
            ld ⟨n1, 0, none⟩ (.agg [.int .i64, .int .i64, .int .i64, .int .i64, .int .i64]) fun v16 =>
            K (.tuple #[.agg #[.int .i64 v16.1, .int .i64 v16.2.1, .int .i64 v16.2.2.1, .int .i64 v16.2.2.2.1, .int .i64 v16.2.2.2.2.1], .slice none 0 0, .int .i64 5])) (
            go1 (IntKind.i64.wrap (z1.1 + 1), ()))) (
           slc ⟨x0.a, x0.len, x0.cap⟩ 12 (IntKind.i64.wrap (12 + r6.1)) x0.cap 1 fun s3 =>
           ld ⟨n2, 0, none⟩ (.agg [.int .i64, .int .i64, .int .i64, .int .i64, .int .i64]) fun v17 =>
           nw (.cells #[] 5) fun n3 =>
           smW PP (Builtin.append_ #[40, 40] 40 #[.slice (some ⟨n3, 0, none⟩) 0 0, .slice s3.a s3.len s3.cap]) [.lf .sl] fun v18 =>
           keep (LdAt ⟨n2, 0, none⟩ [.int .i64 v17.1, .int .i64 v17.2.1, .int .i64 v17.2.2.1, .int .i64 v17.2.2.2.1, .int .i64 v17.2.2.2.2.1]) <|
           st ⟨n1, 0, none⟩ [.int .i64 v17.1, .int .i64 v17.2.1, .int .i64 v17.2.2.1, .int .i64 v17.2.2.2.1, .int .i64 v17.2.2.2.2.1] <|
           ld ⟨n1, 0, none⟩ (.agg [.int .i64, .int .i64, .int .i64, .int .i64, .int .i64]) fun v19 =>
           K (.tuple #[.agg #[.int .i64 v19.1, .int .i64 v19.2.1, .int .i64 v19.2.2.1, .int .i64 v19.2.2.2.1, .int .i64 v19.2.2.2.2.1], .slice v18.1.a v18.1.len v18.1.cap, .int .i64 0])))))))))
theorem e67 (x0 : SlV) (K : Value → HP) : flatFn PP h67 Try.f67 [.slice x0.a x0.len x0.cap] K = t67 x0 K := by kernel_rfl

/-- depot/region.right -/
def h68 : Hints := ⟨[], [], []⟩
def t68 (x0 : ShV (.agg [.int .i64, .int .i64, .int .i64])) (K : Value → HP) : HP :=
  nw (.cells #[.int .i64 x0.1, .int .i64 x0.2.1, .int .i64 x0.2.2.1] 104) fun n1 =>
  ld ⟨n1, 0, none⟩ (.lf (.int .i64)) fun v1 =>
  ifB (decide ((v1 : Int) ≥ 0)) (
   ld ⟨n1, 0, none⟩ (.lf (.int .i64)) fun v2 =>
   ifB (decide ((v2 : Int) < 16)) (
    ld (Addr.add ⟨n1, 0, none⟩ 1) (.lf (.int .i64)) fun v3 =>
    ifB (decide ((v3 : Int) ≥ 0)) (
     ld (Addr.add ⟨n1, 0, none⟩ 1) (.lf (.int .i64)) fun v4 =>
     ifB (decide ((v4 : Int) < 16)) (
      ld (Addr.add ⟨n1, 0, none⟩ 2) (.lf (.int .i64)) fun v5 =>
      ifB (decide ((v5 : Int) ≥ 1)) (
       ld (Addr.add ⟨n1, 0, none⟩ 2) (.lf (.int .i64)) fun v6 =>
       K (.bool (decide ((v6 : Int) ≤ 1073741824)))) (
       K (.bool false))) (
      K (.bool false))) (
     K (.bool false))) (
    K (.bool false))) (
   K (.bool false))
theorem e68 (x0 : ShV (.agg [.int .i64, .int .i64, .int .i64])) (K : Value → HP) : flatFn PP h68 Try.f68 [.agg #[.int .i64 x0.1, .int .i64 x0.2.1, .int .i64 x0.2.2.1]] K = t68 x0 K := by kernel_rfl

/-- depot/region.bytes -/
def h69 : Hints := ⟨[(0, [(0, .lf .sl), (10, .lf (.int .i64))])], [], []⟩
def t69 (x0 : SlV) (x1 : SlV) (K : Value → HP) : HP :=
  lp [.lf .sl, .lf (.int .i64)] (⟨x0.a, x0.len, x0.cap⟩, 0, ()) fun z1 go1 =>   -- b, 
   ifB (decide ((z1.2.1 : Int) < x1.len)) (
    nilc x1.a fun a1 =>
    ixn z1.2.1 x1.len <|
    ld (Addr.add a1 (z1.2.1.toNat * 1)) (.lf (.int .i64)) fun v1 =>
    ifB (decide ((v1 : Int) < 0)) (
     K (.tuple #[.slice none 0 0, .bool false])) (
     ifB (decide ((v1 : Int) > 255)) (
      K (.tuple #[.slice none 0 0, .bool false])) (
      nw (.cells #[.int .u8 (IntKind.u8.wrap v1)] 5) fun n1 =>
      smW PP (Builtin.append_ #[40, 40] 40 #[.slice z1.1.a z1.1.len z1.1.cap, .slice (some ⟨n1, 0, none⟩) 1 1]) [.lf .sl] fun v2 =>
      go1 (⟨v2.1.a, v2.1.len, v2.1.cap⟩, IntKind.i64.wrap (z1.2.1 + 1), ())))) (
    K (.tuple #[.slice z1.1.a z1.1.len z1.1.cap, .bool true]))
theorem e69 (x0 : SlV) (x1 : SlV) (K : Value → HP) : flatFn PP h69 Try.f69 [.slice x0.a x0.len x0.cap, .slice x1.a x1.len x1.cap] K = t69 x0 x1 K := by kernel_rfl

/-- depot/wire.Put -/
def h70 : Hints := ⟨[], [], []⟩
def t70 (x0 : SlV) (x1 : Int) (x2 : Int) (K : Value → HP) : HP :=
  ifB (decide ((x2 : Int) < 1)) (
   K (.tuple #[.slice none 0 0, .int .i64 2])) (
   ifB (decide ((x2 : Int) > 7)) (
    K (.tuple #[.slice none 0 0, .int .i64 2])) (
    ifB (decide ((x1 : Int) < 0)) (
     K (.tuple #[.slice none 0 0, .int .i64 3])) (
     req ((0 : Int) ≤ (IntKind.i64.wrap (8 * x2))) <|
     ifB ((Int.fdiv x1 (2 ^ (min (IntKind.i64.wrap (8 * x2) : Int).toNat IntKind.i64.bits)) : Int) != 0) (
      K (.tuple #[.slice none 0 0, .int .i64 3])) (
      cl PP 106 #[.int .i64 x1] [.agg [.int .u8, .int .u8, .int .u8, .int .u8, .int .u8, .int .u8, .int .u8, .int .u8]] fun r1 =>
      nw (.cells #[.int .u8 0, .int .u8 0, .int .u8 0, .int .u8 0, .int .u8 0, .int .u8 0, .int .u8 0, .int .u8 0] 184) fun n1 =>
      st ⟨n1, 0, none⟩ [.int .u8 r1.1.1, .int .u8 r1.1.2.1, .int .u8 r1.1.2.2.1, .int .u8 r1.1.2.2.2.1, .int .u8 r1.1.2.2.2.2.1, .int .u8 r1.1.2.2.2.2.2.1, .int .u8 r1.1.2.2.2.2.2.2.1, .int .u8 r1.1.2.2.2.2.2.2.2.1] <|
      smA PP (Instr.makeSlice 40 (.int .i64 0) (.int .i64 (IntKind.i64.wrap (x0.len + x2)))) (.lf .sl) fun v1 =>
      smW PP (Builtin.append_ #[40, 40] 40 #[.slice v1.a v1.len v1.cap, .slice x0.a x0.len x0.cap]) [.lf .sl] fun v2 =>
      slc ⟨some ⟨n1, 0, none⟩, 8, 8⟩ 0 x2 8 1 fun s1 =>
      smW PP (Builtin.append_ #[40, 40] 40 #[.slice v2.1.a v2.1.len v2.1.cap, .slice s1.a s1.len s1.cap]) [.lf .sl] fun v3 =>
      K (.tuple #[.slice v3.1.a v3.1.len v3.1.cap, .int .i64 0])))))
theorem e70 (x0 : SlV) (x1 : Int) (x2 : Int) (K : Value → HP) : flatFn PP h70 Try.f70 [.slice x0.a x0.len x0.cap, .int .i64 x1, .int .i64 x2] K = t70 x0 x1 x2 K := by kernel_rfl

/-- depot/depotref03.Put -/
def h71 : Hints := ⟨[(0, [(8, .lf .sl), (9, .lf (.int .i64)), (10, .lf (.int .i64))])], [], []⟩
def t71 (x0 : SlV) (x1 : Int) (x2 : Int) (K : Value → HP) : HP :=
  ifB (decide ((x2 : Int) < 1)) (
   K (.tuple #[.slice none 0 0, .int .i64 2])) (
   ifB (decide ((x2 : Int) > 7)) (
    K (.tuple #[.slice none 0 0, .int .i64 2])) (
    nw (.cells #[] 5) fun n1 =>
    smW PP (Builtin.append_ #[40, 40] 40 #[.slice (some ⟨n1, 0, none⟩) 0 0, .slice x0.a x0.len x0.cap]) [.lf .sl] fun v1 =>
    lp [.lf .sl, .lf (.int .i64), .lf (.int .i64)] (⟨v1.1.a, v1.1.len, v1.1.cap⟩, x1, 0, ()) fun z1 go1 =>   -- out, left, i
     ifB (decide ((z1.2.2.1 : Int) < x2)) (
      req ((256 : Int) ≠ 0) <|
      nw (.cells #[.int .u8 (IntKind.u8.wrap (Int.tmod z1.2.1 256))] 5) fun n2 =>
      smW PP (Builtin.append_ #[40, 40] 40 #[.slice z1.1.a z1.1.len z1.1.cap, .slice (some ⟨n2, 0, none⟩) 1 1]) [.lf .sl] fun v2 =>
      req ((256 : Int) ≠ 0) <|
      go1 (⟨v2.1.a, v2.1.len, v2.1.cap⟩, IntKind.i64.wrap (Int.tdiv z1.2.1 256), IntKind.i64.wrap (z1.2.2.1 + 1), ())) (
      ifB (decide ((x1 : Int) < 0)) (
       K (.tuple #[.slice none 0 0, .int .i64 3])) (
       ifB (decide ((z1.2.1 : Int) > 0)) (
        K (.tuple #[.slice none 0 0, .int .i64 3])) (
        K (.tuple #[.slice z1.1.a z1.1.len z1.1.cap, .int .i64 0]))))))
theorem e71 (x0 : SlV) (x1 : Int) (x2 : Int) (K : Value → HP) : flatFn PP h71 Try.f71 [.slice x0.a x0.len x0.cap, .int .i64 x1, .int .i64 x2] K = t71 x0 x1 x2 K := by kernel_rfl

/-- depot/wire.Get -/
def h72 : Hints := ⟨[(1, [(8, .lf (.int .i64)), (9, .lf (.int .i64)), (36, .lf (.int .i64))])], [], []⟩
def t72 (x0 : SlV) (x1 : Int) (x2 : Int) (K : Value → HP) : HP :=
  ifB (decide ((x2 : Int) < 1)) (
   K (.tuple #[.int .i64 0, .int .i64 2])) (
   ifB (decide ((x2 : Int) > 7)) (
    K (.tuple #[.int .i64 0, .int .i64 2])) (
    ifB (decide ((x1 : Int) < 0)) (
     K (.tuple #[.int .i64 0, .int .i64 6])) (
     ifB (decide ((x1 : Int) > x0.len)) (
      K (.tuple #[.int .i64 0, .int .i64 6])) (
      ifB (decide ((x2 : Int) > (IntKind.i64.wrap (x0.len - x1)))) (
       K (.tuple #[.int .i64 0, .int .i64 6])) (
       lp [.lf (.int .i64), .lf (.int .i64), .lf (.int .i64)] (0, 1, 0, ()) fun z1 go1 =>   -- n, unit, 
        ifB (decide ((z1.2.2.1 : Int) < x2)) (
         nilc x0.a fun a1 =>
         ixn (IntKind.i64.wrap (x1 + z1.2.2.1)) x0.len <|
         ld (Addr.add a1 ((IntKind.i64.wrap (x1 + z1.2.2.1)).toNat * 1)) (.lf (.int .u8)) fun v1 =>
         go1 (IntKind.i64.wrap (z1.1 + (IntKind.i64.wrap (z1.2.1 * (IntKind.i64.wrap v1)))), IntKind.i64.wrap (z1.2.1 * 256), IntKind.i64.wrap (z1.2.2.1 + 1), ())) (
         K (.tuple #[.int .i64 z1.1, .int .i64 0])))))))
theorem e72 (x0 : SlV) (x1 : Int) (x2 : Int) (K : Value → HP) : flatFn PP h72 Try.f72 [.slice x0.a x0.len x0.cap, .int .i64 x1, .int .i64 x2] K = t72 x0 x1 x2 K := by kernel_rfl

/-- depot/depotref03.Get -/
def h73 : Hints := ⟨[(0, [(8, .lf (.int .i64)), (9, .lf (.int .i64))])], [], []⟩
def t73 (x0 : SlV) (x1 : Int) (x2 : Int) (K : Value → HP) : HP :=
  ifB (decide ((x2 : Int) < 1)) (
   K (.tuple #[.int .i64 0, .int .i64 2])) (
   ifB (decide ((x2 : Int) > 7)) (
    K (.tuple #[.int .i64 0, .int .i64 2])) (
    ifB (decide ((x1 : Int) < 0)) (
     K (.tuple #[.int .i64 0, .int .i64 6])) (
     ifB (decide ((x1 : Int) > x0.len)) (
      K (.tuple #[.int .i64 0, .int .i64 6])) (
      ifB (decide ((IntKind.i64.wrap (x0.len - x1) : Int) < x2)) (
       K (.tuple #[.int .i64 0, .int .i64 6])) (
       lp [.lf (.int .i64), .lf (.int .i64)] (0, IntKind.i64.wrap (x2 - 1), ()) fun z1 go1 =>   -- n, i
        ifB (decide ((z1.2.1 : Int) ≥ 0)) (
         nilc x0.a fun a1 =>
         ixn (IntKind.i64.wrap (x1 + z1.2.1)) x0.len <|
         ld (Addr.add a1 ((IntKind.i64.wrap (x1 + z1.2.1)).toNat * 1)) (.lf (.int .u8)) fun v1 =>
         go1 (IntKind.i64.wrap ((IntKind.i64.wrap (256 * z1.1)) + (IntKind.i64.wrap v1)), IntKind.i64.wrap (z1.2.1 - 1), ())) (
         K (.tuple #[.int .i64 z1.1, .int .i64 0])))))))
theorem e73 (x0 : SlV) (x1 : Int) (x2 : Int) (K : Value → HP) : flatFn PP h73 Try.f73 [.slice x0.a x0.len x0.cap, .int .i64 x1, .int .i64 x2] K = t73 x0 x1 x2 K := by kernel_rfl

/-- depot/flash.within -/
def h80 : Hints := ⟨[], [], []⟩
def t80 (x0 : Int) (x1 : Int) (x2 : Int) (K : Value → HP) : HP :=
  ifB (decide ((x0 : Int) ≥ x1)) (
   K (.bool (decide ((x0 : Int) ≤ x2)))) (
   K (.bool false))
theorem e80 (x0 : Int) (x1 : Int) (x2 : Int) (K : Value → HP) : flatFn PP h80 Try.f80 [.int .i64 x0, .int .i64 x1, .int .i64 x2] K = t80 x0 x1 x2 K := by kernel_rfl

/-- (*depot/flash.block).wipe -/
def h81 : Hints := ⟨[(0, [(8, .lf (.int .i64))])], [], [(3, [0, 1, 2, 4, 5, 3, 6, 7, 8])]⟩
def t81 (x0 : Option Addr) (x1 : Int) (x2 : Int) (K : Value → HP) : HP :=
  lp [.lf (.int .i64)] (0, ()) fun z1 go1 =>   -- 
   ifB (decide ((z1.1 : Int) < x1)) (
    nilc x0 fun a1 =>
    ld a1 (.lf .sl) fun v1 =>
    cl PP 109 #[.int .i64 x2] [.lf .sl] fun r1 =>
    keep (LdAt a1 [.slice v1.a v1.len v1.cap]) <|
    nilc v1.a fun a2 =>
    ixn z1.1 v1.len <|
    st (Addr.add a2 (z1.1.toNat * 1)) [.slice r1.1.a r1.1.len r1.1.cap] <|
    go1 (IntKind.i64.wrap (z1.1 + 1), ())) (
    K (.tuple #[]))
theorem e81 (x0 : Option Addr) (x1 : Int) (x2 : Int) (K : Value → HP) : flatFn PP h81 Try.f81 [.pointer x0, .int .i64 x1, .int .i64 x2] K = t81 x0 x1 x2 K := by kernel_rfl

/-- depot/region.program -/
def h82 : Hints := ⟨[], [], [(1, [1, 2, 0, 3, 4, 5, 6, 7, 8, 9, 10])]⟩
def t82 (x0 : Option Addr) (x1 : Int) (x2 : ShV (.agg [.int .i64, .int .i64, .int .i64, .int .i64, .int .i64])) (x3 : SlV) (K : Value → HP) : HP :=
  nw (.cells #[.int .i64 x2.1, .int .i64 x2.2.1, .int .i64 x2.2.2.1, .int .i64 x2.2.2.2.1, .int .i64 x2.2.2.2.2.1] 111) fun n1 =>
  ld ⟨n1, 0, none⟩ (.agg [.int .i64, .int .i64, .int .i64, .int .i64, .int .i64]) fun v1 =>
  cl PP 83 #[.pointer x0] [.agg [.int .i64, .int .i64, .int .i64, .int .i64]] fun r1 =>
  keep (LdAt ⟨n1, 0, none⟩ [.int .i64 v1.1, .int .i64 v1.2.1, .int .i64 v1.2.2.1, .int .i64 v1.2.2.2.1, .int .i64 v1.2.2.2.2.1]) <|
  cl PP 110 #[.agg #[.int .i64 v1.1, .int .i64 v1.2.1, .int .i64 v1.2.2.1, .int .i64 v1.2.2.2.1, .int .i64 v1.2.2.2.2.1], .slice x3.a x3.len x3.cap, .int .i64 r1.1.2.2.1] [.lf .sl, .lf (.int .i64)] fun r2 =>
  ifB ((r2.2.1 : Int) != 0) (
   K (.int .i64 r2.2.1)) (
   ld (Addr.add ⟨n1, 0, none⟩ 4) (.lf (.int .i64)) fun v2 =>
   cl PP 111 #[.pointer x0, .int .i64 x1, .int .i64 v2, .slice r2.1.a r2.1.len r2.1.cap] [.lf (.int .i64)] fun r3 =>
   K (.int .i64 r3.1))
theorem e82 (x0 : Option Addr) (x1 : Int) (x2 : ShV (.agg [.int .i64, .int .i64, .int .i64, .int .i64, .int .i64])) (x3 : SlV) (K : Value → HP) : flatFn PP h82 Try.f82 [.pointer x0, .int .i64 x1, .agg #[.int .i64 x2.1, .int .i64 x2.2.1, .int .i64 x2.2.2.1, .int .i64 x2.2.2.2.1, .int .i64 x2.2.2.2.2.1], .slice x3.a x3.len x3.cap] K = t82 x0 x1 x2 x3 K := by kernel_rfl

/-- (*depot/flash.Flash).Config -/
def h83 : Hints := ⟨[], [], []⟩
def t83 (x0 : Option Addr) (K : Value → HP) : HP :=
  nw (.cells #[.int .i64 0, .int .i64 0, .int .i64 0, .int .i64 0] 75) fun n1 =>
  ifB (Option.isNone x0) (
   st ⟨n1, 0, none⟩ [.int .i64 0, .int .i64 0, .int .i64 0, .int .i64 0] <|
   ld ⟨n1, 0, none⟩ (.agg [.int .i64, .int .i64, .int .i64, .int .i64]) fun v1 =>
   K (.agg #[.int .i64 v1.1, .int .i64 v1.2.1, .int .i64 v1.2.2.1, .int .i64 v1.2.2.2.1])) (
   nilc x0 fun a1 =>
   ld (Addr.add a1 3) (.agg [.int .i64, .int .i64, .int .i64, .int .i64]) fun v2 =>
   st ⟨n1, 0, none⟩ [.int .i64 v2.1, .int .i64 v2.2.1, .int .i64 v2.2.2.1, .int .i64 v2.2.2.2.1] <|
   ld ⟨n1, 0, none⟩ (.agg [.int .i64, .int .i64, .int .i64, .int .i64]) fun v3 =>
   K (.agg #[.int .i64 v3.1, .int .i64 v3.2.1, .int .i64 v3.2.2.1, .int .i64 v3.2.2.2.1]))
theorem e83 (x0 : Option Addr) (K : Value → HP) : flatFn PP h83 Try.f83 [.pointer x0] K = t83 x0 K := by kernel_rfl

/-- (*depot/flash.Flash).Read -/
def h84 : Hints := ⟨[], [], []⟩
def t84 (x0 : Option Addr) (x1 : Int) (x2 : Int) (K : Value → HP) : HP :=
  cl PP 89 #[.pointer x0, .int .i64 x1, .int .i64 x2] [.lf .ptr, .lf (.int .i64)] fun r1 =>
  ifB ((r1.2.1 : Int) != 0) (
   K (.tuple #[.slice none 0 0, .int .i64 r1.2.1])) (
   nilc r1.1 fun a1 =>
   ld (Addr.add a1 3) (.lf .bool) fun v1 =>
   ifB v1 (
    nilc x0 fun a2 =>
    ld (Addr.add (Addr.add a2 3) 2) (.lf (.int .i64)) fun v2 =>
    cl PP 109 #[.int .i64 v2] [.lf .sl] fun r2 =>
    K (.tuple #[.slice r2.1.a r2.1.len r2.1.cap, .int .i64 0])) (
    nw (.cells #[] 5) fun n1 =>
    nilc r1.1 fun a3 =>
    ld a3 (.lf .sl) fun v3 =>
    nilc v3.a fun a4 =>
    ixn x2 v3.len <|
    ld (Addr.add a4 (x2.toNat * 1)) (.lf .sl) fun v4 =>
    smW PP (Builtin.append_ #[40, 40] 40 #[.slice (some ⟨n1, 0, none⟩) 0 0, .slice v4.a v4.len v4.cap]) [.lf .sl] fun v5 =>
    K (.tuple #[.slice v5.1.a v5.1.len v5.1.cap, .int .i64 0])))
theorem e84 (x0 : Option Addr) (x1 : Int) (x2 : Int) (K : Value → HP) : flatFn PP h84 Try.f84 [.pointer x0, .int .i64 x1, .int .i64 x2] K = t84 x0 x1 x2 K := by kernel_rfl

end Go.Proofs.Ytlabcgnegbdlfaa
set_option linter.unusedVariables false
set_option maxRecDepth 100000
namespace Go.Proofs.Ytlabcgnegbdlfaa
open Go.HL
/-- depot/depotref21.Right -/
def h85 : Hints := ⟨[], [], []⟩
def t85 (x0 : ShV (.agg [.int .i64, .int .i64, .int .i64, .int .i64])) (K : Value → HP) : HP :=
  nw (.cells #[.int .i64 x0.1, .int .i64 x0.2.1, .int .i64 x0.2.2.1, .int .i64 x0.2.2.2.1] 75) fun n1 =>
  ld ⟨n1, 0, none⟩ (.lf (.int .i64)) fun v1 =>
  ifB (decide ((v1 : Int) ≥ 2)) (
   ld ⟨n1, 0, none⟩ (.lf (.int .i64)) fun v2 =>
   ifB (decide ((v2 : Int) ≤ 16)) (
    ld (Addr.add ⟨n1, 0, none⟩ 1) (.lf (.int .i64)) fun v3 =>
    ifB (decide ((v3 : Int) ≥ 4)) (
     ld (Addr.add ⟨n1, 0, none⟩ 1) (.lf (.int .i64)) fun v4 =>
     ifB (decide ((v4 : Int) ≤ 16)) (
      ld (Addr.add ⟨n1, 0, none⟩ 2) (.lf (.int .i64)) fun v5 =>
      ifB (decide ((v5 : Int) ≥ 64)) (
       ld (Addr.add ⟨n1, 0, none⟩ 2) (.lf (.int .i64)) fun v6 =>
       ifB (decide ((v6 : Int) ≤ 512)) (
        ld (Addr.add ⟨n1, 0, none⟩ 3) (.lf (.int .i64)) fun v7 =>
        ifB (decide ((v7 : Int) ≥ 1)) (
         ld (Addr.add ⟨n1, 0, none⟩ 3) (.lf (.int .i64)) fun v8 =>
         K (.bool (decide ((v8 : Int) ≤ 1048576)))) (
         K (.bool false))) (
        K (.bool false))) (
       K (.bool false))) (
      K (.bool false))) (
     K (.bool false))) (
    K (.bool false))) (
   K (.bool false))
theorem e85 (x0 : ShV (.agg [.int .i64, .int .i64, .int .i64, .int .i64])) (K : Value → HP) : flatFn PP h85 Try.f85 [.agg #[.int .i64 x0.1, .int .i64 x0.2.1, .int .i64 x0.2.2.1, .int .i64 x0.2.2.2.1]] K = t85 x0 K := by kernel_rfl

/-- depot/depotref21.blank -/
def h86 : Hints := ⟨[(0, [(4, .lf (.int .i64))])], [], []⟩
def t86 (x0 : Int) (K : Value → HP) : HP :=
  smA PP (Instr.makeSlice 40 (.int .i64 x0) (.int .i64 x0)) (.lf .sl) fun v1 =>
  lp [.lf (.int .i64)] (0, ()) fun z1 go1 =>   -- i
   ifB (decide ((z1.1 : Int) < x0)) (
    nilc v1.a fun a1 =>
    ixn z1.1 v1.len <|
    st (Addr.add a1 (z1.1.toNat * 1)) [.int .u8 255] <|
    go1 (IntKind.i64.wrap (z1.1 + 1), ())) (
    smR PP (Conv.bytesToString (.slice v1.a v1.len v1.cap)) [.lf .str] fun v2 =>
    K (.string v2.1))
theorem e86 (x0 : Int) (K : Value → HP) : flatFn PP h86 Try.f86 [.int .i64 x0] K = t86 x0 K := by kernel_rfl

/-- depot/depotref25.one -/
def h87 : Hints := ⟨[], [], [(1, [1, 2, 3, 4, 5, 0, 6, 7, 8, 9, 10, 11, 12])]⟩
def t87 (x0 : Option Addr) (x1 : Int) (x2 : ShV (.agg [.int .i64, .int .i64, .int .i64, .int .i64, .int .i64])) (x3 : SlV) (K : Value → HP) : HP :=
  nw (.cells #[.int .i64 x2.1, .int .i64 x2.2.1, .int .i64 x2.2.2.1, .int .i64 x2.2.2.2.1, .int .i64 x2.2.2.2.2.1] 111) fun n1 =>
  nilc x0 fun a1 =>
  ld ⟨n1, 0, none⟩ (.agg [.int .i64, .int .i64, .int .i64, .int .i64, .int .i64]) fun v1 =>
  ld (Addr.add a1 2) (.lf (.int .i64)) fun v2 =>
  cl PP 100 #[.agg #[.int .i64 v1.1, .int .i64 v1.2.1, .int .i64 v1.2.2.1, .int .i64 v1.2.2.2.1, .int .i64 v1.2.2.2.2.1], .slice x3.a x3.len x3.cap, .int .i64 v2] [.lf .sl, .lf (.int .i64)] fun r1 =>
  ifB ((r1.2.1 : Int) != 0) (
   K (.int .i64 r1.2.1)) (
   ld (Addr.add ⟨n1, 0, none⟩ 4) (.lf (.int .i64)) fun v3 =>
   cl PP 112 #[.pointer x0, .int .i64 x1, .int .i64 v3, .slice r1.1.a r1.1.len r1.1.cap] [.lf (.int .i64)] fun r2 =>
   K (.int .i64 r2.1))
theorem e87 (x0 : Option Addr) (x1 : Int) (x2 : ShV (.agg [.int .i64, .int .i64, .int .i64, .int .i64, .int .i64])) (x3 : SlV) (K : Value → HP) : flatFn PP h87 Try.f87 [.pointer x0, .int .i64 x1, .agg #[.int .i64 x2.1, .int .i64 x2.2.1, .int .i64 x2.2.2.1, .int .i64 x2.2.2.2.1, .int .i64 x2.2.2.2.2.1], .slice x3.a x3.len x3.cap] K = t87 x0 x1 x2 x3 K := by kernel_rfl

/-- depot/depotref25.SealLoad -/
def h88 : Hints := ⟨[(0, [(4, .lf .sl), (5, .lf (.int .i64))]), (2, [(4, .lf .sl), (7, .lf (.int .i64))])], [], [(5, [0, 1, 2, 3, 5, 6, 7, 8, 10, 11, 12, 13, 4, 9, 14, 15, 16])]⟩
def t88 (x0 : SlV) (K : Value → HP) : HP :=
  lp [.lf .sl, .lf (.int .i64)] (⟨none, 0, 0⟩, 0, ()) fun z1 go1 =>   -- b, i
   ifB (decide ((z1.2.1 : Int) < x0.len)) (
    nilc x0.a fun a1 =>
    ixn z1.2.1 x0.len <|
    nilc x0.a fun a2 =>
    ixn z1.2.1 x0.len <|
    nilc x0.a fun a3 =>
    ixn z1.2.1 x0.len <|
    ld (Addr.add a1 (z1.2.1.toNat * 3)) (.lf (.int .i64)) fun v1 =>
    ld (Addr.add (Addr.add a2 (z1.2.1.toNat * 3)) 1) (.lf (.int .i64)) fun v2 =>
    ld (Addr.add (Addr.add a3 (z1.2.1.toNat * 3)) 2) (.lf (.int .i64)) fun v3 =>
    nw (.cells #[.int .i64 v1, .int .i64 v2, .int .i64 v3] 3) fun n1 =>
    lp [.lf .sl, .lf (.int .i64)] (⟨z1.1.a, z1.1.len, z1.1.cap⟩, 0, ()) fun z2 go2 =>   -- b, k
     ifB (decide ((z2.2.1 : Int) < 3)) (
      ixn z2.2.1 3 <|
      ld (Addr.add ⟨n1, 0, none⟩ (z2.2.1.toNat * 1)) (.lf (.int .i64)) fun v4 =>
      ifB (decide ((v4 : Int) < 0)) (
       K (.tuple #[.slice none 0 0, .int .i64 3])) (
       ixn z2.2.1 3 <|
       ld (Addr.add ⟨n1, 0, none⟩ (z2.2.1.toNat * 1)) (.lf (.int .i64)) fun v5 =>
       ifB (decide ((v5 : Int) > 255)) (
        K (.tuple #[.slice none 0 0, .int .i64 3])) (
        ixn z2.2.1 3 <|
        ld (Addr.add ⟨n1, 0, none⟩ (z2.2.1.toNat * 1)) (.lf (.int .i64)) fun v6 =>
        nw (.cells #[.int .u8 (IntKind.u8.wrap v6)] 5) fun n2 =>
        smW PP (Builtin.append_ #[40, 40] 40 #[.slice z2.1.a z2.1.len z2.1.cap, .slice (some ⟨n2, 0, none⟩) 1 1]) [.lf .sl] fun v7 =>
        go2 (⟨v7.1.a, v7.1.len, v7.1.cap⟩, IntKind.i64.wrap (z2.2.1 + 1), ())))) (
      go1 (⟨z2.1.a, z2.1.len, z2.1.cap⟩, IntKind.i64.wrap (z1.2.1 + 1), ()))) (
    K (.tuple #[.slice z1.1.a z1.1.len z1.1.cap, .int .i64 0]))
theorem e88 (x0 : SlV) (K : Value → HP) : flatFn PP h88 Try.f88 [.slice x0.a x0.len x0.cap] K = t88 x0 K := by kernel_rfl

/-- (*depot/flash.Flash).find -/
def h89 : Hints := ⟨[], [], []⟩
def t89 (x0 : Option Addr) (x1 : Int) (x2 : Int) (K : Value → HP) : HP :=
  ifB (Option.isNone x0) (
   K (.tuple #[.pointer none, .int .i64 1])) (
   nilc x0 fun a1 =>
   ld (Addr.add a1 2) (.lf .bool) fun v1 =>
   ifB v1 (
    K (.tuple #[.pointer none, .int .i64 11])) (
    cl PP 113 #[.pointer x0, .int .i64 x1] [.lf .ptr] fun r1 =>
    ifB (Option.isNone r1.1) (
     K (.tuple #[.pointer none, .int .i64 2])) (
     nilc x0 fun a2 =>
     ld (Addr.add (Addr.add a2 3) 1) (.lf (.int .i64)) fun v2 =>
     cl PP 80 #[.int .i64 x2, .int .i64 0, .int .i64 (IntKind.i64.wrap (v2 - 1))] [.lf .bool] fun r2 =>
     ifB (!r2.1) (
      K (.tuple #[.pointer none, .int .i64 2])) (
      K (.tuple #[.pointer r1.1, .int .i64 0])))))
theorem e89 (x0 : Option Addr) (x1 : Int) (x2 : Int) (K : Value → HP) : flatFn PP h89 Try.f89 [.pointer x0, .int .i64 x1, .int .i64 x2] K = t89 x0 x1 x2 K := by kernel_rfl

/-- (*depot/flash.tearer).tears -/
def h90 : Hints := ⟨[], [], []⟩
def t90 (x0 : Option Addr) (K : Value → HP) : HP :=
  nilc x0 fun a1 =>
  ld a1 (.lf (.int .i64)) fun v1 =>
  ifB ((v1 : Int) == 0) (
   K (.bool false)) (
   nilc x0 fun a2 =>
   ld a2 (.lf (.int .i64)) fun v2 =>
   nilc x0 fun a3 =>
   st a3 [.int .i64 (IntKind.i64.wrap (v2 - 1))] <|
   nilc x0 fun a4 =>
   ld a4 (.lf (.int .i64)) fun v3 =>
   nilc x0 fun a5 =>
   st (Addr.add a5 2) [.bool ((v3 : Int) == 0)] <|
   nilc x0 fun a6 =>
   ld (Addr.add a6 2) (.lf .bool) fun v4 =>
   K (.bool v4))
theorem e90 (x0 : Option Addr) (K : Value → HP) : flatFn PP h90 Try.f90 [.pointer x0] K = t90 x0 K := by kernel_rfl

/-- (*depot/flash.tearer).kept -/
def h91 : Hints := ⟨[], [], []⟩
def t91 (x0 : Option Addr) (x1 : Int) (K : Value → HP) : HP :=
  nilc x0 fun a1 =>
  ld (Addr.add a1 1) (.lf (.int .i64)) fun v1 =>
  K (.int .i64 (imin (imax v1 0) x1))
theorem e91 (x0 : Option Addr) (x1 : Int) (K : Value → HP) : flatFn PP h91 Try.f91 [.pointer x0, .int .i64 x1] K = t91 x0 x1 K := by kernel_rfl

/-- (*depot/flash.block).worn -/
def h92 : Hints := ⟨[], [], []⟩
def t92 (x0 : Option Addr) (x1 : Int) (K : Value → HP) : HP :=
  nilc x0 fun a1 =>
  st (Addr.add a1 1) [.int .i64 0] <|
  nilc x0 fun a2 =>
  ld (Addr.add a2 2) (.lf (.int .i64)) fun v1 =>
  nilc x0 fun a3 =>
  st (Addr.add a3 2) [.int .i64 (IntKind.i64.wrap (v1 + 1))] <|
  nilc x0 fun a4 =>
  ld (Addr.add a4 2) (.lf (.int .i64)) fun v2 =>
  nilc x0 fun a5 =>
  st (Addr.add a5 3) [.bool ((v2 : Int) == x1)] <|
  nilc x0 fun a6 =>
  ld (Addr.add a6 3) (.lf .bool) fun v3 =>
  K (.bool v3)
theorem e92 (x0 : Option Addr) (x1 : Int) (K : Value → HP) : flatFn PP h92 Try.f92 [.pointer x0, .int .i64 x1] K = t92 x0 x1 K := by kernel_rfl

/-- (*depot/depotref21.Flash).there -/
def h93 : Hints := ⟨[], [], []⟩
def t93 (x0 : Option Addr) (x1 : Int) (x2 : Int) (K : Value → HP) : HP :=
  ifB (decide ((x1 : Int) ≥ 0)) (
   nilc x0 fun a1 =>
   ld a1 (.lf (.int .i64)) fun v1 =>
   ifB (decide ((x1 : Int) < v1)) (
    ifB (decide ((x2 : Int) ≥ 0)) (
     nilc x0 fun a2 =>
     ld (Addr.add a2 1) (.lf (.int .i64)) fun v2 =>
     K (.bool (decide ((x2 : Int) < v2)))) (
     K (.bool false))) (
    K (.bool false))) (
   K (.bool false))
theorem e93 (x0 : Option Addr) (x1 : Int) (x2 : Int) (K : Value → HP) : flatFn PP h93 Try.f93 [.pointer x0, .int .i64 x1, .int .i64 x2] K = t93 x0 x1 x2 K := by kernel_rfl

/-- (*depot/depotref21.Flash).tears -/
def h94 : Hints := ⟨[], [], []⟩
def t94 (x0 : Option Addr) (K : Value → HP) : HP :=
  nilc x0 fun a1 =>
  ld (Addr.add a1 10) (.lf (.int .i64)) fun v1 =>
  ifB (decide ((v1 : Int) < 1)) (
   K (.bool false)) (
   nilc x0 fun a2 =>
   ld (Addr.add a2 10) (.lf (.int .i64)) fun v2 =>
   nilc x0 fun a3 =>
   st (Addr.add a3 10) [.int .i64 (IntKind.i64.wrap (v2 - 1))] <|
   nilc x0 fun a4 =>
   ld (Addr.add a4 10) (.lf (.int .i64)) fun v3 =>
   nilc x0 fun a5 =>
   st (Addr.add a5 9) [.bool ((v3 : Int) == 0)] <|
   nilc x0 fun a6 =>
   ld (Addr.add a6 9) (.lf .bool) fun v4 =>
   K (.bool v4))
theorem e94 (x0 : Option Addr) (K : Value → HP) : flatFn PP h94 Try.f94 [.pointer x0] K = t94 x0 K := by kernel_rfl

/-- (*depot/depotref21.Flash).Read -/
def h95 : Hints := ⟨[], [], []⟩
def t95 (x0 : Option Addr) (x1 : Int) (x2 : Int) (K : Value → HP) : HP :=
  nilc x0 fun a1 =>
  ld (Addr.add a1 9) (.lf .bool) fun v1 =>
  ifB v1 (
   K (.tuple #[.slice none 0 0, .int .i64 11])) (
   cl PP 93 #[.pointer x0, .int .i64 x1, .int .i64 x2] [.lf .bool] fun r1 =>
   ifB (!r1.1) (
    K (.tuple #[.slice none 0 0, .int .i64 2])) (
    nilc x0 fun a2 =>
    ld (Addr.add a2 7) (.lf .sl) fun v2 =>
    nilc v2.a fun a3 =>
    ixn x1 v2.len <|
    ld (Addr.add a3 (x1.toNat * 1)) (.lf .bool) fun v3 =>
    ifB v3 (
     nilc x0 fun a4 =>
     ld (Addr.add a4 2) (.lf (.int .i64)) fun v4 =>
     cl PP 86 #[.int .i64 v4] [.lf .str] fun r2 =>
     smA PP (Conv.stringToBytes 5 r2.1) (.lf .sl) fun v5 =>
     K (.tuple #[.slice v5.a v5.len v5.cap, .int .i64 0])) (
     nilc x0 fun a5 =>
     ld (Addr.add a5 4) (.lf .sl) fun v6 =>
     nilc v6.a fun a6 =>
     ixn x1 v6.len <|
     ld (Addr.add a6 (x1.toNat * 1)) (.lf .sl) fun v7 =>
     nilc v7.a fun a7 =>
     ixn x2 v7.len <|
     ld (Addr.add a7 (x2.toNat * 1)) (.lf .str) fun v8 =>
     smA PP (Conv.stringToBytes 5 v8) (.lf .sl) fun v9 =>
     K (.tuple #[.slice v9.a v9.len v9.cap, .int .i64 0]))))
theorem e95 (x0 : Option Addr) (x1 : Int) (x2 : Int) (K : Value → HP) : flatFn PP h95 Try.f95 [.pointer x0, .int .i64 x1, .int .i64 x2] K = t95 x0 x1 x2 K := by kernel_rfl

/-- depot/page.Blank -/
def h96 : Hints := ⟨[(0, [(7, .lf (.int .i64))])], [], []⟩
def t96 (x0 : SlV) (K : Value → HP) : HP :=
  lp [.lf (.int .i64)] (0, ()) fun z1 go1 =>   -- 
   ifB (decide ((z1.1 : Int) < x0.len)) (
    nilc x0.a fun a1 =>
    ixn z1.1 x0.len <|
    ld (Addr.add a1 (z1.1.toNat * 1)) (.lf (.int .u8)) fun v1 =>
    ifB ((v1 : Int) != 255) (
     K (.bool false)) (
     go1 (IntKind.i64.wrap (z1.1 + 1), ()))) (
    K (.bool true))
theorem e96 (x0 : SlV) (K : Value → HP) : flatFn PP h96 Try.f96 [.slice x0.a x0.len x0.cap] K = t96 x0 K := by kernel_rfl

/-- depot/region.item -/
def h97 : Hints := ⟨[], [], []⟩
def t97 (x0 : Int) (K : Value → HP) : HP :=
  ifB ((x0 : Int) == 2) (
   K (.bool true)) (
   K (.bool ((x0 : Int) == 3)))
theorem e97 (x0 : Int) (K : Value → HP) : flatFn PP h97 Try.f97 [.int .i64 x0] K = t97 x0 K := by kernel_rfl

/-- depot/depotref23.sized -/
def h98 : Hints := ⟨[], [], []⟩
def t98 (x0 : Int) (K : Value → HP) : HP :=
  ifB (decide ((x0 : Int) ≥ 64)) (
   K (.bool (decide ((x0 : Int) ≤ 512)))) (
   K (.bool false))
theorem e98 (x0 : Int) (K : Value → HP) : flatFn PP h98 Try.f98 [.int .i64 x0] K = t98 x0 K := by kernel_rfl

/-- depot/depotref04.Sum -/
def h99 : Hints := ⟨[], [], []⟩
def t99 (x0 : SlV) (K : Value → HP) : HP :=
  cl PP 114 #[.int .i64 0, .slice x0.a x0.len x0.cap] [.lf (.int .i64)] fun r1 =>
  K (.int .i64 r1.1)
theorem e99 (x0 : SlV) (K : Value → HP) : flatFn PP h99 Try.f99 [.slice x0.a x0.len x0.cap] K = t99 x0 K := by kernel_rfl

/-- depot/depotref23.Image -/
def h100 : Hints := ⟨[(0, [(9, .lf .sl)])], [], []⟩
def t100 (x0 : ShV (.agg [.int .i64, .int .i64, .int .i64, .int .i64, .int .i64])) (x1 : SlV) (x2 : Int) (K : Value → HP) : HP :=
  nw (.cells #[.int .i64 x0.1, .int .i64 x0.2.1, .int .i64 x0.2.2.1, .int .i64 x0.2.2.2.1, .int .i64 x0.2.2.2.2.1] 111) fun n1 =>
  cl PP 98 #[.int .i64 x2] [.lf .bool] fun r1 =>
  ifB (!r1.1) (
   K (.tuple #[.slice none 0 0, .int .i64 2])) (
   ld ⟨n1, 0, none⟩ (.agg [.int .i64, .int .i64, .int .i64, .int .i64, .int .i64]) fun v1 =>
   cl PP 115 #[.agg #[.int .i64 v1.1, .int .i64 v1.2.1, .int .i64 v1.2.2.1, .int .i64 v1.2.2.2.1, .int .i64 v1.2.2.2.2.1]] [.lf (.int .i64)] fun r2 =>
   ifB ((r2.1 : Int) != 0) (
    K (.tuple #[.slice none 0 0, .int .i64 r2.1])) (
    ifB (decide ((x1.len : Int) > (IntKind.i64.wrap (x2 - 16)))) (
     K (.tuple #[.slice none 0 0, .int .i64 4])) (
     ld ⟨n1, 0, none⟩ (.lf (.int .i64)) fun v2 =>
     ld (Addr.add ⟨n1, 0, none⟩ 1) (.lf (.int .i64)) fun v3 =>
     ld (Addr.add ⟨n1, 0, none⟩ 2) (.lf (.int .i64)) fun v4 =>
     nw (.cells #[.int .u8 (IntKind.u8.wrap v2), .int .u8 (IntKind.u8.wrap v3), .int .u8 (IntKind.u8.wrap v4), .int .u8 165] 5) fun n2 =>
     ld (Addr.add ⟨n1, 0, none⟩ 3) (.lf (.int .i64)) fun v5 =>
     cl PP 71 #[.slice (some ⟨n2, 0, none⟩) 4 4, .int .i64 v5, .int .i64 4] [.lf .sl, .lf (.int .i64)] fun r3 =>
     ld (Addr.add ⟨n1, 0, none⟩ 4) (.lf (.int .i64)) fun v6 =>
     nw (.cells #[.int .u8 (IntKind.u8.wrap v6), .int .u8 0] 5) fun n3 =>
     smW PP (Builtin.append_ #[40, 40] 40 #[.slice r3.1.a r3.1.len r3.1.cap, .slice (some ⟨n3, 0, none⟩) 2 2]) [.lf .sl] fun v7 =>
     cl PP 71 #[.slice v7.1.a v7.1.len v7.1.cap, .int .i64 x1.len, .int .i64 2] [.lf .sl, .lf (.int .i64)] fun r4 =>
     smW PP (Builtin.append_ #[40, 40] 40 #[.slice r4.1.a r4.1.len r4.1.cap, .slice x1.a x1.len x1.cap]) [.lf .sl] fun v8 =>
     lp [.lf .sl] (⟨v8.1.a, v8.1.len, v8.1.cap⟩, ()) fun z1 go1 =>   -- b
      ifB (decide ((z1.1.len : Int) < (IntKind.i64.wrap (x2 - 4)))) (
       nw (.cells #[.int .u8 0] 5) fun n4 =>
       smW PP (Builtin.append_ #[40, 40] 40 #[.slice z1.1.a z1.1.len z1.1.cap, .slice (some ⟨n4, 0, none⟩) 1 1]) [.lf .sl] fun v9 =>
       go1 (⟨v9.1.a, v9.1.len, v9.1.cap⟩, ())) (
       cl PP 99 #[.slice z1.1.a z1.1.len z1.1.cap] [.lf (.int .i64)] fun r5 =>
       cl PP 71 #[.slice z1.1.a z1.1.len z1.1.cap, .int .i64 r5.1, .int .i64 4] [.lf .sl, .lf (.int .i64)] fun r6 =>
       K (.tuple #[.slice r6.1.a r6.1.len r6.1.cap, .int .i64 0])))))
theorem e100 (x0 : ShV (.agg [.int .i64, .int .i64, .int .i64, .int .i64, .int .i64])) (x1 : SlV) (x2 : Int) (K : Value → HP) : flatFn PP h100 Try.f100 [.agg #[.int .i64 x0.1, .int .i64 x0.2.1, .int .i64 x0.2.2.1, .int .i64 x0.2.2.2.1, .int .i64 x0.2.2.2.2.1], .slice x1.a x1.len x1.cap, .int .i64 x2] K = t100 x0 x1 x2 K := by kernel_rfl

/-- depot/page.sized -/
def h101 : Hints := ⟨[], [], []⟩
def t101 (x0 : Int) (K : Value → HP) : HP :=
  ifB (decide ((x0 : Int) ≥ 64)) (
   K (.bool (decide ((x0 : Int) ≤ 512)))) (
   K (.bool false))
theorem e101 (x0 : Int) (K : Value → HP) : flatFn PP h101 Try.f101 [.int .i64 x0] K = t101 x0 K := by kernel_rfl

/-- depot/crc.Check -/
def h102 : Hints := ⟨[], [], []⟩
def t102 (x0 : SlV) (x1 : Int) (K : Value → HP) : HP :=
  cl PP 116 #[.slice x0.a x0.len x0.cap] [.lf (.int .i64)] fun r1 =>
  K (.bool ((r1.1 : Int) == x1))
theorem e102 (x0 : SlV) (x1 : Int) (K : Value → HP) : flatFn PP h102 Try.f102 [.slice x0.a x0.len x0.cap, .int .i64 x1] K = t102 x0 x1 K := by kernel_rfl

/-- depot/page.at -/
def h103 : Hints := ⟨[], [], []⟩
def t103 (x0 : SlV) (x1 : Int) (x2 : Int) (K : Value → HP) : HP :=
  cl PP 72 #[.slice x0.a x0.len x0.cap, .int .i64 x1, .int .i64 x2] [.lf (.int .i64), .lf (.int .i64)] fun r1 =>
  K (.int .i64 r1.1)
theorem e103 (x0 : SlV) (x1 : Int) (x2 : Int) (K : Value → HP) : flatFn PP h103 Try.f103 [.slice x0.a x0.len x0.cap, .int .i64 x1, .int .i64 x2] K = t103 x0 x1 x2 K := by kernel_rfl

/-- depot/page.Room -/
def h104 : Hints := ⟨[], [], []⟩
def t104 (x0 : Int) (K : Value → HP) : HP :=
  cl PP 101 #[.int .i64 x0] [.lf .bool] fun r1 =>
  ifB (!r1.1) (
   K (.int .i64 0)) (
   K (.int .i64 (IntKind.i64.wrap (x0 - 16))))
theorem e104 (x0 : Int) (K : Value → HP) : flatFn PP h104 Try.f104 [.int .i64 x0] K = t104 x0 K := by kernel_rfl

/-- depot/page.check -/
def h105 : Hints := ⟨[], [], []⟩
def t105 (x0 : ShV (.agg [.int .i64, .int .i64, .int .i64, .int .i64, .int .i64])) (K : Value → HP) : HP :=
  nw (.cells #[.int .i64 x0.1, .int .i64 x0.2.1, .int .i64 x0.2.2.1, .int .i64 x0.2.2.2.1, .int .i64 x0.2.2.2.2.1] 111) fun n1 =>
  ld ⟨n1, 0, none⟩ (.lf (.int .i64)) fun v1 =>
  ifB (decide ((v1 : Int) < 1)) (
   K (.int .i64 16)) (
   ld ⟨n1, 0, none⟩ (.lf (.int .i64)) fun v2 =>
   ifB (decide ((v2 : Int) > 4)) (
    K (.int .i64 16)) (
    ld (Addr.add ⟨n1, 0, none⟩ 2) (.lf (.int .i64)) fun v3 =>
    ifB (decide ((v3 : Int) < 1)) (
     K (.int .i64 3)) (
     ld (Addr.add ⟨n1, 0, none⟩ 2) (.lf (.int .i64)) fun v4 =>
     ifB (decide ((v4 : Int) > 16)) (
      K (.int .i64 3)) (
      ld (Addr.add ⟨n1, 0, none⟩ 1) (.lf (.int .i64)) fun v5 =>
      ifB (decide ((v5 : Int) < 0)) (
       K (.int .i64 3)) (
       ld (Addr.add ⟨n1, 0, none⟩ 1) (.lf (.int .i64)) fun v6 =>
       ld (Addr.add ⟨n1, 0, none⟩ 2) (.lf (.int .i64)) fun v7 =>
       ifB (decide ((v6 : Int) ≥ v7)) (
        K (.int .i64 3)) (
        ld (Addr.add ⟨n1, 0, none⟩ 3) (.lf (.int .i64)) fun v8 =>
        ifB (decide ((v8 : Int) < 1)) (
         K (.int .i64 3)) (
         ld (Addr.add ⟨n1, 0, none⟩ 3) (.lf (.int .i64)) fun v9 =>
         ifB (decide ((v9 : Int) > 1073741824)) (
          K (.int .i64 3)) (
          ld (Addr.add ⟨n1, 0, none⟩ 4) (.lf (.int .i64)) fun v10 =>
          ifB (decide ((v10 : Int) < 0)) (
           K (.int .i64 3)) (
           ld (Addr.add ⟨n1, 0, none⟩ 4) (.lf (.int .i64)) fun v11 =>
           ifB (decide ((v11 : Int) ≥ 16)) (
            K (.int .i64 3)) (
            K (.int .i64 0)))))))))))
theorem e105 (x0 : ShV (.agg [.int .i64, .int .i64, .int .i64, .int .i64, .int .i64])) (K : Value → HP) : flatFn PP h105 Try.f105 [.agg #[.int .i64 x0.1, .int .i64 x0.2.1, .int .i64 x0.2.2.1, .int .i64 x0.2.2.2.1, .int .i64 x0.2.2.2.2.1]] K = t105 x0 K := by kernel_rfl

/-- depot/wire.of -/
def h106 : Hints := ⟨[(0, [(5, .lf (.int .i64))])], [], []⟩
def t106 (x0 : Int) (K : Value → HP) : HP :=
  nw (.cells #[.int .u8 0, .int .u8 0, .int .u8 0, .int .u8 0, .int .u8 0, .int .u8 0, .int .u8 0, .int .u8 0] 184) fun n1 =>
  nw (.cells #[.int .u8 0, .int .u8 0, .int .u8 0, .int .u8 0, .int .u8 0, .int .u8 0, .int .u8 0, .int .u8 0] 184) fun n2 =>
  lp [.lf (.int .i64)] (0, ()) fun z1 go1 =>   -- 
   ifB (decide ((z1.1 : Int) < 8)) (
    req ((0 : Int) ≤ (IntKind.i64.wrap (8 * z1.1))) <|
    ixn z1.1 8 <|
    st (Addr.add ⟨n2, 0, none⟩ (z1.1.toNat * 1)) [.int .u8 (IntKind.u8.wrap (Int.fdiv x0 (2 ^ (min (IntKind.i64.wrap (8 * z1.1) : Int).toNat IntKind.i64.bits))))] <|
    go1 (IntKind.i64.wrap (z1.1 + 1), ())) (
    ld ⟨n2, 0, none⟩ (.agg [.int .u8, .int .u8, .int .u8, .int .u8, .int .u8, .int .u8, .int .u8, .int .u8]) fun v1 =>
    st ⟨n1, 0, none⟩ [.int .u8 v1.1, .int .u8 v1.2.1, .int .u8 v1.2.2.1, .int .u8 v1.2.2.2.1, .int .u8 v1.2.2.2.2.1, .int .u8 v1.2.2.2.2.2.1, .int .u8 v1.2.2.2.2.2.2.1, .int .u8 v1.2.2.2.2.2.2.2.1] <|
    ld ⟨n1, 0, none⟩ (.agg [.int .u8, .int .u8, .int .u8, .int .u8, .int .u8, .int .u8, .int .u8, .int .u8]) fun v2 =>
    K (.agg #[.int .u8 v2.1, .int .u8 v2.2.1, .int .u8 v2.2.2.1, .int .u8 v2.2.2.2.1, .int .u8 v2.2.2.2.2.1, .int .u8 v2.2.2.2.2.2.1, .int .u8 v2.2.2.2.2.2.2.1, .int .u8 v2.2.2.2.2.2.2.2.1]))
theorem e106 (x0 : Int) (K : Value → HP) : flatFn PP h106 Try.f106 [.int .i64 x0] K = t106 x0 K := by kernel_rfl

/-- depot/flash.blank -/
def h109 : Hints := ⟨[(0, [(9, .lf (.int .i64))])], [], []⟩
def t109 (x0 : Int) (K : Value → HP) : HP :=
  smA PP (Instr.makeSlice 40 (.int .i64 x0) (.int .i64 x0)) (.lf .sl) fun v1 =>
  lp [.lf (.int .i64)] (0, ()) fun z1 go1 =>   -- 
   ifB (decide ((z1.1 : Int) < v1.len)) (
    nilc v1.a fun a1 =>
    ixn z1.1 v1.len <|
    st (Addr.add a1 (z1.1.toNat * 1)) [.int .u8 255] <|
    go1 (IntKind.i64.wrap (z1.1 + 1), ())) (
    K (.slice v1.a v1.len v1.cap))
theorem e109 (x0 : Int) (K : Value → HP) : flatFn PP h109 Try.f109 [.int .i64 x0] K = t109 x0 K := by kernel_rfl

/-- depot/page.Image -/
def h110 : Hints := ⟨[], [], []⟩
def t110 (x0 : ShV (.agg [.int .i64, .int .i64, .int .i64, .int .i64, .int .i64])) (x1 : SlV) (x2 : Int) (K : Value → HP) : HP :=
  nw (.cells #[.int .i64 x0.1, .int .i64 x0.2.1, .int .i64 x0.2.2.1, .int .i64 x0.2.2.2.1, .int .i64 x0.2.2.2.2.1] 111) fun n1 =>
  cl PP 101 #[.int .i64 x2] [.lf .bool] fun r1 =>
  ifB (!r1.1) (
   K (.tuple #[.slice none 0 0, .int .i64 2])) (
   ld ⟨n1, 0, none⟩ (.agg [.int .i64, .int .i64, .int .i64, .int .i64, .int .i64]) fun v1 =>
   cl PP 105 #[.agg #[.int .i64 v1.1, .int .i64 v1.2.1, .int .i64 v1.2.2.1, .int .i64 v1.2.2.2.1, .int .i64 v1.2.2.2.2.1]] [.lf (.int .i64)] fun r2 =>
   ifB ((r2.1 : Int) != 0) (
    K (.tuple #[.slice none 0 0, .int .i64 r2.1])) (
    cl PP 104 #[.int .i64 x2] [.lf (.int .i64)] fun r3 =>
    ifB (decide ((x1.len : Int) > r3.1)) (
     K (.tuple #[.slice none 0 0, .int .i64 4])) (
     ld ⟨n1, 0, none⟩ (.lf (.int .i64)) fun v2 =>
     ld (Addr.add ⟨n1, 0, none⟩ 1) (.lf (.int .i64)) fun v3 =>
     ld (Addr.add ⟨n1, 0, none⟩ 2) (.lf (.int .i64)) fun v4 =>
     ld (Addr.add ⟨n1, 0, none⟩ 3) (.lf (.int .i64)) fun v5 =>
     ld (Addr.add ⟨n1, 0, none⟩ 4) (.lf (.int .i64)) fun v6 =>
     nw (.cells #[.int .i64 v2, .int .i64 1, .int .i64 v3, .int .i64 1, .int .i64 v4, .int .i64 1, .int .i64 165, .int .i64 1, .int .i64 v5, .int .i64 4, .int .i64 v6, .int .i64 1, .int .i64 0, .int .i64 1, .int .i64 x1.len, .int .i64 2] 211) fun n2 =>
     cl PP 128 #[.slice none 0 0, .slice (some ⟨n2, 0, none⟩) 8 8] [.lf .sl] fun r4 =>
     smA PP (Instr.makeSlice 40 (.int .i64 (IntKind.i64.wrap (x2 - 4))) (.int .i64 (IntKind.i64.wrap (x2 - 4)))) (.lf .sl) fun v7 =>
     smW PP (Builtin.copy_ #[40, 40] 3 #[.slice v7.a v7.len v7.cap, .slice r4.1.a r4.1.len r4.1.cap]) [.lf (.int .i64)] fun v8 =>
     slc ⟨v7.a, v7.len, v7.cap⟩ v8.1 v7.len v7.cap 1 fun s1 =>
     smW PP (Builtin.copy_ #[40, 40] 3 #[.slice s1.a s1.len s1.cap, .slice x1.a x1.len x1.cap]) [.lf (.int .i64)] fun v9 =>
     cl PP 116 #[.slice v7.a v7.len v7.cap] [.lf (.int .i64)] fun r5 =>
     nw (.cells #[.int .i64 r5.1, .int .i64 4] 211) fun n3 =>
     cl PP 128 #[.slice v7.a v7.len v7.cap, .slice (some ⟨n3, 0, none⟩) 1 1] [.lf .sl] fun r6 =>
     K (.tuple #[.slice r6.1.a r6.1.len r6.1.cap, .int .i64 0]))))
theorem e110 (x0 : ShV (.agg [.int .i64, .int .i64, .int .i64, .int .i64, .int .i64])) (x1 : SlV) (x2 : Int) (K : Value → HP) : flatFn PP h110 Try.f110 [.agg #[.int .i64 x0.1, .int .i64 x0.2.1, .int .i64 x0.2.2.1, .int .i64 x0.2.2.2.1, .int .i64 x0.2.2.2.2.1], .slice x1.a x1.len x1.cap, .int .i64 x2] K = t110 x0 x1 x2 K := by kernel_rfl

/-- (*depot/flash.Flash).Program -/
def h111 : Hints := ⟨[], [], [(18, [0, 1, 2, 3, 5, 6, 8, 11, 4, 7, 9, 10, 12, 13, 14, 15, 16, 17, 18]), (17, [0, 1, 2, 3, 4, 5, 6, 7, 8, 9, 10, 11, 12]), (13, [0, 1, 2, 4, 5, 6, 7, 3, 8, 9, 10, 11, 12])]⟩
def t111 (x0 : Option Addr) (x1 : Int) (x2 : Int) (x3 : SlV) (K : Value → HP) : HP :=
  cl PP 89 #[.pointer x0, .int .i64 x1, .int .i64 x2] [.lf .ptr, .lf (.int .i64)] fun r1 =>
  ifB ((r1.2.1 : Int) != 0) (
   K (.int .i64 r1.2.1)) (
   nilc x0 fun a1 =>
   ld (Addr.add (Addr.add a1 3) 2) (.lf (.int .i64)) fun v1 =>
   ifB ((x3.len : Int) != v1) (
    K (.int .i64 2)) (
    nilc r1.1 fun a2 =>
    ld (Addr.add a2 3) (.lf .bool) fun v2 =>
    ifB v2 (
     K (.int .i64 10)) (
     nilc r1.1 fun a3 =>
     ld (Addr.add a3 1) (.lf (.int .i64)) fun v3 =>
     ifB ((v3 : Int) != x2) (
      K (.int .i64 9)) (
      nilc x0 fun a4 =>
      ld (Addr.add (Addr.add a4 3) 2) (.lf (.int .i64)) fun v4 =>
      cl PP 109 #[.int .i64 v4] [.lf .sl] fun r2 =>
      nilc r1.1 fun a5 =>
      ld a5 (.lf .sl) fun v5 =>
      nilc v5.a fun a6 =>
      ixn x2 v5.len <|
      st (Addr.add a6 (x2.toNat * 1)) [.slice r2.1.a r2.1.len r2.1.cap] <|
      nilc r1.1 fun a7 =>
      ld (Addr.add a7 1) (.lf (.int .i64)) fun v6 =>
      nilc r1.1 fun a8 =>
      st (Addr.add a8 1) [.int .i64 (IntKind.i64.wrap (v6 + 1))] <|
      nilc x0 fun a9 =>
      nilc x0 fun a10 =>
      ld (Addr.add a9 8) (.lf (.int .i64)) fun v7 =>
      ld (Addr.add (Addr.add a10 3) 2) (.lf (.int .i64)) fun v8 =>
      nilc x0 fun a11 =>
      st (Addr.add a11 8) [.int .i64 (IntKind.i64.wrap (v7 + v8))] <|
      nilc x0 fun a12 =>
      cl PP 90 #[.pointer (some a12)] [.lf .bool] fun r3 =>
      ifB (!r3.1) (
       smW PP (Builtin.copy_ #[40, 40] 3 #[.slice r2.1.a r2.1.len r2.1.cap, .slice x3.a x3.len x3.cap]) [.lf (.int .i64)] fun v9 =>
       K (.int .i64 0)) (
       nilc x0 fun a13 =>
       nilc x0 fun a14 =>
       ld (Addr.add (Addr.add a14 3) 2) (.lf (.int .i64)) fun v10 =>
       cl PP 91 #[.pointer (some a13), .int .i64 v10] [.lf (.int .i64)] fun r4 =>
       slc ⟨x3.a, x3.len, x3.cap⟩ 0 r4.1 x3.cap 1 fun s1 =>
       smW PP (Builtin.copy_ #[40, 40] 3 #[.slice r2.1.a r2.1.len r2.1.cap, .slice s1.a s1.len s1.cap]) [.lf (.int .i64)] fun v11 =>
       nilc x0 fun a15 =>
       ld (Addr.add a15 9) (.lf .sl) fun v12 =>
       nw (.cells #[] 5) fun n1 =>
       smW PP (Builtin.append_ #[40, 40] 40 #[.slice (some ⟨n1, 0, none⟩) 0 0, .slice x3.a x3.len x3.cap]) [.lf .sl] fun v13 =>
       keep (LdAt (Addr.add a15 9) [.slice v12.a v12.len v12.cap]) <|
       nw (.cells #[] 5) fun n2 =>
       smW PP (Builtin.append_ #[40, 40] 40 #[.slice (some ⟨n2, 0, none⟩) 0 0, .slice r2.1.a r2.1.len r2.1.cap]) [.lf .sl] fun v14 =>
       keep (LdAt (Addr.add a15 9) [.slice v12.a v12.len v12.cap]) <|
       nw (.cells #[.int .i64 x1, .int .i64 x2, .slice v13.1.a v13.1.len v13.1.cap, .slice v14.1.a v14.1.len v14.1.cap] 82) fun n3 =>
       smW PP (Builtin.append_ #[79, 79] 79 #[.slice v12.a v12.len v12.cap, .slice (some ⟨n3, 0, none⟩) 1 1]) [.lf .sl] fun v15 =>
       nilc x0 fun a16 =>
       st (Addr.add a16 9) [.slice v15.1.a v15.1.len v15.1.cap] <|
       K (.int .i64 11))))))
theorem e111 (x0 : Option Addr) (x1 : Int) (x2 : Int) (x3 : SlV) (K : Value → HP) : flatFn PP h111 Try.f111 [.pointer x0, .int .i64 x1, .int .i64 x2, .slice x3.a x3.len x3.cap] K = t111 x0 x1 x2 x3 K := by kernel_rfl

/-- (*depot/depotref21.Flash).Program -/
def h112 : Hints := ⟨[], [], [(16, [0, 1, 2, 3, 5, 6, 8, 10, 11, 12, 14, 17, 4, 13, 15, 16, 18, 19, 7, 9, 20, 21, 22, 23, 24, 25, 26]), (15, [0, 1, 2, 4, 7, 8, 9, 10, 12, 13, 14, 15, 17, 3, 5, 6, 11, 16, 18, 19, 20, 21, 22]), (14, [0, 1, 2, 5, 6, 7, 8, 3, 4, 9, 10, 11]), (11, [0, 1, 2, 4, 7, 8, 3, 5, 6, 9, 10, 11]), (10, [0, 1, 2, 3, 5, 6, 7, 8, 4, 9, 10, 11, 12, 13])]⟩
def t112 (x0 : Option Addr) (x1 : Int) (x2 : Int) (x3 : SlV) (K : Value → HP) : HP :=
  nilc x0 fun a1 =>
  ld (Addr.add a1 9) (.lf .bool) fun v1 =>
  ifB v1 (
   K (.int .i64 11)) (
   cl PP 93 #[.pointer x0, .int .i64 x1, .int .i64 x2] [.lf .bool] fun r1 =>
   ifB (!r1.1) (
    K (.int .i64 2)) (
    nilc x0 fun a2 =>
    ld (Addr.add a2 2) (.lf (.int .i64)) fun v2 =>
    ifB ((x3.len : Int) != v2) (
     K (.int .i64 2)) (
     nilc x0 fun a3 =>
     ld (Addr.add a3 7) (.lf .sl) fun v3 =>
     nilc v3.a fun a4 =>
     ixn x1 v3.len <|
     ld (Addr.add a4 (x1.toNat * 1)) (.lf .bool) fun v4 =>
     ifB v4 (
      K (.int .i64 10)) (
      nilc x0 fun a5 =>
      ld (Addr.add a5 5) (.lf .sl) fun v5 =>
      nilc v5.a fun a6 =>
      ixn x1 v5.len <|
      ld (Addr.add a6 (x1.toNat * 1)) (.lf (.int .i64)) fun v6 =>
      ifB ((v6 : Int) != x2) (
       K (.int .i64 9)) (
       nilc x0 fun a7 =>
       ld (Addr.add a7 5) (.lf .sl) fun v7 =>
       nilc v7.a fun a8 =>
       ixn x1 v7.len <|
       st (Addr.add a8 (x1.toNat * 1)) [.int .i64 (IntKind.i64.wrap (x2 + 1))] <|
       nilc x0 fun a9 =>
       nilc x0 fun a10 =>
       ld (Addr.add a9 8) (.lf (.int .i64)) fun v8 =>
       ld (Addr.add a10 2) (.lf (.int .i64)) fun v9 =>
       nilc x0 fun a11 =>
       st (Addr.add a11 8) [.int .i64 (IntKind.i64.wrap (v8 + v9))] <|
       nilc x0 fun a12 =>
       ld (Addr.add a12 4) (.lf .sl) fun v10 =>
       nilc v10.a fun a13 =>
       ixn x1 v10.len <|
       ld (Addr.add a13 (x1.toNat * 1)) (.lf .sl) fun v11 =>
       smR PP (Conv.bytesToString (.slice x3.a x3.len x3.cap)) [.lf .str] fun v12 =>
       nilc v11.a fun a14 =>
       ixn x2 v11.len <|
       st (Addr.add a14 (x2.toNat * 1)) [.string v12.1] <|
       cl PP 94 #[.pointer x0] [.lf .bool] fun r2 =>
       ifB (!r2.1) (
        K (.int .i64 0)) (
        nilc x0 fun a15 =>
        nilc x0 fun a16 =>
        ld (Addr.add a15 11) (.lf (.int .i64)) fun v13 =>
        ld (Addr.add a16 2) (.lf (.int .i64)) fun v14 =>
        nilc x0 fun a17 =>
        slc ⟨x3.a, x3.len, x3.cap⟩ 0 (imin (imax v13 0) v14) x3.cap 1 fun s1 =>
        nilc x0 fun a18 =>
        ld (Addr.add a17 4) (.lf .sl) fun v15 =>
        nilc v15.a fun a19 =>
        ixn x1 v15.len <|
        ld (Addr.add a19 (x1.toNat * 1)) (.lf .sl) fun v16 =>
        smR PP (Conv.bytesToString (.slice s1.a s1.len s1.cap)) [.lf .str] fun v17 =>
        ld (Addr.add a18 2) (.lf (.int .i64)) fun v18 =>
        cl PP 86 #[.int .i64 (IntKind.i64.wrap (v18 - (imin (imax v13 0) v14)))] [.lf .str] fun r3 =>
        keep (RdV PP (Conv.bytesToString (.slice s1.a s1.len s1.cap)) (.string v17.1)) <|
        keep (LdAt (Addr.add a19 (x1.toNat * 1)) [.slice v16.a v16.len v16.cap]) <|
        keep (LdAt (Addr.add a17 4) [.slice v15.a v15.len v15.cap]) <|
        req (((v17.1.size + r3.1.size : Nat) : Int) ≤ IntKind.i64.max) <|
        nilc v16.a fun a20 =>
        ixn x2 v16.len <|
        st (Addr.add a20 (x2.toNat * 1)) [.string (v17.1 ++ r3.1)] <|
        nilc x0 fun a21 =>
        nilc x0 fun a22 =>
        ld (Addr.add a21 12) (.lf .sl) fun v19 =>
        ld (Addr.add a22 4) (.lf .sl) fun v20 =>
        nilc v20.a fun a23 =>
        ixn x1 v20.len <|
        ld (Addr.add a23 (x1.toNat * 1)) (.lf .sl) fun v21 =>
        nilc v21.a fun a24 =>
        ixn x2 v21.len <|
        ld (Addr.add a24 (x2.toNat * 1)) (.lf .str) fun v22 =>
        nw (.cells #[] 5) fun n1 =>
        smW PP (Builtin.append_ #[40, 40] 40 #[.slice (some ⟨n1, 0, none⟩) 0 0, .slice x3.a x3.len x3.cap]) [.lf .sl] fun v23 =>
        keep (LdAt (Addr.add a24 (x2.toNat * 1)) [.string v22]) <|
        keep (LdAt (Addr.add a23 (x1.toNat * 1)) [.slice v21.a v21.len v21.cap]) <|
        keep (LdAt (Addr.add a22 4) [.slice v20.a v20.len v20.cap]) <|
        keep (LdAt (Addr.add a21 12) [.slice v19.a v19.len v19.cap]) <|
        smA PP (Conv.stringToBytes 5 v22) (.lf .sl) fun v24 =>
        nw (.cells #[.int .i64 x1, .int .i64 x2, .slice v23.1.a v23.1.len v23.1.cap, .slice v24.a v24.len v24.cap] 82) fun n2 =>
        smW PP (Builtin.append_ #[79, 79] 79 #[.slice v19.a v19.len v19.cap, .slice (some ⟨n2, 0, none⟩) 1 1]) [.lf .sl] fun v25 =>
        nilc x0 fun a25 =>
        st (Addr.add a25 12) [.slice v25.1.a v25.1.len v25.1.cap] <|
        K (.int .i64 11)))))))
theorem e112 (x0 : Option Addr) (x1 : Int) (x2 : Int) (x3 : SlV) (K : Value → HP) : flatFn PP h112 Try.f112 [.pointer x0, .int .i64 x1, .int .i64 x2, .slice x3.a x3.len x3.cap] K = t112 x0 x1 x2 x3 K := by kernel_rfl

/-- (*depot/flash.Flash).at -/
def h113 : Hints := ⟨[], [], []⟩
def t113 (x0 : Option Addr) (x1 : Int) (K : Value → HP) : HP :=
  ifB (Option.isNone x0) (
   K (.pointer none)) (
   nilc x0 fun a1 =>
   ld (Addr.add a1 7) (.lf .sl) fun v1 =>
   cl PP 80 #[.int .i64 x1, .int .i64 0, .int .i64 (IntKind.i64.wrap (v1.len - 1))] [.lf .bool] fun r1 =>
   ifB (!r1.1) (
    K (.pointer none)) (
    nilc x0 fun a2 =>
    ld (Addr.add a2 7) (.lf .sl) fun v2 =>
    nilc v2.a fun a3 =>
    ixn x1 v2.len <|
    ld (Addr.add a3 (x1.toNat * 1)) (.lf .ptr) fun v3 =>
    K (.pointer v3)))
theorem e113 (x0 : Option Addr) (x1 : Int) (K : Value → HP) : flatFn PP h113 Try.f113 [.pointer x0, .int .i64 x1] K = t113 x0 x1 K := by kernel_rfl

/-- depot/depotref04.More -/
def h114 : Hints := ⟨[(0, [(5, .lf (.int .i64)), (6, .lf (.int .i64))])], [], []⟩
def t114 (x0 : Int) (x1 : SlV) (K : Value → HP) : HP :=
  cl PP 129 #[.int .i64 x0] [.lf (.int .u32)] fun r1 =>
  lp [.lf (.int .i64), .lf (.int .i64)] (IntKind.i64.wrap (bitI .xor .u32 IntKind.u32.max r1.1), 0, ()) fun z1 go1 =>   -- s, i
   ifB (decide ((z1.2.1 : Int) < x1.len)) (
    nilc x1.a fun a1 =>
    ixn z1.2.1 x1.len <|
    ld (Addr.add a1 (z1.2.1.toNat * 1)) (.lf (.int .u8)) fun v1 =>
    cl PP 130 #[.int .i64 z1.1, .int .u8 v1] [.lf (.int .i64)] fun r2 =>
    go1 (r2.1, IntKind.i64.wrap (z1.2.1 + 1), ())) (
    cl PP 129 #[.int .i64 z1.1] [.lf (.int .u32)] fun r3 =>
    K (.int .i64 (IntKind.i64.wrap (bitI .xor .u32 IntKind.u32.max r3.1))))
theorem e114 (x0 : Int) (x1 : SlV) (K : Value → HP) : flatFn PP h114 Try.f114 [.int .i64 x0, .slice x1.a x1.len x1.cap] K = t114 x0 x1 K := by kernel_rfl

/-- depot/depotref23.right -/
def h115 : Hints := ⟨[], [], []⟩
def t115 (x0 : ShV (.agg [.int .i64, .int .i64, .int .i64, .int .i64, .int .i64])) (K : Value → HP) : HP :=
  nw (.cells #[.int .i64 x0.1, .int .i64 x0.2.1, .int .i64 x0.2.2.1, .int .i64 x0.2.2.2.1, .int .i64 x0.2.2.2.2.1] 111) fun n1 =>
  ld ⟨n1, 0, none⟩ (.lf (.int .i64)) fun v1 =>
  ifB (decide ((v1 : Int) < 1)) (
   K (.int .i64 16)) (
   ld ⟨n1, 0, none⟩ (.lf (.int .i64)) fun v2 =>
   ifB (decide ((v2 : Int) > 4)) (
    K (.int .i64 16)) (
    ld (Addr.add ⟨n1, 0, none⟩ 2) (.lf (.int .i64)) fun v3 =>
    ifB (decide ((v3 : Int) < 1)) (
     K (.int .i64 3)) (
     ld (Addr.add ⟨n1, 0, none⟩ 2) (.lf (.int .i64)) fun v4 =>
     ifB (decide ((v4 : Int) > 16)) (
      K (.int .i64 3)) (
      ld (Addr.add ⟨n1, 0, none⟩ 1) (.lf (.int .i64)) fun v5 =>
      ifB (decide ((v5 : Int) < 0)) (
       K (.int .i64 3)) (
       ld (Addr.add ⟨n1, 0, none⟩ 1) (.lf (.int .i64)) fun v6 =>
       ld (Addr.add ⟨n1, 0, none⟩ 2) (.lf (.int .i64)) fun v7 =>
       ifB (decide ((v6 : Int) ≥ v7)) (
        K (.int .i64 3)) (
        ld (Addr.add ⟨n1, 0, none⟩ 3) (.lf (.int .i64)) fun v8 =>
        ifB (decide ((v8 : Int) < 1)) (
         K (.int .i64 3)) (
         ld (Addr.add ⟨n1, 0, none⟩ 3) (.lf (.int .i64)) fun v9 =>
         ifB (decide ((v9 : Int) > 1073741824)) (
          K (.int .i64 3)) (
          ld (Addr.add ⟨n1, 0, none⟩ 4) (.lf (.int .i64)) fun v10 =>
          ifB (decide ((v10 : Int) < 0)) (
           K (.int .i64 3)) (
           ld (Addr.add ⟨n1, 0, none⟩ 4) (.lf (.int .i64)) fun v11 =>
           ifB (decide ((v11 : Int) > 15)) (
            K (.int .i64 3)) (
            K (.int .i64 0)))))))))))
theorem e115 (x0 : ShV (.agg [.int .i64, .int .i64, .int .i64, .int .i64, .int .i64])) (K : Value → HP) : flatFn PP h115 Try.f115 [.agg #[.int .i64 x0.1, .int .i64 x0.2.1, .int .i64 x0.2.2.1, .int .i64 x0.2.2.2.1, .int .i64 x0.2.2.2.2.1]] K = t115 x0 K := by kernel_rfl

/-- depot/crc.Sum -/
def h116 : Hints := ⟨[], [], []⟩
def t116 (x0 : SlV) (K : Value → HP) : HP :=
  cl PP 131 #[.int .i64 0, .slice x0.a x0.len x0.cap] [.lf (.int .i64)] fun r1 =>
  K (.int .i64 r1.1)
theorem e116 (x0 : SlV) (K : Value → HP) : flatFn PP h116 Try.f116 [.slice x0.a x0.len x0.cap] K = t116 x0 K := by kernel_rfl

end Go.Proofs.Ytlabcgnegbdlfaa
set_option linter.unusedVariables false
set_option maxRecDepth 100000
namespace Go.Proofs.Ytlabcgnegbdlfaa
open Go.HL
/-- depot/page.put -/
def h128 : Hints := ⟨[(0, [(0, .lf .sl), (9, .lf (.int .i64))])], [], []⟩
def t128 (x0 : SlV) (x1 : SlV) (K : Value → HP) : HP :=
  lp [.lf .sl, .lf (.int .i64)] (⟨x0.a, x0.len, x0.cap⟩, 0, ()) fun z1 go1 =>   -- b, 
   ifB (decide ((z1.2.1 : Int) < x1.len)) (
    nilc x1.a fun a1 =>
    ixn z1.2.1 x1.len <|
    ld (Addr.add a1 (z1.2.1.toNat * 2)) (.agg [.int .i64, .int .i64]) fun v1 =>
    nw (.cells #[.int .i64 0, .int .i64 0] 211) fun n1 =>
    st ⟨n1, 0, none⟩ [.int .i64 v1.1, .int .i64 v1.2.1] <|
    ld ⟨n1, 0, none⟩ (.lf (.int .i64)) fun v2 =>
    ld (Addr.add ⟨n1, 0, none⟩ 1) (.lf (.int .i64)) fun v3 =>
    cl PP 70 #[.slice z1.1.a z1.1.len z1.1.cap, .int .i64 v2, .int .i64 v3] [.lf .sl, .lf (.int .i64)] fun r1 =>
    go1 (⟨r1.1.a, r1.1.len, r1.1.cap⟩, IntKind.i64.wrap (z1.2.1 + 1), ())) (
    K (.slice z1.1.a z1.1.len z1.1.cap))
theorem e128 (x0 : SlV) (x1 : SlV) (K : Value → HP) : flatFn PP h128 Try.f128 [.slice x0.a x0.len x0.cap, .slice x1.a x1.len x1.cap] K = t128 x0 x1 K := by kernel_rfl

/-- depot/depotref04.low -/
def h129 : Hints := ⟨[], [], []⟩
def t129 (x0 : Int) (K : Value → HP) : HP :=
  K (.int .u32 (IntKind.u32.wrap (IntKind.u64.wrap x0)))
theorem e129 (x0 : Int) (K : Value → HP) : flatFn PP h129 Try.f129 [.int .i64 x0] K = t129 x0 K := by kernel_rfl

/-- depot/depotref04.Step -/
def h130 : Hints := ⟨[(0, [(5, .lf (.int .u32)), (6, .lf (.int .i64))])], [], []⟩
def t130 (x0 : Int) (x1 : Int) (K : Value → HP) : HP :=
  cl PP 129 #[.int .i64 x0] [.lf (.int .u32)] fun r1 =>
  lp [.lf (.int .u32), .lf (.int .i64)] (bitI .xor .u32 r1.1 (IntKind.u32.wrap x1), 0, ()) fun z1 go1 =>   -- s, i
   ifB (decide ((z1.2.1 : Int) < 8)) (
    req ((2 : Int) ≠ 0) <|
    req ((2 : Int) ≠ 0) <|
    ifB ((Int.tmod z1.1 2 : Int) == 1) (
     go1 (bitI .xor .u32 (IntKind.u32.wrap (Int.tdiv z1.1 2)) 2197175160, IntKind.i64.wrap (z1.2.1 + 1), ())) (
     go1 (IntKind.u32.wrap (Int.tdiv z1.1 2), IntKind.i64.wrap (z1.2.1 + 1), ()))) (
    K (.int .i64 (IntKind.i64.wrap z1.1)))
theorem e130 (x0 : Int) (x1 : Int) (K : Value → HP) : flatFn PP h130 Try.f130 [.int .i64 x0, .int .u8 x1] K = t130 x0 x1 K := by kernel_rfl

/-- depot/crc.More -/
def h131 : Hints := ⟨[], [], []⟩
def t131 (x0 : Int) (x1 : SlV) (K : Value → HP) : HP :=
  cl PP 138 #[.int .u32 (bitI .xor .u32 IntKind.u32.max (IntKind.u32.wrap x0)), .slice x1.a x1.len x1.cap] [.lf (.int .u32)] fun r1 =>
  K (.int .i64 (IntKind.i64.wrap (bitI .xor .u32 IntKind.u32.max r1.1)))
theorem e131 (x0 : Int) (x1 : SlV) (K : Value → HP) : flatFn PP h131 Try.f131 [.int .i64 x0, .slice x1.a x1.len x1.cap] K = t131 x0 x1 K := by kernel_rfl

/-- depot/crc.steps -/
def h138 : Hints := ⟨[(0, [(0, .lf (.int .u32)), (10, .lf (.int .i64))]), (2, [(0, .lf (.int .u32)), (18, .lf (.int .i64))])], [], []⟩
def t138 (x0 : Int) (x1 : SlV) (K : Value → HP) : HP :=
  lp [.lf (.int .u32), .lf (.int .i64)] (x0, 0, ()) fun z1 go1 =>   -- s, 
   ifB (decide ((z1.2.1 : Int) < x1.len)) (
    nilc x1.a fun a1 =>
    ixn z1.2.1 x1.len <|
    ld (Addr.add a1 (z1.2.1.toNat * 1)) (.lf (.int .u8)) fun v1 =>
    lp [.lf (.int .u32), .lf (.int .i64)] (bitI .xor .u32 z1.1 (IntKind.u32.wrap v1), 0, ()) fun z2 go2 =>   -- s, 
     ifB (decide ((z2.2.1 : Int) < 8)) (
      req ((0 : Int) ≤ 1) <|
      go2 (bitI .xor .u32 (Int.fdiv z2.1 (2 ^ (min (1 : Int).toNat IntKind.u32.bits))) (bitI .and .u32 2197175160 (IntKind.u32.wrap (0 - (bitI .and .u32 z2.1 1)))), IntKind.i64.wrap (z2.2.1 + 1), ())) (
      go1 (z2.1, IntKind.i64.wrap (z1.2.1 + 1), ()))) (
    K (.int .u32 z1.1))
theorem e138 (x0 : Int) (x1 : SlV) (K : Value → HP) : flatFn PP h138 Try.f138 [.int .u32 x0, .slice x1.a x1.len x1.cap] K = t138 x0 x1 K := by kernel_rfl

end Go.Proofs.Ytlabcgnegbdlfaa
