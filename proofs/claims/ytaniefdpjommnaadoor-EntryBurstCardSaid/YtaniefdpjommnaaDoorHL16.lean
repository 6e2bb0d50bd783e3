/-
  It is proved what a value that came in is, by its type. There are no further conditions than those that each theorem names.
-/
import Derived.Test.YtaniefdpjommnaaDoorHL15
import Derived.Deep.Slices
import Derived.ChangeArms
import Derived.WideShapes
set_option linter.unusedVariables false
set_option linter.unusedSimpArgs false
namespace Go.HL
open Go.WideShapes
section
variable {P : Program} {w : World}

/-- What the cells of a variable of type t are, where they can be read as data: 'enc x' of some x. -/
structure Dec (P : Program) (w : World) (t : TypeId) (α : Type) (enc : α → List Value) (wf : α → Prop) : Prop where
  dec : ∀ {H : Type} {e' : TypeId × Value → H} {spare : Nat → Bool} {held : Bool} {fuel : Nat} {cs : List Value} {y : DataW H × List MemPlace}, DataW.trod e' P w 0 spare held fuel t cs = some y → ∃ x, cs = enc x ∧ wf x

def intWf (k : IntKind) (n : Int) : Prop := (Lit.int k n).wf = true
theorem dec_int {t : TypeId} {k : IntKind} (hu : P.underlying t = some (.int k)) : Dec P w t Int (fun n => [.int k n]) (intWf k) :=
  ⟨fun h => by obtain ⟨n, h1, _, h2⟩ := DataW.trod_int hu h; exact ⟨n, h1, h2⟩⟩
theorem dec_u8 {t : TypeId} (hu : P.underlying t = some (.int .u8)) : Dec P w t UInt8 (fun b => [bv b]) (fun _ => True) :=
  ⟨fun h => by
    obtain ⟨n, h1, _, h2⟩ := DataW.trod_int hu h
    have hb : 0 ≤ n ∧ n ≤ 255 := by
      simp only [Lit.wf, Bool.and_eq_true, decide_eq_true_eq] at h2
      exact h2
    refine ⟨UInt8.ofNat n.toNat, ?_, trivial⟩
    rw [h1]
    simp only [bv]
    congr 2
    have : (UInt8.ofNat n.toNat).toNat = n.toNat := by simp; omega
    rw [this]; omega⟩
theorem dec_bool {t : TypeId} (hu : P.underlying t = some .bool) : Dec P w t Bool (fun b => [.bool b]) (fun _ => True) :=
  ⟨fun {H e' spare held fuel cs y} h => by
    cases fuel with
    | zero => simp [DataW.trod] at h
    | succ n =>
      unfold DataW.trod at h
      rw [hu] at h
      split at h <;> simp_all⟩
theorem dec_str {t : TypeId} (hu : P.underlying t = some .string) : Dec P w t ByteArray (fun s => [.string s]) (fun s => s.size ≤ maxLen) :=
  ⟨fun h => by obtain ⟨n, h1, _, h2⟩ := DataW.trod_string hu h; exact ⟨n, h1, h2⟩⟩

theorem cells?_some {a : Addr} {n : Nat} {cs : List Value} (h : w.cells? 0 a n = some cs) : cs.length = n ∧ ∀ i v, cs[i]? = some v → w.cell? (a.add i) = some v := by
  unfold World.cells? at h
  rw [if_pos (Nat.zero_le _)] at h
  have h1 := mapM_some_length h
  refine ⟨by simpa using h1, fun i v hv => ?_⟩
  have hi : i < n := by
    have := (List.getElem?_eq_some_iff.1 hv).1
    simp at h1; omega
  have := mapM_some_get h i i (by simp [hi])
  rw [this]; exact hv

/-- A row of cells in a world, as a piece of memory. -/
theorem ldAt_allB {a : Addr} {vs : List Value} (hne : vs ≠ []) (h : ∀ (i : Nat) (v : Value), vs[i]? = some v → w.cell? (a.add i) = some v) : LdAt a vs (allB w) := by
  have h0 : w.cell? a = some (vs[0]'(by cases vs with | nil => exact absurd rfl hne | cons x r => simp)) := by
    have := h 0 (vs[0]'(by cases vs with | nil => exact absurd rfl hne | cons x r => simp)) (by simp)
    rwa [show a.add 0 = a from rfl] at this
  have key : ∀ {b : Addr} {v : Value}, w.cell? b = some v → b.spot = none ∧ ∃ c T fz, w.heap[b.block]? = some (.cells c T fz) ∧ c[b.off]? = some v := by
    intro b v hb
    unfold World.cell? at hb
    split at hb
    · rename_i c T fz hblk
      split at hb
      · cases hb
      · rename_i hs
        exact ⟨by simpa using hs, c, T, fz, hblk, hb⟩
    · cases hb
  obtain ⟨hs, c, T, fz, hblk, _⟩ := key h0
  refine ⟨c, T, fz, mem_allB.2 hblk, hs, fun i v hv => ?_⟩
  have hi := h i v hv
  rw [addr_add hs] at hi
  obtain ⟨_, c', T', fz', hblk', hc'⟩ := key hi
  simp only at hblk' hc'
  rw [hblk] at hblk'
  cases hblk'
  exact hc'

theorem flat_get {α : Type} {enc : α → List Value} {sz : Nat} (hsz : ∀ x, (enc x).length = sz) : ∀ (l : List α) (i j : Nat) (v : Value), j < sz → (l.flatMap enc)[i * sz + j]? = some v → ∃ h : i < l.length, (enc l[i])[j]? = some v
  | [], i, j, v, _, h => by simp at h
  | x :: r, 0, j, v, hj, h => by
    refine ⟨by simp, ?_⟩
    rw [List.flatMap_cons, List.getElem?_append_left (by rw [hsz]; omega)] at h
    simpa using h
  | x :: r, i + 1, j, v, hj, h => by
    rw [List.flatMap_cons, List.getElem?_append_right (by rw [hsz, Nat.succ_mul]; omega)] at h
    have : (i + 1) * sz + j - (enc x).length = i * sz + j := by rw [hsz, Nat.succ_mul]; omega
    rw [this] at h
    obtain ⟨hi, h2⟩ := flat_get hsz r i j v hj h
    exact ⟨by simp; omega, by simpa using h2⟩
theorem flat_len {α : Type} {enc : α → List Value} {sz : Nat} (hsz : ∀ x, (enc x).length = sz) (l : List α) : (l.flatMap enc).length = l.length * sz := by
  induction l with
  | nil => simp
  | cons x r ih => rw [List.flatMap_cons, List.length_append, ih, hsz, List.length_cons, Nat.succ_mul]; omega

/-- What is known of a slice that came in: its elements. -/
structure SlOk (w : World) {α : Type} (enc : α → List Value) (wf : α → Prop) (sz : Nat) (p : SlV × List α) : Prop where
  len : p.1.len = p.2.length
  cap : p.1.cap ≤ maxLen
  sl : Sl (allB w) p.1 sz (p.2.flatMap enc)
  all : ∀ x ∈ p.2, wf x

theorem choose_list {α : Type} {n : Nat} {Q : Nat → α → Prop} (h : ∀ i, i < n → ∃ x, Q i x) : ∃ l : List α, l.length = n ∧ ∀ i (hi : i < l.length), Q i l[i] := by
  induction n with
  | zero => exact ⟨[], rfl, fun i hi => by simp at hi⟩
  | succ n ih =>
    obtain ⟨l, hl, hq⟩ := ih fun i hi => h i (by omega)
    obtain ⟨x, hx⟩ := h n (by omega)
    refine ⟨l ++ [x], by simp [hl], fun i hi => ?_⟩
    by_cases h2 : i < l.length
    · rw [List.getElem_append_left h2]; exact hq i h2
    · have : i = l.length := by simp at hi; omega
      subst this
      simpa [hl] using hx

theorem dec_slice {t e : TypeId} {sz : Nat} {α : Type} {enc : α → List Value} {wf : α → Prop} (hu : P.underlying t = some (.slice e)) (hc : P.cellsOf e = sz) (hsz : ∀ x, (enc x).length = sz) (hpos : 0 < sz) (D : Dec P w e α enc wf) :
    Dec P w t (SlV × List α) (fun p => [.slice p.1.a p.1.len p.1.cap]) (SlOk w enc wf sz) :=
  ⟨fun h => by
    rcases Deep.open_slice hu h with ⟨rfl, _⟩ | ⟨a, len, cap, m, n, Dd, Pl, rfl, _, hle, hcap, hm, _, hall⟩
    · exact ⟨(⟨none, 0, 0⟩, []), rfl, rfl, Nat.zero_le _, Sl.nil sz, by simp⟩
    · have hlm : len ≤ m := by rw [hm]; split <;> omega
      obtain ⟨l, hl, hq⟩ := choose_list (n := len) (Q := fun i x => w.cells? 0 (a.add (i * sz)) sz = some (enc x) ∧ wf x) fun i hi => by
        obtain ⟨cs, h1, h2⟩ := hall i (by omega)
        obtain ⟨x, rfl, hx⟩ := D.dec h2
        rw [hc] at h1
        exact ⟨x, h1, hx⟩
      refine ⟨(⟨some a, len, cap⟩, l), rfl, hl.symm, hcap, ⟨?_, hle, ?_⟩, fun x hx => ?_⟩
      · rw [flat_len hsz, hl]
      · by_cases h0 : l.flatMap enc = []
        · exact .inl h0
        · refine .inr ⟨a, rfl, ldAt_allB h0 fun i v hv => ?_⟩
          have hi := (List.getElem?_eq_some_iff.1 hv).1
          rw [flat_len hsz] at hi
          have hdiv : i = (i / sz) * sz + i % sz := by rw [Nat.mul_comm]; exact (Nat.div_add_mod i sz).symm
          rw [hdiv] at hv
          obtain ⟨hil, hv2⟩ := flat_get hsz l (i / sz) (i % sz) v (Nat.mod_lt _ hpos) hv
          obtain ⟨_, hcell⟩ := cells?_some (hq _ hil).1
          have := hcell _ _ hv2
          rw [hdiv]
          have hadd : (a.add (i / sz * sz)).add (i % sz) = a.add (i / sz * sz + i % sz) := by
            unfold Addr.add
            by_cases h1 : i / sz * sz = 0 <;> by_cases h2 : i % sz = 0 <;> simp [h1, h2, Nat.add_assoc]
          rw [hadd] at this
          exact this
      · obtain ⟨i, hi, rfl⟩ := List.mem_iff_getElem.1 hx
        exact (hq i hi).2⟩

/-- The fields of a struct, one behind the other. -/
def contig (P : Program) : List Field → Nat → Nat → Bool
  | [], base, n => Nat.beq base n
  | f :: r, base, n => Nat.beq f.offset base && contig P r (base + P.cellsOf f.type) n
structure DecFs (P : Program) (w : World) (fs : List Field) (α : Type) (enc : α → List Value) (wf : α → Prop) : Prop where
  dec : ∀ {H : Type} {e' : TypeId × Value → H} {spare : Nat → Bool} {held : Bool} {fuel : Nat} {cs : List Value} {base : Nat}, contig P fs base cs.length = true →
    (∀ f ∈ fs, ∃ y, DataW.trod e' P w 0 spare held fuel f.type ((cs.drop f.offset).take (P.cellsOf f.type)) = some y) → ∃ x, cs.drop base = enc x ∧ wf x
theorem decF_nil : DecFs P w [] Unit (fun _ => []) (fun _ => True) :=
  ⟨fun {H e' spare held fuel cs base} hc _ => ⟨(), by have := Nat.eq_of_beq_eq_true hc; rw [this]; simp, trivial⟩⟩
theorem decF_cons {f : Field} {fs : List Field} {α β : Type} {enc : α → List Value} {encs : β → List Value} {wf : α → Prop} {wfs : β → Prop} (D : Dec P w f.type α enc wf) (Ds : DecFs P w fs β encs wfs) :
    DecFs P w (f :: fs) (α × β) (fun x => enc x.1 ++ encs x.2) (fun x => wf x.1 ∧ wfs x.2) :=
  ⟨fun {H e' spare held fuel cs base} hc hall => by
    simp only [contig, Bool.and_eq_true] at hc
    have ho := Nat.eq_of_beq_eq_true hc.1
    obtain ⟨y, hy⟩ := hall f List.mem_cons_self
    obtain ⟨x, hx, hwx⟩ := D.dec hy
    obtain ⟨z, hz, hwz⟩ := Ds.dec hc.2 fun g hg => hall g (List.mem_cons_of_mem _ hg)
    refine ⟨(x, z), ?_, hwx, hwz⟩
    rw [ho] at hx
    rw [← hx, ← hz, ← List.drop_drop]
    exact (List.take_append_drop _ _).symm⟩
theorem dec_struct {t : TypeId} {fs : Array Field} {α : Type} {enc : α → List Value} {wf : α → Prop} (hu : P.underlying t = some (.struct fs)) (hc : contig P fs.toList 0 (P.cellsOf t) = true) (D : DecFs P w fs.toList α enc wf) : Dec P w t α enc wf :=
  ⟨fun h => by
    obtain ⟨xs, n, _, _, hl, hlen, hall⟩ := DataW.trod_struct hu h
    rw [← hl] at hc
    obtain ⟨x, hx, hw⟩ := D.dec hc fun f hf => by
      obtain ⟨i, hi, rfl⟩ := List.mem_iff_getElem.1 hf
      have hi' : i < fs.size := by simpa using hi
      have := hall i fs[i] (by simp [hi'])
      rw [List.getElem?_eq_getElem (by omega)] at this
      exact ⟨_, this⟩
    exact ⟨x, by simpa using hx, hw⟩⟩

/-! a value that came in -/
theorem arg_int {t : TypeId} {k : IntKind} {r : Reach} {b0 : Nat} {v : Value} {H : Type} {e' : TypeId × Value → H} {sp : Nat → Bool} {held : Bool} {d : DataW H} {ps : List MemPlace} (hu : P.underlying t = some (.int k)) (hv : Value.okWide P w r b0 t v) (h : DataW.Trod e' P w 0 sp held t v d ps) :
    ∃ n, v = .int k n ∧ intWf k n := by
  obtain ⟨n, rfl⟩ := okWide_int hu hv
  obtain ⟨fuel, hf⟩ := h
  obtain ⟨m, h1, h2⟩ := (dec_int (w := w) hu).dec hf
  have : [Value.int k n] = [.int k m] := h1
  injection this with h3
  injection h3 with _ h4
  subst h4
  exact ⟨n, rfl, h2⟩
theorem arg_bool {t : TypeId} {r : Reach} {b0 : Nat} {v : Value} (hu : P.underlying t = some .bool) (hv : Value.okWide P w r b0 t v) : ∃ b, v = .bool b := okWide_bool hu hv
theorem arg_str {t : TypeId} {r : Reach} {b0 : Nat} {v : Value} {H : Type} {e' : TypeId × Value → H} {sp : Nat → Bool} {held : Bool} {d : DataW H} {ps : List MemPlace} (hu : P.underlying t = some .string) (hv : Value.okWide P w r b0 t v) (h : DataW.Trod e' P w 0 sp held t v d ps) :
    ∃ s, v = .string s ∧ s.size ≤ maxLen := by
  obtain ⟨n, rfl⟩ := okWide_string hu hv
  obtain ⟨fuel, hf⟩ := h
  obtain ⟨m, h1, h2⟩ := (dec_str (w := w) hu).dec hf
  have : [Value.string n] = [.string m] := h1
  injection this with h3
  injection h3 with h4
  subst h4
  exact ⟨n, rfl, h2⟩
theorem arg_slice {t e : TypeId} {α : Type} {enc : α → List Value} {wf : α → Prop} {sz : Nat} {r : Reach} {b0 : Nat} {v : Value} {H : Type} {e' : TypeId × Value → H} {sp : Nat → Bool} {held : Bool} {d : DataW H} {ps : List MemPlace} (hu : P.underlying t = some (.slice e)) (hv : Value.okWide P w r b0 t v)
    (D : Dec P w t (SlV × List α) (fun p => [.slice p.1.a p.1.len p.1.cap]) (SlOk w enc wf sz)) (h : DataW.Trod e' P w 0 sp held t v d ps) : ∃ (s : SlV) (l : List α), v = .slice s.a s.len s.cap ∧ SlOk w enc wf sz (s, l) := by
  obtain ⟨a, len, cap, rfl⟩ := okWide_slice hu hv
  obtain ⟨fuel, hf⟩ := h
  obtain ⟨⟨s, l⟩, h1, h2⟩ := D.dec hf
  have : [Value.slice a len cap] = [.slice s.a s.len s.cap] := h1
  injection this with h3
  exact ⟨s, l, h3, h2⟩
theorem arg_struct {t : TypeId} {fs : Array Field} {α : Type} {enc : α → List Value} {wf : α → Prop} {r : Reach} {b0 : Nat} {v : Value} {H : Type} {e' : TypeId × Value → H} {sp : Nat → Bool} {held : Bool} {d : DataW H} {ps : List MemPlace} (hu : P.underlying t = some (.struct fs)) (hv : Value.okWide P w r b0 t v)
    (D : Dec P w t α enc wf) (h : DataW.Trod e' P w 0 sp held t v d ps) : ∃ x, v = .agg (enc x).toArray ∧ wf x := by
  obtain ⟨cs, rfl, _⟩ := okWide_struct hu hv
  obtain ⟨fuel, hf⟩ := h
  obtain ⟨x, h1, h2⟩ := D.dec hf
  have : cs.toList = enc x := h1
  exact ⟨x, by rw [← this], h2⟩
end
end Go.HL
