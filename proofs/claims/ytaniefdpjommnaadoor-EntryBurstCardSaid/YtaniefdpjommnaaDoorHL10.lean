/-
  It is proved that each operation's node is sound: conversions. There are no further conditions than those that each theorem names.
-/
import Derived.Test.YtaniefdpjommnaaDoorHL9
set_option linter.unusedVariables false
set_option linter.unusedSimpArgs false
namespace Go.HL
section
variable {P : Program} {n : Nat} {env : Env} {a : Act} {o : Oper} {φs : List HP} {k : Value → List HP → HP} {L : HList}

theorem AlV.pure {s : Sem Value} (h : ∀ w : World, ∃ ob v, s.run P w = .ok v { w with heap := w.heap.push ob }) : AlV P s := fun w => by
  obtain ⟨ob, v, h⟩ := h w; exact ⟨ob, v, w.drawn, h⟩

theorem push_inj {w : World} {ob ob' : Obj} {d d' : Nat} (h : ({ w with heap := w.heap.push ob, drawn := d } : World) = { w with heap := w.heap.push ob', drawn := d' }) : ob = ob' := by
  have : w.heap.push ob = w.heap.push ob' := congrArg World.heap h
  exact (Array.push_eq_push.1 this).1

/-- An operation that makes one block, always the same. -/
theorem ok_new {s : Sem Value} (hc : clsOf P o = .A) (he : ∀ w, (execOp a.eval o).run P w = (do pure (.value (← s)) : Sem Next).run P w) {ob : Obj} {f : Nat → Value}
    (hs : ∀ w, s.run P w = .ok (f w.heap.size) { w with heap := w.heap.push ob }) (hk : ∀ m, Sat ((m, ob) :: L) → k (f m) [] ((m, ob) :: L)) : OpOk P (clsOf P o) o a L φs k := by
  rw [hc]
  refine ok_A he (.pure fun w => ⟨ob, _, hs w⟩) fun m ob' v ⟨w, d, hw, hr⟩ hsat => ?_
  rw [hs w] at hr
  injection hr with h1 h2
  have h3 := push_inj (d := w.drawn) h2
  subst h3 h1 hw
  exact hk _ hsat

theorem fieldOff_spec {s : TypeId} {f off : Nat} (h : fieldOff P s f = some off) {ad : Addr} (w : World) : (Instr.fieldAt s (.pointer (some ad)) f).run P w = .ok (.pointer (some (ad.add off))) w := by
  unfold fieldOff at h
  split at h
  · rename_i fs hu
    split at h
    · rename_i fd hfd
      split at h
      · rename_i m hm
        obtain rfl := Option.some.inj h
        simp [Instr.fieldAt, run_und hu, hfd, Instr.sureAddr, fieldPlace, sizeOfT_spec hm]
      · cases h
    · cases h
  · cases h

theorem partOf_spec {t : TypeId} {cs : Array Value} {off : Nat} {v : Value} (h : partOf P t cs off = some v) (w : World) : (part t cs off).run P w = .ok v w := by
  unfold partOf at h
  split at h
  · rename_i fs m hu hs
    obtain rfl := Option.some.inj h
    simp [part, run_agg hu, aggD, sizeOfT_spec hs]
  · rename_i q e m hu hs
    obtain rfl := Option.some.inj h
    simp [part, run_agg hu, aggD, sizeOfT_spec hs]
  · rename_i d m h1 h2 hu hs
    have hd : aggD d = false := by
      unfold aggD
      split
      · exact (h1 _ rfl).elim
      · exact (h2 _ _ rfl).elim
      · rfl
    simp [part, run_agg hu, hd, h]
  · cases h

theorem mapM_places : ∀ (fs : List Field) (pl : List (Nat × Nat)), fs.mapM (fun f => match sizeOfT P f.type with | some n => some (f.offset, n) | none => none) = some pl →
    ∀ w, (fs.mapM (m := Sem) fun f => do pure (f.offset, ← sizeOf f.type)).run P w = .ok pl w := by
  intro fs
  induction fs with
  | nil => intro pl h w; simp at h; subst h; simp
  | cons f r ih =>
    intro pl h w
    simp only [List.mapM_cons, Option.bind_eq_bind, Option.bind_eq_some_iff] at h
    obtain ⟨p, hp, ps, hps, he⟩ := h
    obtain rfl := Option.some.inj he
    split at hp
    · rename_i m hm
      obtain rfl := Option.some.inj hp
      simp only [List.mapM_cons, Sem.run_bind, sizeOfT_spec hm, Sem.run_pure, Result.andThen_ok, ih ps hps]
    · cases hp

theorem slice_bounds (isSlice : Bool) {len cap : Nat} {lo hi mx : Option Value} {l h m : Int} (hlo : oInt 0 lo = some l) (hhi : oInt len hi = some h) (hmx : oInt cap mx = some m)
    (hno : mx.isSome = true → hi.isSome = true) (hb : 0 ≤ l ∧ l ≤ h ∧ h ≤ m ∧ m ≤ cap) (w : World) : (Instr.sliceBounds isSlice len cap lo hi mx).run P w = .ok (l.toNat, h.toNat, m.toNat) w := by
  obtain ⟨h0, h1, h2, h3⟩ := hb
  have hbd : ∀ (k : IntKind) (i : Int) (y : Nat) (code : BoundsCode), 0 ≤ i → i ≤ y → (Instr.sliceBound (.int k i) y code).run P w = .ok i.toNat w := by
    intro k i y code h1 h2
    simp [Instr.sliceBound, asIntOf, h1, h2]
  have eqOI : ∀ {d : Int} {v : Option Value} {r : Int}, oInt d v = some r → (v = none ∧ r = d) ∨ ∃ k, v = some (.int k r) := by
    intro d v r h
    unfold oInt at h
    split at h
    · simp at h; exact .inl ⟨rfl, h.symm⟩
    · simp at h; subst h; exact .inr ⟨_, rfl⟩
    · cases h
  rcases eqOI hmx with ⟨rfl, rfl⟩ | ⟨km, rfl⟩
  · rcases eqOI hhi with ⟨rfl, rfl⟩ | ⟨kh, rfl⟩
    · rcases eqOI hlo with ⟨rfl, rfl⟩ | ⟨kl, rfl⟩
      · simp [Instr.sliceBounds]
      · simp [Instr.sliceBounds, hbd kl l len _ h0 (by omega)]
    · rcases eqOI hlo with ⟨rfl, rfl⟩ | ⟨kl, rfl⟩
      · simp [Instr.sliceBounds, hbd kh h cap _ (by omega) (by omega)]
      · have := hbd kl l h.toNat .sliceB h0 (by omega)
        simp [Instr.sliceBounds, hbd kh h cap _ (by omega) (by omega), this]
  · rcases eqOI hhi with ⟨rfl, rfl⟩ | ⟨kh, rfl⟩
    · exact absurd (hno rfl) (by decide)
    · have hh := hbd kh h m.toNat .slice3B (by omega) (by omega)
      rcases eqOI hlo with ⟨rfl, rfl⟩ | ⟨kl, rfl⟩
      · simp [Instr.sliceBounds, hbd km m cap _ (by omega) (by omega), hh]
      · have := hbd kl l h.toNat .slice3C h0 (by omega)
        simp [Instr.sliceBounds, hbd km m cap _ (by omega) (by omega), hh, this]
end
end Go.HL
