/-
  It is proved that one order of a region's steps stands for all its orders. There are no further conditions than those that each theorem names.
-/
import Derived.Test.YtaniefdpjommnaaDoorHL2
set_option linter.unusedVariables false
namespace Go.HL
section
variable {P : Program} {ops : Array Oper} {anc : Nat → Nat → Bool}

/-! two neighbours change places -/
section swaps
variable {x i : Nat} {ox oi : Oper} (hap : ox.apart ops oi = true) (hsx : ∀ cs b, ox.op ≠ .select cs b) (hsi : ∀ cs b, oi.op ≠ .select cs b)
  {K : KT} {a : Act} {T : Pend} {L : HList}
include hap hsx hsi

theorem sw_P_P (h : stepP P ops ox (stepP P ops oi K) a T L) : stepP P ops oi (stepP P ops ox K) a T L := by
  obtain ⟨v, hy, u, hu, hK⟩ := h
  refine ⟨u, yields_of hu (exec_apart hap hsi a v).symm (wanted_apart hap a v).symm, v, yields_of hy (exec_apart' hap hsx a u) (wanted_apart' hap a u), ?_⟩
  rw [← put_apart hap]; exact hK
theorem sw_P_R (h : stepP P ops ox (stepR P ops i oi K) a T L) : stepR P ops i oi (stepP P ops ox K) a T L := by
  obtain ⟨v, hy, hw, u, hu, hK⟩ := h
  rw [exec_apart hap hsi] at hu hK
  refine ⟨by rw [← wanted_apart hap a v]; exact hw, u, hu, v, yields_of hy (exec_apart' hap hsx a u) (wanted_apart' hap a u), ?_⟩
  rw [← put_apart hap]; exact hK
theorem sw_P_A (h : stepP P ops ox (stepA P ops oi K) a T L) : stepA P ops oi (stepP P ops ox K) a T L := by
  obtain ⟨v, hy, hw, hal, hK⟩ := h
  rw [exec_apart hap hsi] at hal hK
  refine ⟨by rw [← wanted_apart hap a v]; exact hw, hal, fun n ob u hg hs => ⟨v, yields_of hy (exec_apart' hap hsx a u) (wanted_apart' hap a u), ?_⟩⟩
  rw [← put_apart hap]; exact hK n ob u hg hs
theorem sw_P_W (h : stepP P ops ox (stepW P ops anc i oi K) a T L) : stepW P ops anc i oi (stepP P ops ox K) a T L := by
  obtain ⟨v, hy, hw, hK⟩ := h
  refine ⟨by rw [← wanted_apart hap a v]; exact hw, (OpF.put hap hsi hK).mono fun a' L' _ ⟨⟨u, hu⟩, ho, hk⟩ => ⟨ho, v, ?_, hk⟩⟩
  refine yields_of hy ?_ ?_
  · rw [eval_tmps hu]; exact exec_apart' hap hsx a u
  · unfold Wanted; rw [hu]; exact wanted_apart' hap a u
theorem sw_R_P (h : stepR P ops x ox (stepP P ops oi K) a T L) : stepP P ops oi (stepR P ops x ox K) a T L := by
  obtain ⟨hw, v, hv, u, hu, hK⟩ := h
  refine ⟨u, yields_of hu (exec_apart hap hsi a v).symm (wanted_apart hap a v).symm, by rw [wanted_apart' hap]; exact hw, v, by rw [exec_apart' hap hsx]; exact hv, ?_⟩
  rw [exec_apart' hap hsx, ← put_apart hap]; exact hK
theorem sw_R_R (hkt : KTMono K) (h : stepR P ops x ox (stepR P ops i oi K) a T L) : stepR P ops i oi (stepR P ops x ox K) a T L := by
  obtain ⟨hw, v, hv, hwi, u, hu, hK⟩ := h
  rw [exec_apart hap hsi] at hu hK
  refine ⟨by rw [← wanted_apart hap a v]; exact hwi, u, hu, by rw [wanted_apart' hap]; exact hw, v, by rw [exec_apart' hap hsx]; exact hv, ?_⟩
  rw [exec_apart' hap hsx, ← put_apart hap]
  refine hkt _ _ _ _ ?_ hK
  intro q hq
  simp only [List.mem_cons] at hq ⊢
  rcases hq with h | h | h
  · exact .inr (.inl h)
  · exact .inl h
  · exact .inr (.inr h)
theorem sw_R_A (h : stepR P ops x ox (stepA P ops oi K) a T L) : stepA P ops oi (stepR P ops x ox K) a T L := by
  obtain ⟨hw, v, hv, hwi, hal, hK⟩ := h
  rw [exec_apart hap hsi] at hal hK
  refine ⟨by rw [← wanted_apart hap a v]; exact hwi, hal, fun n ob u hg hs => ⟨by rw [wanted_apart' hap]; exact hw, v, by rw [exec_apart' hap hsx]; exact RdS.mono (R := [(n, ob)]) hv, ?_⟩⟩
  rw [exec_apart' hap hsx, ← put_apart hap]; exact hK n ob u hg hs
theorem sw_R_W (hanc : anc x i = false) (h : stepR P ops x ox (stepW P ops anc i oi K) a T L) : stepW P ops anc i oi (stepR P ops x ox K) a T L := by
  obtain ⟨hw, v, hv, hwi, hK⟩ := h
  refine ⟨by rw [← wanted_apart hap a v]; exact hwi, (OpF.put hap hsi hK).mono fun a' L' _ ⟨⟨u, hu⟩, ho, hk⟩ => ?_⟩
  have he : execOp a'.eval ox = execOp a.eval ox := by rw [eval_tmps hu]; exact exec_apart' hap hsx a u
  refine ⟨ho.sub fun q hq => List.mem_cons_of_mem _ hq, ?_, v, ?_, ?_⟩
  · unfold Wanted; rw [hu]; exact (wanted_apart' hap a u).trans hw
  · rw [he]; exact ho _ List.mem_cons_self hanc
  · rw [he]; exact hk
theorem sw_W_P (hs : Sat L) (h : stepW P ops anc x ox (stepP P ops oi K) a T L) : stepP P ops oi (stepW P ops anc x ox K) a T L := by
  obtain ⟨hw, hK⟩ := h
  have back : ∀ {a' : Act} {w u : Value}, a'.tmps = (a.put ox.dst w).tmps → Yields P ops oi u a' → Yields P ops oi u a := by
    intro a' w u ht hu
    refine yields_of hu ?_ ?_
    · rw [eval_tmps ht]; exact (exec_apart hap hsi a w).symm
    · unfold Wanted; rw [ht]; exact (wanted_apart hap a w).symm
  obtain ⟨a', L', ⟨w, ht⟩, _, u, hu, _⟩ := OpF.some hs hK.tmps
  have hu0 := back ht hu
  refine ⟨u, hu0, by rw [wanted_apart' hap]; exact hw, ?_⟩
  have hap' : oi.apart ops ox = true := by
    obtain ⟨h1, h2, h3⟩ := Oper.apart_spec hap
    have h2' : ∀ d, oi.dst = some d → ox.dst ≠ some d := fun d hd hx => h2 d hx hd
    unfold Oper.apart
    cases hdi : oi.dst with
    | none =>
      cases hdx : ox.dst with
      | none => rfl
      | some d => simpa [hdx] using h1 d hdx
    | some e =>
      cases hdx : ox.dst with
      | none => simpa [hdi] using h3 e hdi
      | some d =>
        have g1 := h1 d hdx
        have g2 := h2' e hdi
        have g3 := h3 e hdi
        rw [hdx] at g2
        simp at g2
        simp [g1, g3, g2]
  refine OpF.put_rev hap' hsx ?_
  refine hK.tmps.mono fun a'' L'' _ ⟨⟨w', ht'⟩, ho, u', hu', hk⟩ => ⟨ho, ?_⟩
  obtain rfl := yields_unique hu0 (back ht' hu')
  exact hk
theorem sw_W_A (hs : Sat L) (h : stepW P ops anc x ox (stepA P ops oi K) a T L) : stepA P ops oi (stepW P ops anc x ox K) a T L := by
  obtain ⟨hw, hK⟩ := h
  have exi : ∀ {a' : Act} {w : Value}, a'.tmps = (a.put ox.dst w).tmps → execOp a'.eval oi = execOp a.eval oi := by
    intro a' w ht; rw [eval_tmps ht]; exact exec_apart hap hsi a w
  have hap' : oi.apart ops ox = true := by
    obtain ⟨h1, h2, h3⟩ := Oper.apart_spec hap
    have h2' : ∀ d, oi.dst = some d → ox.dst ≠ some d := fun d hd hx => h2 d hx hd
    unfold Oper.apart
    cases hdi : oi.dst with
    | none =>
      cases hdx : ox.dst with
      | none => rfl
      | some d => simpa [hdx] using h1 d hdx
    | some e =>
      cases hdx : ox.dst with
      | none => simpa [hdi] using h3 e hdi
      | some d =>
        have g1 := h1 d hdx
        have g2 := h2' e hdi
        have g3 := h3 e hdi
        rw [hdx] at g2
        simp at g2
        simp [g1, g3, g2]
  obtain ⟨a', L', ⟨w, ht⟩, _, hwi, hal, _⟩ := OpF.some hs hK.tmps
  rw [exi ht] at hal
  refine ⟨?_, hal, fun n ob u hg hsat => ⟨by rw [wanted_apart' hap]; exact hw, ?_⟩⟩
  · unfold Wanted at hwi; rw [ht] at hwi; exact (wanted_apart hap a w).symm.trans hwi
  · refine OpF.put_rev hap' hsx ?_
    intro E F w1 next hw1 hn
    refine hK.tmps E ((n, ob) :: F) w1 next (hw1.perm List.perm_middle.symm) fun a2 w2 L2 hw2 ⟨⟨w', ht'⟩, ho, hwi', hal', hk⟩ => ?_
    rw [exi ht'] at hk
    have hw2' : Hold E w2 (((n, ob) :: L2) ++ F) := hw2.perm List.perm_middle
    exact hn a2 w2 ((n, ob) :: L2) hw2' ⟨ho.cons, hk n ob u hg ⟨E, F, w2, hw2'⟩⟩
theorem sw_A_P (hs : Sat L) (h : stepA P ops ox (stepP P ops oi K) a T L) : stepP P ops oi (stepA P ops ox K) a T L := by
  obtain ⟨hw, hal, hK⟩ := h
  obtain ⟨E, F, w, hw0⟩ := hs
  obtain ⟨ob, v, d, hrun⟩ := hal w
  have hsat : Sat ((w.heap.size, ob) :: L) := ⟨E, F, _, hw0.push ob⟩
  obtain ⟨u, hu, _⟩ := hK w.heap.size ob v ⟨w, d, rfl, hrun⟩ hsat
  have back : ∀ {v u : Value}, Yields P ops oi u (a.put ox.dst v) → Yields P ops oi u a := fun {v u} h => yields_of h (exec_apart hap hsi a v).symm (wanted_apart hap a v).symm
  refine ⟨u, back hu, by rw [wanted_apart' hap]; exact hw, by rw [exec_apart' hap hsx]; exact hal, fun n ob v hg hsat => ?_⟩
  rw [exec_apart' hap hsx] at hg
  obtain ⟨u', hu', hk⟩ := hK n ob v hg hsat
  obtain rfl := yields_unique (back hu) (back hu')
  rw [← put_apart hap]; exact hk
theorem sw_A_A (hkp : KPerm K) (hs : Sat L) (h : stepA P ops ox (stepA P ops oi K) a T L) : stepA P ops oi (stepA P ops ox K) a T L := by
  obtain ⟨hw, hal, hK⟩ := h
  obtain ⟨E, F, w, hw0⟩ := hs
  obtain ⟨ob, v, d, hrun⟩ := hal w
  have hsat : Sat ((w.heap.size, ob) :: L) := ⟨E, F, _, hw0.push ob⟩
  obtain ⟨hwi, hali, _⟩ := hK w.heap.size ob v ⟨w, d, rfl, hrun⟩ hsat
  rw [exec_apart hap hsi] at hali
  refine ⟨by rw [← wanted_apart hap a v]; exact hwi, hali, fun n2 ob2 u hg2 hsat2 => ⟨by rw [wanted_apart' hap]; exact hw, by rw [exec_apart' hap hsx]; exact hal, fun n1 ob1 v1 hg1 hsat1 => ?_⟩⟩
  rw [exec_apart' hap hsx] at hg1
  have hsatx : Sat ((n2, ob2) :: (n1, ob1) :: L) := hsat1.perm (List.Perm.swap ..)
  have hsat1' : Sat ((n1, ob1) :: L) := by
    obtain ⟨E, F, w, hw⟩ := hsatx
    exact ⟨E, (n2, ob2) :: F, w, hw.perm (by simpa using (List.perm_middle (l₁ := (n1, ob1) :: L)).symm)⟩
  obtain ⟨_, _, hk⟩ := hK n1 ob1 v1 hg1 hsat1'
  rw [exec_apart hap hsi] at hk
  have := hk n2 ob2 u hg2 hsatx
  rw [put_apart hap] at this
  exact hkp _ _ _ _ (List.Perm.swap ..) this
end swaps

def allowed : Cls → Cls → Bool
  | .P, _ | .R, _ => true
  | .W, .P | .W, .A | .A, .P | .A, .A => true
  | _, _ => false

theorem stepC.swap {x i : Nat} {ox oi : Oper} {cx ci : Cls} (hal : allowed cx ci = true) (hap : ox.apart ops oi = true) (hsx : ∀ cs b, ox.op ≠ .select cs b) (hsi : ∀ cs b, oi.op ≠ .select cs b)
    (hanc : anc x i = false) {K : KT} (hkp : KPerm K) (hkt : KTMono K) {a : Act} {T : Pend} {L : HList} (hs : Sat L)
    (h0 : stepC P ops anc cx x ox (stepC P ops anc ci i oi K) a T L) : stepC P ops anc ci i oi (stepC P ops anc cx x ox K) a T L := by
  have hwa : ∀ {a' : Act} {v : Value}, a'.tmps = (a.put ox.dst v).tmps → Wanted ops oi a' = Wanted ops oi a := by
    intro a' v ht; unfold Wanted; rw [ht]; exact wanted_apart hap a v
  have toS : ∀ {K : KT} {a T L}, cx ≠ .P → stepS ops ox K a T L → stepC P ops anc cx x ox K a T L := by
    intro K a T L hc h
    clear h0
    cases cx
    · exact absurd rfl hc
    · exact .inl h
    · exact .inl h
    · exact .inl h
  have first : ∀ {M : KT}, stepC P ops anc cx x ox M a T L → stepP P ops ox M a T L ∨ (cx = .R ∧ stepR P ops x ox M a T L) ∨
      (cx = .A ∧ stepA P ops ox M a T L) ∨ (cx = .W ∧ stepW P ops anc x ox M a T L) := by
    intro M h
    clear h0
    cases cx
    · exact .inl h
    · exact h.imp stepS.toP fun h => .inl ⟨rfl, h⟩
    · exact h.imp stepS.toP fun h => .inr (.inl ⟨rfl, h⟩)
    · exact h.imp stepS.toP fun h => .inr (.inr ⟨rfl, h⟩)
  by_cases hp : ci = .P ∨ Wanted ops oi a = false
  · have h' : stepC P ops anc cx x ox (stepP P ops oi K) a T L := by
      refine stepC.mono hs (fun a' v T L ht _ h => ?_) h0
      clear h0
      rcases hp with rfl | hw
      · exact h
      · have hw' := (hwa ht).trans hw
        cases ci
        · exact h
        · rcases h with h | h
          · exact h.toP
          · exact absurd h.1 (by rw [hw']; decide)
        · rcases h with h | h
          · exact h.toP
          · exact absurd h.1 (by rw [hw']; decide)
        · rcases h with h | h
          · exact h.toP
          · exact absurd h.1 (by rw [hw']; decide)
    have back : ∀ {M : KT}, stepP P ops oi M a T L → stepC P ops anc ci i oi M a T L := by
      intro M h
      clear h0 h'
      rcases hp with rfl | hw
      · exact h
      · have hS := h.toS hw
        cases ci
        · exact h
        · exact .inl hS
        · exact .inl hS
        · exact .inl hS
    refine back ?_
    clear back
    rcases first h' with h | ⟨rfl, h⟩ | ⟨rfl, h⟩ | ⟨rfl, h⟩
    · clear h0 first
      by_cases hc : cx = .P
      · subst hc; exact sw_P_P hap hsx hsi h
      · -- 'x' is skipped, or it yields: then it is no P: it must have been skipped
        by_cases hwx : Wanted ops ox a = true
        · -- wanted: the disjunct of its kind holds as well
          rcases (show stepS ops ox (stepP P ops oi K) a T L ∨ stepR P ops x ox (stepP P ops oi K) a T L ∨ stepA P ops ox (stepP P ops oi K) a T L ∨ stepW P ops anc x ox (stepP P ops oi K) a T L by
            cases cx
            · exact absurd rfl hc
            · exact h'.imp id .inl
            · exact h'.imp id fun h => .inr (.inl h)
            · exact h'.imp id fun h => .inr (.inr h)) with h1 | h1
          · exact absurd h1.1 (by rw [hwx]; decide)
          · cases cx
            · exact absurd rfl hc
            · rcases h' with h' | h'
              · exact absurd h'.1 (by rw [hwx]; decide)
              · exact stepP.mono hs (fun _ _ _ _ h => .inr h) (sw_R_P hap hsx hsi h')
            · rcases h' with h' | h'
              · exact absurd h'.1 (by rw [hwx]; decide)
              · exact stepP.mono hs (fun _ _ _ _ h => .inr h) (sw_A_P hap hsx hsi hs h')
            · rcases h' with h' | h'
              · exact absurd h'.1 (by rw [hwx]; decide)
              · exact stepP.mono hs (fun _ _ _ _ h => .inr h) (sw_W_P hap hsx hsi hs h')
        · refine stepP.mono hs (fun v T L _ h => toS hc (h.toS ?_)) (sw_P_P hap hsx hsi h)
          rw [wanted_apart' hap]; simpa using hwx
    · exact stepP.mono hs (fun _ _ _ _ h => .inr h) (sw_R_P hap hsx hsi h)
    · exact stepP.mono hs (fun _ _ _ _ h => .inr h) (sw_A_P hap hsx hsi hs h)
    · exact stepP.mono hs (fun _ _ _ _ h => .inr h) (sw_W_P hap hsx hsi hs h)
  · have hc : ci ≠ .P := fun e => hp (.inl e)
    have hw : Wanted ops oi a = true := by simpa using fun e => hp (.inr e)
    -- what is behind 'x' when 'x' is skipped or a P
    have wrapP : ∀ {a' : Act} {T L}, (cx = .P ∨ Wanted ops ox a' = false) → stepP P ops ox K a' T L → stepC P ops anc cx x ox K a' T L := by
      intro a' T L hcx h
      clear h0 first toS
      rcases hcx with rfl | hcx
      · exact h
      · cases cx
        · exact h
        · exact .inl (h.toS hcx)
        · exact .inl (h.toS hcx)
        · exact .inl (h.toS hcx)
    have kinds : (stepP P ops ox (stepC P ops anc ci i oi K) a T L ∧ (cx = .P ∨ Wanted ops ox a = false)) ∨ (cx = .R ∧ stepR P ops x ox (stepC P ops anc ci i oi K) a T L) ∨
        (cx = .A ∧ stepA P ops ox (stepC P ops anc ci i oi K) a T L) ∨ (cx = .W ∧ stepW P ops anc x ox (stepC P ops anc ci i oi K) a T L) := by
      clear first toS wrapP
      cases cx
      · exact .inl ⟨h0, .inl rfl⟩
      · exact h0.elim (fun h => .inl ⟨h.toP, .inr h.1⟩) fun h => .inr (.inl ⟨rfl, h⟩)
      · exact h0.elim (fun h => .inl ⟨h.toP, .inr h.1⟩) fun h => .inr (.inr (.inl ⟨rfl, h⟩))
      · exact h0.elim (fun h => .inl ⟨h.toP, .inr h.1⟩) fun h => .inr (.inr (.inr ⟨rfl, h⟩))
    have nos : ∀ {a' : Act} {v : Value} {T L}, a'.tmps = (a.put ox.dst v).tmps → ¬ stepS ops oi K a' T L := by
      intro a' v T L ht hS; have := hS.1; rw [hwa ht, hw] at this; cases this
    have hwx' : ∀ {a' : Act} {v : Value}, a'.tmps = (a.put oi.dst v).tmps → Wanted ops ox a' = Wanted ops ox a := by
      intro a' v ht; unfold Wanted; rw [ht]; exact wanted_apart' hap a v
    clear h0
    cases ci
    · exact absurd rfl hc
    · -- R
      rcases kinds with ⟨h, hcx⟩ | ⟨rfl, h⟩ | ⟨rfl, h⟩ | ⟨rfl, h⟩
      · have h2 := stepP.mono (K' := stepR P ops i oi K) hs (fun v T L _ h => h.resolve_left (nos (v := v) rfl)) h
        exact .inr (stepR.mono hs (fun v T L _ h => wrapP (hcx.imp id fun e => (hwx' (v := v) rfl).trans e) h) (sw_P_R hap hsx hsi h2))
      · have h2 := stepR.mono (K' := stepR P ops i oi K) hs (fun v T L _ h => h.resolve_left (nos (v := v) rfl)) h
        exact .inr (stepR.mono hs (fun v T L _ h => .inr h) (sw_R_R hap hsx hsi hkt h2))
      · cases hal
      · cases hal
    · -- A
      rcases kinds with ⟨h, hcx⟩ | ⟨rfl, h⟩ | ⟨rfl, h⟩ | ⟨rfl, h⟩
      · have h2 := stepP.mono (K' := stepA P ops oi K) hs (fun v T L _ h => h.resolve_left (nos (v := v) rfl)) h
        exact .inr (stepA.mono (fun v T L _ h => wrapP (hcx.imp id fun e => (hwx' (v := v) rfl).trans e) h) (sw_P_A hap hsx hsi h2))
      · have h2 := stepR.mono (K' := stepA P ops oi K) hs (fun v T L _ h => h.resolve_left (nos (v := v) rfl)) h
        exact .inr (stepA.mono (fun v T L _ h => .inr h) (sw_R_A hap hsx hsi h2))
      · have h2 := stepA.mono (K' := stepA P ops oi K) (fun v T L _ h => h.resolve_left (nos (v := v) rfl)) h
        exact .inr (stepA.mono (fun v T L _ h => .inr h) (sw_A_A hap hsx hsi hkp hs h2))
      · have h2 := stepW.mono (K' := stepA P ops oi K) (fun a' v T L ht _ h => h.resolve_left (nos ht)) h
        exact .inr (stepA.mono (fun v T L _ h => .inr h) (sw_W_A hap hsx hsi hs h2))
    · -- W
      rcases kinds with ⟨h, hcx⟩ | ⟨rfl, h⟩ | ⟨rfl, h⟩ | ⟨rfl, h⟩
      · have h2 := stepP.mono (K' := stepW P ops anc i oi K) hs (fun v T L _ h => h.resolve_left (nos (v := v) rfl)) h
        exact .inr (stepW.mono (fun a' v T L ht _ h => wrapP (hcx.imp id fun e => (hwx' ht).trans e) h) (sw_P_W hap hsx hsi h2))
      · have h2 := stepR.mono (K' := stepW P ops anc i oi K) hs (fun v T L _ h => h.resolve_left (nos (v := v) rfl)) h
        exact .inr (stepW.mono (fun a' v T L ht _ h => .inr h) (sw_R_W hap hsx hsi hanc h2))
      · cases hal
      · cases hal
end
end Go.HL
