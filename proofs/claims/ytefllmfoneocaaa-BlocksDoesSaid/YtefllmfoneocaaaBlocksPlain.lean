/-
  It is proved what holds of blocks whatever is done: no program is in sight. There are no further conditions than those that each theorem names.
-/
import Derived.Test.YtefllmfoneocaaaBlocks4
set_option linter.unusedVariables false
set_option linter.unusedSimpArgs false
namespace Go.Proofs.Ytefllmfoneocaaa
open Go.HL

/-! ### counting -/
def cnt (q : Nat → Bool) : Nat → Nat
  | 0 => 0
  | k + 1 => cnt q k + (if q k = true then 1 else 0)
theorem cnt_congr {q r : Nat → Bool} : ∀ {k : Nat}, (∀ i, i < k → q i = r i) → cnt q k = cnt r k
  | 0, _ => rfl
  | k + 1, h => by
    unfold cnt
    rw [cnt_congr (fun i hi => h i (by omega)), h k (by omega)]
theorem cnt_split (q r : Nat → Bool) : ∀ k, cnt (fun i => q i && !r i) k + cnt (fun i => q i && r i) k = cnt q k
  | 0 => rfl
  | k + 1 => by
    have := cnt_split q r k
    unfold cnt
    cases q k <;> cases r k <;> simp <;> omega
theorem cnt_le (q : Nat → Bool) : ∀ k, cnt q k ≤ k
  | 0 => Nat.le_refl _
  | k + 1 => by
    have := cnt_le q k
    unfold cnt
    split <;> omega
theorem cnt_upd {q r : Nat → Bool} {j : Nat} : ∀ {k : Nat}, (∀ i, i < k → i ≠ j → q i = r i) → j < k → cnt q k + (if r j = true then 1 else 0) = cnt r k + (if q j = true then 1 else 0)
  | 0, _, hj => by omega
  | k + 1, h, hj => by
    unfold cnt
    by_cases hk : j = k
    · subst hk
      rw [cnt_congr (q := q) (r := r) (fun i hi => h i (by omega) (by omega))]
      omega
    · have h1 := cnt_upd (q := q) (r := r) (j := j) (k := k) (fun i hi hne => h i (by omega) hne) (by omega)
      have h2 := h k (by omega) (fun e => hk e.symm)
      rw [h2]
      omega
theorem cnt_zero : ∀ k, cnt (fun _ => false) k = 0
  | 0 => rfl
  | k + 1 => by unfold cnt; rw [cnt_zero k]; rfl
theorem cnt_mem : ∀ (us : List Int) (k : Nat), us.Nodup → (∀ x ∈ us, 0 ≤ x ∧ x < k) → cnt (fun i => decide ((i : Int) ∈ us)) k = us.length
  | [], k, _, _ => by
    rw [cnt_congr (r := fun _ => false) (fun i _ => by simp), cnt_zero]; rfl
  | x :: r, k, hn, h => by
    rw [List.nodup_cons] at hn
    have h1 := cnt_mem r k hn.2 (fun y hy => h y (by simp [hy]))
    have hx := h x (by simp)
    have h2 := cnt_upd (q := fun i => decide ((i : Int) ∈ x :: r)) (r := fun i => decide ((i : Int) ∈ r)) (j := x.toNat) (k := k) (fun i hi hne => by
      have : (i : Int) ≠ x := by omega
      simp [this]) (by omega)
    have e : ((x.toNat : Nat) : Int) = x := by omega
    simp only [e] at h2
    rw [if_neg (by simpa using hn.1), if_pos (by simp)] at h2
    rw [List.length_cons]
    omega
theorem bfreeN_cnt (ss : List BS) (us : List Int) : bfreeN ss us = ((cnt (fun i => bfree ss us (i : Int)) ss.length : Nat) : Int) := by
  unfold bfreeN
  refine eachF_ind (bfree ss us) (fun (k : Int) _ _ => k + 1) 0 ss (fun n k => k = ((cnt (fun i => bfree ss us (i : Int)) n : Nat) : Int)) rfl ?_
  intro i hi s hs
  subst hs
  show _ = ((cnt (fun i => bfree ss us (i : Int)) i + (if bfree ss us (i : Int) = true then 1 else 0) : Nat) : Int)
  split <;> simp
/-- The used ones are good, each once. -/
def buse (ss : List BS) (us : List Int) : Prop := us.Nodup ∧ ∀ x ∈ us, bgood ss x = true
theorem bgood_lt {ss : List BS} {x : Int} (h : bgood ss x = true) : 0 ≤ x ∧ x < ss.length := by
  obtain ⟨h0, hi, _⟩ := bgood_at h
  omega
theorem buse_bus {ss : List BS} {us : List Int} (h : buse ss us) : bus ss us := ⟨h.1, fun x hx => bgood_lt (h.2 x hx)⟩
def bgoodN (ss : List BS) : Nat := cnt (fun i => bgood ss (i : Int)) ss.length
theorem bfreeN_val {ss : List BS} {us : List Int} (h : buse ss us) : bfreeN ss us = (bgoodN ss : Int) - us.length := by
  rw [bfreeN_cnt]
  have h1 := cnt_split (fun i => bgood ss (i : Int)) (fun i => decide ((i : Int) ∈ us)) ss.length
  have h2 := cnt_mem us ss.length h.1 (buse_bus h).2
  have h3 : cnt (fun i => bgood ss (i : Int) && decide ((i : Int) ∈ us)) ss.length = cnt (fun i => decide ((i : Int) ∈ us)) ss.length := by
    refine cnt_congr fun i hi => ?_
    by_cases hm : (i : Int) ∈ us
    · rw [h.2 _ hm]; rfl
    · simp [hm]
  have h4 : cnt (fun i => bfree ss us (i : Int)) ss.length = cnt (fun i => bgood ss (i : Int) && !decide ((i : Int) ∈ us)) ss.length := rfl
  unfold bgoodN
  omega
theorem buse_snoc {ss : List BS} {us : List Int} (h : buse ss us) {n : Int} (hf : bfree ss us n = true) : buse ss (us ++ [n]) := by
  refine ⟨(bus_snoc (buse_bus h) hf).1, fun x hx => ?_⟩
  rcases List.mem_append.1 hx with h1 | h1
  · exact h.2 x h1
  · rw [List.mem_singleton.1 h1]; exact (bfree_good hf).1
theorem bgood_mod {ss : List BS} {n : Int} (g : BS → BS) {x : Int} (hn : 0 ≤ n) (hx : x ≠ n) : bgood (bmod ss n g) x = bgood ss x := by
  unfold bgood bmod
  by_cases h0 : 0 ≤ x
  · rw [List.getElem?_modify]
    have : ¬ n.toNat = x.toNat := by omega
    simp [this]
  · rw [decide_eq_false h0]; rfl
theorem bgood_mod_at {ss : List BS} {n : Int} (g : BS → BS) (hg : bgood ss n = true) : ∃ s, ss[n.toNat]? = some s ∧ bgood (bmod ss n g) n = !(g s).bad := by
  obtain ⟨h0, hi, hb⟩ := bgood_at hg
  refine ⟨ss[n.toNat], List.getElem?_eq_getElem hi, ?_⟩
  unfold bgood bmod
  rw [List.getElem?_modify, decide_eq_true h0, List.getElem?_eq_getElem hi]
  simp
theorem iwo_mem {us : List Int} {n x : Int} : x ∈ iwo us n ↔ x ∈ us ∧ x ≠ n := by
  unfold iwo
  rw [List.mem_filter]
  simp
theorem buse_mod {ss : List BS} {us : List Int} (h : buse ss us) {n : Int} (hn : bgood ss n = true) (g : BS → BS) : buse (bmod ss n g) (iwo us n) := by
  have h0 := (bgood_at hn).1
  refine ⟨h.1.filter _, fun x hx => ?_⟩
  obtain ⟨h1, h2⟩ := iwo_mem.1 hx
  rw [bgood_mod g h0 h2]
  exact h.2 x h1
theorem bgoodN_mod {ss : List BS} {n : Int} (hn : bgood ss n = true) (g : BS → BS) {bad : Bool} (hb : ∀ s, ss[n.toNat]? = some s → (g s).bad = bad) : (bgoodN (bmod ss n g) : Int) = bgoodN ss - (if bad = true then 1 else 0) := by
  obtain ⟨h0, hi, hbb⟩ := bgood_at hn
  obtain ⟨s, hs, hg⟩ := bgood_mod_at g hn
  rw [hb s hs] at hg
  have h1 := cnt_upd (q := fun i => bgood (bmod ss n g) (i : Int)) (r := fun i => bgood ss (i : Int)) (j := n.toNat) (k := ss.length) (fun i hi hne => bgood_mod g h0 (by omega)) (by omega)
  have e : ((n.toNat : Nat) : Int) = n := by omega
  simp only [e] at h1
  rw [hn, hg] at h1
  unfold bgoodN
  rw [bmod_len]
  cases bad <;> simp at h1 ⊢ <;> omega
/-! ### what is picked -/
def bat (ss : List BS) (n : Int) : BS := (ss[n.toNat]?).getD bs0
theorem bat_at {ss : List BS} {i : Nat} (hi : i < ss.length) : bat ss (i : Int) = ss[i] := by
  unfold bat
  rw [Int.toNat_natCast, List.getElem?_eq_getElem hi]; rfl
theorem bpick_spec (ss : List BS) (us : List Int) : ((bpick ss us).1 = false → ∀ i : Nat, i < ss.length → bfree ss us i = false) ∧
    ((bpick ss us).1 = true → bfree ss us (bpick ss us).2.2 = true ∧ (bpick ss us).2.1 = bat ss (bpick ss us).2.2 ∧ ∀ i : Nat, i < ss.length → bfree ss us i = true → bcost (bat ss (bpick ss us).2.2) ≤ bcost (bat ss i)) ∧ ((bpick ss us).1 = false → (bpick ss us).2.1 = bs0 ∧ (bpick ss us).2.2 = 0) := by
  unfold bpick
  refine eachF_ind (bfree ss us) pickStep (false, bs0, 0) ss (fun n (s : BPk) => (s.1 = false → ∀ i : Nat, i < n → bfree ss us i = false) ∧ (s.1 = true → bfree ss us s.2.2 = true ∧ s.2.1 = bat ss s.2.2 ∧ ∀ i : Nat, i < n → bfree ss us i = true → bcost (bat ss s.2.2) ≤ bcost (bat ss i)) ∧ (s.1 = false → s.2.1 = bs0 ∧ s.2.2 = 0)) ⟨fun _ i hi => by omega, fun h => by simp at h, fun _ => ⟨rfl, rfl⟩⟩ ?_
  rintro i hi ⟨fd, best, at'⟩ ⟨h1, h2, h3⟩
  simp only at h1 h2 h3
  by_cases hf : bfree ss us (i : Int) = true
  · rw [if_pos hf]
    unfold pickStep
    simp only
    by_cases hc : fd = false ∨ bcost ss[i] < bcost best
    · rw [if_pos hc]
      refine ⟨fun h => by simp at h, fun _ => ⟨hf, (bat_at hi).symm, fun j hj hfj => ?_⟩, fun h => by simp at h⟩
      simp only [bat_at hi]
      rcases Nat.lt_or_ge j i with hji | hji
      · rcases hc with hc | hc
        · rw [h1 hc j hji] at hfj; cases hfj
        · cases fd with
          | false => rw [h1 rfl j hji] at hfj; cases hfj
          | true =>
            obtain ⟨a, b, c⟩ := h2 rfl
            have := c j hji hfj
            rw [b] at hc
            omega
      · obtain rfl : j = i := by omega
        rw [bat_at hi]
        exact Int.le_refl _
    · rw [if_neg hc]
      have hfd : fd = true := by
        cases fd with
        | true => rfl
        | false => exact absurd (.inl rfl) hc
      subst hfd
      obtain ⟨a, b, c⟩ := h2 rfl
      refine ⟨fun h => by simp at h, fun _ => ⟨a, b, fun j hj hfj => ?_⟩, fun h => by simp at h⟩
      rcases Nat.lt_or_ge j i with hji | hji
      · exact c j hji hfj
      · obtain rfl : j = i := by omega
        have : ¬ bcost ss[j] < bcost best := fun q => hc (.inr q)
        rw [b, ← bat_at hi] at this
        show bcost (bat ss at') ≤ _
        omega
  · rw [if_neg hf]
    have hf' : bfree ss us (i : Int) = false := by simpa using hf
    refine ⟨fun h j hj => ?_, fun h => ⟨(h2 h).1, (h2 h).2.1, fun j hj hfj => ?_⟩, h3⟩
    · rcases Nat.lt_or_ge j i with hji | hji
      · exact h1 h j hji
      · obtain rfl : j = i := by omega
        exact hf'
    · rcases Nat.lt_or_ge j i with hji | hji
      · exact (h2 h).2.2 j hji hfj
      · obtain rfl : j = i := by omega
        rw [hf'] at hfj; cases hfj
theorem bsp_spec (ss : List BS) : ((bsp ss).1 = false → (bsp ss).2.1 = 0 ∧ (bsp ss).2.2 = 0 ∧ ∀ i : Nat, i < ss.length → bgood ss i = false) ∧
    ((bsp ss).1 = true → (∃ i : Nat, i < ss.length ∧ bgood ss i = true ∧ (bsp ss).2.1 = (bat ss i).wear) ∧ (∃ i : Nat, i < ss.length ∧ bgood ss i = true ∧ (bsp ss).2.2 = (bat ss i).wear) ∧ ∀ i : Nat, i < ss.length → bgood ss i = true → (bsp ss).2.1 ≤ (bat ss i).wear ∧ (bat ss i).wear ≤ (bsp ss).2.2) := by
  unfold bsp
  have key := eachF_ind (bgood ss) spStep (false, 0, 0) ss (fun n (s : BSp) => (s.1 = false → s.2.1 = 0 ∧ s.2.2 = 0 ∧ ∀ i : Nat, i < n → bgood ss i = false) ∧ (s.1 = true → (∃ i : Nat, i < n ∧ bgood ss i = true ∧ s.2.1 = (bat ss i).wear) ∧ (∃ i : Nat, i < n ∧ bgood ss i = true ∧ s.2.2 = (bat ss i).wear) ∧ ∀ i : Nat, i < n → bgood ss i = true → s.2.1 ≤ (bat ss i).wear ∧ (bat ss i).wear ≤ s.2.2))
    ⟨fun _ => ⟨rfl, rfl, fun i hi => by omega⟩, fun h => by simp at h⟩ ?_
  · exact key
  rintro i hi ⟨any, least, most⟩ ⟨h1, h2⟩
  simp only at h1 h2
  by_cases hf : bgood ss (i : Int) = true
  · rw [if_pos hf]
    unfold spStep
    simp only
    refine ⟨fun h => by simp at h, fun _ => ?_⟩
    have hw : (bat ss (i : Int)).wear = ss[i].wear := by rw [bat_at hi]
    generalize hww : ss[i].wear = w at hw ⊢
    cases any with
    | false =>
      obtain ⟨_, _, h1'⟩ := h1 rfl
      have e1 : imin w w = w := by unfold imin; split <;> rfl
      have e2 : imax w w = w := by unfold imax; split <;> rfl
      simp only [Bool.false_eq_true, if_false, e1, e2]
      refine ⟨⟨i, by omega, hf, hw.symm⟩, ⟨i, by omega, hf, hw.symm⟩, fun j hj hg => ?_⟩
      rcases Nat.lt_or_ge j i with hji | hji
      · rw [h1' j hji] at hg; cases hg
      · obtain rfl : j = i := by omega
        omega
    | true =>
      obtain ⟨⟨a, ha1, ha2, ha3⟩, ⟨b, hb1, hb2, hb3⟩, hall⟩ := h2 rfl
      simp only [if_true]
      have e1 : imin least w = least ∧ least ≤ w ∨ imin least w = w ∧ w ≤ least := by unfold imin; split <;> omega
      have e2 : imax most w = most ∧ w ≤ most ∨ imax most w = w ∧ most ≤ w := by unfold imax; split <;> omega
      refine ⟨?_, ?_, fun j hj hg => ?_⟩
      · rcases e1 with ⟨e, _⟩ | ⟨e, _⟩
        · exact ⟨a, by omega, ha2, by rw [e, ha3]⟩
        · exact ⟨i, by omega, hf, by rw [e, hw]⟩
      · rcases e2 with ⟨e, _⟩ | ⟨e, _⟩
        · exact ⟨b, by omega, hb2, by rw [e, hb3]⟩
        · exact ⟨i, by omega, hf, by rw [e, hw]⟩
      · rcases Nat.lt_or_ge j i with hji | hji
        · have := hall j hji hg
          omega
        · obtain rfl : j = i := by omega
          omega
  · rw [if_neg hf]
    have hf' : bgood ss (i : Int) = false := by simpa using hf
    refine ⟨fun h => ⟨(h1 h).1, (h1 h).2.1, fun j hj => ?_⟩, fun h => ?_⟩
    · rcases Nat.lt_or_ge j i with hji | hji
      · exact (h1 h).2.2 j hji
      · obtain rfl : j = i := by omega
        exact hf'
    · obtain ⟨⟨a, ha1, ha2, ha3⟩, ⟨b, hb1, hb2, hb3⟩, hall⟩ := h2 h
      refine ⟨⟨a, by omega, ha2, ha3⟩, ⟨b, by omega, hb2, hb3⟩, fun j hj hg => ?_⟩
      rcases Nat.lt_or_ge j i with hji | hji
      · exact hall j hji hg
      · obtain rfl : j = i := by omega
        rw [hf'] at hg; cases hg
end Go.Proofs.Ytefllmfoneocaaa
