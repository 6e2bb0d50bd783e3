/-
  It is proved what holds of an index's sets whatever is done: no program is in sight. There are no further conditions than those that each theorem names.
-/
import Derived.Test.YtefllmfoneocaaaIndex4
set_option linter.unusedVariables false
set_option linter.unusedSimpArgs false
namespace Go.Proofs.Ytefllmfoneocaaa
open Go.HL

/-- A set as it must be. -/
structure IGood (ways : Int) (l : List ISlot) : Prop where
  len : (l.length : Int) ≤ ways
  nd : (l.map ISlot.nm).Nodup
  fr : ∀ s ∈ l, 0 ≤ s.freq ∧ s.freq ≤ 3
theorem IGood.erase {ways : Int} {l : List ISlot} (g : IGood ways l) (nm : IName) : IGood ways (ierase l nm) := by
  have hs : (ierase l nm).Sublist l := List.eraseP_sublist ..
  exact ⟨by have := hs.length_le; have := g.len; omega, (hs.map _).nodup g.nd, fun s h => g.fr s (hs.subset h)⟩
theorem erase_not {ways : Int} {l : List ISlot} (g : IGood ways l) (nm : IName) : nm ∉ (ierase l nm).map ISlot.nm := by
  rcases idx_cases l nm with ⟨e1, e2, e3⟩ | ⟨j, hj, e1, e2, e4, e3⟩
  · rw [e3]
    intro h
    obtain ⟨s, hs, he⟩ := List.mem_map.1 h
    rw [List.find?_eq_none] at e2
    exact e2 s hs (by simpa using he)
  · rw [e3]
    have hl : l = l.take j ++ l[j] :: l.drop (j + 1) := by rw [← List.drop_eq_getElem_cons hj, List.take_append_drop]
    have hn := g.nd
    rw [hl, List.map_append, List.map_cons, List.nodup_append] at hn
    obtain ⟨n1, n2, n3⟩ := hn
    rw [List.nodup_cons] at n2
    rw [List.map_append, List.mem_append]
    rintro (h | h)
    · exact n3 _ h l[j].nm (by simp) (by rw [e4])
    · exact n2.1 (by rw [e4]; exact h)
theorem snoc_good {ways : Int} {l : List ISlot} {x : ISlot} (g : IGood ways l) (h1 : (l.length : Int) + 1 ≤ ways) (h2 : x.nm ∉ l.map ISlot.nm) (h3 : 0 ≤ x.freq ∧ x.freq ≤ 3) : IGood ways (l ++ [x]) := by
  refine ⟨by rw [List.length_append]; simp only [List.length_cons, List.length_nil]; omega, ?_, fun s hs => ?_⟩
  · rw [List.map_append, List.nodup_append]
    refine ⟨g.nd, by simp, fun a ha b hb => ?_⟩
    simp only [List.map_cons, List.map_nil, List.mem_singleton] at hb
    rintro rfl
    rw [hb] at ha
    exact h2 ha
  · rcases List.mem_append.1 hs with h | h
    · exact g.fr s h
    · rw [List.mem_singleton.1 h]; exact h3
theorem inew_nm (h : Nat) (p : Pl) (f : Int) : (inew h p f).nm = inm h p := rfl
theorem put_good {ways : Int} {l : List ISlot} (g : IGood ways l) (hw : 1 ≤ ways) (h : Nat) (p : Pl) : IGood ways (iputL l ways h p) := by
  have g1 := g.erase (inm h p)
  have hn := erase_not g (inm h p)
  unfold iputL
  generalize ierase l (inm h p) = l1 at g1 hn ⊢
  by_cases hf : ifull l1 ways = true
  · rw [if_pos hf]
    unfold ifull at hf
    have hl : (l1.length : Int) = ways := by simpa using hf
    have hs : (l1.drop 1).Sublist l1 := List.drop_sublist ..
    refine snoc_good ⟨?_, (hs.map _).nodup g1.nd, fun s h => g1.fr s (hs.subset h)⟩ ?_ ?_ (by simp [inew])
    · rw [List.length_drop]; omega
    · rw [List.length_drop]; omega
    · rw [inew_nm]; exact fun h => hn ((hs.map _).subset h)
  · rw [if_neg hf]
    unfold ifull at hf
    have hl : (l1.length : Int) ≠ ways := by simpa using hf
    have := g1.len
    exact snoc_good g1 (by omega) (by rw [inew_nm]; exact hn) (by simp [inew])
theorem hit_good {ways : Int} {l : List ISlot} (g : IGood ways l) (nm : IName) : IGood ways (ihitL l nm) := by
  unfold ihitL
  cases hx : l.findIdx? (fun s => decide (s.nm = nm)) with
  | none => exact g
  | some j =>
    simp only
    have hm : (l.modify j ihit).map ISlot.nm = l.map ISlot.nm := by
      apply List.ext_getElem?
      intro i
      rw [List.getElem?_map, List.getElem?_map, List.getElem?_modify]
      cases l[i]? with
      | none => rfl
      | some s =>
        by_cases hij : j = i
        · simp [hij, ihit, ISlot.nm]
        · simp [hij]
    refine ⟨by rw [List.length_modify]; exact g.len, by rw [hm]; exact g.nd, fun s hs => ?_⟩
    obtain ⟨i, hi, rfl⟩ := List.mem_iff_getElem.1 hs
    rw [List.getElem_modify]
    rw [List.length_modify] at hi
    have h1 := g.fr l[i] (List.getElem_mem hi)
    split
    · unfold ihit imin
      simp only
      split <;> omega
    · exact h1
theorem move_good {ways : Int} {l : List ISlot} {x : ISlot} (g : IGood ways l) (h : Nat) (p q : Pl) (hx : l.find? (fun s => decide (s.nm = inm h p)) = some x) : IGood ways (ierase (ierase l (inm h p)) (inm h q) ++ [inew h q (imax (x.freq - 1) 0)]) := by
  have g1 := g.erase (inm h p)
  have g2 := g1.erase (inm h q)
  have hn := erase_not g1 (inm h q)
  have hlt : (ierase l (inm h p)).length < l.length := by
    rcases idx_cases l (inm h p) with ⟨_, e, _⟩ | ⟨j, hj, _, _, _, e⟩
    · rw [hx] at e; cases e
    · rw [e, List.length_append, List.length_take, List.length_drop]; omega
  have hle : (ierase (ierase l (inm h p)) (inm h q)).length ≤ (ierase l (inm h p)).length := List.length_eraseP_le ..
  have hfx := g.fr x (List.mem_of_find?_eq_some hx)
  have := g.len
  refine snoc_good g2 (by omega) (by rw [inew_nm]; exact hn) ?_
  show 0 ≤ imax (x.freq - 1) 0 ∧ imax (x.freq - 1) 0 ≤ 3
  unfold imax
  split <;> omega
/-- All sets as they must be. -/
def IInv (ways : Int) (ss : List (List ISlot)) : Prop := ∀ l ∈ ss, IGood ways l
theorem IInv.row {ways : Int} {ss : List (List ISlot)} (g : IInv ways ss) {h : Nat} (hl : isi ss h < ss.length) : IGood ways (irow ss h) := by
  unfold irow
  rw [List.getD_eq_getElem?_getD, List.getElem?_eq_getElem hl]
  exact g _ (List.getElem_mem hl)
theorem IInv.iset {ways : Int} {ss : List (List ISlot)} (g : IInv ways ss) (h : Nat) {row : List ISlot} (hr : IGood ways row) : IInv ways (iset ss h row) := by
  intro l hl
  unfold Go.Proofs.Ytefllmfoneocaaa.iset at hl
  rcases List.mem_or_eq_of_mem_set hl with h1 | h1
  · exact g l h1
  · rw [h1]; exact hr
theorem iset_len (ss : List (List ISlot)) (h : Nat) (row : List ISlot) : (iset ss h row).length = ss.length := List.length_set ..
theorem ilen_le {ways : Int} : ∀ {ss : List (List ISlot)}, IInv ways ss → (ilen ss : Int) ≤ ss.length * ways
  | [], _ => by simp [ilen]
  | l :: r, g => by
    have h1 := ilen_le (ss := r) (fun x hx => g x (List.mem_cons_of_mem _ hx))
    have h2 := (g l List.mem_cons_self).len
    have h3 : ilen (l :: r) = l.length + ilen r := by simp [ilen]
    rw [h3, List.length_cons, Int.natCast_add, Int.natCast_add, Int.add_mul]
    simp only [Int.natCast_one, Int.one_mul]
    omega
theorem ilen_set {ss : List (List ISlot)} {h : Nat} (hl : isi ss h < ss.length) (row : List ISlot) : ilen (iset ss h row) + (irow ss h).length = ilen ss + row.length := by
  have hr : irow ss h = ss[isi ss h] := by
    unfold irow
    rw [List.getD_eq_getElem?_getD, List.getElem?_eq_getElem hl]; rfl
  rw [hr]
  unfold iset ilen
  generalize isi ss h = i at hl
  clear hr
  induction ss generalizing i with
  | nil => simp at hl
  | cons a r ih =>
    cases i with
    | zero => simp; omega
    | succ i =>
      have := ih i (by simpa using hl)
      simp only [List.set_cons_succ, List.map_cons, List.sum_cons, List.getElem_cons_succ] at this ⊢
      omega
/-- What the sets are behind an act. -/
def iact (ways : Int) (ss : List (List ISlot)) (kind : Int) (h : Nat) (p q : Pl) : List (List ISlot) :=
  if kind = 0 then iput ss ways h p else if kind = 1 then ss else if kind = 2 then iset ss h (ierase (irow ss h) (inm h p)) else if kind = 3 then iset ss h (ihitL (irow ss h) (inm h p)) else imove ss h p q
theorem iput_inv {ways : Int} {ss : List (List ISlot)} (g : IInv ways ss) (hw : 1 ≤ ways) {h : Nat} (hl : isi ss h < ss.length) (p : Pl) : IInv ways (iput ss ways h p) := g.iset h (put_good (g.row hl) hw h p)
theorem iact_inv {ways : Int} {ss : List (List ISlot)} (g : IInv ways ss) (hw : 1 ≤ ways) (kind : Int) {h : Nat} (hl : isi ss h < ss.length) (p q : Pl) : IInv ways (iact ways ss kind h p q) ∧ (iact ways ss kind h p q).length = ss.length := by
  unfold iact
  split
  · exact ⟨iput_inv g hw hl p, iset_len ..⟩
  · split
    · exact ⟨g, rfl⟩
    · split
      · exact ⟨g.iset h ((g.row hl).erase _), iset_len ..⟩
      · split
        · exact ⟨g.iset h (hit_good (g.row hl) _), iset_len ..⟩
        · unfold imove
          split
          · exact ⟨g, rfl⟩
          · rename_i x hx
            exact ⟨g.iset h (move_good (g.row hl) h p q hx), iset_len ..⟩
/-! ### what was put is found -/
/-- A place stands in its set, with so many behind it at most. -/
def Near (ss : List (List ISlot)) (h : Nat) (p : Pl) (k : Nat) : Prop := ∃ pre x post, irow ss h = pre ++ x :: post ∧ x.nm = inm h p ∧ post.length ≤ k
theorem put_near {ways : Int} {ss : List (List ISlot)} {h : Nat} (hl : isi ss h < ss.length) (p : Pl) : Near (iput ss ways h p) h p 0 := by
  unfold Near iput
  rw [irow_iset hl]
  exact ⟨_, inew h p 0, [], rfl, rfl, Nat.le_refl _⟩
theorem erase_x {pre post : List ISlot} {x : ISlot} (nm : IName) (hne : x.nm ≠ nm) : ∃ pre' post', ierase (pre ++ x :: post) nm = pre' ++ x :: post' ∧ post'.length ≤ post.length := by
  unfold ierase
  by_cases hp : ∃ a ∈ pre, a.nm = nm
  · obtain ⟨a, ha, he⟩ := hp
    refine ⟨pre.eraseP fun s => decide (s.nm = nm), post, ?_, Nat.le_refl _⟩
    rw [List.eraseP_append_left (p := fun s : ISlot => decide (s.nm = nm)) (a := a) (by simpa using he) _ ha]
  · refine ⟨pre, post.eraseP fun s => decide (s.nm = nm), ?_, List.length_eraseP_le ..⟩
    rw [List.eraseP_append_right _ (fun b hb => by simpa using fun e => hp ⟨b, hb, e⟩), List.eraseP_cons_of_neg (by simpa using hne)]
theorem near_put {ways : Int} {ss : List (List ISlot)} (g : IInv ways ss) {h h' : Nat} {p p' : Pl} {k : Nat} (hl : isi ss h < ss.length) (hl' : isi ss h' < ss.length) (hn : Near ss h p k) (hk : (k : Int) + 2 ≤ ways) : Near (iput ss ways h' p') h p (k + 1) := by
  obtain ⟨pre, x, post, hr, hx, hpost⟩ := hn
  by_cases hi : isi ss h' = isi ss h
  · have hrr : irow ss h' = irow ss h := by unfold irow; rw [hi]
    have hrow : irow (iput ss ways h' p') h = iputL (irow ss h) ways h' p' := by
      have e : iput ss ways h' p' = iset ss h (iputL (irow ss h) ways h' p') := by unfold iput; rw [hrr]; unfold iset; rw [hi]
      rw [e, irow_iset hl]
    unfold Near
    rw [hrow]
    by_cases hnm : x.nm = inm h' p'
    · refine ⟨_, inew h' p' 0, [], rfl, ?_, Nat.zero_le _⟩
      rw [inew_nm, ← hnm, hx]
    · obtain ⟨pre', post', he, hle⟩ := erase_x (pre := pre) (post := post) (inm h' p') hnm
      unfold iputL
      rw [hr, he]
      by_cases hf : ifull (pre' ++ x :: post') ways = true
      · rw [if_pos hf]
        unfold ifull at hf
        have hlen : ((pre' ++ x :: post').length : Int) = ways := by simpa using hf
        rw [List.length_append, List.length_cons] at hlen
        cases pre' with
        | nil => simp at hlen; omega
        | cons y t =>
          refine ⟨t, x, post' ++ [inew h' p' 0], by simp, hx, ?_⟩
          rw [List.length_append]; simp only [List.length_cons, List.length_nil]; omega
      · rw [if_neg hf]
        refine ⟨pre', x, post' ++ [inew h' p' 0], by simp, hx, ?_⟩
        rw [List.length_append]; simp only [List.length_cons, List.length_nil]; omega
  · have hrow : irow (iput ss ways h' p') h = irow ss h := by
      unfold iput irow
      have e : isi (iset ss h' (iputL (ss.getD (isi ss h') []) ways h' p')) h = isi ss h := by unfold isi; rw [iset_len]
      rw [e]
      unfold iset
      rw [List.getD_eq_getElem?_getD, List.getElem?_set_ne hi, ← List.getD_eq_getElem?_getD]
    unfold Near
    rw [hrow]
    exact ⟨pre, x, post, hr, hx, by omega⟩
theorem near_find {ss : List (List ISlot)} {h : Nat} {p : Pl} {k : Nat} (hn : Near ss h p k) : p ∈ ifinds (irow ss h) h := by
  obtain ⟨pre, x, post, hr, hx, _⟩ := hn
  rw [hr]
  unfold ifinds
  have h1 : x.part = ipart h := congrArg Prod.fst hx
  have h2 : x.pl = p := by
    obtain ⟨a, b, c, u⟩ := p
    have e := congrArg Prod.snd hx
    unfold ISlot.pl
    cases e
    rfl
  rw [List.mem_map]
  exact ⟨x, by rw [List.mem_filter]; exact ⟨by simp, by simpa using h1⟩, h2⟩
theorem put_last (ways : Int) (ss : List (List ISlot)) {h : Nat} (hl : isi ss h < ss.length) (p : Pl) : ∃ F, ifinds (irow (iput ss ways h p) h) h = F ++ [p] := by
  unfold iput
  rw [irow_iset hl]
  unfold iputL
  rw [ifinds_snoc, if_pos (show (inew h p 0).part = ipart h from rfl)]
  exact ⟨_, rfl⟩
theorem put_freq {ways : Int} {ss : List (List ISlot)} (g : IInv ways ss) {h : Nat} (hl : isi ss h < ss.length) (p : Pl) : ifreq (iput ss ways h p) h p = 0 := by
  have hn := erase_not (g.row hl) (inm h p)
  have hfd : ifind (iput ss ways h p) h p = some (inew h p 0) := by
    unfold ifind iput
    rw [irow_iset hl]
    unfold iputL
    rw [List.find?_append]
    have : (if ifull (ierase (irow ss h) (inm h p)) ways = true then (ierase (irow ss h) (inm h p)).drop 1 else ierase (irow ss h) (inm h p)).find? (fun s => decide (s.nm = inm h p)) = none := by
      rw [List.find?_eq_none]
      intro s hs hc
      apply hn
      have hc' : s.nm = inm h p := by simpa using hc
      refine List.mem_map.2 ⟨s, ?_, hc'⟩
      split at hs
      · exact List.mem_of_mem_drop hs
      · exact hs
    rw [this]
    simp [inew_nm]
  unfold ifreq
  rw [hfd]
  rfl
theorem put_len {ways : Int} {ss : List (List ISlot)} (g : IInv ways ss) (hw : 1 ≤ ways) {h : Nat} (hl : isi ss h < ss.length) (p : Pl) :
    (ifull (ierase (irow ss h) (inm h p)) ways = true → ilen (iput ss ways h p) = ilen ss) ∧ ilen (iput ss ways h p) ≤ ilen ss + 1 := by
  have h1 := ilen_set hl (iputL (irow ss h) ways h p)
  have h2 : (ierase (irow ss h) (inm h p)).length ≤ (irow ss h).length := List.length_eraseP_le ..
  have h3 := (g.row hl).len
  have h4 : (iputL (irow ss h) ways h p).length = (if ifull (ierase (irow ss h) (inm h p)) ways = true then (ierase (irow ss h) (inm h p)).length - 1 else (ierase (irow ss h) (inm h p)).length) + 1 := by
    unfold iputL
    rw [List.length_append]
    split <;> simp
  unfold iput
  by_cases hf : ifull (ierase (irow ss h) (inm h p)) ways = true
  · rw [if_pos hf] at h4
    have hf' := hf
    unfold ifull at hf'
    have hf2 : ((ierase (irow ss h) (inm h p)).length : Int) = ways := by simpa using hf'
    exact ⟨fun _ => by omega, by omega⟩
  · rw [if_neg hf] at h4
    exact ⟨fun hc => absurd hc hf, by omega⟩
end Go.Proofs.Ytefllmfoneocaaa
