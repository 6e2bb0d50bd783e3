/-
  It is proved how unevenly blocks can be worn: no program is in sight. There are no further conditions than those that each theorem names.
-/
import Derived.Test.YtefllmfoneocaaaBlocksPlain
set_option linter.unusedVariables false
set_option linter.unusedSimpArgs false
namespace Go.Proofs.Ytefllmfoneocaaa
open Go.HL

/-- How far the costs of blocks are from each other: s is how many were spoilt instead of opened. -/
structure SInv (good : Int → Prop) (c : Int → Int) (us : List Int) (s : Int) : Prop where
  A : ∀ u ∈ us, ∀ f, good f → f ∉ us → c u ≤ c f + s ∧ c f ≤ c u + 1 + s
  D : ∀ f g, good f → f ∉ us → good g → g ∉ us → c f ≤ c g + 1 + s
  B : us.Pairwise fun u v => c u ≤ c v + s ∧ c v ≤ c u + 1 + s
theorem pw_all {α : Type} {R : α → α → Prop} (hs : ∀ a b, R a b → R b a) (hr : ∀ a, R a a) : ∀ {l : List α}, l.Pairwise R → ∀ x ∈ l, ∀ y ∈ l, R x y
  | [], _, x, hx, _, _ => by simp at hx
  | a :: r, h, x, hx, y, hy => by
    obtain ⟨h1, h2⟩ := List.pairwise_cons.1 h
    rcases List.mem_cons.1 hx with e | hx'
    · rcases List.mem_cons.1 hy with e2 | hy'
      · rw [e, e2]; exact hr _
      · rw [e]; exact h1 y hy'
    · rcases List.mem_cons.1 hy with e2 | hy'
      · rw [e2]; exact hs _ _ (h1 x hx')
      · exact pw_all hs hr h2 x hx' y hy'
theorem SInv.all {good : Int → Prop} {c : Int → Int} {us : List Int} {s : Int} (h : SInv good c us s) (hs : 0 ≤ s) {i j : Int} (hi : good i) (hj : good j) : c i ≤ c j + 1 + s := by
  by_cases h1 : i ∈ us
  · by_cases h2 : j ∈ us
    · have hB : us.Pairwise fun u v => c u ≤ c v + 1 + s ∧ c v ≤ c u + 1 + s := h.B.imp fun {a b} hab => ⟨by omega, hab.2⟩
      exact (pw_all (R := fun u v => c u ≤ c v + 1 + s ∧ c v ≤ c u + 1 + s) (fun a b hab => ⟨hab.2, hab.1⟩) (fun x => ⟨by omega, by omega⟩) hB i h1 j h2).1
    · have := (h.A i h1 j hj h2).1
      omega
  · by_cases h2 : j ∈ us
    · exact (h.A j h2 i hi h1).2
    · exact h.D i j hi h1 hj h2
theorem SInv.open {good : Int → Prop} {c : Int → Int} {us : List Int} {s : Int} (h : SInv good c us s) (hs : 0 ≤ s) {v : Int} (hv : good v) (hn : v ∉ us) (hm : ∀ f, good f → f ∉ us → c v ≤ c f) : SInv good c (us ++ [v]) s := by
  refine ⟨fun u hu f hf hfu => ?_, fun f g hf hfu hg hgu => ?_, ?_⟩
  · have hf' : f ∉ us := fun q => hfu (List.mem_append_left _ q)
    rcases List.mem_append.1 hu with h1 | h1
    · exact h.A u h1 f hf hf'
    · rw [List.mem_singleton.1 h1]
      have := hm f hf hf'
      have := h.D f v hf hf' hv hn
      exact ⟨by omega, this⟩
  · exact h.D f g hf (fun q => hfu (List.mem_append_left _ q)) hg (fun q => hgu (List.mem_append_left _ q))
  · rw [List.pairwise_append]
    refine ⟨h.B, by simp, fun a ha b hb => ?_⟩
    rw [List.mem_singleton.1 hb]
    exact h.A a ha v hv hn
theorem SInv.drop {good good' : Int → Prop} {c c' : Int → Int} {o : Int} {r : List Int} {s : Int} (h : SInv good c (o :: r) s) (hs : 0 ≤ s) (hg : ∀ x, good' x → good x) (ho : c' o = c o + 1) (hc : ∀ x, good x → x ≠ o → c' x = c x) (hor : o ∉ r) (hgr : ∀ u ∈ r, good u) : SInv good' c' r s := by
  have hB := List.pairwise_cons.1 h.B
  have hcr : ∀ u ∈ r, c' u = c u := fun u hu => hc u (hgr u hu) (fun e => hor (e ▸ hu))
  refine ⟨fun u hu f hf hfu => ?_, fun f g hf hfu hg' hgu => ?_, ?_⟩
  · rw [hcr u hu]
    have hou := hB.1 u hu
    by_cases hfo : f = o
    · subst hfo
      rw [ho]
      exact ⟨by omega, by omega⟩
    · rw [hc f (hg f hf) hfo]
      exact h.A u (by simp [hu]) f (hg f hf) (by simp [hfo, hfu])
  · by_cases hfo : f = o
    · by_cases hgo : g = o
      · subst hfo hgo; omega
      · subst hfo
        rw [ho, hc g (hg g hg') hgo]
        have := (h.A f (by simp) g (hg g hg') (by simp [hgo, hgu])).1
        omega
    · rw [hc f (hg f hf) hfo]
      by_cases hgo : g = o
      · subst hgo
        rw [ho]
        have := (h.A g (by simp) f (hg f hf) (by simp [hfo, hfu])).2
        omega
      · rw [hc g (hg g hg') hgo]
        exact h.D f g (hg f hf) (by simp [hfo, hfu]) (hg g hg') (by simp [hgo, hgu])
  · refine hB.2.imp_of_mem ?_
    intro a b ha hb hab
    rw [hcr a ha, hcr b hb]
    exact hab
theorem SInv.spoil {good : Int → Prop} {c c' : Int → Int} {us : List Int} {s : Int} (h : SInv good c us s) (hs : 0 ≤ s) {k : Int} (hk : good k) (hku : k ∉ us) (hck : c' k = c k + 1) (hc : ∀ x, good x → x ≠ k → c' x = c x) (hgu : ∀ u ∈ us, good u) : SInv good c' us (s + 1) := by
  have hcu : ∀ u ∈ us, c' u = c u := fun u hu => hc u (hgu u hu) (fun e => hku (e ▸ hu))
  have hcl : ∀ x, good x → c x ≤ c' x ∧ c' x ≤ c x + 1 := fun x hx => by
    by_cases e : x = k
    · subst e; omega
    · rw [hc x hx e]; omega
  refine ⟨fun u hu f hf hfu => ?_, fun f g hf hfu hg hgu' => ?_, ?_⟩
  · rw [hcu u hu]
    have h1 := h.A u hu f hf hfu
    have h2 := hcl f hf
    omega
  · have h1 := h.D f g hf hfu hg hgu'
    have h2 := hcl f hf
    have h3 := hcl g hg
    omega
  · refine h.B.imp_of_mem ?_
    intro a b ha hb hab
    rw [hcu a ha, hcu b hb]
    omega
theorem SInv.congr {good good' : Int → Prop} {c c' : Int → Int} {us : List Int} {s : Int} (h : SInv good c us s) (hg : ∀ x, good' x → good x ∧ c' x = c x) (hu : ∀ u ∈ us, good' u) : SInv good' c' us s := by
  refine ⟨fun u hu' f hf hfu => ?_, fun f g hf hfu hg' hgu => ?_, ?_⟩
  · rw [(hg u (hu u hu')).2, (hg f hf).2]
    exact h.A u hu' f (hg f hf).1 hfu
  · rw [(hg f hf).2, (hg g hg').2]
    exact h.D f g (hg f hf).1 hfu (hg g hg').1 hgu
  · refine h.B.imp_of_mem ?_
    intro a b ha hb hab
    rw [(hg a (hu a ha)).2, (hg b (hu b hb)).2]
    exact hab
/-! ### of blocks -/
theorem bat_mod_at {ss : List BS} {n : Int} (g : BS → BS) (hi : n.toNat < ss.length) : bat (bmod ss n g) n = g (bat ss n) := by
  unfold bat bmod
  rw [List.getElem?_modify, List.getElem?_eq_getElem hi]
  simp
theorem bat_mod_ne {ss : List BS} {n x : Int} (g : BS → BS) (hn : 0 ≤ n) (hx : 0 ≤ x) (hne : x ≠ n) : bat (bmod ss n g) x = bat ss x := by
  unfold bat bmod
  rw [List.getElem?_modify]
  have : ¬ n.toNat = x.toNat := by omega
  simp [this]
theorem bat_mem {ss : List BS} {x : Int} (h : bgood ss x = true) : bat ss x ∈ ss := by
  obtain ⟨h0, hi, _⟩ := bgood_at h
  unfold bat
  rw [List.getElem?_eq_getElem hi]
  exact List.getElem_mem hi
/-- What holds of the blocks, behind so many rounds, s of which spoilt one instead of opening it. -/
structure WInv (n : Nat) (ss : List BS) (us : List Int) (s : Int) (i : Nat) : Prop where
  len : ss.length = n
  use : buse ss us
  clean : ∀ u ∈ us, (bat ss u).dirty = false
  wear : ∀ x ∈ ss, 0 ≤ x.wear ∧ x.wear ≤ i
  s0 : 0 ≤ s
  inv : SInv (fun x => bgood ss x = true) (fun x => bcost (bat ss x)) us s
theorem WInv.spread {n : Nat} {ss : List BS} {us : List Int} {s : Int} {i : Nat} (h : WInv n ss us s i) : 0 ≤ bspread ss ∧ bspread ss ≤ 2 + s := by
  obtain ⟨h1, h2⟩ := bsp_spec ss
  unfold bspread
  have hs := h.s0
  cases hb : (bsp ss).1 with
  | false =>
    obtain ⟨a, b, _⟩ := h1 hb
    omega
  | true =>
    obtain ⟨⟨a, ha1, ha2, ha3⟩, ⟨b, hb1, hb2, hb3⟩, hall⟩ := h2 hb
    have h3 := hall b hb1 hb2
    have h4 := h.inv.all hs hb2 ha2
    have c1 : (bat ss (b : Int)).wear ≤ bcost (bat ss b) := by unfold bcost; split <;> omega
    have c2 : bcost (bat ss (a : Int)) ≤ (bat ss a).wear + 1 := by unfold bcost; split <;> omega
    omega
theorem WInv.total {n : Nat} {ss : List BS} {us : List Int} {s : Int} {i : Nat} (h : WInv n ss us s i) : (us.length : Int) + bfreeN ss us ≤ n ∧ 0 ≤ bfreeN ss us := by
  rw [bfreeN_val h.use]
  have h1 : bgoodN ss ≤ ss.length := cnt_le _ _
  have h2 := h.len
  have h3 := bfreeN_val h.use
  rw [bfreeN_cnt] at h3
  omega
theorem WInv.up {n : Nat} {ss : List BS} {us : List Int} {s : Int} {i j : Nat} (h : WInv n ss us s i) (hij : i ≤ j) : WInv n ss us s j := ⟨h.len, h.use, h.clean, fun x hx => by have := h.wear x hx; omega, h.s0, h.inv⟩
theorem wear_mod {ss : List BS} {i : Nat} (hw : ∀ x ∈ ss, 0 ≤ x.wear ∧ x.wear ≤ i) (n : Int) {g : BS → BS} (hg : ∀ x, x.wear ≤ (g x).wear ∧ (g x).wear ≤ x.wear + 1) : ∀ x ∈ bmod ss n g, 0 ≤ x.wear ∧ x.wear ≤ ((i + 1 : Nat) : Int) := by
  intro x hx
  by_cases hi : n.toNat < ss.length
  · rw [bmod_at hi] at hx
    rcases List.mem_append.1 hx with h1 | h1
    · have := hw x (List.mem_of_mem_take h1); omega
    · rcases List.mem_cons.1 h1 with rfl | h2
      · have h3 := hw ss[n.toNat] (List.getElem_mem hi)
        have h4 := hg ss[n.toNat]
        omega
      · have := hw x (List.mem_of_mem_drop h2); omega
  · unfold bmod at hx
    rw [List.modify_eq_self (by omega)] at hx
    have := hw x hx; omega
theorem iwo_none {us : List Int} {n : Int} (h : n ∉ us) : iwo us n = us := by
  unfold iwo
  rw [List.filter_eq_self]
  intro x hx
  simp only [decide_eq_true_eq]
  rintro rfl
  exact h hx
/-- The oldest one is turned. -/
theorem WInv.old {n : Nat} {ss : List BS} {o : Int} {r : List Int} {s : Int} {i : Nat} (h : WInv n ss (o :: r) s i) (g : BS → BS) (hgw : ∀ x, x.wear ≤ (g x).wear ∧ (g x).wear ≤ x.wear + 1) (hgc : ∀ x : BS, x.dirty = false → bcost (g x) = bcost x + 1) : WInv n (bmod ss o g) (iwo (o :: r) o) s (i + 1) := by
  have hgo := h.use.2 o (by simp)
  obtain ⟨h0, hi, hb⟩ := bgood_at hgo
  have hnd := List.nodup_cons.1 h.use.1
  have hr : iwo (o :: r) o = r := by
    have : iwo (o :: r) o = iwo r o := by unfold iwo; simp
    rw [this, iwo_none hnd.1]
  have hub := buse_mod h.use hgo g
  have hg' : ∀ x, bgood (bmod ss o g) x = true → bgood ss x = true := fun x hx => by
    by_cases e : x = o
    · subst e; exact hgo
    · rwa [bgood_mod g h0 e] at hx
  refine ⟨by rw [bmod_len]; exact h.len, hub, fun u hu => ?_, wear_mod h.wear o hgw, h.s0, ?_⟩
  · obtain ⟨h1, h2⟩ := iwo_mem.1 hu
    rw [bat_mod_ne g h0 (bgood_lt (h.use.2 u h1)).1 h2]
    exact h.clean u h1
  · rw [hr]
    refine h.inv.drop h.s0 hg' ?_ (fun x hx hne => ?_) hnd.1 (fun u hu => h.use.2 u (by simp [hu]))
    · rw [bat_mod_at g hi]
      exact hgc _ (h.clean o (by simp))
    · rw [bat_mod_ne g h0 (bgood_lt hx).1 hne]
/-- A free dirty one is erased. -/
theorem WInv.wash {n : Nat} {ss : List BS} {us : List Int} {s : Int} {i : Nat} (h : WInv n ss us s i) {k : Int} (hk : bfree ss us k = true) (hd : (bat ss k).dirty = true) (bad : Bool) : WInv n (bmod ss k (gErase bad)) (iwo us k) s (i + 1) ∧ iwo us k = us ∧ ∀ x, bgood (bmod ss k (gErase bad)) x = true → bgood ss x = true ∧ bcost (bat (bmod ss k (gErase bad)) x) = bcost (bat ss x) := by
  obtain ⟨hg, hku⟩ := bfree_good hk
  obtain ⟨h0, hi, hb⟩ := bgood_at hg
  have hu : iwo us k = us := iwo_none hku
  have hgw : ∀ x : BS, x.wear ≤ (gErase bad x).wear ∧ (gErase bad x).wear ≤ x.wear + 1 := fun x => by unfold gErase; simp only; omega
  have hcg : ∀ x, bgood (bmod ss k (gErase bad)) x = true → bgood ss x = true ∧ bcost (bat (bmod ss k (gErase bad)) x) = bcost (bat ss x) := by
    intro x hx
    by_cases e : x = k
    · subst e
      refine ⟨hg, ?_⟩
      rw [bat_mod_at _ hi]
      unfold bcost gErase
      rw [hd]; rfl
    · have hx' : bgood ss x = true := by rwa [bgood_mod _ h0 e] at hx
      exact ⟨hx', by rw [bat_mod_ne _ h0 (bgood_lt hx').1 e]⟩
  refine ⟨⟨by rw [bmod_len]; exact h.len, buse_mod h.use hg _, fun u hu' => ?_, wear_mod h.wear k hgw, h.s0, ?_⟩, hu, hcg⟩
  · obtain ⟨h1, h2⟩ := iwo_mem.1 hu'
    rw [bat_mod_ne _ h0 (bgood_lt (h.use.2 u h1)).1 h2]
    exact h.clean u h1
  · rw [hu]
    refine h.inv.congr hcg fun u hu' => ?_
    rw [bgood_mod _ h0 (fun e => hku (e ▸ hu'))]
    exact h.use.2 u hu'
/-- The one that was picked is opened. -/
theorem WInv.opn {n : Nat} {ss : List BS} {us : List Int} {s : Int} {i : Nat} (h : WInv n ss us s i) {k : Int} (hk : bfree ss us k = true) (hd : (bat ss k).dirty = false) (hm : ∀ f, bfree ss us f = true → bcost (bat ss k) ≤ bcost (bat ss f)) : WInv n ss (us ++ [k]) s i := by
  obtain ⟨hg, hku⟩ := bfree_good hk
  refine ⟨h.len, buse_snoc h.use hk, fun u hu => ?_, h.wear, h.s0, h.inv.open h.s0 hg hku fun f hf hfu => hm f ?_⟩
  · rcases List.mem_append.1 hu with h1 | h1
    · exact h.clean u h1
    · rw [List.mem_singleton.1 h1]; exact hd
  · unfold bfree; rw [hf]; simp [hfu]
/-- The one that was picked is spoilt. -/
theorem WInv.spl {n : Nat} {ss : List BS} {us : List Int} {s : Int} {i : Nat} (h : WInv n ss us s i) {k : Int} (hk : bfree ss us k = true) (hd : (bat ss k).dirty = false) : WInv n (bmod ss k gSpoil) (iwo us k) (s + 1) (i + 1) := by
  obtain ⟨hg, hku⟩ := bfree_good hk
  obtain ⟨h0, hi, hb⟩ := bgood_at hg
  have hu : iwo us k = us := iwo_none hku
  have hgw : ∀ x : BS, x.wear ≤ (gSpoil x).wear ∧ (gSpoil x).wear ≤ x.wear + 1 := fun x => by unfold gSpoil; simp only; omega
  refine ⟨by rw [bmod_len]; exact h.len, buse_mod h.use hg _, fun u hu' => ?_, wear_mod h.wear k hgw, by have := h.s0; omega, ?_⟩
  · obtain ⟨h1, h2⟩ := iwo_mem.1 hu'
    rw [bat_mod_ne _ h0 (bgood_lt (h.use.2 u h1)).1 h2]
    exact h.clean u h1
  · rw [hu]
    have hgg : ∀ x, bgood (bmod ss k gSpoil) x = true ↔ bgood ss x = true := fun x => by
      by_cases e : x = k
      · subst e
        obtain ⟨q, hq, hqq⟩ := bgood_mod_at gSpoil hg
        rw [hqq, hg]
        have : q = ss[x.toNat] := by rw [List.getElem?_eq_getElem hi] at hq; exact (Option.some.inj hq).symm
        subst this
        simp [gSpoil, hb]
      · rw [bgood_mod _ h0 e]
    have h1 := h.inv.spoil (c' := fun x => bcost (bat (bmod ss k gSpoil) x)) h.s0 hg hku (by
      rw [bat_mod_at _ hi]
      unfold bcost gSpoil
      rw [hd]; rfl) (fun x hx hne => by
      rw [bat_mod_ne _ h0 (bgood_lt hx).1 hne]) h.use.2
    exact h1.congr (fun x hx => ⟨(hgg x).1 hx, rfl⟩) (fun u hu' => (hgg u).2 (h.use.2 u hu'))
end Go.Proofs.Ytefllmfoneocaaa
