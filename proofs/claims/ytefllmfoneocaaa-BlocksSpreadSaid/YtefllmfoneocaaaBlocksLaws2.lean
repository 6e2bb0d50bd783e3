/-
  It is proved that the law BlocksSpread returns true for every input. There are no further conditions than those that each theorem names.
-/
import Derived.Test.YtefllmfoneocaaaBlocksLaws
set_option linter.unusedVariables false
set_option linter.unusedSimpArgs false
namespace Go.Proofs.Ytefllmfoneocaaa
open Go.HL

theorem bat_pick {ss : List BS} {us : List Int} (h : (bpick ss us).1 = true) : bfree ss us (bpick ss us).2.2 = true ∧ (bat ss (bpick ss us).2.2).dirty = (bpick ss us).2.1.dirty ∧ ∀ f, bfree ss us f = true → bcost (bat ss (bpick ss us).2.2) ≤ bcost (bat ss f) := by
  obtain ⟨a, b, c⟩ := (bpick_spec ss us).2.1 h
  refine ⟨a, by rw [b], fun f hf => ?_⟩
  have hl := bgood_lt (bfree_good hf).1
  have := c f.toNat (by omega) (by rw [Int.toNat_of_nonneg hl.1]; exact hf)
  rwa [Int.toNat_of_nonneg hl.1] at this
theorem erase_cost (bad : Bool) (x : BS) (h : x.dirty = false) : bcost (gErase bad x) = bcost x + 1 := by
  unfold bcost gErase; rw [h]; rfl
theorem spoil_cost (x : BS) (h : x.dirty = false) : bcost (gSpoil x) = bcost x + 1 := by
  unfold bcost gSpoil; rw [h]; rfl
theorem law_BlocksSpread (L : HList) (n : Int) (v : SlV) (l : List BAct) (hv : Sl L v 3 (l.flatMap bactEnc)) : Reads PP 13 #[.int .i64 n, .slice v.a v.len v.cap] L (.bool true) := by
  refine Reads.of (args := [.int .i64 n, .slice v.a v.len v.cap]) noNum mixed Try.func13 (e13 n v _) ?_
  unfold t13
  have hlen := hv.els_len bact_len (by decide)
  refine ifD_of (fun _ => cl_rd (wears_rd _) (true, ()) rfl (.of ⟨rfl, rfl⟩)) (fun (h1 : ¬ n < 2) => ?_)
  refine ifD_of (fun _ => cl_rd (wears_rd _) (true, ()) rfl (.of ⟨rfl, rfl⟩)) (fun (h2 : ¬ n > 16) => ?_)
  refine ifD_of (fun _ => cl_rd (wears_rd _) (true, ()) rfl (.of ⟨rfl, rfl⟩)) (fun (h3 : ¬ (v.len : Int) > 400) => ?_)
  obtain ⟨N, rfl⟩ : ∃ N : Nat, n = N := ⟨n.toNat, by omega⟩
  refine make_of elemSt (l := N) (c := N) (Nat.le_refl _) (by omega) fun n0 ob own0 _ _ => ?_
  rw [zeros_bs] at own0
  have hin : Sl ((n0, ob) :: L) ⟨some ⟨n0, 0, none⟩, N, N⟩ 3 ((List.replicate N bs0).flatMap bsEnc) := own0.sl.mono fun x hx => by rw [List.mem_singleton.1 hx]; exact List.mem_cons_self
  generalize (n0, ob) = o0 at hin ⊢
  refine cl_in [] [] (bnew_cl (o0 :: L) _ _ hin ⟨none, 0, 0⟩ [] (Sl.nil 1) (by decide)) (by simp) ?_
  rintro _ A0 - hK
  unfold BNewK at hK
  rw [bnewR_zero (by omega)] at hK
  obtain ⟨m, B, rfl, rfl, hB, -⟩ := hK
  rw [List.append_nil, List.nil_append]
  refine ⟨(some ⟨m, 0, none⟩, 0, ()), rfl, ifF rfl ?_⟩
  have hb0 : ∀ x : Int, bcost (bat (List.replicate N bs0) x) = 0 := by
    intro x
    have : bat (List.replicate N bs0) x = bs0 := by
      unfold bat
      rw [List.getElem?_replicate]
      split <;> rfl
    rw [this]; rfl
  refine lp_of (fun k z L' => ∃ (i : Nat) (s : Int) (J A : HList) (ss : List BS) (us : List Int), i ≤ l.length ∧ k = l.length - i ∧ z = (2 + s, (i : Int), ()) ∧ L' = J ++ (A ++ (o0 :: L)) ∧ BX m ss us A ∧ WInv N ss us s (2 * i) ∧ s ≤ i) l.length
    ⟨0, 0, [], B, _, _, by omega, by omega, rfl, rfl, hB, ⟨List.length_replicate, ⟨by simp, by simp⟩, by simp, fun x hx => by rw [List.eq_of_mem_replicate hx]; decide, by omega, ⟨by simp, fun f g _ _ _ _ => by simp only [hb0]; omega, by simp⟩⟩, by omega⟩ ?_
  clear hB hb0
  rintro k z L' ⟨i, s, J, A, ss, us, hi, rfl, rfl, rfl, hA, inv, hsi⟩
  refine ifD_of (fun (hl : (i : Int) < v.len) => ?_) (fun (hge : ¬ (i : Int) < v.len) => cl_rd (wears_rd _) (true, ()) rfl (.app (.app (.cons (.of ⟨rfl, rfl⟩)))))
  have hi' : i < l.length := by omega
  have hi0 : (0 : Int) ≤ (i : Int) := by omega
  obtain ⟨a, ha, lx⟩ := (Sl.right (R := J ++ (A ++ [o0])) hv).el bact_len (by decide) hi'
  have hLL : J ++ (A ++ [o0]) ++ L = J ++ (A ++ (o0 :: L)) := by simp
  rw [hLL] at lx
  refine nilc_of ha (ixn_of hi0 hl (ld_of l[i] (by rw [Int.toNat_natCast]; exact lx) ?_))
  generalize l[i] = x
  refine nw_of fun n1 _ => st_of [] _ rfl rfl (by simp) (.inl (Nat.le_refl _)) #[.int .i64 x.1, .int .i64 x.2.1, .bool x.2.2.1] rfl ?_
  rw [List.nil_append]
  generalize ho1 : (n1, Obj.cells #[.int .i64 x.1, .int .i64 x.2.1, .bool x.2.2.1] 118) = o1
  have l0 : ∀ {Z : HList}, LdAt ⟨n1, 0, none⟩ [.int .i64 x.1] (o1 :: Z) := by subst ho1; exact ldB List.mem_cons_self rfl
  have l2 : ∀ {Z : HList}, LdAt (Addr.add ⟨n1, 0, none⟩ 2) [.bool x.2.2.1] (o1 :: Z) := by subst ho1; exact ldB List.mem_cons_self rfl
  clear ho1
  generalize x.1 = kind at l0
  generalize x.2.2.1 = xb at l2
  generalize o0 :: L = L0
  have hp : ∀ A' : HList, (o1 :: (J ++ (A' ++ L0))).Perm (A' ++ (o1 :: (J ++ L0))) := by
    intro A'
    classical
    rw [List.perm_iff_count]
    intro x
    simp only [List.append_eq, List.cons_append, List.count_append, List.count_cons, List.count_nil]
    omega
  refine cl_rpm (bpick_cl m ss us A hA) (hp A) ((bpick ss us).2.2, (bpick ss us).2.1.dirty, (bpick ss us).1, ()) rfl ?_
  refine cl_rpm (boldest_rd m ss us A hA) (hp A) (us.headD 0, decide (us ≠ []), ()) rfl ?_
  have hpk := bat_pick (ss := ss) (us := us)
  generalize hk : bpick ss us = pk at hpk ⊢
  obtain ⟨fd, best, k⟩ := pk
  simp only at hpk ⊢
  have hfew : ∀ {ss : List BS} {us : List Int} {s : Int} {i : Nat}, WInv N ss us s i → us.length ≤ N := fun inv => by
    have h1 := bus_few (buse_bus inv.use)
    rw [inv.len] at h1
    exact h1
  refine jn_of (fun (y : RsV [.lf .bool]) L' => ∃ (A' : HList) (ss' : List BS), L' = o1 :: (J ++ (A' ++ L0)) ∧ BX m ss' us A' ∧ WInv N ss' us s (2 * i + 1) ∧ ((y.1 : Bool) = true → (kind = 0 ∨ kind = 2) → bfree ss' us k = true ∧ (bat ss' k).dirty = false ∧ ∀ f, bfree ss' us f = true → bcost (bat ss' k) ≤ bcost (bat ss' f))) ?_ ?_
  · clear hA inv hk hpk
    rintro ⟨ok, ⟨⟩⟩ _ ⟨A, ss, rfl, hA, inv, hok⟩
    simp only at hok
    refine jn_of (fun (y : RsV [.lf (.int .i64)]) L' => ∃ (s' : Int) (A' : HList) (ss' : List BS) (us' : List Int), y = (2 + s', ()) ∧ L' = o1 :: (J ++ (A' ++ L0)) ∧ BX m ss' us' A' ∧ WInv N ss' us' s' (2 * (i + 1)) ∧ s' ≤ i + 1) ?_ ?_
    · clear hA inv hok
      rintro _ _ ⟨s', A, ss, us, rfl, rfl, hA, inv, hs'⟩
      obtain ⟨hsp0, hsp⟩ := inv.spread
      obtain ⟨ht, ht0⟩ := inv.total
      have hfw := hfew inv
      refine cl_rpm (bspread_rd m ss us A hA) (hp A) (bspread ss, ()) rfl (ifN (show ¬ bspread ss > 2 + s' by omega) ?_)
      refine cl_rpm (bspread_rd m ss us A hA) (hp A) (bspread ss, ()) rfl (ifN (show ¬ bspread ss < 0 by omega) ?_)
      refine cl_pm (bused_cl m ss us A hA) (hp A) ?_
      rintro _ _ ⟨w, sg, rfl, rfl, own⟩
      have hwl := own.sl.len
      rw [ivs_length, Nat.mul_one] at hwl
      refine ⟨o1 :: ((sg ++ J) ++ (A ++ L0)), ?_, (w, ()), rfl, ?_⟩
      · classical
        rw [List.perm_iff_count]
        intro x
        simp only [List.append_eq, List.cons_append, List.count_append, List.count_cons, List.count_nil]
        omega
      refine cl_rpm (R := o1 :: ((sg ++ J) ++ L0)) (bfreeN_cl m ss us A hA) ?_ (bfreeN ss us, ()) rfl (ifN ?_ ?_)
      · classical
        rw [List.perm_iff_count]
        intro x
        simp only [List.append_eq, List.cons_append, List.count_append, List.count_cons, List.count_nil]
        omega
      · show ¬ IntKind.i64.wrap ((w.len : Int) + bfreeN ss us) > (N : Int)
        rw [w64_id (by omega) (by omega)]; omega
      refine ⟨l.length - (i + 1), by omega, i + 1, s', o1 :: (sg ++ J), A, ss, us, by omega, rfl, ?_, rfl, hA, inv, by omega⟩
      show (2 + s', IntKind.i64.wrap ((i : Int) + 1), ()) = _
      rw [w64_id (by omega) (by omega)]
      rfl
    intro j2 hj2
    have hwr : ∀ x ∈ ss, 0 ≤ x.wear ∧ x.wear ≤ 900000000 := fun x hx => by have := inv.wear x hx; omega
    have same : j2 (2 + s, ()) (o1 :: (J ++ (A ++ L0))) := hj2 _ _ ⟨s, A, ss, us, rfl, rfl, hA, inv.up (by omega), by omega⟩
    have hfw := hfew inv
    have hpb : ∀ A' : HList, (A' ++ (o1 :: (J ++ L0))).Perm (o1 :: (J ++ (A' ++ L0))) := fun A' => (hp A').symm
    refine ld_of kind l0 (ifE_of (fun hk0 => ?_) (fun hk0 => ifE_of (fun hk1 => ?_) (fun hk1 => ifE_of (fun hk2 => ?_) (fun hk2 => ?_))))
    · refine ifB_of (fun ho => ?_) (fun ho => same)
      obtain ⟨f1, f2, f3⟩ := hok ho (.inl hk0)
      have hop : bopens ss us k = true := by
        obtain ⟨h0, hik, _⟩ := bgood_at (bfree_good f1).1
        unfold bopens
        rw [f1, List.getElem?_eq_getElem hik]
        have e : bat ss k = ss[k.toNat] := by unfold bat; rw [List.getElem?_eq_getElem hik]; rfl
        rw [e] at f2
        simp [f2]
      refine cl_pm (bopened_cl m ss us A hA (by omega) k) (hp A) ?_
      rintro _ A' ⟨rfl, hA'⟩
      rw [hop] at hA' ⊢
      refine ⟨_, hpb A', (true, ()), rfl, ifF rfl (hj2 _ _ ⟨s, A', ss, us ++ [k], rfl, rfl, hA', (inv.opn f1 f2 f3).up (by omega), by omega⟩)⟩
    · refine ifB_of (fun ho => ?_) (fun ho => same)
      have hne : us ≠ [] := by simpa using ho
      cases us with
      | nil => exact absurd rfl hne
      | cons o r =>
        have hgo := inv.use.2 o (by simp)
        refine ld_of xb l2 (cl_pm (berased_cl m ss (o :: r) A hA hwr o xb) (hp A) ?_)
        rintro _ A' ⟨rfl, hA'⟩
        rw [hgo] at hA' ⊢
        simp only [if_true] at hA'
        refine ⟨_, hpb A', (true, ()), rfl, ifF rfl (hj2 _ _ ⟨s, A', _, _, rfl, rfl, hA', (inv.old (gErase xb) (fun x => by unfold gErase; simp only; omega) (erase_cost xb)).up (by omega), by omega⟩)⟩
    · refine ifB_of (fun ho => ?_) (fun ho => same)
      obtain ⟨f1, f2, f3⟩ := hok ho (.inr hk2)
      refine cl_pm (bspoilt_cl m ss us A hA k) (hp A) ?_
      rintro _ A' ⟨rfl, hA'⟩
      have hgk := (bfree_good f1).1
      rw [hgk] at hA' ⊢
      simp only [if_true] at hA'
      refine ⟨_, hpb A', (true, ()), rfl, ifF rfl ?_⟩
      have hs0 := inv.s0
      have hw : IntKind.i64.wrap (2 + s + 1) = 2 + (s + 1) := by rw [w64_id (by omega) (by omega)]; omega
      show j2 (IntKind.i64.wrap (2 + s + 1), ()) _
      rw [hw]
      exact hj2 _ _ ⟨s + 1, A', _, _, rfl, rfl, hA', (inv.spl f1 f2).up (by omega), by omega⟩
    · refine ifB_of (fun ho => ?_) (fun ho => same)
      have hne : us ≠ [] := by simpa using ho
      cases us with
      | nil => exact absurd rfl hne
      | cons o r =>
        have hgo := inv.use.2 o (by simp)
        refine cl_pm (bspoilt_cl m ss (o :: r) A hA o) (hp A) ?_
        rintro _ A' ⟨rfl, hA'⟩
        rw [hgo] at hA' ⊢
        simp only [if_true] at hA'
        refine ⟨_, hpb A', (true, ()), rfl, ifF rfl (hj2 _ _ ⟨s, A', _, _, rfl, rfl, hA', (inv.old gSpoil (fun x => by unfold gSpoil; simp only; omega) spoil_cost).up (by omega), by omega⟩)⟩
  intro j1 hj1
  have hwr : ∀ x ∈ ss, 0 ≤ x.wear ∧ x.wear ≤ 900000000 := fun x hx => by have := inv.wear x hx; omega
  have hpb : ∀ A' : HList, (A' ++ (o1 :: (J ++ L0))).Perm (o1 :: (J ++ (A' ++ L0))) := fun A' => (hp A').symm
  have wash : fd = true → best.dirty = true → ∀ (Kk : HP), (∀ A' ss', BX m ss' us A' → WInv N ss' us s (2 * i + 1) → (xb = false → bfree ss' us k = true ∧ (bat ss' k).dirty = false ∧ ∀ f, bfree ss' us f = true → bcost (bat ss' k) ≤ bcost (bat ss' f)) → Kk (o1 :: (J ++ (A' ++ L0)))) →
      cl PP 75 #[.pointer (some ⟨m, 0, none⟩), .int .i64 k, .bool xb] [.lf .bool] (fun _ => Kk) (o1 :: (J ++ (A ++ L0))) := by
    intro hfd hbd Kk hKk
    obtain ⟨f1, f2, f3⟩ := hpk hfd
    rw [hbd] at f2
    have hgk := (bfree_good f1).1
    refine cl_pm (berased_cl m ss us A hA hwr k xb) (hp A) ?_
    rintro _ A' ⟨rfl, hA'⟩
    rw [hgk] at hA' ⊢
    simp only [if_true] at hA'
    obtain ⟨inv', hu, hcg⟩ := inv.wash f1 f2 xb
    rw [hu] at hA' inv'
    refine ⟨_, hpb A', (true, ()), rfl, hKk A' _ hA' inv' fun hx => ?_⟩
    subst hx
    obtain ⟨h0, hik, hbb⟩ := bgood_at hgk
    have hgk' : bgood (bmod ss k (gErase false)) k = true := by
      obtain ⟨q, hq, hqq⟩ := bgood_mod_at (gErase false) hgk
      rw [hqq]; rfl
    refine ⟨?_, ?_, fun f hf => ?_⟩
    · unfold bfree
      rw [hgk']
      simpa using (bfree_good f1).2
    · rw [bat_mod_at _ hik]; rfl
    · obtain ⟨g1, g2⟩ := bfree_good hf
      rw [(hcg k hgk').2, (hcg f g1).2]
      refine f3 f ?_
      unfold bfree
      rw [(hcg f g1).1]
      simpa using g2
  have plain : ∀ (y : Bool), (y = true → (kind = 0 ∨ kind = 2) → fd = true ∧ best.dirty = false) → j1 (y, ()) (o1 :: (J ++ (A ++ L0))) := by
    intro y hy
    refine hj1 _ _ ⟨A, ss, rfl, hA, inv.up (by omega), fun h1 h2 => ?_⟩
    obtain ⟨g1, g2⟩ := hy h1 h2
    obtain ⟨f1, f2, f3⟩ := hpk g1
    exact ⟨f1, by rw [f2, g2], f3⟩
  refine ifB_of (fun hfd => ?_) (fun hfd => plain fd (fun h => by rw [show fd = false from hfd] at h; cases h))
  have hfd' : fd = true := hfd
  refine ifB_of (fun hbd => ?_) (fun hbd => plain fd (fun _ _ => ⟨hfd', hbd⟩))
  have hbd' : best.dirty = true := hbd
  refine ld_of kind l0 (ifE_of (fun hk0 => ?_) (fun hk0 => ld_of kind l0 (ifE_of (fun hk2 => ?_) (fun hk2 => ?_))))
  · refine ld_of xb l2 (wash hfd' hbd' _ fun A' ss' hA' inv' hf => ld_of xb l2 (hj1 _ _ ⟨A', ss', rfl, hA', inv', fun h1 _ => hf (by simpa using h1)⟩))
  · refine ld_of xb l2 (wash hfd' hbd' _ fun A' ss' hA' inv' hf => ld_of xb l2 (hj1 _ _ ⟨A', ss', rfl, hA', inv', fun h1 _ => hf (by simpa using h1)⟩))
  · exact plain fd (fun _ h2 => by rcases h2 with h2 | h2 <;> contradiction)
theorem row_BlocksSpread (W : World) (a0 : Int) (w0 : intWf .i64 a0) (a1 : SlV) (l1 : List BAct) (w1 : SlOk W bactEnc (fun x => intWf .i64 x.1 ∧ intWf .i64 x.2.1 ∧ True ∧ True) 3 (a1, l1)) :
    Reads PP 13 #[.int .i64 a0, .slice a1.a a1.len a1.cap] (allB W) (.bool true) := law_BlocksSpread _ a0 a1 l1 w1.sl
end Go.Proofs.Ytefllmfoneocaaa
