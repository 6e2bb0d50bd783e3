/-
  It is proved that the law IndexFinds returns true for every input. There are no further conditions than those that each theorem names.
-/
import Derived.Test.YtefllmfoneocaaaIndexLaws2
set_option linter.unusedVariables false
set_option linter.unusedSimpArgs false
namespace Go.Proofs.Ytefllmfoneocaaa
open Go.HL

theorem ifin_lp (L : HList) (m : Nat) (ways : Int) (hw : 1 ≤ ways ∧ ways ≤ 8) (v : SlV) (more : List IAct) (hv : IActs L v more) (hmore : (more.length : Int) < ways) (h : Nat) (hh : h < 2 ^ 64) (p : Pl) (n1 : Nat) (o1 : Nat × Obj) (l1 : ∀ {Z : HList}, o1 ∈ Z → LdAt ⟨n1, 0, none⟩ (plEnc p) Z)
    (ss : List (List ISlot)) (A G : HList) (hA : IX m ways ss A) (inv : IInv ways ss) (near : Near ss h p 0) {K : Value → HP} (hK : ∀ J A, K (.bool true) (J ++ A ++ (o1 :: L))) :
    (lp [.lf (.int .i64)] (0, ()) fun z4 go4 =>
      ifB (decide ((z4.1 : Int) < v.len)) (
       nilc v.a fun a10 =>
       ixn z4.1 v.len <|
       ld (Addr.add a10 (z4.1.toNat * 8)) (.lf (.int .i64)) fun v16 =>
       ifB ((v16 : Int) != 0) (
        cl PP 56 #[] [.lf .bool] fun r22 =>
        K (.bool r22.1)) (
        nilc v.a fun a11 =>
        ixn z4.1 v.len <|
        nilc v.a fun a12 =>
        ixn z4.1 v.len <|
        ld (Addr.add (Addr.add a11 (z4.1.toNat * 8)) 1) (.lf (.int .u64)) fun v17 =>
        ld (Addr.add (Addr.add a12 (z4.1.toNat * 8)) 2) (.agg [.int .i64, .int .i64, .int .i64]) fun v18 =>
        cl PP 48 #[.pointer (some ⟨m, 0, none⟩), .int .u64 v17, .agg #[.int .i64 v18.1, .int .i64 v18.2.1, .int .i64 v18.2.2.1]] [.agg [.int .i64, .int .i64, .int .i64], .lf .bool] fun r23 =>
        go4 (IntKind.i64.wrap (z4.1 + 1), ()))) (
       cl PP 49 #[.pointer (some ⟨m, 0, none⟩), .int .u64 h] [.lf .sl] fun r24 =>
       lp [.lf (.int .i64)] (0, ()) fun z5 go5 =>
        ifB (decide ((z5.1 : Int) < r24.1.len)) (
         nilc r24.1.a fun a13 =>
         ixn z5.1 r24.1.len <|
         ld (Addr.add a13 (z5.1.toNat * 3)) (.agg [.int .i64, .int .i64, .int .i64]) fun v19 =>
         ld ⟨n1, 0, none⟩ (.agg [.int .i64, .int .i64, .int .i64]) fun v20 =>
         smP PP (binOp .eql 81 (.agg #[.int .i64 v19.1, .int .i64 v19.2.1, .int .i64 v19.2.2.1]) (.agg #[.int .i64 v20.1, .int .i64 v20.2.1, .int .i64 v20.2.2.1])) (.lf .bool) fun v21 =>
         ifB v21 (
          cl PP 56 #[] [.lf .bool] fun r25 =>
          K (.bool r25.1)) (
          go5 (IntKind.i64.wrap (z5.1 + 1), ()))) (
         K (.bool false)))) (G ++ A ++ (o1 :: L)) := by
  have hlen := hv.len
  refine lp_of (fun k z L' => ∃ (i : Nat) (ss : List (List ISlot)) (A : HList), i ≤ more.length ∧ k = more.length - i ∧ z = ((i : Int), ()) ∧ L' = G ++ A ++ (o1 :: L) ∧ IX m ways ss A ∧ IInv ways ss ∧ Near ss h p i) more.length
    ⟨0, ss, A, by omega, by omega, rfl, rfl, hA, inv, near⟩ ?_
  clear hA inv near
  rintro k z L' ⟨i, ss, A, hi, rfl, rfl, rfl, hA, inv, near⟩
  have hlt := hA.lt h
  refine ifD_of (fun (hl : (i : Int) < v.len) => ?_) (fun (hge : ¬ (i : Int) < v.len) => ?_)
  · have hi' : i < more.length := by omega
    have hi0 : (0 : Int) ≤ (i : Int) := by omega
    obtain ⟨a, ha, l0, lh, lp', _⟩ := (hv.cons (o := o1)).right (R := G ++ A) |>.at' hi'
    refine nilc_of ha (ixn_of hi0 hl (ld_of more[i].1 l0 ?_))
    refine ifNe_of (fun hk => cl_rd (indexes_rd _) (true, ()) rfl (hK _ _)) (fun hk => ?_)
    have hx := (ah_int (hv.wf _ (List.getElem_mem hi'))).2
    have hlt' := hA.lt (ah more[i])
    have hfew : (irow ss (ah more[i])).length < 100 := by have := (inv.row hlt').len; omega
    refine nilc_of ha (ixn_of hi0 hl (nilc_of ha (ixn_of hi0 hl (ld_of (ah more[i] : Int) lh (ld_of more[i].2.2.1 lp' ?_)))))
    refine cl_in G (o1 :: L) (iput_cl m ways ss A hA hw.1 (ah more[i]) hx more[i].2.2.1 hfew) rfl ?_
    rintro _ A' - ⟨⟨g, rfl, -⟩, hA'⟩
    refine ⟨((g.b, g.p, g.e, ()), _, ()), rfl, more.length - (i + 1), by omega, i + 1, _, A', by omega, rfl, ?_, rfl, hA', iput_inv inv hw.1 hlt' _, near_put inv hlt hlt' near (by omega)⟩
    rw [w64_id (by first | omega | (simp only; omega)) (by first | omega | (simp only; omega))]
    rfl
  · refine cl_in G (o1 :: L) (ifind_cl m ways ss A hA h hh) rfl ?_
    rintro _ _ - ⟨u, seg, rfl, rfl, own⟩
    refine ⟨(u, ()), rfl, ?_⟩
    have hmem := near_find near
    have hfl : (ifinds (irow ss h) h).length ≤ 100 := by
      have h1 := hA.few h
      have h2 := List.length_filter_le (fun s => decide (s.part = ipart h)) (irow ss h)
      unfold ifinds
      rw [List.length_map]; omega
    generalize ifinds (irow ss h) h = F at own hmem hfl
    have hul := own.sl.els_len plEnc_len (by decide)
    have hus : Sl (G ++ (seg ++ A) ++ (o1 :: L)) u 3 (F.flatMap plEnc) := (own.sl.left.right).left
    refine lp_of (fun k z L' => L' = G ++ (seg ++ A) ++ (o1 :: L) ∧ ∃ i : Nat, i ≤ F.length ∧ k = F.length - i ∧ z = ((i : Int), ()) ∧ p ∉ F.take i) F.length ⟨rfl, 0, by omega, by omega, rfl, by simp⟩ ?_
    rintro k z L' ⟨rfl, j, hj, rfl, rfl, hn⟩
    refine ifD_of (fun (hl : (j : Int) < u.len) => ?_) (fun (hge : ¬ (j : Int) < u.len) => ?_)
    · have hj' : j < F.length := by omega
      obtain ⟨a, ha, la⟩ := hus.el plEnc_len (by decide) hj'
      refine nilc_of ha (ixn_of (show (0 : Int) ≤ (j : Int) by omega) hl (ld_of F[j] (by rw [Int.toNat_natCast]; exact la) (ld_of p (l1 (by simp)) (eqPl _ _ _ _ _ _ ?_))))
      refine ifD_of (fun he => cl_rd (indexes_rd _) (true, ()) rfl (hK _ _)) (fun he => ?_)
      refine ⟨F.length - (j + 1), by omega, rfl, j + 1, by omega, rfl, ?_, ?_⟩
      · rw [w64_id (by first | omega | (simp only; omega)) (by first | omega | (simp only; omega))]
        rfl
      · rw [List.take_succ_eq_append_getElem hj', List.mem_append, not_or]
        refine ⟨hn, fun hm => he ?_⟩
        rw [← List.mem_singleton.1 hm]
    · obtain rfl : j = F.length := by omega
      rw [List.take_length] at hn
      exact absurd hmem hn
theorem ireplicate_inv (sets : Nat) (ways : Int) (hw : 1 ≤ ways) : IInv ways (List.replicate sets []) := by
  intro l hl
  rw [List.eq_of_mem_replicate hl]
  exact ⟨by show ((0 : Nat) : Int) ≤ ways; omega, List.nodup_nil, fun s h => by simp at h⟩
theorem ifreq_le {ways : Int} {ss : List (List ISlot)} (inv : IInv ways ss) {h : Nat} (hl : isi ss h < ss.length) (p : Pl) : ifreq ss h p ≤ 3 := by
  unfold ifreq
  split
  · rename_i x hx
    exact ((inv.row hl).fr x (by unfold ifind at hx; exact List.mem_of_find?_eq_some hx)).2
  · omega
theorem iact_fr {ways : Int} {ss : List (List ISlot)} (inv : IInv ways ss) {h : Nat} (hl : isi ss h < ss.length) : (irow ss h).length ≤ 8 ∨ 8 < ways := by
  have := (inv.row hl).len
  omega
theorem law_IndexFinds (L : HList) (sets ways : Int) (v : SlV) (l : List IAct) (hv : IActs L v l) (h : Nat) (hh : h < 2 ^ 64) (p : Pl) (v2 : SlV) (more : List IAct) (hv2 : IActs L v2 more) :
    Reads PP 11 #[.int .i64 sets, .int .i64 ways, .slice v.a v.len v.cap, .int .u64 h, .agg #[.int .i64 p.1, .int .i64 p.2.1, .int .i64 p.2.2.1], .slice v2.a v2.len v2.cap] L (.bool true) := by
  refine Reads.of (args := [.int .i64 sets, .int .i64 ways, .slice v.a v.len v.cap, .int .u64 h, .agg #[.int .i64 p.1, .int .i64 p.2.1, .int .i64 p.2.2.1], .slice v2.a v2.len v2.cap]) noNum mixed Try.func11 (e11 sets ways v h p v2 _) ?_
  unfold t11
  refine nw_of fun n1 _ => ?_
  generalize ho : (n1, Obj.cells #[.int .i64 p.1, .int .i64 p.2.1, .int .i64 p.2.2.1] 81) = o1
  have l1 : ∀ {Z : HList}, o1 ∈ Z → LdAt ⟨n1, 0, none⟩ (plEnc p) Z := by subst ho; exact fun hm => ldB hm rfl
  clear ho
  have fin : ∀ {Z : HList}, Reads PP 56 #[] Z (.bool true) := fun {Z} => indexes_rd Z
  by_cases hbad : sets < 1 ∨ sets > 64 ∨ ways < 1 ∨ ways > 8
  · refine cl_rd (inew_bad _ sets ways hbad) (none, 30, ()) rfl (ifT (by decide) ?_)
    refine ifD_of (fun _ => cl_rd fin (true, ()) rfl (.cons (.of ⟨rfl, rfl⟩))) fun h1 => ifD_of (fun _ => cl_rd fin (true, ()) rfl (.cons (.of ⟨rfl, rfl⟩))) fun h2 => ifD_of (fun _ => cl_rd fin (true, ()) rfl (.cons (.of ⟨rfl, rfl⟩))) fun h3 => ifD_of (fun _ => cl_rd fin (true, ()) rfl (.cons (.of ⟨rfl, rfl⟩))) fun h4 => by omega
  have hw : 1 ≤ ways ∧ ways ≤ 8 := by omega
  obtain ⟨sn, rfl⟩ : ∃ sn : Nat, sets = sn := ⟨sets.toNat, by omega⟩
  refine cl_in [] (o1 :: L) (inew_cl sn ways (by omega) (by omega) (by omega) (by omega)) rfl ?_
  rintro _ A0 - ⟨m, rfl, hA0⟩
  refine ⟨(some ⟨m, 0, none⟩, 0, ()), rfl, ifF rfl ?_⟩
  refine ifD_of (fun _ => cl_rd fin (true, ()) rfl (.app (.cons (.of ⟨rfl, rfl⟩)))) (fun (hl300 : ¬ (v.len : Int) > 300) => ?_)
  refine ifD_of (fun _ => cl_rd fin (true, ()) rfl (.app (.cons (.of ⟨rfl, rfl⟩)))) (fun (hmore : ¬ (v2.len : Int) ≥ ways) => ?_)
  have hlen := hv.len
  have hlen2 := hv2.len
  refine lp_of (fun k z L' => ∃ (i : Nat) (ss : List (List ISlot)) (A : HList), i ≤ l.length ∧ k = l.length - i ∧ z = ((i : Int), ()) ∧ L' = [] ++ A ++ (o1 :: L) ∧ IX m ways ss A ∧ IInv ways ss ∧ ss.length = sn) l.length
    ⟨0, _, A0, by omega, by omega, rfl, rfl, hA0, ireplicate_inv _ _ hw.1, List.length_replicate⟩ ?_
  clear hA0
  rintro k z L' ⟨i, ss, A, hi, rfl, rfl, rfl, hA, inv, hsn⟩
  refine ifD_of (fun (hl : (i : Int) < v.len) => ?_) (fun (hge : ¬ (i : Int) < v.len) => ?_)
  · have hi' : i < l.length := by omega
    have hi0 : (0 : Int) ≤ (i : Int) := by omega
    have hacts : ∀ {X : HList}, IActs (X ++ (o1 :: L)) v l := fun {X} => (hv.cons).right
    obtain ⟨a, ha, _, _, _, lw⟩ := (hacts (X := [] ++ A)).at' hi'
    have hxw := hv.wf _ (List.getElem_mem hi')
    refine nilc_of ha (ixn_of hi0 hl (ld_of (l[i].1, l[i].2.1, l[i].2.2.1.1, l[i].2.2.1.2.1, l[i].2.2.1.2.2.1, l[i].2.2.2.1.1, l[i].2.2.2.1.2.1, l[i].2.2.2.1.2.2.1, ()) lw ?_))
    refine cl_in [] (o1 :: L) (ido_cl m ways ss A hA hw inv l[i] hxw) rfl ?_
    rintro _ A' - ⟨rfl, hA'⟩
    have hlt0 := hA.lt (ah l[i])
    obtain ⟨inv', hlen'⟩ := iact_inv inv hw.1 l[i].1 hlt0 l[i].2.2.1 l[i].2.2.2.1
    generalize iact ways ss l[i].1 (ah l[i]) l[i].2.2.1 l[i].2.2.2.1 = ss' at hA' inv' hlen'
    have hlt := hA'.lt (ah l[i])
    have hh2 := (ah_int hxw).2
    obtain ⟨a', ha', _, lh, lq, _⟩ := (hacts (X := [] ++ A')).at' hi'
    rw [ha] at ha'
    obtain rfl := Option.some.inj ha'
    have hr1 := (inv'.row hlt).len
    have hr2 := ilen_le inv'
    have hr3 := ifreq_le inv' hlt l[i].2.2.1
    have hmul : (ss'.length : Int) * ways = (sn : Int) * ways := by rw [hlen', hsn]
    rw [hmul] at hr2
    have hprod : (sn : Int) * ways ≤ 512 := by
      have : (sn : Int) * ways ≤ 64 * 8 := Int.mul_le_mul (by omega) (by omega) (by omega) (by omega)
      omega
    have hprod0 : 0 ≤ (sn : Int) * ways := Int.mul_nonneg (by omega) (by omega)
    refine ⟨(), rfl, nilc_of ha (ixn_of hi0 hl (ld_of (ah l[i] : Int) lh ?_))⟩
    refine cl_rd (Reads.in (X := []) (Y := o1 :: L) (icrowd_rd m ways ss' A' hA' (ah l[i]) hh2)) (((irow ss' (ah l[i])).length : Int), ()) rfl (ifN (show ¬ ((irow ss' (ah l[i])).length : Int) > ways by omega) ?_)
    refine cl_rd (Reads.in (X := []) (Y := o1 :: L) (ilen_rd m ways ss' A' hA')) ((ilen ss' : Int), ()) rfl (ifN ?_ ?_)
    · show ¬ (ilen ss' : Int) > IntKind.i64.wrap ((sn : Int) * ways)
      rw [w64_id (by omega) (by omega)]; omega
    refine nilc_of ha (ixn_of hi0 hl (nilc_of ha (ixn_of hi0 hl (ld_of (ah l[i] : Int) lh (ld_of l[i].2.2.1 lq ?_)))))
    refine cl_rd (Reads.in (X := []) (Y := o1 :: L) (ifreq_rd m ways ss' A' hA' (ah l[i]) hh2 l[i].2.2.1)) (ifreq ss' (ah l[i]) l[i].2.2.1, ()) rfl (ifN (show ¬ ifreq ss' (ah l[i]) l[i].2.2.1 > 3 by omega) ?_)
    refine ⟨l.length - (i + 1), by omega, i + 1, ss', A', by omega, rfl, ?_, rfl, hA', inv', by omega⟩
    rw [w64_id (by first | omega | (simp only; omega)) (by first | omega | (simp only; omega))]
    rfl
  · have hlt := hA.lt h
    have hfew : (irow ss h).length < 100 := by have := (inv.row hlt).len; omega
    refine cl_rd (Reads.in (X := []) (Y := o1 :: L) (ilen_rd m ways ss A hA)) ((ilen ss : Int), ()) rfl (ld_of p (l1 (by simp)) ?_)
    refine cl_in [] (o1 :: L) (iput_cl m ways ss A hA hw.1 h hh p hfew) rfl ?_
    rintro _ A2 - ⟨⟨g, rfl, -⟩, hA2⟩
    refine ⟨((g.b, g.p, g.e, ()), ifull (ierase (irow ss h) (inm h p)) ways, ()), rfl, nw_of fun n2 _ => st_of [] _ rfl rfl (by simp) (.inl (Nat.le_refl _)) #[.int .i64 g.b, .int .i64 g.p, .int .i64 g.e] rfl ?_⟩
    rw [List.nil_append, List.nil_append]
    generalize (n2, Obj.cells #[.int .i64 g.b, .int .i64 g.p, .int .i64 g.e] 81) = o2
    have hlt2 := hA2.lt h
    have inv2 := iput_inv inv hw.1 hlt p
    have near := put_near (ways := ways) hlt p
    obtain ⟨F, hF⟩ := put_last ways ss hlt p
    have hfr := put_freq inv hlt p
    obtain ⟨hl1, hl2⟩ := put_len inv hw.1 hlt p
    have hil := ilen_le inv
    have hprod : (ss.length : Int) * ways ≤ 512 := by
      have : (ss.length : Int) * ways ≤ 64 * 8 := Int.mul_le_mul (by omega) (by omega) (by omega) (by omega)
      omega
    generalize iput ss ways h p = ss2 at hA2 hlt2 inv2 near hF hfr hl1 hl2
    generalize ifull (ierase (irow ss h) (inm h p)) ways = full at hl1
    have hfew2 := hA2.few h
    refine cl_in [o2] (o1 :: L) (ifind_cl m ways ss2 A2 hA2 h hh) rfl ?_
    rintro _ _ - ⟨u, seg, rfl, rfl, own⟩
    have hFl : F.length + 1 ≤ 100 := by
      have h2 := List.length_filter_le (fun s => decide (s.part = ipart h)) (irow ss2 h)
      have h3 := congrArg List.length hF
      unfold ifinds at h3
      rw [List.length_map, List.length_append] at h3
      simp only [List.length_cons, List.length_nil] at h3
      omega
    rw [hF] at own
    have hul := own.sl.els_len plEnc_len (by decide)
    rw [List.length_append] at hul
    simp only [List.length_cons, List.length_nil] at hul
    obtain ⟨a, ha, la⟩ := own.sl.el plEnc_len (by decide) (i := F.length) (by simp)
    rw [show (F ++ [p])[F.length]'(by simp) = p by simp] at la
    have hG : [o2] ++ (seg ++ A2) ++ (o1 :: L) = ([o2] ++ seg) ++ A2 ++ (o1 :: L) := by simp
    rw [hG]
    generalize hGG : [o2] ++ seg = G
    have la' : LdAt (Addr.add a (F.length * 3)) (plEnc p) (G ++ A2 ++ (o1 :: L)) := by subst hGG; exact la.mono fun x hx => by simp [hx]
    clear la own
    have hwr : IntKind.i64.wrap ((u.len : Int) - 1) = ((F.length : Nat) : Int) := by rw [w64_id (by omega) (by omega)]; omega
    refine ⟨(u, ()), rfl, ifF (by simp only [hul]; simp; omega) (nilc_of ha ?_)⟩
    simp only [hwr]
    refine ixn_of (show (0 : Int) ≤ ((F.length : Nat) : Int) by omega) (show ((F.length : Nat) : Int) < u.len by omega) (ld_of p (by rw [Int.toNat_natCast]; exact la') (ld_of p (l1 (by simp)) (nePl _ _ _ _ _ _ (ifF (by simp) (ld_of p (l1 (by simp)) ?_)))))
    refine cl_rd (Reads.in (X := G) (Y := o1 :: L) (ifreq_rd m ways ss2 A2 hA2 h hh p)) (ifreq ss2 h p, ()) rfl ?_
    rw [hfr]
    refine ifF rfl ?_
    have hw1 : IntKind.i64.wrap ((ilen ss : Int) + 1) = (ilen ss : Int) + 1 := w64_id (by omega) (by omega)
    cases full with
    | true =>
      have e := hl1 rfl
      refine ifT rfl (cl_rd (Reads.in (X := G) (Y := o1 :: L) (ilen_rd m ways ss2 A2 hA2)) ((ilen ss2 : Int), ()) rfl (ifF (by rw [e]; simp) (ifF rfl ?_)))
      exact ifin_lp L m ways hw v2 more hv2 (by omega) h hh p n1 o1 l1 ss2 A2 G hA2 inv2 near fun J A => .app (.cons (.of ⟨rfl, rfl⟩))
    | false =>
      refine ifF rfl (ifT rfl (cl_rd (Reads.in (X := G) (Y := o1 :: L) (ilen_rd m ways ss2 A2 hA2)) ((ilen ss2 : Int), ()) rfl (ifN (show ¬ (ilen ss2 : Int) > IntKind.i64.wrap ((ilen ss : Int) + 1) by rw [hw1]; omega) ?_)))
      exact ifin_lp L m ways hw v2 more hv2 (by omega) h hh p n1 o1 l1 ss2 A2 G hA2 inv2 near fun J A => .app (.cons (.of ⟨rfl, rfl⟩))
theorem iacts_of {W : World} {v : SlV} {l : List IAct} (w : SlOk W iactEnc iactWf 8 (v, l)) : IActs (allB W) v l :=
  ⟨w.sl, fun x hx => by
    obtain ⟨h, hh⟩ := wf_u64 (w.all x hx).2.1
    rw [hh]
    have := h.isLt
    omega⟩
theorem row_IndexFinds (W : World) (a0 : Int) (w0 : intWf .i64 a0) (a1 : Int) (w1 : intWf .i64 a1) (a2 : SlV) (l2 : List IAct) (w2 : SlOk W iactEnc iactWf 8 (a2, l2)) (a3 : Int) (w3 : intWf .u64 a3) (a4 : Pl) (w4 : plWf a4) (a5 : SlV) (l5 : List IAct) (w5 : SlOk W iactEnc iactWf 8 (a5, l5)) :
    Reads PP 11 #[.int .i64 a0, .int .i64 a1, .slice a2.a a2.len a2.cap, .int .u64 a3, .agg #[.int .i64 a4.1, .int .i64 a4.2.1, .int .i64 a4.2.2.1], .slice a5.a a5.len a5.cap] (allB W) (.bool true) := by
  obtain ⟨h, rfl⟩ := wf_u64 w3
  exact law_IndexFinds _ a0 a1 a2 l2 (iacts_of w2) h.toNat h.isLt a4 a5 l5 (iacts_of w5)
end Go.Proofs.Ytefllmfoneocaaa
