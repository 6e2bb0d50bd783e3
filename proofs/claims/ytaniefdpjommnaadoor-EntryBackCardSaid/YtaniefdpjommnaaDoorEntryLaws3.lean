/-
  It is proved that the law EntryBack returns true for every input. There are no further conditions than that the table of classes lies as the program's text lays it.
-/
import Derived.Test.YtaniefdpjommnaaDoorEntryLaws2
set_option linter.unusedVariables false
set_option linter.unusedSimpArgs false
namespace Go.Proofs.YtaniefdpjommnaaDoor
open Go.HL

theorem chunk_at {gs : List PG} {n r : Nat} {b : List UInt8} (h : gs.map PG.l = chunks n r b) {i : Nat} (hi : i < gs.length) : gs[i].l = (b.drop (i * r)).take r ∧ gs.length = n := by
  have hl : gs.length = n := by have := congrArg List.length h; rw [List.length_map, chunks, List.length_map, List.length_range] at this; exact this
  refine ⟨?_, hl⟩
  have h1 : (gs.map PG.l)[i]? = (chunks n r b)[i]? := by rw [h]
  rw [List.getElem?_map, List.getElem?_eq_getElem hi] at h1
  unfold chunks at h1
  rw [List.getElem?_map, List.getElem?_range (by omega)] at h1
  exact Option.some.inj h1
theorem law_EntryBack (L : HList) (hT : Tab L) (key : ByteArray) (hk : key.size ≤ maxLen) (u : SlV) (val : List UInt8) (hu : BSl L u val) (c : Cf) (hc : c.2.1 ≤ 9223372036854775807) (x : Int) :
    Reads PP 5 #[.string key, .slice u.a u.len u.cap, .agg #[.int .i64 c.1, .int .i64 c.2.1, .int .i64 c.2.2.1, .int .i64 c.2.2.2.1], .int .i64 x] L (.bool true) := by
  refine Reads.of (args := [.string key, .slice u.a u.len u.cap, .agg #[.int .i64 c.1, .int .i64 c.2.1, .int .i64 c.2.2.1, .int .i64 c.2.2.2.1], .int .i64 x]) noNum mixed Tryd.func5 (e5 key u c x _) ?_
  unfold t5
  have hul := hu.len
  have hks := toList_len key
  refine nw_of fun n1 _ => ?_
  generalize ho : (n1, Obj.cells #[.int .i64 c.1, .int .i64 c.2.1, .int .i64 c.2.2.1, .int .i64 c.2.2.2.1] 24) = o1
  have lc : ∀ L : HList, o1 ∈ L → LdAt ⟨n1, 0, none⟩ [.int .i64 c.1, .int .i64 c.2.1, .int .i64 c.2.2.1, .int .i64 c.2.2.2.1] L := fun L hm => ldB (by rw [← ho] at hm; exact hm) rfl
  clear ho
  have hex : ∀ A : HList, cl PP 7 #[] [.lf .bool] (fun r => HL.Ends (fun v' L' => v' = Value.bool true ∧ L' = L) (.bool r.1)) (A ++ (o1 :: L)) := fun A => cl_rd (entries_rd _ hT.cons.right) (true, ()) rfl (.app (.cons (.of ⟨rfl, rfl⟩)))
  refine ifD_of (fun _ => hex []) (fun (h1 : ¬ (key.size : Int) > 1000) => ifD_of (fun _ => hex []) (fun (h2 : ¬ (u.len : Int) > 1000) => ?_))
  refine ld_of c (lc _ List.mem_cons_self) (cl_in [] [] (cut_cl (o1 :: L) hT.cons key hk u val (Sl.cons hu) c hc) (by simp) ?_)
  rintro _ _ - ⟨ov, oseg, gs, rfl, rfl, own, gok, hgs⟩
  rw [List.nil_append, List.append_nil]
  refine ⟨(ov, (cutR key.data.toList val c).2, ()), rfl, ?_⟩
  have hTT : Tab (oseg ++ (pgs gs ++ (o1 :: L))) := hT.cons.right.right
  have hm1 : o1 ∈ oseg ++ (pgs gs ++ (o1 :: L)) := by simp
  refine ld_of c (lc _ hm1) (cl_rd (pages_rd _ hTT key.size u.len c hc) (pagesOf key.size u.len c, ()) rfl ?_)
  have hpe : pagesOf (key.size : Int) (u.len : Int) c = pagesOf (key.data.toList.length : Int) (val.length : Int) c := by rw [hks, hul]
  rw [hpe]
  have hp : Parts (oseg ++ (pgs gs ++ (o1 :: L))) ov (pvs gs) := parts_of own gok (fun x hx => List.mem_append_left _ hx) (fun x hx => List.mem_append_right _ (List.mem_append_left _ hx))
  have hovl := hp.len
  have hpl : (pvs gs).length = gs.length := by rw [pvs, List.length_map]
  have hA : oseg ++ (pgs gs ++ (o1 :: L)) = (oseg ++ pgs gs) ++ (o1 :: L) := by simp
  refine ifNe_of (fun (he : (cutR key.data.toList val c).2 ≠ 0) => ?_) (fun (he : (cutR key.data.toList val c).2 = 0) => ?_)
  · obtain ⟨h3, h4⟩ := cutR_err he
    rw [h3] at hgs
    have hg0 : gs.length = 0 := by have := congrArg List.length hgs; rwa [List.length_map] at this
    refine ifEq (show (ov.len : Int) = 0 by omega) (ifEq (show pagesOf (key.data.toList.length : Int) (val.length : Int) c = 0 from h4) ?_)
    rw [hA]
    exact hex _
  obtain ⟨hk1, hk2, hv3, hpg, hch, hfl⟩ := cutR_ok he
  have hcatall : catL (pvs gs) = encA key.data.toList val := by rw [catL_pvs, hgs, hfl]
  rw [hch] at hgs
  obtain ⟨_, _, _, _, hr0, hn1, hn8, hnP, htot, hcl⟩ := pagesOf_ne hpg
  have hrr := roomOf_rng hr0
  have hal := encA_len key.data.toList val
  have hjoin := join_enc hk1 hk2 hv3
  generalize pagesOf (key.data.toList.length : Int) (val.length : Int) c = PG' at *
  obtain ⟨n, rfl⟩ : ∃ n : Nat, PG' = n := ⟨PG'.toNat, by omega⟩
  obtain ⟨room, hroom⟩ : ∃ r : Nat, roomOf c.2.2.1 = r := ⟨(roomOf c.2.2.1).toNat, by omega⟩
  rw [hroom, Int.toNat_natCast, Int.toNat_natCast] at hgs
  rw [hroom] at hrr
  generalize hE : encA key.data.toList val = E at hgs hcatall hal hjoin
  have hlen : ∀ (i : Nat) (hi : i < (pvs gs).length), (pvs gs)[i].2 = (E.drop (i * room)).take room ∧ (pvs gs).length = n := by
    intro i hi
    have h5 := chunk_at hgs (i := i) (by omega)
    refine ⟨?_, by omega⟩
    rw [← h5.1]
    simp [pvs]
  have hgn : (pvs gs).length = n := by
    have := congrArg List.length hgs
    rw [List.length_map, chunks, List.length_map, List.length_range] at this
    omega
  generalize hB : oseg ++ (pgs gs ++ (o1 :: L)) = B at hp hTT hm1 ⊢
  have hBL : ∃ Z, B = Z ++ (o1 :: L) := ⟨oseg ++ pgs gs, by rw [← hB, hA]⟩
  generalize pvs gs = ps at hp hcatall hpl hlen hgn hovl
  clear hB hA own gok hgs hch hfl hex hpe
  refine lp_of (fun z' z L' => ∃ (i : Nat) (v : SlV) (seg : HList) (hs : List PV) (J X Y : HList), i ≤ n ∧ z' = n - i ∧ z = (v, (i : Int), ()) ∧ L' = X ++ seg ++ Y ∧ (X ++ Y).Perm (J ++ B) ∧ Own v 1 tB (hs.map pvV) seg ∧ hs.length = 2 * i ∧ (∀ x ∈ hs, BSl B x.1 x.2) ∧ catL hs = catL (ps.take i)) n
    ⟨0, ⟨none, 0, 0⟩, [], [], [], [], B, by omega, by omega, rfl, rfl, List.Perm.refl _, own_nil, rfl, by simp, rfl⟩ ?_
  rintro z' z L1 ⟨i, v, seg, hs, J, X, Y, hi, rfl, rfl, rfl, hpm, ownh, hhl, hhs, hcat⟩
  have hsub : ∀ y ∈ B, y ∈ X ++ seg ++ Y := by
    intro y hy
    have h5 : y ∈ X ++ Y := (hpm.mem_iff (a := y)).2 (by simp [hy])
    have h6 : y ∈ X ∨ y ∈ Y := by simpa using h5
    rcases h6 with h6 | h6 <;> simp [h6]
  have hvl := ownh.len
  rw [List.length_map, hhl] at hvl
  refine ifD_of (fun (hlt : (i : Int) < (ov.len : Int)) => ?_) (fun (hge : ¬ (i : Int) < (ov.len : Int)) => ?_)
  · have hi' : i < ps.length := by omega
    obtain ⟨a, ha, hld0⟩ := hp.at' hi'
    have hld : LdAt (Addr.add a ((i : Int).toNat * 1)) [pvV ps[i]] (X ++ seg ++ Y) := hld0.mono hsub
    have hbs := hp.val _ (List.getElem_mem hi')
    have hbl := hbs.len
    have hbcap := hbs.cap
    have hli := (hlen i hi').1
    have hll : ps[i].2.length = min room (E.length - i * room) := by rw [hli, List.length_take, List.length_drop]
    have g0 : (0 : Int) ≤ (i : Int) := by omega
    refine nilc_of ha (ixn_of g0 hlt (ld_of ps[i].1 hld (ld_of c.2.2.1 ((lc _ (hsub _ hm1)).one 2 rfl) (cl_rd (proom_rd _ c.2.2.1) (roomOf c.2.2.1, ()) rfl (keep_of hld ?_)))))
    rw [hroom]
    refine ifN (show ¬ (ps[i].1.len : Int) > (room : Int) by omega) ?_
    have hwi : IntKind.i64.wrap ((i : Int) + 1) = ((i + 1 : Nat) : Int) := by rw [w64_id (by omega) (by omega)]; omega
    simp only [hwi]
    refine ifD_of (fun (hlt2 : ((i + 1 : Nat) : Int) < (ov.len : Int)) => ?_) (fun _ => ?_)
    · have hi2 : i + 1 < ps.length := by omega
      obtain ⟨a2, ha2, hld2⟩ := hp.at' hi2
      obtain rfl : a2 = a := Option.some.inj (ha2.symm.trans ha)
      have hbl2 := (hp.val _ (List.getElem_mem hi2)).len
      have hll2 : ps[i + 1].2.length = min room (E.length - (i + 1) * room) := by rw [(hlen (i + 1) hi2).1, List.length_take, List.length_drop]
      have hmul : (i + 1) * room = i * room + room := by rw [Nat.add_mul, Nat.one_mul]
      refine nilc_of ha (ixn_of g0 hlt (nilc_of ha (ixn_of (show (0 : Int) ≤ ((i + 1 : Nat) : Int) by omega) hlt2 (ld_of ps[i].1 hld (ld_of ps[i + 1].1 (hld2.mono hsub) (ifN (show ¬ (ps[i].1.len : Int) < (ps[i + 1].1.len : Int) by omega) ?_))))))
      refine jn_of (fun y L' => L' = X ++ seg ++ Y ∧ ∃ k : Nat, k ≤ ps[i].2.length ∧ y = ((k : Int), ())) ?_ ?_
      case refine_2 =>
        intro j hj
        refine nilc_of ha (ixn_of g0 hlt (ld_of ps[i].1 hld (ifD_of (fun (h5 : (ps[i].1.len : Int) > 0) => ?_) (fun _ => hj _ _ ⟨rfl, 0, Nat.zero_le _, rfl⟩))))
        obtain ⟨f, hf, hfe⟩ := from_nat x ps[i].1.len (by omega) (by omega)
        refine nilc_of ha (ixn_of g0 hlt (nilc_of ha (ixn_of g0 hlt (nilc_of ha (ixn_of g0 hlt (ld_of ps[i].1 hld (req_of (by omega) (ld_of ps[i].1 hld (ld_of ps[i].1 hld (req_of (by omega) ?_))))))))))
        exact hj _ _ ⟨rfl, f, by omega, by rw [hfe]⟩
      rintro _ _ ⟨rfl, k, hkl, rfl⟩
      refine nilc_of ha (ixn_of g0 hlt (nilc_of ha (ixn_of g0 hlt (ld_of ps[i].1 hld (slc_of (l' := 0) (h' := k) (m' := ps[i].1.cap) rfl rfl rfl (by omega) (by omega) (Nat.le_refl _) (ld_of ps[i].1 hld (slc_of (l' := k) (h' := ps[i].1.len) (m' := ps[i].1.cap) rfl rfl rfl (by omega) (by omega) (Nat.le_refl _) ?_)))))))
      have c1 := cut_sl hbs (i := 0) (j := k) (by omega) (by omega)
      have c2 := cut_sl hbs (i := k) (j := ps[i].1.len) (by omega) (by omega)
      rw [List.drop_zero, Nat.sub_zero] at c1
      rw [List.take_of_length_le (by rw [List.length_drop]; omega)] at c2
      generalize slcV ps[i].1 ((0 : Nat) : Int) (k : Int) (ps[i].1.cap : Int) 1 = p1 at c1 ⊢
      generalize slcV ps[i].1 (k : Int) (ps[i].1.len : Int) (ps[i].1.cap : Int) 1 = p2 at c2 ⊢
      refine nw_of fun n2 _ => ?_
      refine append_in elemPs srcPs ((n2, Obj.cells #[.slice p1.a p1.len p1.cap, .slice p2.a p2.len p2.cap] 22) :: X) Y ownh (by simp) (n := 2) (ws := [pvV (p1, ps[i].2.take k), pvV (p2, ps[i].2.drop k)]) (x := .slice (some ⟨n2, 0, none⟩) 2 2) (Src.sl (v := ⟨some ⟨n2, 0, none⟩, 2, 2⟩) ⟨rfl, Nat.le_refl _, .inr ⟨_, rfl, ldB List.mem_cons_self rfl⟩⟩) rfl (by omega) fun v8 seg8 hv8 own8 => ?_
      refine ⟨n - (i + 1), by omega, i + 1, v8, seg8, hs ++ [(p1, ps[i].2.take k), (p2, ps[i].2.drop k)], (n2, Obj.cells #[.slice p1.a p1.len p1.cap, .slice p2.a p2.len p2.cap] 22) :: J, _, Y, by omega, rfl, rfl, rfl, ?_, ?_, ?_, ?_, ?_⟩
      · exact List.Perm.cons _ hpm
      · rw [List.map_append]; exact own8
      · rw [List.length_append, hhl]; simp only [List.length_cons, List.length_nil]; omega
      · intro y hy
        rcases List.mem_append.1 hy with h6 | h6
        · exact hhs y h6
        · have h7 : y = (p1, ps[i].2.take k) ∨ y = (p2, ps[i].2.drop k) := by simpa using h6
          rcases h7 with rfl | rfl
          · exact c1
          · exact c2
      · rw [catL_succ ps hi', ← hcat]
        unfold catL
        rw [List.flatMap_append]
        simp
    · refine jn_of (fun y L' => L' = X ++ seg ++ Y ∧ ∃ k : Nat, k ≤ ps[i].2.length ∧ y = ((k : Int), ())) ?_ ?_
      case refine_2 =>
        intro j hj
        refine nilc_of ha (ixn_of g0 hlt (ld_of ps[i].1 hld (ifD_of (fun (h5 : (ps[i].1.len : Int) > 0) => ?_) (fun _ => hj _ _ ⟨rfl, 0, Nat.zero_le _, rfl⟩))))
        obtain ⟨f, hf, hfe⟩ := from_nat x ps[i].1.len (by omega) (by omega)
        refine nilc_of ha (ixn_of g0 hlt (nilc_of ha (ixn_of g0 hlt (nilc_of ha (ixn_of g0 hlt (ld_of ps[i].1 hld (req_of (by omega) (ld_of ps[i].1 hld (ld_of ps[i].1 hld (req_of (by omega) ?_))))))))))
        exact hj _ _ ⟨rfl, f, by omega, by rw [hfe]⟩
      rintro _ _ ⟨rfl, k, hkl, rfl⟩
      refine nilc_of ha (ixn_of g0 hlt (nilc_of ha (ixn_of g0 hlt (ld_of ps[i].1 hld (slc_of (l' := 0) (h' := k) (m' := ps[i].1.cap) rfl rfl rfl (by omega) (by omega) (Nat.le_refl _) (ld_of ps[i].1 hld (slc_of (l' := k) (h' := ps[i].1.len) (m' := ps[i].1.cap) rfl rfl rfl (by omega) (by omega) (Nat.le_refl _) ?_)))))))
      have c1 := cut_sl hbs (i := 0) (j := k) (by omega) (by omega)
      have c2 := cut_sl hbs (i := k) (j := ps[i].1.len) (by omega) (by omega)
      rw [List.drop_zero, Nat.sub_zero] at c1
      rw [List.take_of_length_le (by rw [List.length_drop]; omega)] at c2
      generalize slcV ps[i].1 ((0 : Nat) : Int) (k : Int) (ps[i].1.cap : Int) 1 = p1 at c1 ⊢
      generalize slcV ps[i].1 (k : Int) (ps[i].1.len : Int) (ps[i].1.cap : Int) 1 = p2 at c2 ⊢
      refine nw_of fun n2 _ => ?_
      refine append_in elemPs srcPs ((n2, Obj.cells #[.slice p1.a p1.len p1.cap, .slice p2.a p2.len p2.cap] 22) :: X) Y ownh (by simp) (n := 2) (ws := [pvV (p1, ps[i].2.take k), pvV (p2, ps[i].2.drop k)]) (x := .slice (some ⟨n2, 0, none⟩) 2 2) (Src.sl (v := ⟨some ⟨n2, 0, none⟩, 2, 2⟩) ⟨rfl, Nat.le_refl _, .inr ⟨_, rfl, ldB List.mem_cons_self rfl⟩⟩) rfl (by omega) fun v8 seg8 hv8 own8 => ?_
      refine ⟨n - (i + 1), by omega, i + 1, v8, seg8, hs ++ [(p1, ps[i].2.take k), (p2, ps[i].2.drop k)], (n2, Obj.cells #[.slice p1.a p1.len p1.cap, .slice p2.a p2.len p2.cap] 22) :: J, _, Y, by omega, rfl, rfl, rfl, ?_, ?_, ?_, ?_, ?_⟩
      · exact List.Perm.cons _ hpm
      · rw [List.map_append]; exact own8
      · rw [List.length_append, hhl]; simp only [List.length_cons, List.length_nil]; omega
      · intro y hy
        rcases List.mem_append.1 hy with h6 | h6
        · exact hhs y h6
        · have h7 : y = (p1, ps[i].2.take k) ∨ y = (p2, ps[i].2.drop k) := by simpa using h6
          rcases h7 with rfl | rfl
          · exact c1
          · exact c2
      · rw [catL_succ ps hi', ← hcat]
        unfold catL
        rw [List.flatMap_append]
        simp
  · obtain rfl : i = n := by omega
    rw [show ps.take i = ps by rw [← hgn, List.take_length], hcatall] at hcat
    have hph : Parts (X ++ seg ++ Y) v hs := ⟨ownh.sl.mono (fun y hy => by simp [hy]), fun y hy => Sl.mono (hhs y hy) hsub⟩
    have hpp : Parts (X ++ seg ++ Y) ov ps := hp.mono hsub
    obtain ⟨Z, hZ⟩ := hBL
    have hend : ∀ W : HList, (∃ D : HList, W.Perm (D ++ (X ++ seg ++ Y))) → HL.Ends (fun v' L' => v' = Value.bool true ∧ L' = L) (.bool true) W := by
      rintro W ⟨D, hD⟩
      refine .drop (A := L) (J := D ++ (seg ++ (J ++ (Z ++ [o1])))) ⟨rfl, rfl⟩ ?_
      rw [hZ] at hpm
      classical
      rw [List.perm_iff_count] at hpm hD ⊢
      intro z
      have := hpm z
      have := hD z
      simp only [List.append_eq, List.cons_append, List.count_append, List.count_cons, List.count_nil] at *
      omega
    have hTX : Tab (X ++ seg ++ Y) := LdAt.mono hTT hsub
    have huX : BSl (X ++ seg ++ Y) u val := Sl.mono hu fun y hy => hsub y (by rw [hZ]; simp [hy])
    have ho1 := hsub _ hm1
    generalize hLL : X ++ seg ++ Y = LL at hph hpp hend hTX huX ho1 ⊢
    refine cl_in [] [] (join_cl LL ov ps hpp (by rw [hcatall]; omega) (by omega)) (by simp) ?_
    rintro _ _ - ⟨g1, rfl, rfl, hg1, hl1⟩
    rw [hcatall, hjoin] at hl1 ⊢
    rw [List.nil_append, List.append_nil]
    refine ⟨(⟨key.data.toList.toArray⟩, g1.v, 0, ()), rfl, ?_⟩
    refine cl_in [] [] (join_cl (g1.seg ++ LL) v hs (hph.mono fun y hy => List.mem_append_right _ hy) (by rw [hcat]; omega) (by omega)) (by simp) ?_
    rintro _ _ - ⟨g2, rfl, rfl, hg2, hl2⟩
    rw [hcat, hjoin] at hl2 ⊢
    rw [List.nil_append, List.append_nil]
    refine ⟨(⟨key.data.toList.toArray⟩, g2.v, 0, ()), rfl, ?_⟩
    unfold PG.Ok at hg1 hg2
    rw [hl1] at hg1
    rw [hl2] at hg2
    have ho2 : o1 ∈ g2.seg ++ (g1.seg ++ LL) := by simp [ho1]
    have hT2 : Tab (g2.seg ++ (g1.seg ++ LL)) := hTX.right.right
    have hke : (ByteArray.mk key.data.toList.toArray) = key := by simp
    have hwP : IntKind.i64.wrap (c.2.1 - 2) = c.2.1 - 2 := w64_id (by omega) (by omega)
    refine ifEq (show (ov.len : Int) = (i : Int) by omega) (ifP (show (i : Int) > 0 by omega) (ld_of c.2.1 ((lc _ ho2).one 1 rfl) ?_))
    simp only [hwP]
    refine ifP (show (i : Int) ≤ c.2.1 - 2 by omega) (ld_of c.2.1 ((lc _ ho2).one 1 rfl) (cl_rd (class_rd _ hT2 i c.2.1 hc) (cls i c.2.1, ()) rfl (ifEq (show cls (i : Int) c.2.1 = (i : Int) from hcl) ?_)))
    refine ifT (by simp) (cl_rd (same_rd _ g1.v u val (Sl.right (Sl.left hg1.sl)) (Sl.right (Sl.right huX))) (true, ()) rfl (ifT rfl (ifT rfl ?_)))
    refine ifT (by simp) (cl_rd (same_rd _ g2.v u val (Sl.left hg2.sl) (Sl.right (Sl.right huX))) (true, ()) rfl (ifT rfl (ifT rfl ?_)))
    exact cl_rd (entries_rd _ hT2) (true, ()) rfl (hend _ ⟨g2.seg ++ g1.seg, by simp⟩)
theorem row_EntryBack (W : World) (hT : Tab (allB W)) (a0 : ByteArray) (w0 : a0.size ≤ maxLen) (a1 : SlV) (l1 : List UInt8) (w1 : SlOk W (fun b => [bv b]) (fun _ => True) 1 (a1, l1)) (a2 : Cf) (w2 : intWf .i64 a2.1 ∧ intWf .i64 a2.2.1 ∧ intWf .i64 a2.2.2.1 ∧ intWf .i64 a2.2.2.2.1 ∧ True) (a3 : Int) (w3 : intWf .i64 a3) :
    Reads PP 5 #[.string a0, .slice a1.a a1.len a1.cap, .agg #[.int .i64 a2.1, .int .i64 a2.2.1, .int .i64 a2.2.2.1, .int .i64 a2.2.2.2.1], .int .i64 a3] (allB W) (.bool true) :=
  law_EntryBack _ hT a0 w0 a1 l1 w1.bytes a2 (wf_i64 w2.2.1).2 a3
end Go.Proofs.YtaniefdpjommnaaDoor
