/-
  It is proved what New and SameTorn of the document's answer for the layer flash compute. There are no further conditions than those that each theorem names.
-/
import Derived.Test.YtaniefdpjommnaaFlashRef3
set_option linter.unusedVariables false
set_option linter.unusedSimpArgs false
namespace Go.Proofs.Ytaniefdpjommnaa
open Go.HL

theorem rnew_cl (c : Int × Int × Int × Int × Unit) :
    CallF PP 22 #[.agg #[.int .i64 c.1, .int .i64 c.2.1, .int .i64 c.2.2.1, .int .i64 c.2.2.2.1]] [] fun r L' => (¬ right c ∧ r = .tuple #[.pointer none, .int .i64 30] ∧ L' = []) ∨ (right c ∧ ∃ m, r = .tuple #[.pointer (some ⟨m, 0, none⟩), .int .i64 0] ∧ RH m (fresh (cfg c)) L') := by
  refine CallF.of (args := [.agg #[.int .i64 c.1, .int .i64 c.2.1, .int .i64 c.2.2.1, .int .i64 c.2.2.2.1]]) noNum mixed Try.func22 (e22 c _) ?_
  unfold t22
  refine nw_of fun n1 _ => ?_
  generalize ho : (n1, Obj.cells #[.int .i64 c.1, .int .i64 c.2.1, .int .i64 c.2.2.1, .int .i64 c.2.2.2.1] 44) = o1
  have lc : ∀ L : HList, o1 ∈ L → LdAt ⟨n1, 0, none⟩ [.int .i64 c.1, .int .i64 c.2.1, .int .i64 c.2.2.1, .int .i64 c.2.2.2.1] L := fun L hm => ldB (by rw [← ho] at hm; exact hm) rfl
  clear ho
  have lB : ∀ L : HList, o1 ∈ L → LdAt ⟨n1, 0, none⟩ [.int .i64 c.1] L := fun L hm => (lc L hm).pre fun i u hu => by cases i with | zero => exact hu | succ i => exact absurd (show (none : Option Value) = some u from hu) (by simp)
  refine ld_of c (lc _ List.mem_cons_self) (cl_rd (right_rd _ c) (decide (right c), ()) rfl ?_)
  by_cases hr : right c
  case neg => rw [decide_eq_false hr]; exact ifT rfl (.cons (.of (.inl ⟨hr, rfl, rfl⟩)))
  rw [decide_eq_true hr]
  refine ifF rfl ?_
  have hck := cfg_ok hr
  have hr' := hr
  unfold right at hr'
  obtain ⟨cB, cP, cS, cW, u⟩ := c
  simp only at hr'
  obtain ⟨B, rfl⟩ : ∃ B : Nat, cB = B := ⟨cB.toNat, by omega⟩
  obtain ⟨Pn, rfl⟩ : ∃ B : Nat, cP = B := ⟨cP.toNat, by omega⟩
  obtain ⟨S, rfl⟩ : ∃ B : Nat, cS = B := ⟨cS.toNat, by omega⟩
  obtain ⟨W, rfl⟩ : ∃ B : Nat, cW = B := ⟨cW.toNat, by omega⟩
  have hcf : cfg ((B : Int), (Pn : Int), (S : Int), (W : Int), u) = ⟨B, Pn, S, W⟩ := by simp [cfg]
  rw [hcf] at hck ⊢
  refine ld_of ((B : Int), (Pn : Int), (S : Int), (W : Int), ()) (lc _ List.mem_cons_self) (nw_of fun m _ => ?_)
  refine lp_of (fun z' z L' => ∃ (i : Nat) (pv : SlV) (pseg : HList) (rs : List RK) (nv : SlV) (nseg : HList) (wv : SlV) (wseg : HList) (bv : SlV) (bseg : HList) (J X Z : HList), i ≤ B ∧ z' = B - i ∧ z = ((i : Int), ()) ∧
      L' = X ++ rO m (fresh ⟨B, Pn, S, W⟩) pv nv wv bv ⟨none, 0, 0⟩ :: (pseg ++ (nseg ++ (wseg ++ (bseg ++ Z)))) ∧ (X ++ Z).Perm (rsegs rs ++ (o1 :: J)) ∧
      Own pv 1 tSt (rs.map RK.val) pseg ∧ (∀ r ∈ rs, r.Ok) ∧ rs.map RK.l = List.replicate i (List.replicate Pn (blk S)) ∧ Own nv 1 eIn (ivs .i64 (List.replicate i 0)) nseg ∧ Own wv 1 eIn (ivs .i64 (List.replicate i 0)) wseg ∧ Own bv 1 eBo (bos (List.replicate i false)) bseg) B
    ⟨0, ⟨none, 0, 0⟩, [], [], ⟨none, 0, 0⟩, [], ⟨none, 0, 0⟩, [], ⟨none, 0, 0⟩, [], [], [], [o1], by omega, by omega, rfl, rfl, List.Perm.refl _, own_nil, by simp, rfl, own_nil, own_nil, own_nil⟩ ?_
  rintro z' z L ⟨i, pv, pseg, rs, nv, nseg, wv, wseg, bv, bseg, J, X, Z, hi, rfl, rfl, rfl, hp, ownp, hokr, hrs, ownn, ownw, ownb⟩
  have ho1 : o1 ∈ X ++ rO m (fresh ⟨B, Pn, S, W⟩) pv nv wv bv ⟨none, 0, 0⟩ :: (pseg ++ (nseg ++ (wseg ++ (bseg ++ Z)))) := by
    have h5 : o1 ∈ X ++ Z := (hp.mem_iff (a := o1)).2 (by simp)
    have h6 : o1 ∈ X ∨ o1 ∈ Z := by simpa using h5
    rcases h6 with h6 | h6 <;> simp [h6]
  have hrl : rs.length = i := by have := congrArg List.length hrs; rwa [List.length_map, List.length_replicate] at this
  have hpvl := ownp.len
  rw [List.length_map] at hpvl
  have hnvl := ownn.len
  rw [ivs_length, List.length_replicate] at hnvl
  have hwvl := ownw.len
  rw [ivs_length, List.length_replicate] at hwvl
  have hbvl := ownb.len
  rw [bos, List.length_map, List.length_replicate] at hbvl
  refine ld_of (B : Int) (lB _ ho1) ?_
  refine ifD_of (fun (hlt : (i : Int) < (B : Int)) => ?_) (fun (hge : ¬ (i : Int) < (B : Int)) => ?_)
  · generalize hLL : X ++ rO m (fresh ⟨B, Pn, S, W⟩) pv nv wv bv ⟨none, 0, 0⟩ :: (pseg ++ (nseg ++ (wseg ++ (bseg ++ Z)))) = LL at ho1
    refine lp_of (fun z' z L' => ∃ (j : Nat) (v : SlV) (sg G : HList), j ≤ Pn ∧ z' = Pn - j ∧ z = (v, (j : Int), ()) ∧ L' = G ++ sg ++ LL ∧ Own v 1 eSg ((List.replicate j (blk S)).map strV) sg) Pn ⟨0, ⟨none, 0, 0⟩, [], [], by omega, by omega, rfl, by simp, own_nil⟩ ?_
    rintro z' z _ ⟨j, v, sg, G, hj, rfl, rfl, rfl, own⟩
    have hvl := own.len
    rw [List.length_map, List.length_replicate] at hvl
    refine ld_of (Pn : Int) ((lc _ (List.mem_append_right _ ho1)).one 1 rfl) ?_
    refine ifD_of (fun (hlt2 : (j : Int) < (Pn : Int)) => ?_) (fun (hge2 : ¬ (j : Int) < (Pn : Int)) => ?_)
    · refine ld_of (S : Int) ((lc _ (List.mem_append_right _ ho1)).one 2 rfl) ?_
      refine cl_rd (rblank_s _ S (by omega)) ((⟨(blk S).toArray⟩ : ByteArray), ()) rfl (nw_of fun n3 _ => ?_)
      refine append_in elemSt srcSt ((n3, Obj.cells #[.string ⟨(blk S).toArray⟩] 9) :: G) LL own (by simp) (n := 1) (ws := [strV (blk S)]) (x := .slice (some ⟨n3, 0, none⟩) 1 1) (Src.sl (v := ⟨some ⟨n3, 0, none⟩, 1, 1⟩) ⟨rfl, Nat.le_refl _, .inr ⟨_, rfl, ldB List.mem_cons_self rfl⟩⟩) rfl (by omega) fun v' sg' hv' own' => ?_
      refine ⟨Pn - (j + 1), by omega, j + 1, v', sg', _, by omega, rfl, ?_, rfl, ?_⟩
      · rw [w64_id (by first | omega | (simp only; omega)) (by first | omega | (simp only; omega))]
        rfl
      · rw [List.replicate_succ', List.map_append]; exact own'
    · obtain rfl : j = Pn := by omega
      subst hLL
      have hd : ∀ (pv nv wv bv : SlV) (n o : Nat), True := fun _ _ _ _ _ _ => trivial
      have hLs : G ++ sg ++ (X ++ rO m (fresh ⟨B, j, S, W⟩) pv nv wv bv ⟨none, 0, 0⟩ :: (pseg ++ (nseg ++ (wseg ++ (bseg ++ Z))))) = (G ++ sg ++ X) ++ rO m (fresh ⟨B, j, S, W⟩) pv nv wv bv ⟨none, 0, 0⟩ :: (pseg ++ (nseg ++ (wseg ++ (bseg ++ Z)))) := by simp
      rw [hLs]
      clear hLs ho1
      have hGX : (G ++ sg ++ X ++ Z).Perm (rsegs (rs ++ [⟨v, sg, List.replicate j (blk S)⟩]) ++ (o1 :: (G ++ J))) := by
        rw [rsegs_append]
        have : rsegs [(⟨v, sg, List.replicate j (blk S)⟩ : RK)] = sg := by simp [rsegs]
        rw [this]
        classical
        rw [List.perm_iff_count] at hp ⊢
        intro z
        have := hp z
        simp only [List.append_eq, List.cons_append, List.count_append, List.count_cons, List.count_nil] at this ⊢
        omega
      generalize G ++ sg ++ X = Y at hGX
      refine ld_of pv (r_pg (m := m) (d := fresh ⟨B, j, S, W⟩) (nv := nv) (wv := wv) (bv := bv) (tv := ⟨none, 0, 0⟩) (by simp)) (nw_of fun n4 _ => ?_)
      refine append_in elemSs srcSs ((n4, Obj.cells #[.slice v.a v.len v.cap] 99) :: (Y ++ [rO m (fresh ⟨B, j, S, W⟩) pv nv wv bv ⟨none, 0, 0⟩])) (nseg ++ (wseg ++ (bseg ++ Z))) ownp (by simp) (n := 1) (ws := [RK.val ⟨v, sg, List.replicate j (blk S)⟩]) (x := .slice (some ⟨n4, 0, none⟩) 1 1) (Src.sl (v := ⟨some ⟨n4, 0, none⟩, 1, 1⟩) ⟨rfl, Nat.le_refl _, .inr ⟨_, rfl, ldB List.mem_cons_self rfl⟩⟩) rfl (by omega) fun pv' pseg' hv1 ownp' => ?_
      refine st_of (n := m) (off := 4) (c := #[.int .i64 B, .int .i64 j, .int .i64 S, .int .i64 W, .slice pv.a pv.len pv.cap, .slice nv.a nv.len nv.cap, .slice wv.a wv.len wv.cap, .slice bv.a bv.len bv.cap, .int .i64 0, .bool false, .int .i64 0, .int .i64 0, .slice none 0 0]) (T := tRf) (fz := (0, 0)) ((n4, Obj.cells #[.slice v.a v.len v.cap] 99) :: Y) (pseg' ++ (nseg ++ (wseg ++ (bseg ++ Z)))) rfl (by simp [rO, fresh]) (by simp) (.inl (Nat.le_refl _))
        #[.int .i64 B, .int .i64 j, .int .i64 S, .int .i64 W, .slice pv'.a pv'.len pv'.cap, .slice nv.a nv.len nv.cap, .slice wv.a wv.len wv.cap, .slice bv.a bv.len bv.cap, .int .i64 0, .bool false, .int .i64 0, .int .i64 0, .slice none 0 0] rfl ?_
      refine ld_of nv (ldB (n := m) (off := 5) (T := tRf) (fz := (0, 0)) (c := #[.int .i64 B, .int .i64 j, .int .i64 S, .int .i64 W, .slice pv'.a pv'.len pv'.cap, .slice nv.a nv.len nv.cap, .slice wv.a wv.len wv.cap, .slice bv.a bv.len bv.cap, .int .i64 0, .bool false, .int .i64 0, .int .i64 0, .slice none 0 0]) (by simp) rfl) (nw_of fun n5 _ => ?_)
      generalize (n4, Obj.cells #[.slice v.a v.len v.cap] 99) = o4
      refine append_in elemIn srcIn ((n5, Obj.cells #[.int .i64 0] 3) :: o4 :: (Y ++ ((m, Obj.cells #[.int .i64 B, .int .i64 j, .int .i64 S, .int .i64 W, .slice pv'.a pv'.len pv'.cap, .slice nv.a nv.len nv.cap, .slice wv.a wv.len wv.cap, .slice bv.a bv.len bv.cap, .int .i64 0, .bool false, .int .i64 0, .int .i64 0, .slice none 0 0] tRf) :: pseg'))) (wseg ++ (bseg ++ Z)) ownn (by simp) (n := 1) (ws := [.int .i64 0]) (x := .slice (some ⟨n5, 0, none⟩) 1 1) (Src.sl (v := ⟨some ⟨n5, 0, none⟩, 1, 1⟩) ⟨rfl, Nat.le_refl _, .inr ⟨_, rfl, ldB List.mem_cons_self rfl⟩⟩) rfl (by omega) fun nv' nseg' hv2 ownn' => ?_
      refine st_of (n := m) (off := 5) (c := #[.int .i64 B, .int .i64 j, .int .i64 S, .int .i64 W, .slice pv'.a pv'.len pv'.cap, .slice nv.a nv.len nv.cap, .slice wv.a wv.len wv.cap, .slice bv.a bv.len bv.cap, .int .i64 0, .bool false, .int .i64 0, .int .i64 0, .slice none 0 0]) (T := tRf) (fz := (0, 0)) ((n5, Obj.cells #[.int .i64 0] 3) :: o4 :: Y) (pseg' ++ (nseg' ++ (wseg ++ (bseg ++ Z)))) rfl (by simp) (by simp) (.inl (Nat.le_refl _))
        #[.int .i64 B, .int .i64 j, .int .i64 S, .int .i64 W, .slice pv'.a pv'.len pv'.cap, .slice nv'.a nv'.len nv'.cap, .slice wv.a wv.len wv.cap, .slice bv.a bv.len bv.cap, .int .i64 0, .bool false, .int .i64 0, .int .i64 0, .slice none 0 0] rfl ?_
      refine ld_of wv (ldB (n := m) (off := 6) (T := tRf) (fz := (0, 0)) (c := #[.int .i64 B, .int .i64 j, .int .i64 S, .int .i64 W, .slice pv'.a pv'.len pv'.cap, .slice nv'.a nv'.len nv'.cap, .slice wv.a wv.len wv.cap, .slice bv.a bv.len bv.cap, .int .i64 0, .bool false, .int .i64 0, .int .i64 0, .slice none 0 0]) (by simp) rfl) (nw_of fun n6 _ => ?_)
      generalize (n5, Obj.cells #[.int .i64 0] 3) = o5
      refine append_in elemIn srcIn ((n6, Obj.cells #[.int .i64 0] 3) :: o5 :: o4 :: (Y ++ ((m, Obj.cells #[.int .i64 B, .int .i64 j, .int .i64 S, .int .i64 W, .slice pv'.a pv'.len pv'.cap, .slice nv'.a nv'.len nv'.cap, .slice wv.a wv.len wv.cap, .slice bv.a bv.len bv.cap, .int .i64 0, .bool false, .int .i64 0, .int .i64 0, .slice none 0 0] tRf) :: (pseg' ++ nseg')))) (bseg ++ Z) ownw (by simp) (n := 1) (ws := [.int .i64 0]) (x := .slice (some ⟨n6, 0, none⟩) 1 1) (Src.sl (v := ⟨some ⟨n6, 0, none⟩, 1, 1⟩) ⟨rfl, Nat.le_refl _, .inr ⟨_, rfl, ldB List.mem_cons_self rfl⟩⟩) rfl (by omega) fun wv' wseg' hv3 ownw' => ?_
      refine st_of (n := m) (off := 6) (c := #[.int .i64 B, .int .i64 j, .int .i64 S, .int .i64 W, .slice pv'.a pv'.len pv'.cap, .slice nv'.a nv'.len nv'.cap, .slice wv.a wv.len wv.cap, .slice bv.a bv.len bv.cap, .int .i64 0, .bool false, .int .i64 0, .int .i64 0, .slice none 0 0]) (T := tRf) (fz := (0, 0)) ((n6, Obj.cells #[.int .i64 0] 3) :: o5 :: o4 :: Y) (pseg' ++ (nseg' ++ (wseg' ++ (bseg ++ Z)))) rfl (by simp) (by simp) (.inl (Nat.le_refl _))
        #[.int .i64 B, .int .i64 j, .int .i64 S, .int .i64 W, .slice pv'.a pv'.len pv'.cap, .slice nv'.a nv'.len nv'.cap, .slice wv'.a wv'.len wv'.cap, .slice bv.a bv.len bv.cap, .int .i64 0, .bool false, .int .i64 0, .int .i64 0, .slice none 0 0] rfl ?_
      refine ld_of bv (ldB (n := m) (off := 7) (T := tRf) (fz := (0, 0)) (c := #[.int .i64 B, .int .i64 j, .int .i64 S, .int .i64 W, .slice pv'.a pv'.len pv'.cap, .slice nv'.a nv'.len nv'.cap, .slice wv'.a wv'.len wv'.cap, .slice bv.a bv.len bv.cap, .int .i64 0, .bool false, .int .i64 0, .int .i64 0, .slice none 0 0]) (by simp) rfl) (nw_of fun n7 _ => ?_)
      generalize (n6, Obj.cells #[.int .i64 0] 3) = o6
      refine append_in elemBo srcBo ((n7, Obj.cells #[.bool false] 4) :: o6 :: o5 :: o4 :: (Y ++ ((m, Obj.cells #[.int .i64 B, .int .i64 j, .int .i64 S, .int .i64 W, .slice pv'.a pv'.len pv'.cap, .slice nv'.a nv'.len nv'.cap, .slice wv'.a wv'.len wv'.cap, .slice bv.a bv.len bv.cap, .int .i64 0, .bool false, .int .i64 0, .int .i64 0, .slice none 0 0] tRf) :: (pseg' ++ (nseg' ++ wseg'))))) Z ownb (by simp) (n := 1) (ws := [.bool false]) (x := .slice (some ⟨n7, 0, none⟩) 1 1) (Src.sl (v := ⟨some ⟨n7, 0, none⟩, 1, 1⟩) ⟨rfl, Nat.le_refl _, .inr ⟨_, rfl, ldB List.mem_cons_self rfl⟩⟩) rfl (by omega) fun bv' bseg' hv4 ownb' => ?_
      refine st_of (n := m) (off := 7) (c := #[.int .i64 B, .int .i64 j, .int .i64 S, .int .i64 W, .slice pv'.a pv'.len pv'.cap, .slice nv'.a nv'.len nv'.cap, .slice wv'.a wv'.len wv'.cap, .slice bv.a bv.len bv.cap, .int .i64 0, .bool false, .int .i64 0, .int .i64 0, .slice none 0 0]) (T := tRf) (fz := (0, 0)) ((n7, Obj.cells #[.bool false] 4) :: o6 :: o5 :: o4 :: Y) (pseg' ++ (nseg' ++ (wseg' ++ (bseg' ++ Z)))) rfl (by simp) (by simp) (.inl (Nat.le_refl _))
        #[.int .i64 B, .int .i64 j, .int .i64 S, .int .i64 W, .slice pv'.a pv'.len pv'.cap, .slice nv'.a nv'.len nv'.cap, .slice wv'.a wv'.len wv'.cap, .slice bv'.a bv'.len bv'.cap, .int .i64 0, .bool false, .int .i64 0, .int .i64 0, .slice none 0 0] rfl ?_
      generalize (n7, Obj.cells #[.bool false] 4) = o7
      refine ⟨B - (i + 1), by omega, i + 1, pv', pseg', rs ++ [⟨v, sg, List.replicate j (blk S)⟩], nv', nseg', wv', wseg', bv', bseg', o7 :: o6 :: o5 :: o4 :: (G ++ J), o7 :: o6 :: o5 :: o4 :: Y, Z, by omega, rfl, ?_, rfl, ?_, ?_, ?_, ?_, ?_, ?_, ?_⟩
      · rw [w64_id (by first | omega | (simp only; omega)) (by first | omega | (simp only; omega))]
        rfl
      · classical
        rw [List.perm_iff_count] at hGX ⊢
        intro z
        have := hGX z
        simp only [List.append_eq, List.cons_append, List.count_append, List.count_cons, List.count_nil] at this ⊢
        omega
      · rw [List.map_append]; exact ownp'
      · intro z hz
        rcases List.mem_append.1 hz with h5 | h5
        · exact hokr z h5
        · rw [List.mem_singleton.1 h5]; exact own
      · rw [List.map_append, hrs, List.replicate_succ' (n := i), List.map_singleton]
      · rw [List.replicate_succ', ivs_append]; exact ownn'
      · rw [List.replicate_succ', ivs_append]; exact ownw'
      · rw [List.replicate_succ', bos, List.map_append]; exact ownb'
  · obtain rfl : i = B := by omega
    have hpg : (fresh ⟨i, Pn, S, W⟩).bs.map Blk.pages = List.replicate i (List.replicate Pn (blk S)) := by simp [fresh, blk0]
    have hnx : nexts (fresh ⟨i, Pn, S, W⟩) = List.replicate i 0 := by simp [nexts, fresh, blk0]
    have hwr : wears (fresh ⟨i, Pn, S, W⟩) = List.replicate i 0 := by simp [wears, fresh, blk0]
    have hbd : bads (fresh ⟨i, Pn, S, W⟩) = List.replicate i false := by simp [bads, fresh, blk0]
    refine .drop (A := rL m (fresh ⟨i, Pn, S, W⟩) pv pseg rs nv nseg wv wseg bv bseg ⟨none, 0, 0⟩ [] []) (J := o1 :: J) (.inr ⟨hr, m, rfl, pv, pseg, rs, nv, nseg, wv, wseg, bv, bseg, ⟨none, 0, 0⟩, [], [], rfl, ownp, hokr, by rw [hrs, hpg], by rw [hnx]; exact ownn, by rw [hwr]; exact ownw, by rw [hbd]; exact ownb, own_nil, by simp, rfl⟩) ?_
    unfold rL
    have : tsegs [] = [] := rfl
    rw [this]
    classical
    rw [List.perm_iff_count] at hp ⊢
    intro z
    have := hp z
    simp only [List.append_eq, List.cons_append, List.count_append, List.count_cons, List.count_nil] at this ⊢
    omega
theorem sametorn_rd (L : HList) (u v : SlV) (us vs : List PT) (hu : Sl L u 4 (us.flatMap PT.enc)) (hv : Sl L v 4 (vs.flatMap PT.enc)) (he : us.map PT.tn = vs.map PT.tn) (hl : us.length ≤ 1048576)
    (hus : ∀ t ∈ us, BSl L t.m.v t.m.l ∧ BSl L t.i.v t.i.l) (hvs : ∀ t ∈ vs, BSl L t.m.v t.m.l ∧ BSl L t.i.v t.i.l) :
    Reads PP 31 #[.slice u.a u.len u.cap, .slice v.a v.len v.cap] L (.bool true) := by
  refine Reads.of (args := [.slice u.a u.len u.cap, .slice v.a v.len v.cap]) noNum mixed Try.func31 (e31 u v _) ?_
  unfold t31
  have hul := hu.els_len PT.enc_len (by decide)
  have hvl := hv.els_len PT.enc_len (by decide)
  have hll : us.length = vs.length := by have := congrArg List.length he; rwa [List.length_map, List.length_map] at this
  refine ifF (by show ((u.len : Int) != v.len) = false; rw [hul, hvl, hll]; simp) ?_
  refine lp_of (fun z' z L' => ∃ (i : Nat), i ≤ us.length ∧ z' = us.length - i ∧ z = ((i : Int), ()) ∧ L' = L) us.length ⟨0, by omega, by omega, rfl, rfl⟩ ?_
  rintro z' z L1 ⟨i, hi, rfl, rfl, hL1⟩
  rw [hL1]
  refine ifD_of (fun (hlt : (i : Int) < u.len) => ?_) (fun _ => .of ⟨rfl, rfl⟩)
  have hi' : i < us.length := by omega
  have hiv : i < vs.length := by omega
  have het : us[i].tn = vs[i].tn := by
    have h1 : (us.map PT.tn)[i]? = (vs.map PT.tn)[i]? := by rw [he]
    rw [List.getElem?_map, List.getElem?_map, List.getElem?_eq_getElem hi', List.getElem?_eq_getElem hiv] at h1
    exact Option.some.inj h1
  have eb : us[i].b = vs[i].b := congrArg Tn.b het
  have ep : us[i].p = vs[i].p := congrArg Tn.p het
  have em : us[i].m.l = vs[i].m.l := congrArg Tn.meant het
  have ei : us[i].i.l = vs[i].i.l := congrArg Tn.image het
  obtain ⟨a, ha, hla⟩ := hu.el PT.enc_len (by decide) hi'
  obtain ⟨b, hb, hlb⟩ := hv.el PT.enc_len (by decide) hiv
  obtain ⟨u1, u2⟩ := hus _ (List.getElem_mem hi')
  obtain ⟨w1, w2⟩ := hvs _ (List.getElem_mem hiv)
  have g0 : (0 : Int) ≤ (i : Int) := by omega
  have g2 : (i : Int) < v.len := by omega
  have ha0 : LdAt (Addr.add a ((i : Int).toNat * 4)) us[i].enc L := by rw [Int.toNat_natCast]; exact hla
  have hb0 : LdAt (Addr.add b ((i : Int).toNat * 4)) vs[i].enc L := by rw [Int.toNat_natCast]; exact hlb
  have hp : ∀ (x : Addr) (t : PT), LdAt x t.enc L → LdAt x [.int .i64 t.b] L := fun x t h => h.pre fun i u hu => by cases i with | zero => exact hu | succ i => exact absurd (show (none : Option Value) = some u from hu) (by simp)
  refine nilc_of ha (ixn_of g0 hlt (nilc_of hb (ixn_of g0 g2 (ld_of (us[i].b : Int) (hp _ _ ha0) (ld_of (vs[i].b : Int) (hp _ _ hb0) (ifF (by show ((us[i].b : Int) != (vs[i].b : Int)) = false; rw [eb]; simp) ?_))))))
  refine nilc_of ha (ixn_of g0 hlt (nilc_of hb (ixn_of g0 g2 (ld_of (us[i].p : Int) (ha0.one 1 rfl) (ld_of (vs[i].p : Int) (hb0.one 1 rfl) (ifF (by show ((us[i].p : Int) != (vs[i].p : Int)) = false; rw [ep]; simp) ?_))))))
  refine nilc_of ha (ixn_of g0 hlt (nilc_of hb (ixn_of g0 g2 (ld_of us[i].m.v (ha0.one 2 rfl) (b2s_of u1 (ld_of vs[i].m.v (hb0.one 2 rfl) (b2s_of w1 (ifF (by simp [em]) ?_))))))))
  refine nilc_of ha (ixn_of g0 hlt (nilc_of hb (ixn_of g0 g2 (ld_of us[i].i.v (ha0.one 3 rfl) (b2s_of u2 (ld_of vs[i].i.v (hb0.one 3 rfl) (b2s_of w2 (ifF (by simp [ei]) ?_))))))))
  refine ⟨us.length - (i + 1), by omega, i + 1, by omega, rfl, ?_, rfl⟩
  rw [w64_id (by first | omega | (simp only; omega)) (by first | omega | (simp only; omega))]
  rfl
end Go.Proofs.Ytaniefdpjommnaa
