/-
  It is proved what Program of the layer flash computes. There are no further conditions than those that each theorem names.
-/
import Derived.Test.YtaniefdpjommnaaFlash3
set_option linter.unusedVariables false
set_option linter.unusedSimpArgs false
namespace Go.Proofs.Ytaniefdpjommnaa
open Go.HL

def Blk.put (k : Blk) (p : Nat) (l : List UInt8) : Blk := { k with pages := k.pages.set p l, next := p + 1 }
def counted (d : Dev) : Dev := { d with bytes := IntKind.i64.wrap (d.bytes + d.c.S) }
def tornImg (d : Dev) (data : List UInt8) : List UInt8 := data.take (keptN d.keep d.c.S) ++ blk (d.c.S - keptN d.keep d.c.S)
def progK (d : Dev) (i p : Nat) (k : Blk) (data : List UInt8) : Int × Dev :=
  if (tear (counted d)).1 then (11, { (tear (counted d)).2 with bs := d.bs.set i (k.put p (tornImg d data)), torn := d.torn ++ [⟨i, p, data, tornImg d data⟩] })
  else (0, { (tear (counted d)).2 with bs := d.bs.set i (k.put p data) })
def prog (d : Dev) (b p : Int) (data : List UInt8) : Int × Dev :=
  if findE d b p ≠ 0 then (findE d b p, d) else if data.length ≠ d.c.S then (2, d) else
  match d.bs[b.toNat]? with
  | none => (2, d)
  | some k => if k.bad then (10, d) else if (k.next : Int) ≠ p then (9, d) else progK d b.toNat p.toNat k data
theorem ptAt_mid (pre post : List PB) (x : PB) : ptAt (pre ++ x :: post) (pre.length : Int) = some ⟨x.id, 0, none⟩ := by
  rw [ptAt_some (by simp)]
  simp
theorem program_cl (m : Nat) (d : Dev) (A R : HList) (h : FH m d A) (ok : DvOk d) (hf : d.torn.length ≤ 1048576) (b p : Int) (u : SlV) (data : List UInt8) (hu : BSl R u data) :
    CallF PP 37 #[.pointer (some ⟨m, 0, none⟩), .int .i64 b, .int .i64 p, .slice u.a u.len u.cap] (A ++ R) fun r L' => ∃ A', L' = A' ++ R ∧ r = .int .i64 (prog d b p data).1 ∧ FH m (prog d b p data).2 A' := by
  have hA := h
  obtain ⟨bv, bseg, bs, tv, tseg, ts, rfl, h⟩ := h
  refine CallF.of (args := [.pointer (some ⟨m, 0, none⟩), .int .i64 b, .int .i64 p, .slice u.a u.len u.cap]) noNum mixed Try.func37 (e37 (some ⟨m, 0, none⟩) b p u _) ?_
  unfold t37
  have hfew := h.few ok
  have hP := ok.c.p
  have hS := ok.c.s
  have hul := hu.len
  refine cl_rd (find_rd _ m d bv tv (List.mem_append_left _ fL_o) bs h.sl.left (by omega) h.hb (by omega) b p) (if findE d b p = 0 then ptAt bs b else none, findE d b p, ()) rfl ?_
  refine ifNe_of (fun (he : findE d b p ≠ 0) => ?_) (fun (he : findE d b p = 0) => ?_)
  · have hr : prog d b p data = (findE d b p, d) := by unfold prog; rw [if_pos he]
    rw [hr]
    exact .of ⟨_, rfl, rfl, hA⟩
  refine nilc_of rfl (ld_of (d.c.S : Int) (f_S (List.mem_append_left _ fL_o)) ?_)
  refine ifNe_of (fun (hs : (u.len : Int) ≠ (d.c.S : Int)) => ?_) (fun (hs : (u.len : Int) = (d.c.S : Int)) => ?_)
  · have hr : prog d b p data = (2, d) := by unfold prog; rw [if_neg (by simpa using he), if_pos (by omega)]
    rw [hr]
    exact .of ⟨_, rfl, rfl, hA⟩
  have hdl : data.length = d.c.S := by omega
  obtain ⟨hdn, hb0, hb1, hp0, hp1⟩ := findE_0 he
  obtain ⟨i, rfl⟩ : ∃ i : Nat, b = i := ⟨b.toNat, by omega⟩
  obtain ⟨q, rfl⟩ : ∃ q : Nat, p = q := ⟨p.toNat, by omega⟩
  have hbl : d.bs.length = bs.length := by rw [← h.hb, List.length_map]
  have hi : i < bs.length := by omega
  obtain ⟨pre, x, post, rfl, rfl⟩ : ∃ pre x post, bs = pre ++ x :: post ∧ pre.length = i := ⟨bs.take i, bs[i], bs.drop (i + 1), by rw [← List.drop_eq_getElem_cons hi, List.take_append_drop], by rw [List.length_take]; omega⟩
  have hk : d.bs[pre.length]? = some x.blk := by rw [← h.hb, List.getElem?_map]; simp
  have hset : ∀ y : PB, (pre ++ y :: post).map PB.blk = d.bs.set pre.length y.blk := fun y => by rw [← h.hb]; simp
  have hmk : x.blk ∈ d.bs := List.mem_of_getElem? hk
  have hpr : prog d (pre.length : Int) (q : Int) data = if x.bad then (10, d) else if (x.next : Int) ≠ (q : Int) then (9, d) else progK d pre.length q x.blk data := by
    unfold prog
    rw [if_neg (by simpa using he), if_neg (by omega), Int.toNat_natCast, Int.toNat_natCast, hk]
    rfl
  have hxm : x.obj ∈ fL m d bv bseg (pre ++ x :: post) tv tseg ts ++ R := List.mem_append_left _ (List.mem_cons_of_mem _ (List.mem_append_right _ (List.mem_append_left _ (by rw [bobjs_append, bobjs_cons]; exact List.mem_append_right _ (List.mem_append_left _ List.mem_cons_self)))))
  rw [if_pos he, ptAt_mid]
  refine nilc_of rfl (ld_of x.bad (b_bad hxm) ?_)
  refine ifB_of (fun (hbad : x.bad = true) => ?_) (fun (hbad : x.bad = false) => ?_)
  · rw [hpr, if_pos hbad]
    exact .of ⟨_, rfl, rfl, hA⟩
  refine nilc_of rfl (ld_of (x.next : Int) (b_next hxm) ?_)
  refine ifNe_of (fun (hn : (x.next : Int) ≠ (q : Int)) => ?_) (fun (hn : (x.next : Int) = (q : Int)) => ?_)
  · rw [hpr, if_neg (by rw [hbad]; decide), if_pos hn]
    exact .of ⟨_, rfl, rfl, hA⟩
  rw [hpr, if_neg (by rw [hbad]; decide), if_neg (by omega)]
  clear hpr hA
  refine nilc_of rfl (ld_of (d.c.S : Int) (f_S (List.mem_append_left _ fL_o)) ?_)
  have hok := h.okb x (by simp)
  have hpl := (ok.pg _ hmk).1
  have hpl' : x.ps.length = d.c.P := by rw [← hpl]; simp [PB.blk]
  have hq : q < x.ps.length := by omega
  obtain ⟨D, g0, E, hps, hDl⟩ : ∃ D g0 E, x.ps = D ++ g0 :: E ∧ D.length = q := ⟨x.ps.take q, x.ps[q], x.ps.drop (q + 1), by rw [← List.drop_eq_getElem_cons hq, List.take_append_drop], by rw [List.length_take]; omega⟩
  have hL : fL m d bv bseg (pre ++ x :: post) tv tseg ts ++ R = fO m d bv tv :: (bseg ++ (bobjs pre ++ (x.obj :: (x.seg ++ (pgs D ++ (g0.seg ++ (pgs E ++ (bobjs post ++ (tseg ++ (tsegs ts ++ R)))))))))) := by
    unfold fL
    rw [bobjs_append, bobjs_cons]
    unfold PB.objs
    rw [hps, pgs_append, pgs_cons]
    simp
  rw [hL]
  clear hL hxm
  refine cl_in (fO m d bv tv :: (bseg ++ (bobjs pre ++ (x.obj :: (x.seg ++ pgs D))))) (g0.seg ++ (pgs E ++ (bobjs post ++ (tseg ++ (tsegs ts ++ R))))) (blank_cl d.c.S (by omega)) (by simp) ?_
  rintro _ _ - ⟨g, rfl, rfl, hg, hgl⟩
  refine ⟨(g.v, ()), rfl, nilc_of rfl (ld_of x.v (b_ps (by simp)) ?_)⟩
  have hxl := hok.own.len
  rw [List.length_map] at hxl
  have hxsl : Sl x.seg x.v 1 (x.ps.map PG.val) := hok.own.sl
  obtain ⟨xa, hxa, -⟩ := hxsl.at' (i := q) (by omega) (by decide)
  refine nilc_of hxa (ixn_of (show (0 : Int) ≤ q by omega) (show (q : Int) < x.v.len by omega) ?_)
  refine hok.own.st (p := q) (ws := [g.val]) (fO m d bv tv :: (bseg ++ (bobjs pre ++ [x.obj]))) (pgs D ++ (g.seg ++ (g0.seg ++ (pgs E ++ (bobjs post ++ (tseg ++ (tsegs ts ++ R))))))) (by rw [List.length_map, List.length_singleton]; omega) (by simp) hxa (by rw [Int.toNat_natCast, Nat.mul_one]) (by simp) fun xs xown => ?_
  rw [putL_one (by rw [List.length_map]; omega)] at xown
  have hvals : ∀ v, (x.ps.map PG.val).set q v = (D.map PG.val) ++ v :: (E.map PG.val) := by
    intro v
    rw [hps, List.map_append, List.set_append, if_neg (by simp [hDl]), List.length_map, hDl, Nat.sub_self, List.map_cons, List.set_cons_zero]
  rw [hvals] at xown
  have hnx : IntKind.i64.wrap ((x.next : Int) + 1) = ((q + 1 : Nat) : Int) := by rw [w64_id (by omega) (by omega)]; omega
  refine nilc_of rfl (ld_of (x.next : Int) (b_next (by simp)) (nilc_of rfl ?_))
  simp only [hnx]
  refine st_of (n := x.id) (off := 1) (c := #[.slice x.v.a x.v.len x.v.cap, .int .i64 x.next, .int .i64 x.wear, .bool x.bad]) (T := tBk) (fz := (0, 0)) (fO m d bv tv :: (bseg ++ bobjs pre)) (xs ++ (pgs D ++ (g.seg ++ (g0.seg ++ (pgs E ++ (bobjs post ++ (tseg ++ (tsegs ts ++ R)))))))) rfl (by simp [PB.obj]) (by simp) (.inl (Nat.le_refl _))
    #[.slice x.v.a x.v.len x.v.cap, .int .i64 ((q + 1 : Nat) : Int), .int .i64 x.wear, .bool x.bad] rfl ?_
  have hox : ((x.id, Obj.cells #[.slice x.v.a x.v.len x.v.cap, .int .i64 ((q + 1 : Nat) : Int), .int .i64 x.wear, .bool x.bad] tBk) : Nat × Obj) = ({ x with next := q + 1 } : PB).obj := rfl
  rw [hox]
  refine nilc_of rfl (nilc_of rfl (ld_of d.bytes (f_bytes (m := m) (bv := bv) (tv := tv) (by simp)) (ld_of (d.c.S : Int) (f_S (m := m) (bv := bv) (tv := tv) (by simp)) (nilc_of rfl ?_))))
  refine st_of (n := m) (off := 8) (c := #[.int .i64 d.after, .int .i64 d.keep, .bool d.down, .int .i64 d.c.B, .int .i64 d.c.P, .int .i64 d.c.S, .int .i64 d.c.W, .slice bv.a bv.len bv.cap, .int .i64 d.bytes, .slice tv.a tv.len tv.cap]) (T := tFl) (fz := (0, 0)) [] (bseg ++ (bobjs pre ++ (({ x with next := q + 1 } : PB).obj :: (xs ++ (pgs D ++ (g.seg ++ (g0.seg ++ (pgs E ++ (bobjs post ++ (tseg ++ (tsegs ts ++ R))))))))))) rfl (by simp [fO]) (by simp) (.inl (Nat.le_refl _))
    #[.int .i64 d.after, .int .i64 d.keep, .bool d.down, .int .i64 d.c.B, .int .i64 d.c.P, .int .i64 d.c.S, .int .i64 d.c.W, .slice bv.a bv.len bv.cap, .int .i64 (IntKind.i64.wrap (d.bytes + d.c.S)), .slice tv.a tv.len tv.cap] rfl (nilc_of rfl ?_)
  rw [List.nil_append]
  refine cl_in [] (bseg ++ (bobjs pre ++ (({ x with next := q + 1 } : PB).obj :: (xs ++ (pgs D ++ (g.seg ++ (g0.seg ++ (pgs E ++ (bobjs post ++ (tseg ++ (tsegs ts ++ R))))))))))) (tears_cl m (counted d) bv tv ok.after) rfl ?_
  rintro _ _ - ⟨rfl, rfl⟩
  refine ⟨((tear (counted d)).1, ()), rfl, ?_⟩
  unfold progK
  obtain ⟨hc2, hb2, hk2, hy2, ht2⟩ := tear_c (counted d)
  generalize hd2 : tear (counted d) = tt at hc2 hb2 hk2 hy2 ht2 ⊢
  obtain ⟨t, d2⟩ := tt
  simp only at hc2 hb2 hk2 hy2 ht2 ⊢
  have hgv : g.v.len = d.c.S := by have := hg.sl.len; rw [bvs_length, hgl, blk, List.length_replicate] at this; omega
  obtain ⟨ga, hga⟩ := BSl.some (L := g.seg) hg.sl (i := 0) (by rw [hgl, blk, List.length_replicate]; omega)
  unfold PG.Ok at hg
  rw [hgl] at hg
  have hus : ∀ X : HList, BSl (X ++ R) u data := fun X => hu.right
  have hfin : ∀ (l : List UInt8) (segg : HList), Own g.v 1 eB (bvs l) segg → ({ x with seg := xs, ps := D ++ ⟨g.v, segg, l⟩ :: E, next := q + 1 } : PB).Ok := by
    intro l segg ho
    refine ⟨?_, fun y hy => ?_⟩
    · show Own x.v 1 tB ((D ++ ⟨g.v, segg, l⟩ :: E).map PG.val) xs
      rw [List.map_append, List.map_cons]
      exact xown
    · have hy' : y ∈ D ∨ y = ⟨g.v, segg, l⟩ ∨ y ∈ E := by simpa using hy
      rcases hy' with h1 | rfl | h1
      · exact hok.ps y (by rw [hps]; simp [h1])
      · exact ho
      · exact hok.ps y (by rw [hps]; simp [h1])
  have hblk : ∀ (l : List UInt8) (segg : HList), ({ x with seg := xs, ps := D ++ ⟨g.v, segg, l⟩ :: E, next := q + 1 } : PB).blk = x.blk.put q l := by
    intro l segg
    unfold PB.blk Blk.put
    simp only
    rw [hps]
    congr 1
    rw [List.map_append, List.map_append, List.set_append, if_neg (by simp [hDl]), List.length_map, hDl, Nat.sub_self, List.map_cons, List.map_cons, List.set_cons_zero]
  have hokb : ∀ y : PB, y.Ok → ∀ z ∈ pre ++ y :: post, z.Ok := by
    intro y hy z hz
    have hz' : z ∈ pre ∨ z = y ∨ z ∈ post := by simpa using hz
    rcases hz' with h1 | rfl | h1
    · exact h.okb z (by simp [h1])
    · exact hy
    · exact h.okb z (by simp [h1])
  have hobp : ∀ y : PB, y.id = x.id → Own bv 1 ePb ((pre ++ y :: post).map pbp) bseg := by
    intro y hy
    have : (pre ++ y :: post).map pbp = (pre ++ x :: post).map pbp := by simp [pbp, hy]
    rw [this]; exact h.ob
  cases t with
  | false =>
    refine ifT rfl ?_
    rw [if_neg (by decide)]
    refine copy_own (T := eB) (sz := 1) (l := 0) (v := g.v) (a := ga) undB (by kernel_rfl) (fO m d2 bv tv :: (bseg ++ (bobjs pre ++ (({ x with next := q + 1 } : PB).obj :: (xs ++ pgs D))))) (g0.seg ++ (pgs E ++ (bobjs post ++ (tseg ++ (tsegs ts ++ R))))) hg (by simp) hga (d := g.v) (by rw [hga]; rfl) (by omega) (u := u) (ws := bvs data) ?_ (bvs_plain _) fun segg owng => ?_
    · have := hus (fO m d2 bv tv :: (bseg ++ (bobjs pre ++ (({ x with next := q + 1 } : PB).obj :: (xs ++ (pgs D ++ (g.seg ++ (g0.seg ++ (pgs E ++ (bobjs post ++ (tseg ++ tsegs ts)))))))))))
      simpa using this
    have hbb : putL (bvs (blk d.c.S)) (0 * 1) ((bvs data).take (min u.len g.v.len * 1)) = bvs data := by
      rw [bvs_take, bvs_put, List.take_of_length_le (l := data) (by omega), Nat.zero_mul, List.take_zero, List.nil_append, List.drop_of_length_le (by rw [blk, List.length_replicate]; omega), List.append_nil]
    rw [hbb] at owng
    refine .drop (A := fL m { d2 with bs := d.bs.set pre.length (x.blk.put q data) } bv bseg (pre ++ ({ x with seg := xs, ps := D ++ ⟨g.v, segg, data⟩ :: E, next := q + 1 } : PB) :: post) tv tseg ts ++ R) (J := g0.seg)
      ⟨_, rfl, rfl, bv, bseg, _, tv, tseg, ts, rfl, hobp _ rfl, hokb _ (hfin _ _ owng), ?_, h.ot, h.okt, ?_⟩ ?_
    · rw [hset, hblk]
    · simp only; rw [ht2]; exact h.ht
    · unfold fL
      rw [bobjs_append, bobjs_cons]
      unfold PB.objs
      simp only
      rw [pgs_append, pgs_cons]
      have ho1 : ({ x with seg := xs, ps := D ++ ⟨g.v, segg, data⟩ :: E, next := q + 1 } : PB).obj = ({ x with next := q + 1 } : PB).obj := rfl
      have ho2 : fO m { d2 with bs := d.bs.set pre.length (x.blk.put q data) } bv tv = fO m d2 bv tv := rfl
      rw [ho1, ho2]
      generalize ({ x with next := q + 1 } : PB).obj = ox
      generalize fO m d2 bv tv = of
      classical
      rw [List.perm_iff_count]
      intro z
      simp only [List.append_eq, List.cons_append, List.count_append, List.count_cons, List.count_nil]
      omega
  | true =>
    refine ifF rfl (nilc_of rfl (nilc_of rfl ?_))
    rw [if_pos rfl]
    have hcS : d2.c.S = d.c.S := by rw [hc2]; rfl
    have hkk : d2.keep = d.keep := hk2
    have ht2' : d2.torn = d.torn := ht2
    refine ld_of (d2.c.S : Int) (f_S (m := m) (bv := bv) (tv := tv) (by simp)) ?_
    rw [hcS]
    refine cl_rd (kept_rd _ m d2 bv tv (by simp) d.c.S) ((keptN d2.keep d.c.S : Int), ()) rfl ?_
    rw [show keptN d2.keep d.c.S = keptN d.keep d.c.S by rw [hkk]]
    have hkp : keptN d.keep d.c.S ≤ d.c.S := by unfold keptN; omega
    have hcap := hu.cap
    refine slc_of (l' := 0) (h' := keptN d.keep d.c.S) (m' := u.cap) rfl rfl rfl (by omega) (by omega) (Nat.le_refl _) ?_
    have hss : ∀ X : HList, Sl (X ++ R) (slcV u (0 : Nat) (keptN d.keep d.c.S : Nat) (u.cap : Nat) 1) 1 (bvs (data.take (keptN d.keep d.c.S))) := by
      intro X
      have := (hus X).slc (l := 0) (h' := keptN d.keep d.c.S) (m := u.cap) (by decide) (by omega) (by omega) (by omega)
      rw [bvs_slc, List.drop_zero, Nat.sub_zero] at this
      exact this
    generalize slcV u (0 : Nat) (keptN d.keep d.c.S : Nat) (u.cap : Nat) 1 = us at hss ⊢
    have husl := (hss []).len
    rw [bvs_length, List.length_take] at husl
    refine copy_own (T := eB) (sz := 1) (l := 0) (v := g.v) (a := ga) undB (by kernel_rfl) (fO m d2 bv tv :: (bseg ++ (bobjs pre ++ (({ x with next := q + 1 } : PB).obj :: (xs ++ pgs D))))) (g0.seg ++ (pgs E ++ (bobjs post ++ (tseg ++ (tsegs ts ++ R))))) hg (by simp) hga (d := g.v) (by rw [hga]; rfl) (by omega) (u := us) (ws := bvs (data.take (keptN d.keep d.c.S))) ?_ (bvs_plain _) fun segg owng => ?_
    · have := hss (fO m d2 bv tv :: (bseg ++ (bobjs pre ++ (({ x with next := q + 1 } : PB).obj :: (xs ++ (pgs D ++ (g.seg ++ (g0.seg ++ (pgs E ++ (bobjs post ++ (tseg ++ tsegs ts)))))))))))
      simpa using this
    have hbb : putL (bvs (blk d.c.S)) (0 * 1) ((bvs (data.take (keptN d.keep d.c.S))).take (min us.len g.v.len * 1)) = bvs (tornImg d data) := by
      rw [bvs_take, bvs_put, List.take_of_length_le (l := data.take (keptN d.keep d.c.S)) (by rw [List.length_take]; omega), Nat.zero_mul, List.take_zero, List.nil_append, List.length_take]
      unfold tornImg blk
      rw [List.drop_replicate, Nat.zero_add, Nat.min_eq_left (by omega)]
    rw [hbb] at owng
    have himl : (tornImg d data).length = d.c.S := by
      unfold tornImg blk
      rw [List.length_append, List.length_take, List.length_replicate]; omega
    refine nilc_of rfl (ld_of tv (f_torn (m := m) (d := d2) (bv := bv) (by simp)) (nw_of fun n1 _ => ?_))
    have husL : BSl (fO m d2 bv tv :: (bseg ++ (bobjs pre ++ (({ x with next := q + 1 } : PB).obj :: (xs ++ pgs D)))) ++ segg ++ (g0.seg ++ (pgs E ++ (bobjs post ++ (tseg ++ (tsegs ts ++ R)))))) u data := by
      have := hus (fO m d2 bv tv :: (bseg ++ (bobjs pre ++ (({ x with next := q + 1 } : PB).obj :: (xs ++ (pgs D ++ (segg ++ (g0.seg ++ (pgs E ++ (bobjs post ++ (tseg ++ tsegs ts)))))))))))
      simpa using this
    have hgsL : BSl (fO m d2 bv tv :: (bseg ++ (bobjs pre ++ (({ x with next := q + 1 } : PB).obj :: (xs ++ pgs D)))) ++ segg ++ (g0.seg ++ (pgs E ++ (bobjs post ++ (tseg ++ (tsegs ts ++ R)))))) g.v (tornImg d data) := owng.sl.right.left
    have htoL : LdAt ⟨m, 9, none⟩ [.slice tv.a tv.len tv.cap] (fO m d2 bv tv :: (bseg ++ (bobjs pre ++ (({ x with next := q + 1 } : PB).obj :: (xs ++ pgs D)))) ++ segg ++ (g0.seg ++ (pgs E ++ (bobjs post ++ (tseg ++ (tsegs ts ++ R)))))) := f_torn (m := m) (d := d2) (bv := bv) (by simp)
    generalize hLL : fO m d2 bv tv :: (bseg ++ (bobjs pre ++ (({ x with next := q + 1 } : PB).obj :: (xs ++ pgs D)))) ++ segg ++ (g0.seg ++ (pgs E ++ (bobjs post ++ (tseg ++ (tsegs ts ++ R))))) = LL at husL hgsL htoL ⊢
    refine append_in elemB srcB [] LL own_empty rfl (.sl husL.cons) (bvs_plain _) (by simp only; omega) fun v5 seg5 hv5 own5 => ?_
    rw [List.nil_append] at own5 ⊢
    refine keep_of (htoL.mono fun z hz => List.mem_append_right _ hz) (nw_of fun n2 _ => ?_)
    refine append_in elemB srcB [] (seg5 ++ LL) own_empty rfl (.sl hgsL.right.cons) (bvs_plain _) (by simp only; omega) fun v6 seg6 hv6 own6 => ?_
    rw [List.nil_append] at own6 ⊢
    refine keep_of (htoL.mono fun z hz => List.mem_append_right _ (List.mem_append_right _ hz)) (nw_of fun n3 _ => ?_)
    subst hLL
    have htl : ts.length = d.torn.length := by rw [← h.ht, List.length_map]
    have htvl := h.ot.sl.els_len PT.enc_len (by decide)
    refine append_in elemTs srcTs ((n3, Obj.cells #[.int .i64 pre.length, .int .i64 q, .slice v5.a v5.len v5.cap, .slice v6.a v6.len v6.cap] eT) :: (seg6 ++ (seg5 ++ (fO m d2 bv tv :: (bseg ++ (bobjs pre ++ (({ x with next := q + 1 } : PB).obj :: (xs ++ (pgs D ++ (segg ++ (g0.seg ++ (pgs E ++ bobjs post)))))))))))) (tsegs ts ++ R) h.ot (by simp)
      (n := 1) (ws := PT.enc ⟨pre.length, q, ⟨v5, seg5, data⟩, ⟨v6, seg6, tornImg d data⟩⟩) (x := .slice (some ⟨n3, 0, none⟩) 1 1) (Src.sl (v := ⟨some ⟨n3, 0, none⟩, 1, 1⟩) ⟨rfl, Nat.le_refl _, .inr ⟨_, rfl, ldB List.mem_cons_self rfl⟩⟩) rfl (by omega) fun v8 seg8 hv8 own8 => ?_
    refine nilc_of rfl ?_
    refine st_of (n := m) (off := 9) (c := #[.int .i64 d2.after, .int .i64 d2.keep, .bool d2.down, .int .i64 d2.c.B, .int .i64 d2.c.P, .int .i64 d2.c.S, .int .i64 d2.c.W, .slice bv.a bv.len bv.cap, .int .i64 d2.bytes, .slice tv.a tv.len tv.cap]) (T := tFl) (fz := (0, 0)) ((n3, Obj.cells #[.int .i64 pre.length, .int .i64 q, .slice v5.a v5.len v5.cap, .slice v6.a v6.len v6.cap] eT) :: (seg6 ++ seg5)) (bseg ++ (bobjs pre ++ (({ x with next := q + 1 } : PB).obj :: (xs ++ (pgs D ++ (segg ++ (g0.seg ++ (pgs E ++ (bobjs post ++ (seg8 ++ (tsegs ts ++ R))))))))))) rfl (by simp [fO]) (by simp) (.inl (Nat.le_refl _))
      #[.int .i64 d2.after, .int .i64 d2.keep, .bool d2.down, .int .i64 d2.c.B, .int .i64 d2.c.P, .int .i64 d2.c.S, .int .i64 d2.c.W, .slice bv.a bv.len bv.cap, .int .i64 d2.bytes, .slice v8.a v8.len v8.cap] rfl ?_
    refine .drop (A := fL m { d2 with bs := d.bs.set pre.length (x.blk.put q (tornImg d data)), torn := d.torn ++ [⟨pre.length, q, data, tornImg d data⟩] } bv bseg (pre ++ ({ x with seg := xs, ps := D ++ ⟨g.v, segg, tornImg d data⟩ :: E, next := q + 1 } : PB) :: post) v8 seg8 (ts ++ [⟨pre.length, q, ⟨v5, seg5, data⟩, ⟨v6, seg6, tornImg d data⟩⟩]) ++ R) (J := (n3, Obj.cells #[.int .i64 pre.length, .int .i64 q, .slice v5.a v5.len v5.cap, .slice v6.a v6.len v6.cap] eT) :: g0.seg)
      ⟨_, rfl, rfl, bv, bseg, _, v8, seg8, _, rfl, hobp _ rfl, hokb _ (hfin _ _ owng), ?_, ?_, ?_, ?_⟩ ?_
    · rw [hset, hblk]
    · rw [List.flatMap_append, List.flatMap_singleton]; exact own8
    · intro z hz
      rcases List.mem_append.1 hz with h1 | h1
      · exact h.okt z h1
      · rw [List.mem_singleton.1 h1]; exact ⟨own5, own6⟩
    · rw [List.map_append, h.ht]; rfl
    · unfold fL
      rw [bobjs_append, bobjs_cons, tsegs_append, tsegs_one]
      unfold PB.objs
      simp only
      rw [pgs_append, pgs_cons]
      have ho1 : ({ x with seg := xs, ps := D ++ ⟨g.v, segg, tornImg d data⟩ :: E, next := q + 1 } : PB).obj = ({ x with next := q + 1 } : PB).obj := rfl
      have ho2 : fO m { d2 with bs := d.bs.set pre.length (x.blk.put q (tornImg d data)), torn := d.torn ++ [⟨pre.length, q, data, tornImg d data⟩] } bv v8 = (m, Obj.cells #[.int .i64 d2.after, .int .i64 d2.keep, .bool d2.down, .int .i64 d2.c.B, .int .i64 d2.c.P, .int .i64 d2.c.S, .int .i64 d2.c.W, .slice bv.a bv.len bv.cap, .int .i64 d2.bytes, .slice v8.a v8.len v8.cap] tFl) := rfl
      rw [ho1, ho2]
      generalize ({ x with next := q + 1 } : PB).obj = ox
      generalize (m, Obj.cells #[.int .i64 d2.after, .int .i64 d2.keep, .bool d2.down, .int .i64 d2.c.B, .int .i64 d2.c.P, .int .i64 d2.c.S, .int .i64 d2.c.W, .slice bv.a bv.len bv.cap, .int .i64 d2.bytes, .slice v8.a v8.len v8.cap] tFl) = of
      generalize (n3, Obj.cells #[.int .i64 pre.length, .int .i64 q, .slice v5.a v5.len v5.cap, .slice v6.a v6.len v6.cap] eT) = o3
      classical
      rw [List.perm_iff_count]
      intro z
      simp only [List.append_eq, List.cons_append, List.count_append, List.count_cons, List.count_nil]
      omega
end Go.Proofs.Ytaniefdpjommnaa
