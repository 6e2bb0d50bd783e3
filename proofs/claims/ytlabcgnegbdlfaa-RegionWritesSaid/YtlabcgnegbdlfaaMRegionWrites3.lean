/-
  It is proved what the functions that the law RegionWrites reaches compute, part 3. There are no further conditions than those that each theorem names.
-/
import Derived.Test.YtlabcgnegbdlfaaMRegionWrites2
set_option linter.unusedVariables false
set_option linter.unusedSimpArgs false
namespace Go.Proofs.Ytlabcgnegbdlfaa
open Go.HL

theorem ivs_at {L : HList} {v : SlV} {l : List Int} (h : ISl L v .i64 l) {i : Nat} (hi : i < l.length) : v.len = l.length ∧ ∃ a, v.a = some a ∧ LdAt (Addr.add a ((i : Int).toNat * 1)) [.int .i64 l[i]] L := by
  obtain ⟨a, ha⟩ := h.some hi
  exact ⟨h.len, a, ha, h.rd hi ha _ (by rw [Int.toNat_natCast])⟩
theorem nexts_set (d : Dev) (i : Nat) (k : Blk) (e : Dev) (he : e.bs = d.bs.set i k) : nexts e = (nexts d).set i (k.next : Int) := by unfold nexts; rw [he, List.map_set]
theorem wears_set (d : Dev) (i : Nat) (k : Blk) (e : Dev) (he : e.bs = d.bs.set i k) : wears e = (wears d).set i (k.wear : Int) := by unfold wears; rw [he, List.map_set]
theorem bads_set (d : Dev) (i : Nat) (k : Blk) (e : Dev) (he : e.bs = d.bs.set i k) : bads e = (bads d).set i k.bad := by unfold bads; rw [he, List.map_set]
theorem set_same {α β : Type} (l : List α) (f : α → β) (i : Nat) (hi : i < l.length) : (l.map f).set i (f l[i]) = l.map f := by
  apply List.ext_getElem?
  intro j
  rw [List.getElem?_set]
  by_cases h : i = j
  · subst h
    rw [if_pos rfl, if_pos (by rw [List.length_map]; exact hi), List.getElem?_map, List.getElem?_eq_getElem hi]; rfl
  · rw [if_neg h]
/-- What holds of the objects after one block's pages were changed. -/
theorem RHs.put {d e : Dev} {pv : SlV} {pseg : HList} {pre post : List RK} {r : RK} {nv : SlV} {nseg : HList} {wv : SlV} {wseg : HList} {bv : SlV} {bseg : HList} {tv : SlV} {tseg : HList} {ts : List PT}
    (h : RHs d pv pseg (pre ++ r :: post) nv nseg wv wseg bv bseg tv tseg ts) {k : Blk} (he : e.bs = d.bs.set pre.length k) {rseg : HList} (hr : Own r.v 1 eSg (k.pages.map strV) rseg) {nseg' wseg' bseg' : HList}
    (on : Own nv 1 eIn (ivs .i64 (nexts e)) nseg') (ow : Own wv 1 eIn (ivs .i64 (wears e)) wseg') (ob : Own bv 1 eBo (bos (bads e)) bseg') {tv' : SlV} {tseg' : HList} {ts' : List PT}
    (ot : Own tv' 4 eT (ts'.flatMap PT.enc) tseg') (okt : ∀ t ∈ ts', t.m.Ok ∧ t.i.Ok) (ht : ts'.map PT.tn = e.torn) :
    RHs e pv pseg (pre ++ ⟨r.v, rseg, k.pages⟩ :: post) nv nseg' wv wseg' bv bseg' tv' tseg' ts' := by
  refine ⟨?_, ?_, ?_, on, ow, ob, ot, okt, ht⟩
  · have : (pre ++ (⟨r.v, rseg, k.pages⟩ : RK) :: post).map RK.val = (pre ++ r :: post).map RK.val := by simp [RK.val]
    rw [this]; exact h.op
  · intro z hz
    have hz' : z ∈ pre ∨ z = ⟨r.v, rseg, k.pages⟩ ∨ z ∈ post := by simpa using hz
    rcases hz' with h1 | rfl | h1
    · exact h.okp z (by simp [h1])
    · exact hr
    · exact h.okp z (by simp [h1])
  · rw [he, List.map_set, ← h.hp]; simp
theorem rprogram_cl (m : Nat) (d : Dev) (A R : HList) (h : RH m d A) (ok : DvOk d) (hf : d.torn.length ≤ 1048576) (b p : Int) (u : SlV) (data : List UInt8) (hu : BSl R u data) :
    CallF PP 112 #[.pointer (some ⟨m, 0, none⟩), .int .i64 b, .int .i64 p, .slice u.a u.len u.cap] (A ++ R) fun r L' => ∃ A', L' = A' ++ R ∧ r = .int .i64 (prog d b p data).1 ∧ RH m (prog d b p data).2 A' := by
  have hA := h
  obtain ⟨pv, pseg, rs, nv, nseg, wv, wseg, bv, bseg, tv, tseg, ts, rfl, h⟩ := h
  refine CallF.of (args := [.pointer (some ⟨m, 0, none⟩), .int .i64 b, .int .i64 p, .slice u.a u.len u.cap]) noNum mixed Try.func112 (e112 (some ⟨m, 0, none⟩) b p u _) ?_
  unfold t112
  have hP := ok.c.p
  have hS := ok.c.s
  have hul := hu.len
  have hcap := hu.cap
  have hmO : rO m d pv nv wv bv tv ∈ rL m d pv pseg rs nv nseg wv wseg bv bseg tv tseg ts ++ R := List.mem_append_left _ rL_o
  refine nilc_of rfl (ld_of d.down (r_dn hmO) ?_)
  refine ifB_of (fun (hd : d.down = true) => ?_) (fun (hd : d.down = false) => ?_)
  · have hr : prog d b p data = (11, d) := by
      have he : findE d b p = 11 := by unfold findE; rw [if_pos hd]
      unfold prog; rw [he, if_pos (by decide)]
    rw [hr]
    exact .of ⟨_, rfl, rfl, hA⟩
  obtain ⟨hf1, hf2⟩ := findE_there ok hd b p
  refine cl_rd (there_rd _ m d pv nv wv bv tv hmO b p) (decide (0 ≤ b ∧ b < d.c.B ∧ 0 ≤ p ∧ p < d.c.P), ()) rfl ?_
  by_cases hth : 0 ≤ b ∧ b < d.c.B ∧ 0 ≤ p ∧ p < d.c.P
  case neg =>
    rw [decide_eq_false hth]
    have he : findE d b p = 2 := hf2 fun h => hth (hf1.1 h)
    have hr : prog d b p data = (2, d) := by unfold prog; rw [he, if_pos (by decide)]
    rw [hr]
    exact ifT rfl (.of ⟨_, rfl, rfl, hA⟩)
  rw [decide_eq_true hth]
  have he := hf1.2 hth
  obtain ⟨hb0, hb1, hp0, hp1⟩ := hth
  refine ifF rfl (nilc_of rfl (ld_of (d.c.S : Int) (r_S hmO) ?_))
  refine ifNe_of (fun (hs : (u.len : Int) ≠ (d.c.S : Int)) => ?_) (fun (hs : (u.len : Int) = (d.c.S : Int)) => ?_)
  · have hr : prog d b p data = (2, d) := by unfold prog; rw [he, if_neg (by decide), if_pos (by omega)]
    rw [hr]
    exact .of ⟨_, rfl, rfl, hA⟩
  have hdl : data.length = d.c.S := by omega
  obtain ⟨i, rfl⟩ : ∃ i : Nat, b = i := ⟨b.toNat, by omega⟩
  obtain ⟨q, rfl⟩ : ∃ q : Nat, p = q := ⟨p.toNat, by omega⟩
  have hbl := ok.len
  have hi : i < d.bs.length := by omega
  have hir : i < rs.length := by rw [h.rlen]; exact hi
  have hk : d.bs[i]? = some d.bs[i] := List.getElem?_eq_getElem hi
  have hbk := ok.bk (List.getElem_mem hi)
  have hbl1 : (bos (bads d)).length = d.bs.length := by simp [bos, bads]
  have hnl1 : (nexts d).length = d.bs.length := by simp [nexts]
  obtain ⟨e1, ba, hba, lba⟩ := el_at ((h.bsl (m := m)).left (R := R)) (i := i) (by rw [hbl1]; exact hi)
  have hbv : (bos (bads d))[i]'(by rw [hbl1]; exact hi) = .bool d.bs[i].bad := by simp [bos, bads]
  rw [hbv] at lba
  obtain ⟨e2, na, hna, lna⟩ := ivs_at (Sl.left (R := R) (h.nsl (m := m))) (i := i) (by rw [hnl1]; exact hi)
  have hnv : (nexts d)[i]'(by rw [hnl1]; exact hi) = (d.bs[i].next : Int) := by simp [nexts]
  rw [hnv] at lna
  have h0i : (0 : Int) ≤ (i : Int) := by omega
  have h0q : (0 : Int) ≤ (q : Int) := by omega
  have hpr : prog d (i : Int) (q : Int) data = if d.bs[i].bad then (10, d) else if (d.bs[i].next : Int) ≠ (q : Int) then (9, d) else progK d i q d.bs[i] data := by
    unfold prog
    rw [he, if_neg (by decide), if_neg (by omega), Int.toNat_natCast, Int.toNat_natCast, hk]
  refine nilc_of rfl (ld_of bv (r_bd hmO) (nilc_of hba (ixn_of h0i (show (i : Int) < bv.len by omega) (ld_of d.bs[i].bad lba ?_))))
  refine ifB_of (fun (hbad : d.bs[i].bad = true) => ?_) (fun (hbad : d.bs[i].bad = false) => ?_)
  · rw [hpr, if_pos hbad]
    exact .of ⟨_, rfl, rfl, hA⟩
  refine nilc_of rfl (ld_of nv (r_nx hmO) (nilc_of hna (ixn_of h0i (show (i : Int) < nv.len by omega) (ld_of (d.bs[i].next : Int) lna ?_))))
  refine ifNe_of (fun (hn : (d.bs[i].next : Int) ≠ (q : Int)) => ?_) (fun (hn : (d.bs[i].next : Int) = (q : Int)) => ?_)
  · rw [hpr, if_neg (by rw [hbad]; decide), if_pos hn]
    exact .of ⟨_, rfl, rfl, hA⟩
  rw [hpr, if_neg (by rw [hbad]; decide), if_neg (by omega)]
  refine nilc_of rfl (ld_of nv (r_nx hmO) ?_)
  clear hpr hA lna lba hmO
  have hrl := h.rl hir
  obtain ⟨pre, r, post, rfl, rfl⟩ : ∃ pre r post, rs = pre ++ r :: post ∧ pre.length = i := ⟨rs.take i, rs[i], rs.drop (i + 1), by rw [← List.drop_eq_getElem_cons hir, List.take_append_drop], by rw [List.length_take]; omega⟩
  have hrl' : r.l = d.bs[pre.length].pages := by rw [← hrl]; simp
  generalize hkk : d.bs[pre.length] = k at hk hbk hbad hn hrl' ⊢
  have hpl := hbk.pg.1
  have hrll : r.l.length = d.c.P := by rw [hrl']; exact hpl
  have hq : q < k.pages.length := by omega
  have hok := h.okp r (by simp)
  unfold RK.Ok at hok
  rw [hrl'] at hok
  have hwx : IntKind.i64.wrap ((q : Int) + 1) = ((q + 1 : Nat) : Int) := by rw [w64_id (by omega) (by omega)]; omega
  have hL : rL m d pv pseg (pre ++ r :: post) nv nseg wv wseg bv bseg tv tseg ts ++ R = rO m d pv nv wv bv tv :: (pseg ++ (rsegs pre ++ (r.seg ++ (rsegs post ++ (nseg ++ (wseg ++ (bseg ++ (tseg ++ (tsegs ts ++ R))))))))) := by
    unfold rL
    rw [rsegs_append, rsegs_cons]
    simp
  rw [hL]
  clear hL
  have hpm : pv.len = (pre ++ r :: post).length ∧ ∃ a, pv.a = some a ∧ ∀ Z : HList, (∀ x ∈ pseg, x ∈ Z) → LdAt (Addr.add a ((pre.length : Int).toNat * 1)) [.slice r.v.a r.v.len r.v.cap] Z := by
    obtain ⟨e, a, ha, l⟩ := el_at h.op.sl (i := pre.length) (by simp)
    rw [List.length_map] at e
    refine ⟨e, a, ha, fun Z hz => ?_⟩
    have : ((pre ++ r :: post).map RK.val)[pre.length]'(by simp) = RK.val r := by simp
    rw [this] at l
    exact l.mono hz
  obtain ⟨e3, pa, hpa, lpa⟩ := hpm
  simp only [hwx]
  refine nilc_of hna (ixn_of h0i (show (pre.length : Int) < nv.len by omega) ?_)
  refine h.on.st (p := pre.length) (ws := [.int .i64 ((q + 1 : Nat) : Int)]) (rO m d pv nv wv bv tv :: (pseg ++ (rsegs pre ++ (r.seg ++ rsegs post)))) (wseg ++ (bseg ++ (tseg ++ (tsegs ts ++ R)))) (by rw [ivs_length, hnl1, List.length_singleton]; omega) (by simp) hna (by rw [Int.toNat_natCast, Nat.mul_one]) (by simp) fun nseg' own_n => ?_
  rw [putL_one (by rw [ivs_length]; omega), ivs_set] at own_n
  refine nilc_of rfl (nilc_of rfl (ld_of d.bytes (r_by (m := m) (pv := pv) (nv := nv) (wv := wv) (bv := bv) (tv := tv) (by simp)) (ld_of (d.c.S : Int) (r_S (m := m) (pv := pv) (nv := nv) (wv := wv) (bv := bv) (tv := tv) (by simp)) (nilc_of rfl ?_))))
  refine st_of (n := m) (off := 8) (c := #[.int .i64 d.c.B, .int .i64 d.c.P, .int .i64 d.c.S, .int .i64 d.c.W, .slice pv.a pv.len pv.cap, .slice nv.a nv.len nv.cap, .slice wv.a wv.len wv.cap, .slice bv.a bv.len bv.cap, .int .i64 d.bytes, .bool d.down, .int .i64 d.after, .int .i64 d.keep, .slice tv.a tv.len tv.cap]) (T := tRf) (fz := (0, 0)) [] (pseg ++ (rsegs pre ++ (r.seg ++ (rsegs post ++ (nseg' ++ (wseg ++ (bseg ++ (tseg ++ (tsegs ts ++ R))))))))) rfl (by simp [rO]) (by simp) (.inl (Nat.le_refl _))
    #[.int .i64 d.c.B, .int .i64 d.c.P, .int .i64 d.c.S, .int .i64 d.c.W, .slice pv.a pv.len pv.cap, .slice nv.a nv.len nv.cap, .slice wv.a wv.len wv.cap, .slice bv.a bv.len bv.cap, .int .i64 (IntKind.i64.wrap (d.bytes + d.c.S)), .bool d.down, .int .i64 d.after, .int .i64 d.keep, .slice tv.a tv.len tv.cap] rfl ?_
  rw [List.nil_append]
  have hcO : ((m, Obj.cells #[.int .i64 d.c.B, .int .i64 d.c.P, .int .i64 d.c.S, .int .i64 d.c.W, .slice pv.a pv.len pv.cap, .slice nv.a nv.len nv.cap, .slice wv.a wv.len wv.cap, .slice bv.a bv.len bv.cap, .int .i64 (IntKind.i64.wrap (d.bytes + d.c.S)), .bool d.down, .int .i64 d.after, .int .i64 d.keep, .slice tv.a tv.len tv.cap] tRf) : Nat × Obj) = rO m (counted d) pv nv wv bv tv := rfl
  rw [hcO]
  refine nilc_of rfl (ld_of pv (r_pg (m := m) (d := counted d) (nv := nv) (wv := wv) (bv := bv) (tv := tv) (by simp)) (nilc_of hpa (ixn_of h0i (show (pre.length : Int) < pv.len by omega) (ld_of r.v (lpa _ (by intro x hx; simp [hx])) ?_))))
  have hus : ∀ X : HList, BSl (X ++ R) u data := fun X => hu.right
  refine b2s_of (v := u) (l := data) (by have := hus (rO m (counted d) pv nv wv bv tv :: (pseg ++ (rsegs pre ++ (r.seg ++ (rsegs post ++ (nseg' ++ (wseg ++ (bseg ++ (tseg ++ tsegs ts))))))))); simpa using this) ?_
  obtain ⟨e4, ra, hra, -⟩ := el_at hok.sl (i := q) (by rw [List.length_map]; omega)
  rw [List.length_map] at e4
  refine nilc_of hra (ixn_of h0q (show (q : Int) < r.v.len by omega) ?_)
  refine hok.st (p := q) (ws := [strV data]) (rO m (counted d) pv nv wv bv tv :: (pseg ++ rsegs pre)) (rsegs post ++ (nseg' ++ (wseg ++ (bseg ++ (tseg ++ (tsegs ts ++ R)))))) (by rw [List.length_map, List.length_singleton]; omega) (by simp) hra (by rw [Int.toNat_natCast, Nat.mul_one]) (by simp) fun rs1 own1 => ?_
  rw [putL_one (by rw [List.length_map]; omega), ← List.map_set] at own1
  refine cl_in [] (pseg ++ (rsegs pre ++ (rs1 ++ (rsegs post ++ (nseg' ++ (wseg ++ (bseg ++ (tseg ++ (tsegs ts ++ R))))))))) (rtears_cl m (counted d) pv nv wv bv tv ok.after) (by simp) ?_
  rintro _ _ - ⟨rfl, rfl⟩
  refine ⟨((tear (counted d)).1, ()), rfl, ?_⟩
  unfold progK
  obtain ⟨hc2, hb2, hk2, hy2, ht2⟩ := tear_c (counted d)
  generalize hd2 : tear (counted d) = tt at hc2 hb2 hk2 hy2 ht2 ⊢
  obtain ⟨t, d2⟩ := tt
  simp only at hc2 hb2 hk2 hy2 ht2 ⊢
  have hcS : d2.c.S = d.c.S := by rw [hc2]; rfl
  have ht2' : d2.torn = d.torn := ht2
  have hseq : ∀ (k' : Blk) (e : Dev), e.bs = d.bs.set pre.length k' → k'.wear = k.wear → k'.bad = k.bad → wears e = wears d ∧ bads e = bads d := by
    intro k' e he2 hw hb
    rw [wears_set d pre.length k' e he2, bads_set d pre.length k' e he2, hw, hb, ← hkk]
    exact ⟨set_same d.bs (fun k => (k.wear : Int)) pre.length hi, set_same d.bs (fun k => k.bad) pre.length hi⟩
  have hnseq : ∀ (k' : Blk) (e : Dev), e.bs = d.bs.set pre.length k' → k'.next = q + 1 → nexts e = (nexts d).set pre.length ((q + 1 : Nat) : Int) := by
    intro k' e he2 hn2
    rw [nexts_set d pre.length k' e he2, hn2]
  cases t with
  | false =>
    refine ifT rfl ?_
    rw [if_neg (by decide)]
    obtain ⟨s1, s2⟩ := hseq (k.put q data) { d2 with bs := d.bs.set pre.length (k.put q data) } rfl rfl rfl
    have s3 := hnseq (k.put q data) { d2 with bs := d.bs.set pre.length (k.put q data) } rfl rfl
    refine .of ⟨rL m { d2 with bs := d.bs.set pre.length (k.put q data) } pv pseg (pre ++ ⟨r.v, rs1, (k.put q data).pages⟩ :: post) nv nseg' wv wseg bv bseg tv tseg ts, ?_, rfl, pv, pseg, _, nv, nseg', wv, wseg, bv, bseg, tv, tseg, ts, rfl,
      h.put (k := k.put q data) rfl own1 (by rw [s3]; exact own_n) (by rw [s1]; exact h.ow) (by rw [s2]; exact h.ob) h.ot h.okt (by show _ = d2.torn; rw [ht2']; exact h.ht)⟩
    unfold rL
    rw [rsegs_append, rsegs_cons]
    simp [rO]
  | true =>
    rw [if_pos rfl]
    have hd2k : d2.keep = d.keep := hk2
    have hm2 : ∀ {Z : HList}, rO m d2 pv nv wv bv tv ∈ Z → rO m d2 pv nv wv bv tv ∈ Z := fun h => h
    refine ifF rfl (nilc_of rfl (nilc_of rfl ?_))
    rw [List.nil_append]
    refine ld_of d2.keep (r_kp (m := m) (d := d2) (pv := pv) (nv := nv) (wv := wv) (bv := bv) (tv := tv) (by simp)) (ld_of (d2.c.S : Int) (r_S (m := m) (d := d2) (pv := pv) (nv := nv) (wv := wv) (bv := bv) (tv := tv) (by simp)) (nilc_of rfl ?_))
    rw [hcS]
    simp only [imin_kept]
    rw [show keptN d2.keep d.c.S = keptN d.keep d.c.S by rw [hd2k]]
    have hkp : keptN d.keep d.c.S ≤ d.c.S := by unfold keptN; omega
    refine slc_of (l' := 0) (h' := keptN d.keep d.c.S) (m' := u.cap) rfl rfl rfl (by omega) (by omega) (Nat.le_refl _) ?_
    have hss : ∀ X : HList, Sl (X ++ R) (slcV u (0 : Nat) (keptN d.keep d.c.S : Nat) (u.cap : Nat) 1) 1 (bvs (data.take (keptN d.keep d.c.S))) := by
      intro X
      have := (hus X).slc (l := 0) (h' := keptN d.keep d.c.S) (m := u.cap) (by decide) (by omega) (by omega) (by omega)
      rw [bvs_slc, List.drop_zero, Nat.sub_zero] at this
      exact this
    generalize slcV u (0 : Nat) (keptN d.keep d.c.S : Nat) (u.cap : Nat) 1 = us at hss ⊢
    have hLs : [rO m d2 pv nv wv bv tv] ++ (pseg ++ (rsegs pre ++ (rs1 ++ (rsegs post ++ (nseg' ++ (wseg ++ (bseg ++ (tseg ++ (tsegs ts ++ R))))))))) = (rO m d2 pv nv wv bv tv :: (pseg ++ rsegs pre)) ++ rs1 ++ (rsegs post ++ (nseg' ++ (wseg ++ (bseg ++ (tseg ++ (tsegs ts ++ R)))))) := by simp
    rw [hLs]
    clear hLs
    have mem1 : ∀ s : HList, rO m d2 pv nv wv bv tv ∈ (rO m d2 pv nv wv bv tv :: (pseg ++ rsegs pre)) ++ s ++ (rsegs post ++ (nseg' ++ (wseg ++ (bseg ++ (tseg ++ (tsegs ts ++ R)))))) := fun s => by simp
    have lp1 : ∀ s : HList, LdAt (Addr.add pa ((pre.length : Int).toNat * 1)) [.slice r.v.a r.v.len r.v.cap] ((rO m d2 pv nv wv bv tv :: (pseg ++ rsegs pre)) ++ s ++ (rsegs post ++ (nseg' ++ (wseg ++ (bseg ++ (tseg ++ (tsegs ts ++ R))))))) := fun s => lpa _ (by intro x hx; simp [hx])
    have hbs1 : BSl ((rO m d2 pv nv wv bv tv :: (pseg ++ rsegs pre)) ++ rs1 ++ (rsegs post ++ (nseg' ++ (wseg ++ (bseg ++ (tseg ++ (tsegs ts ++ R))))))) us (data.take (keptN d.keep d.c.S)) := by
      have := hss ((rO m d2 pv nv wv bv tv :: (pseg ++ rsegs pre)) ++ rs1 ++ (rsegs post ++ (nseg' ++ (wseg ++ (bseg ++ (tseg ++ tsegs ts))))))
      simpa using this
    have g2 : (pre.length : Int) < pv.len := by omega
    refine nilc_of rfl (ld_of pv (r_pg (mem1 rs1)) (nilc_of hpa (ixn_of h0i g2 (ld_of r.v (lp1 rs1) (b2s_of hbs1 (ld_of (d2.c.S : Int) (r_S (mem1 rs1)) ?_))))))
    rw [hcS]
    have hwk : IntKind.i64.wrap ((d.c.S : Int) - (keptN d.keep d.c.S : Int)) = ((d.c.S - keptN d.keep d.c.S : Nat) : Int) := by rw [w64_id (by omega) (by omega)]; omega
    simp only [hwk]
    refine cl_rd (rblank_s _ (d.c.S - keptN d.keep d.c.S) (by omega)) ((⟨(blk (d.c.S - keptN d.keep d.c.S)).toArray⟩ : ByteArray), ()) rfl ?_
    refine keep_of (b2s_rd hbs1) (keep_of (lp1 rs1) (keep_of (r_pg (mem1 rs1)) ?_))
    have hsz1 : (ByteArray.mk (data.take (keptN d.keep d.c.S)).toArray).size = keptN d.keep d.c.S := by
      show (data.take (keptN d.keep d.c.S)).toArray.size = _
      rw [List.size_toArray, List.length_take]; omega
    have hsz2 : (ByteArray.mk (blk (d.c.S - keptN d.keep d.c.S)).toArray).size = d.c.S - keptN d.keep d.c.S := by
      show (blk (d.c.S - keptN d.keep d.c.S)).toArray.size = _
      rw [List.size_toArray, blk, List.length_replicate]
    refine req_of ?_ ?_
    · show (((ByteArray.mk (data.take (keptN d.keep d.c.S)).toArray).size + (ByteArray.mk (blk (d.c.S - keptN d.keep d.c.S)).toArray).size : Nat) : Int) ≤ 9223372036854775807
      rw [hsz1, hsz2]; omega
    have hcat : (ByteArray.mk (data.take (keptN d.keep d.c.S)).toArray) ++ (ByteArray.mk (blk (d.c.S - keptN d.keep d.c.S)).toArray) = ⟨(tornImg d data).toArray⟩ := by
      apply ByteArray.ext
      rw [ByteArray.data_append]
      unfold tornImg
      simp
    simp only [hcat]
    refine nilc_of hra (ixn_of h0q (show (q : Int) < r.v.len by omega) ?_)
    refine own1.st (p := q) (ws := [strV (tornImg d data)]) (rO m d2 pv nv wv bv tv :: (pseg ++ rsegs pre)) (rsegs post ++ (nseg' ++ (wseg ++ (bseg ++ (tseg ++ (tsegs ts ++ R)))))) (by rw [List.length_map, List.length_set, List.length_singleton]; omega) (by simp) hra (by rw [Int.toNat_natCast, Nat.mul_one]) rfl fun rs2 own2 => ?_
    rw [putL_one (by rw [List.length_map, List.length_set]; omega), ← List.map_set, List.set_set] at own2
    have himl := tornImg_len hdl
    obtain ⟨e5, ra2, hra2, lra⟩ := el_at own2.sl (i := q) (by rw [List.length_map, List.length_set]; omega)
    have hrv : ((k.pages.set q (tornImg d data)).map strV)[q]'(by rw [List.length_map, List.length_set]; omega) = .string ⟨(tornImg d data).toArray⟩ := by
      rw [List.getElem_map, List.getElem_set_self]; rfl
    rw [hrv] at lra
    have lr1 : LdAt (Addr.add ra2 ((q : Int).toNat * 1)) [.string ⟨(tornImg d data).toArray⟩] ((rO m d2 pv nv wv bv tv :: (pseg ++ rsegs pre)) ++ rs2 ++ (rsegs post ++ (nseg' ++ (wseg ++ (bseg ++ (tseg ++ (tsegs ts ++ R))))))) := lra.mono fun x hx => List.mem_append_left _ (List.mem_append_right _ hx)
    refine nilc_of rfl (nilc_of rfl (ld_of tv (r_tn (mem1 rs2)) (ld_of pv (r_pg (mem1 rs2)) (nilc_of hpa (ixn_of h0i g2 (ld_of r.v (lp1 rs2) (nilc_of hra2 (ixn_of h0q (show (q : Int) < r.v.len by omega) (ld_of (⟨(tornImg d data).toArray⟩ : ByteArray) lr1 (nw_of fun n1 _ => ?_))))))))))
    have husL : BSl ((rO m d2 pv nv wv bv tv :: (pseg ++ rsegs pre)) ++ rs2 ++ (rsegs post ++ (nseg' ++ (wseg ++ (bseg ++ (tseg ++ (tsegs ts ++ R))))))) u data := by
      have := hus ((rO m d2 pv nv wv bv tv :: (pseg ++ rsegs pre)) ++ rs2 ++ (rsegs post ++ (nseg' ++ (wseg ++ (bseg ++ (tseg ++ tsegs ts))))))
      simpa using this
    have k1 := r_tn (mem1 rs2)
    have k2 := r_pg (mem1 rs2)
    have k3 := lp1 rs2
    generalize hLL : (rO m d2 pv nv wv bv tv :: (pseg ++ rsegs pre)) ++ rs2 ++ (rsegs post ++ (nseg' ++ (wseg ++ (bseg ++ (tseg ++ (tsegs ts ++ R)))))) = LL at husL lr1 k1 k2 k3 ⊢
    refine append_in elemB srcB [] LL own_empty rfl (.sl husL.cons) (bvs_plain _) (by simp only; omega) fun v5 seg5 hv5 own5 => ?_
    rw [List.nil_append] at own5 ⊢
    have hup : ∀ z ∈ LL, z ∈ seg5 ++ LL := fun z hz => List.mem_append_right _ hz
    refine keep_of (lr1.mono hup) (keep_of (k3.mono hup) (keep_of (k2.mono hup) (keep_of (k1.mono hup) ?_)))
    refine s2b_of fun n3 ob3 v6 hv6 own6 _ => nw_of fun n4 _ => ?_
    subst hLL
    have htl : ts.length = d.torn.length := by rw [← h.ht, List.length_map]
    have htvl := h.ot.sl.els_len PT.enc_len (by decide)
    have own6' : Own v6 1 eB (bvs (tornImg d data)) [(n3, ob3)] := own6
    refine append_in elemTs srcTs ((n4, Obj.cells #[.int .i64 pre.length, .int .i64 q, .slice v5.a v5.len v5.cap, .slice v6.a v6.len v6.cap] eT) :: (n3, ob3) :: (seg5 ++ (rO m d2 pv nv wv bv tv :: (pseg ++ (rsegs pre ++ (rs2 ++ (rsegs post ++ (nseg' ++ (wseg ++ bseg))))))))) (tsegs ts ++ R) h.ot (by simp)
      (n := 1) (ws := PT.enc ⟨pre.length, q, ⟨v5, seg5, data⟩, ⟨v6, [(n3, ob3)], tornImg d data⟩⟩) (x := .slice (some ⟨n4, 0, none⟩) 1 1) (Src.sl (v := ⟨some ⟨n4, 0, none⟩, 1, 1⟩) ⟨rfl, Nat.le_refl _, .inr ⟨_, rfl, ldB List.mem_cons_self rfl⟩⟩) rfl (by omega) fun v8 seg8 hv8 own8 => ?_
    refine nilc_of rfl ?_
    refine st_of (n := m) (off := 12) (c := #[.int .i64 d2.c.B, .int .i64 d2.c.P, .int .i64 d2.c.S, .int .i64 d2.c.W, .slice pv.a pv.len pv.cap, .slice nv.a nv.len nv.cap, .slice wv.a wv.len wv.cap, .slice bv.a bv.len bv.cap, .int .i64 d2.bytes, .bool d2.down, .int .i64 d2.after, .int .i64 d2.keep, .slice tv.a tv.len tv.cap]) (T := tRf) (fz := (0, 0)) ((n4, Obj.cells #[.int .i64 pre.length, .int .i64 q, .slice v5.a v5.len v5.cap, .slice v6.a v6.len v6.cap] eT) :: (n3, ob3) :: seg5) (pseg ++ (rsegs pre ++ (rs2 ++ (rsegs post ++ (nseg' ++ (wseg ++ (bseg ++ (seg8 ++ (tsegs ts ++ R))))))))) rfl (by simp [rO]) (by simp) (.inl (Nat.le_refl _))
      #[.int .i64 d2.c.B, .int .i64 d2.c.P, .int .i64 d2.c.S, .int .i64 d2.c.W, .slice pv.a pv.len pv.cap, .slice nv.a nv.len nv.cap, .slice wv.a wv.len wv.cap, .slice bv.a bv.len bv.cap, .int .i64 d2.bytes, .bool d2.down, .int .i64 d2.after, .int .i64 d2.keep, .slice v8.a v8.len v8.cap] rfl ?_
    obtain ⟨s1, s2⟩ := hseq (k.put q (tornImg d data)) { d2 with bs := d.bs.set pre.length (k.put q (tornImg d data)), torn := d.torn ++ [⟨pre.length, q, data, tornImg d data⟩] } rfl rfl rfl
    have s3 := hnseq (k.put q (tornImg d data)) { d2 with bs := d.bs.set pre.length (k.put q (tornImg d data)), torn := d.torn ++ [⟨pre.length, q, data, tornImg d data⟩] } rfl rfl
    refine .drop (A := rL m { d2 with bs := d.bs.set pre.length (k.put q (tornImg d data)), torn := d.torn ++ [⟨pre.length, q, data, tornImg d data⟩] } pv pseg (pre ++ ⟨r.v, rs2, (k.put q (tornImg d data)).pages⟩ :: post) nv nseg' wv wseg bv bseg v8 seg8 (ts ++ [⟨pre.length, q, ⟨v5, seg5, data⟩, ⟨v6, [(n3, ob3)], tornImg d data⟩⟩]) ++ R) (J := [(n4, Obj.cells #[.int .i64 pre.length, .int .i64 q, .slice v5.a v5.len v5.cap, .slice v6.a v6.len v6.cap] eT)])
      ⟨_, rfl, rfl, pv, pseg, _, nv, nseg', wv, wseg, bv, bseg, v8, seg8, _, rfl, h.put (k := k.put q (tornImg d data)) rfl own2 (by rw [s3]; exact own_n) (by rw [s1]; exact h.ow) (by rw [s2]; exact h.ob) (by rw [List.flatMap_append, List.flatMap_singleton]; exact own8) ?_ ?_⟩ ?_
    · intro z hz
      rcases List.mem_append.1 hz with h1 | h1
      · exact h.okt z h1
      · rw [List.mem_singleton.1 h1]; exact ⟨own5, own6'⟩
    · rw [List.map_append, h.ht]; rfl
    · unfold rL
      rw [rsegs_append, rsegs_cons, tsegs_append, tsegs_one]
      have ho2 : rO m { d2 with bs := d.bs.set pre.length (k.put q (tornImg d data)), torn := d.torn ++ [⟨pre.length, q, data, tornImg d data⟩] } pv nv wv bv v8 = (m, Obj.cells #[.int .i64 d2.c.B, .int .i64 d2.c.P, .int .i64 d2.c.S, .int .i64 d2.c.W, .slice pv.a pv.len pv.cap, .slice nv.a nv.len nv.cap, .slice wv.a wv.len wv.cap, .slice bv.a bv.len bv.cap, .int .i64 d2.bytes, .bool d2.down, .int .i64 d2.after, .int .i64 d2.keep, .slice v8.a v8.len v8.cap] tRf) := rfl
      rw [ho2]
      simp only
      generalize (m, Obj.cells #[.int .i64 d2.c.B, .int .i64 d2.c.P, .int .i64 d2.c.S, .int .i64 d2.c.W, .slice pv.a pv.len pv.cap, .slice nv.a nv.len nv.cap, .slice wv.a wv.len wv.cap, .slice bv.a bv.len bv.cap, .int .i64 d2.bytes, .bool d2.down, .int .i64 d2.after, .int .i64 d2.keep, .slice v8.a v8.len v8.cap] tRf) = of
      generalize (n4, Obj.cells #[.int .i64 pre.length, .int .i64 q, .slice v5.a v5.len v5.cap, .slice v6.a v6.len v6.cap] eT) = o4
      generalize (n3, ob3) = o3
      classical
      rw [List.perm_iff_count]
      intro z
      simp only [List.append_eq, List.cons_append, List.count_append, List.count_cons, List.count_nil]
      omega
end Go.Proofs.Ytlabcgnegbdlfaa
set_option linter.unusedVariables false
set_option linter.unusedSimpArgs false
namespace Go.Proofs.Ytlabcgnegbdlfaa
open Go.HL

theorem bos_set (l : List Bool) (i : Nat) (x : Bool) : (bos l).set i (.bool x) = bos (l.set i x) := by unfold bos; rw [List.map_set]
theorem rerase_cl (m : Nat) (d : Dev) (A : HList) (h : RH m d A) (ok : DvOk d) (b : Int) :
    CallF PP 55 #[.pointer (some ⟨m, 0, none⟩), .int .i64 b] A fun r L' => r = .int .i64 (eraseR d b).1 ∧ RH m (eraseR d b).2 L' := by
  have hA := h
  obtain ⟨pv, pseg, rs, nv, nseg, wv, wseg, bv, bseg, tv, tseg, ts, rfl, h⟩ := h
  refine CallF.of (args := [.pointer (some ⟨m, 0, none⟩), .int .i64 b]) noNum mixed Try.func55 (e55 (some ⟨m, 0, none⟩) b _) ?_
  unfold t55
  have hP := ok.c.p
  have hS := ok.c.s
  have hW := ok.c.w
  have hmO : rO m d pv nv wv bv tv ∈ rL m d pv pseg rs nv nseg wv wseg bv bseg tv tseg ts := rL_o
  refine nilc_of rfl (ld_of d.down (r_dn hmO) ?_)
  refine ifB_of (fun (hd : d.down = true) => ?_) (fun (hd : d.down = false) => ?_)
  · have hr : eraseR d b = (11, d) := by
      have he : findE d b 0 = 11 := by unfold findE; rw [if_pos hd]
      unfold eraseR; rw [he, if_pos (by decide)]
    rw [hr]
    exact .of ⟨rfl, hA⟩
  obtain ⟨hf1, hf2⟩ := findE_there ok hd b 0
  refine cl_rd (there_rd _ m d pv nv wv bv tv hmO b 0) (decide (0 ≤ b ∧ b < d.c.B ∧ 0 ≤ (0 : Int) ∧ (0 : Int) < d.c.P), ()) rfl ?_
  by_cases hth : 0 ≤ b ∧ b < d.c.B ∧ 0 ≤ (0 : Int) ∧ (0 : Int) < d.c.P
  case neg =>
    rw [decide_eq_false hth]
    have he : findE d b 0 = 2 := hf2 fun h => hth (hf1.1 h)
    have hr : eraseR d b = (2, d) := by unfold eraseR; rw [he, if_pos (by decide)]
    rw [hr]
    exact ifT rfl (.of ⟨rfl, hA⟩)
  rw [decide_eq_true hth]
  have he := hf1.2 hth
  obtain ⟨hb0, hb1, -, -⟩ := hth
  obtain ⟨i, rfl⟩ : ∃ i : Nat, b = i := ⟨b.toNat, by omega⟩
  have hbl := ok.len
  have hi : i < d.bs.length := by omega
  have hir : i < rs.length := by rw [h.rlen]; exact hi
  have hk : d.bs[i]? = some d.bs[i] := List.getElem?_eq_getElem hi
  have hbk := ok.bk (List.getElem_mem hi)
  have hbl1 : (bos (bads d)).length = d.bs.length := by simp [bos, bads]
  have hnl1 : (nexts d).length = d.bs.length := by simp [nexts]
  have hwl1 : (wears d).length = d.bs.length := by simp [wears]
  obtain ⟨e1, ba, hba, lba⟩ := el_at (h.bsl (m := m)) (i := i) (by rw [hbl1]; exact hi)
  have hbv : (bos (bads d))[i]'(by rw [hbl1]; exact hi) = .bool d.bs[i].bad := by simp [bos, bads]
  rw [hbv] at lba
  have h0i : (0 : Int) ≤ (i : Int) := by omega
  have hpr : eraseR d (i : Int) = if d.bs[i].bad then (10, d) else eraseK d i d.bs[i] := by
    unfold eraseR
    rw [he, if_neg (by decide), Int.toNat_natCast, hk]
  refine ifF rfl (nilc_of rfl (ld_of bv (r_bd hmO) (nilc_of hba (ixn_of h0i (show (i : Int) < bv.len by omega) (ld_of d.bs[i].bad lba ?_)))))
  refine ifB_of (fun (hbad : d.bs[i].bad = true) => ?_) (fun (hbad : d.bs[i].bad = false) => ?_)
  · rw [hpr, if_pos hbad]
    exact .of ⟨rfl, hA⟩
  rw [hpr, if_neg (by rw [hbad]; decide)]
  clear hpr hA lba hmO
  have hrl := h.rl hir
  obtain ⟨pre, r, post, rfl, rfl⟩ : ∃ pre r post, rs = pre ++ r :: post ∧ pre.length = i := ⟨rs.take i, rs[i], rs.drop (i + 1), by rw [← List.drop_eq_getElem_cons hir, List.take_append_drop], by rw [List.length_take]; omega⟩
  have hrl' : r.l = d.bs[pre.length].pages := by rw [← hrl]; simp
  have hnv : (nexts d)[pre.length]'(by rw [hnl1]; exact hi) = (d.bs[pre.length].next : Int) := by simp [nexts]
  have hwv : (wears d)[pre.length]'(by rw [hwl1]; exact hi) = (d.bs[pre.length].wear : Int) := by simp [wears]
  generalize hkk : d.bs[pre.length] = k at hk hbk hbad hrl' hnv hwv ⊢
  have hpl := hbk.pg.1
  have hkw : k.wear ≤ d.c.W := hbk.nx.2.1
  have hok := h.okp r (by simp)
  unfold RK.Ok at hok
  rw [hrl'] at hok
  have hL : rL m d pv pseg (pre ++ r :: post) nv nseg wv wseg bv bseg tv tseg ts = rO m d pv nv wv bv tv :: (pseg ++ (rsegs pre ++ (r.seg ++ (rsegs post ++ (nseg ++ (wseg ++ (bseg ++ (tseg ++ tsegs ts)))))))) := by
    unfold rL
    rw [rsegs_append, rsegs_cons]
    simp
  rw [hL]
  clear hL
  have hpm : pv.len = (pre ++ r :: post).length ∧ ∃ a, pv.a = some a ∧ ∀ Z : HList, (∀ x ∈ pseg, x ∈ Z) → LdAt (Addr.add a ((pre.length : Int).toNat * 1)) [.slice r.v.a r.v.len r.v.cap] Z := by
    obtain ⟨e, a, ha, l⟩ := el_at h.op.sl (i := pre.length) (by simp)
    rw [List.length_map] at e
    refine ⟨e, a, ha, fun Z hz => ?_⟩
    have : ((pre ++ r :: post).map RK.val)[pre.length]'(by simp) = RK.val r := by simp
    rw [this] at l
    exact l.mono hz
  obtain ⟨e3, pa, hpa, lpa⟩ := hpm
  have g2 : (pre.length : Int) < pv.len := by omega
  refine cl_in [] (pseg ++ (rsegs pre ++ (r.seg ++ (rsegs post ++ (nseg ++ (wseg ++ (bseg ++ (tseg ++ tsegs ts)))))))) (rtears_cl m d pv nv wv bv tv ok.after) rfl ?_
  rintro _ _ - ⟨rfl, rfl⟩
  refine ⟨((tear d).1, ()), rfl, ?_⟩
  unfold eraseK
  obtain ⟨hc2, hb2, hk2, hy2, ht2⟩ := tear_c d
  generalize hd2 : tear d = tt at hc2 hb2 hk2 hy2 ht2 ⊢
  obtain ⟨t, d2⟩ := tt
  simp only at hc2 hb2 hk2 hy2 ht2 ⊢
  have hLs : [] ++ [rO m d2 pv nv wv bv tv] ++ (pseg ++ (rsegs pre ++ (r.seg ++ (rsegs post ++ (nseg ++ (wseg ++ (bseg ++ (tseg ++ tsegs ts)))))))) = (rO m d2 pv nv wv bv tv :: (pseg ++ rsegs pre)) ++ r.seg ++ (rsegs post ++ (nseg ++ (wseg ++ (bseg ++ (tseg ++ tsegs ts))))) := by simp
  rw [hLs]
  clear hLs
  have mem1 : ∀ s : HList, rO m d2 pv nv wv bv tv ∈ (rO m d2 pv nv wv bv tv :: (pseg ++ rsegs pre)) ++ s ++ (rsegs post ++ (nseg ++ (wseg ++ (bseg ++ (tseg ++ tsegs ts))))) := fun s => by simp
  have lp1 : ∀ s : HList, LdAt (Addr.add pa ((pre.length : Int).toNat * 1)) [.slice r.v.a r.v.len r.v.cap] ((rO m d2 pv nv wv bv tv :: (pseg ++ rsegs pre)) ++ s ++ (rsegs post ++ (nseg ++ (wseg ++ (bseg ++ (tseg ++ tsegs ts)))))) := fun s => lpa _ (by intro x hx; simp [hx])
  have hcP : (d2.c.P : Int) = d.c.P := by rw [hc2]
  have hcS : (d2.c.S : Int) = d.c.S := by rw [hc2]
  refine nilc_of rfl (ld_of (d2.c.P : Int) (r_P (mem1 r.seg)) ?_)
  rw [hcP]
  generalize hnn : (if t then keptN d.keep d.c.P else d.c.P) = n
  have hn : n ≤ d.c.P := by rw [← hnn]; unfold keptN; split <;> omega
  refine jn_of (fun y L' => y = ((n : Int), ()) ∧ L' = (rO m d2 pv nv wv bv tv :: (pseg ++ rsegs pre)) ++ r.seg ++ (rsegs post ++ (nseg ++ (wseg ++ (bseg ++ (tseg ++ tsegs ts)))))) ?_ ?_
  case refine_2 =>
    intro j hj
    cases t with
    | true =>
      refine ifT rfl (nilc_of rfl (ld_of d2.keep (r_kp (mem1 r.seg)) ?_))
      simp only [imin_kept]
      rw [show keptN d2.keep d.c.P = keptN d.keep d.c.P by rw [hk2]]
      exact hj _ _ ⟨by rw [← hnn]; rfl, rfl⟩
    | false => exact ifF rfl (hj _ _ ⟨by rw [← hnn]; rfl, rfl⟩)
  rintro _ _ ⟨rfl, rfl⟩
  refine lp_of (fun z' z L' => ∃ (j : Nat) (sg : HList), j ≤ n ∧ z' = n - j ∧ z = ((j : Int), ()) ∧ L' = (rO m d2 pv nv wv bv tv :: (pseg ++ rsegs pre)) ++ sg ++ (rsegs post ++ (nseg ++ (wseg ++ (bseg ++ (tseg ++ tsegs ts))))) ∧ Own r.v 1 eSg ((List.replicate j (blk d.c.S) ++ k.pages.drop j).map strV) sg) n
    ⟨0, r.seg, by omega, by omega, rfl, rfl, by simpa using hok⟩ ?_
  rintro z' z _ ⟨j, sg, hj, rfl, rfl, rfl, own⟩
  have hll : ((List.replicate j (blk d.c.S) ++ k.pages.drop j).map strV).length = d.c.P := by
    rw [List.length_map, List.length_append, List.length_replicate, List.length_drop]; omega
  have hvl := own.len
  rw [hll] at hvl
  refine ifD_of (fun (hlt : (j : Int) < (n : Int)) => ?_) (fun (hge : ¬ (j : Int) < (n : Int)) => ?_)
  · obtain ⟨e4, ra, hra, -⟩ := el_at own.sl (i := j) (by rw [hll]; omega)
    refine nilc_of rfl (nilc_of rfl (ld_of pv (r_pg (mem1 sg)) (nilc_of hpa (ixn_of h0i g2 (ld_of r.v (lp1 sg) (ld_of (d2.c.S : Int) (r_S (mem1 sg)) ?_))))))
    rw [hcS]
    refine cl_rd (rblank_s _ d.c.S (by omega)) ((⟨(blk d.c.S).toArray⟩ : ByteArray), ()) rfl (keep_of (lp1 sg) (keep_of (r_pg (mem1 sg)) ?_))
    refine nilc_of hra (ixn_of (show (0 : Int) ≤ (j : Int) by omega) (show (j : Int) < r.v.len by omega) ?_)
    refine own.st (p := j) (ws := [strV (blk d.c.S)]) (rO m d2 pv nv wv bv tv :: (pseg ++ rsegs pre)) (rsegs post ++ (nseg ++ (wseg ++ (bseg ++ (tseg ++ tsegs ts))))) (by rw [hll, List.length_singleton]; omega) (by simp) hra (by rw [Int.toNat_natCast, Nat.mul_one]) rfl fun sg' own' => ?_
    rw [putL_one (by rw [hll]; omega), ← List.map_set] at own'
    refine ⟨n - (j + 1), by omega, j + 1, sg', by omega, rfl, ?_, rfl, ?_⟩
    · rw [w64_id (by first | omega | (simp only; omega)) (by first | omega | (simp only; omega))]
      rfl
    · have : (List.replicate j (blk d.c.S) ++ k.pages.drop j).set j (blk d.c.S) = List.replicate (j + 1) (blk d.c.S) ++ k.pages.drop (j + 1) := by
        rw [List.set_append, if_neg (by simp), List.length_replicate, Nat.sub_self, List.drop_eq_getElem_cons (by omega), List.set_cons_zero, List.replicate_succ', List.append_assoc]
        rfl
      rw [this] at own'
      exact own'
  · obtain rfl : j = n := by omega
    cases t with
    | true =>
      rw [if_pos rfl] at hnn ⊢
      subst hnn
      obtain ⟨e2, na, hna, -⟩ := ivs_at (L := nseg) h.on.sl (i := pre.length) (by rw [hnl1]; exact hi)
      refine ifT rfl (nilc_of rfl (nilc_of rfl (ld_of nv (r_nx (mem1 sg)) (ld_of (d2.c.P : Int) (r_P (mem1 sg)) ?_))))
      rw [hcP]
      refine nilc_of hna (ixn_of h0i (show (pre.length : Int) < nv.len by omega) ?_)
      refine h.on.st (p := pre.length) (ws := [.int .i64 (d.c.P : Int)]) (rO m d2 pv nv wv bv tv :: (pseg ++ (rsegs pre ++ (sg ++ rsegs post)))) (wseg ++ (bseg ++ (tseg ++ tsegs ts))) (by rw [ivs_length, hnl1, List.length_singleton]; omega) (by simp) hna (by rw [Int.toNat_natCast, Nat.mul_one]) (by simp) fun nseg' own_n => ?_
      rw [putL_one (by rw [ivs_length]; omega), ivs_set] at own_n
      have s1 : wears { d2 with bs := d.bs.set pre.length (k.torn d.c (keptN d.keep d.c.P)) } = wears d := by
        rw [wears_set d pre.length (k.torn d.c (keptN d.keep d.c.P)) _ rfl]
        show (wears d).set pre.length (k.wear : Int) = _
        rw [← hkk]
        exact set_same d.bs (fun k => (k.wear : Int)) pre.length hi
      have s2 : bads { d2 with bs := d.bs.set pre.length (k.torn d.c (keptN d.keep d.c.P)) } = bads d := by
        rw [bads_set d pre.length (k.torn d.c (keptN d.keep d.c.P)) _ rfl]
        show (bads d).set pre.length k.bad = _
        rw [← hkk]
        exact set_same d.bs (fun k => k.bad) pre.length hi
      refine .of ⟨rfl, pv, pseg, pre ++ ⟨r.v, sg, (k.torn d.c (keptN d.keep d.c.P)).pages⟩ :: post, nv, nseg', wv, wseg, bv, bseg, tv, tseg, ts, ?_,
        h.put (k := k.torn d.c (keptN d.keep d.c.P)) rfl own (by rw [nexts_set d pre.length (k.torn d.c (keptN d.keep d.c.P)) _ rfl]; exact own_n) (by rw [s1]; exact h.ow) (by rw [s2]; exact h.ob) h.ot h.okt (by show _ = d2.torn; rw [ht2]; exact h.ht)⟩
      unfold rL
      rw [rsegs_append, rsegs_cons]
      simp [rO]
    | false =>
      rw [if_neg (by decide)] at hnn ⊢
      subst hnn
      obtain ⟨e2, na, hna, -⟩ := ivs_at (L := nseg) h.on.sl (i := pre.length) (by rw [hnl1]; exact hi)
      obtain ⟨e5, wa, hwa, lwa⟩ := ivs_at (L := wseg) h.ow.sl (i := pre.length) (by rw [hwl1]; exact hi)
      rw [hwv] at lwa
      obtain ⟨e6, ba2, hba2, -⟩ := el_at h.ob.sl (i := pre.length) (by rw [hbl1]; exact hi)
      have hrw : (k.fresh d.c).pages = List.replicate d.c.P (blk d.c.S) ++ k.pages.drop d.c.P := by
        unfold Blk.fresh
        rw [List.drop_of_length_le (by omega), List.append_nil]
      rw [← hrw] at own
      refine ifF rfl (nilc_of rfl (ld_of nv (r_nx (mem1 sg)) ?_))
      refine nilc_of hna (ixn_of h0i (show (pre.length : Int) < nv.len by omega) ?_)
      refine h.on.st (p := pre.length) (ws := [.int .i64 0]) (rO m d2 pv nv wv bv tv :: (pseg ++ (rsegs pre ++ (sg ++ rsegs post)))) (wseg ++ (bseg ++ (tseg ++ tsegs ts))) (by rw [ivs_length, hnl1, List.length_singleton]; omega) (by simp) hna (by rw [Int.toNat_natCast, Nat.mul_one]) (by simp) fun nseg' own_n => ?_
      rw [putL_one (by rw [ivs_length]; omega), ivs_set] at own_n
      have mem2 : ∀ w b : HList, rO m d2 pv nv wv bv tv ∈ (rO m d2 pv nv wv bv tv :: (pseg ++ (rsegs pre ++ (sg ++ (rsegs post ++ nseg'))))) ++ w ++ (b ++ (tseg ++ tsegs ts)) := fun w b => by simp
      have hLs : (rO m d2 pv nv wv bv tv :: (pseg ++ (rsegs pre ++ (sg ++ rsegs post)))) ++ nseg' ++ (wseg ++ (bseg ++ (tseg ++ tsegs ts))) = (rO m d2 pv nv wv bv tv :: (pseg ++ (rsegs pre ++ (sg ++ (rsegs post ++ nseg'))))) ++ wseg ++ (bseg ++ (tseg ++ tsegs ts)) := by simp
      rw [hLs]
      clear hLs
      have hww : IntKind.i64.wrap ((k.wear : Int) + 1) = ((k.wear + 1 : Nat) : Int) := by rw [w64_id (by omega) (by omega)]; omega
      refine nilc_of rfl (nilc_of rfl (ld_of wv (r_wr (mem2 wseg bseg)) (ld_of wv (r_wr (mem2 wseg bseg)) (nilc_of hwa (ixn_of h0i (show (pre.length : Int) < wv.len by omega) (ld_of (k.wear : Int) (lwa.mono fun x hx => List.mem_append_left _ (List.mem_append_right _ hx)) ?_))))))
      simp only [hww]
      refine nilc_of hwa (ixn_of h0i (show (pre.length : Int) < wv.len by omega) ?_)
      refine h.ow.st (p := pre.length) (ws := [.int .i64 ((k.wear + 1 : Nat) : Int)]) (rO m d2 pv nv wv bv tv :: (pseg ++ (rsegs pre ++ (sg ++ (rsegs post ++ nseg'))))) (bseg ++ (tseg ++ tsegs ts)) (by rw [ivs_length, hwl1, List.length_singleton]; omega) (by simp) hwa (by rw [Int.toNat_natCast, Nat.mul_one]) rfl fun wseg' own_w => ?_
      rw [putL_one (by rw [ivs_length]; omega), ivs_set] at own_w
      obtain ⟨-, wa', hwa', lwa'⟩ := ivs_at (L := wseg') own_w.sl (i := pre.length) (by rw [List.length_set, hwl1]; exact hi)
      rw [List.getElem_set_self] at lwa'
      have hwd : (((k.wear + 1 : Nat) : Int) == (d.c.W : Int)) = decide (k.wear + 1 = d.c.W) := by
        by_cases hw1 : k.wear + 1 = d.c.W
        · rw [decide_eq_true hw1, beq_iff_eq]; omega
        · rw [decide_eq_false hw1, beq_eq_false_iff_ne]; omega
      refine nilc_of rfl (nilc_of rfl (nilc_of rfl (ld_of bv (r_bd (mem2 wseg' bseg)) (ld_of wv (r_wr (mem2 wseg' bseg)) (nilc_of hwa' (ixn_of h0i (show (pre.length : Int) < wv.len by omega) (ld_of ((k.wear + 1 : Nat) : Int) (lwa'.mono fun x hx => List.mem_append_left _ (List.mem_append_right _ hx)) (ld_of (d2.c.W : Int) (r_W (mem2 wseg' bseg)) ?_))))))))
      rw [show (d2.c.W : Int) = d.c.W by rw [hc2]]
      simp only [hwd]
      refine nilc_of hba2 (ixn_of h0i (show (pre.length : Int) < bv.len by omega) ?_)
      refine h.ob.st (p := pre.length) (ws := [.bool (decide (k.wear + 1 = d.c.W))]) (rO m d2 pv nv wv bv tv :: (pseg ++ (rsegs pre ++ (sg ++ (rsegs post ++ (nseg' ++ wseg')))))) (tseg ++ tsegs ts) (by rw [hbl1, List.length_singleton]; omega) (by simp) hba2 (by rw [Int.toNat_natCast, Nat.mul_one]) (by simp) fun bseg' own_b => ?_
      rw [putL_one (by rw [hbl1]; omega), bos_set] at own_b
      obtain ⟨-, ba3, hba3, lba3⟩ := el_at own_b.sl (i := pre.length) (by rw [← bos_set, List.length_set, hbl1]; exact hi)
      have hbv3 : (bos ((bads d).set pre.length (decide (k.wear + 1 = d.c.W))))[pre.length]'(by rw [← bos_set, List.length_set, hbl1]; exact hi) = .bool (decide (k.wear + 1 = d.c.W)) := by
        unfold bos
        rw [List.getElem_map, List.getElem_set_self]
      rw [hbv3] at lba3
      have hend : RH m { d2 with bs := d.bs.set pre.length (k.fresh d.c) } ((rO m d2 pv nv wv bv tv :: (pseg ++ (rsegs pre ++ (sg ++ (rsegs post ++ (nseg' ++ wseg')))))) ++ bseg' ++ (tseg ++ tsegs ts)) := by
        refine ⟨pv, pseg, pre ++ ⟨r.v, sg, (k.fresh d.c).pages⟩ :: post, nv, nseg', wv, wseg', bv, bseg', tv, tseg, ts, ?_,
          h.put (k := k.fresh d.c) rfl own (by rw [nexts_set d pre.length (k.fresh d.c) _ rfl]; exact own_n) (by rw [wears_set d pre.length (k.fresh d.c) _ rfl]; exact own_w) (by rw [bads_set d pre.length (k.fresh d.c) _ rfl]; exact own_b) h.ot h.okt (by show _ = d2.torn; rw [ht2]; exact h.ht)⟩
        unfold rL
        rw [rsegs_append, rsegs_cons]
        simp [rO]
      refine nilc_of rfl (ld_of bv (r_bd (m := m) (d := d2) (pv := pv) (nv := nv) (wv := wv) (tv := tv) (by simp)) (nilc_of hba3 (ixn_of h0i (show (pre.length : Int) < bv.len by omega) (ld_of (decide (k.wear + 1 = d.c.W)) (lba3.mono fun x hx => List.mem_append_left _ (List.mem_append_right _ hx)) ?_))))
      refine ifD_of (fun (hw1 : k.wear + 1 = d.c.W) => .of ⟨?_, hend⟩) (fun (hw1 : ¬ k.wear + 1 = d.c.W) => .of ⟨?_, hend⟩)
      · show Value.int .i64 10 = .int .i64 (if k.wear + 1 = d.c.W then 10 else 0)
        rw [if_pos hw1]
      · show Value.int .i64 0 = .int .i64 (if k.wear + 1 = d.c.W then 10 else 0)
        rw [if_neg hw1]
end Go.Proofs.Ytlabcgnegbdlfaa
set_option linter.unusedVariables false
set_option linter.unusedSimpArgs false
namespace Go.Proofs.Ytlabcgnegbdlfaa
open Go.HL

theorem rnew_cl (c : Int × Int × Int × Int × Unit) :
    CallF PP 48 #[.agg #[.int .i64 c.1, .int .i64 c.2.1, .int .i64 c.2.2.1, .int .i64 c.2.2.2.1]] [] fun r L' => (¬ right c ∧ r = .tuple #[.pointer none, .int .i64 30] ∧ L' = []) ∨ (right c ∧ ∃ m, r = .tuple #[.pointer (some ⟨m, 0, none⟩), .int .i64 0] ∧ RH m (fresh (cfg c)) L') := by
  refine CallF.of (args := [.agg #[.int .i64 c.1, .int .i64 c.2.1, .int .i64 c.2.2.1, .int .i64 c.2.2.2.1]]) noNum mixed Try.func48 (e48 c _) ?_
  unfold t48
  refine nw_of fun n1 _ => ?_
  generalize ho : (n1, Obj.cells #[.int .i64 c.1, .int .i64 c.2.1, .int .i64 c.2.2.1, .int .i64 c.2.2.2.1] 75) = o1
  have lc : ∀ L : HList, o1 ∈ L → LdAt ⟨n1, 0, none⟩ [.int .i64 c.1, .int .i64 c.2.1, .int .i64 c.2.2.1, .int .i64 c.2.2.2.1] L := fun L hm => ldB (by rw [← ho] at hm; exact hm) rfl
  clear ho
  have lB : ∀ L : HList, o1 ∈ L → LdAt ⟨n1, 0, none⟩ [.int .i64 c.1] L := fun L hm => (lc L hm).pre fun i u hu => by cases i with | zero => exact hu | succ i => exact absurd (show (none : Option Value) = some u from hu) (by simp)
  refine ld_of c (lc _ List.mem_cons_self) (cl_rd (right_rd _ c) (decide (right c), ()) rfl ?_)
  by_cases hr : right c
  case neg => rw [decide_eq_false hr]; exact ifT rfl (.cons (.of (.inl ⟨hr, rfl, rfl⟩)))
  rw [decide_eq_true hr]
  refine ifF rfl ?_
  have hck := cfg_ok hr
  have hr' := hr
  unfold right at hr'
  obtain ⟨cB, cP, cS, cW, u⟩ := c
  simp only at hr'
  obtain ⟨B, rfl⟩ : ∃ B : Nat, cB = B := ⟨cB.toNat, by omega⟩
  obtain ⟨Pn, rfl⟩ : ∃ B : Nat, cP = B := ⟨cP.toNat, by omega⟩
  obtain ⟨S, rfl⟩ : ∃ B : Nat, cS = B := ⟨cS.toNat, by omega⟩
  obtain ⟨W, rfl⟩ : ∃ B : Nat, cW = B := ⟨cW.toNat, by omega⟩
  have hcf : cfg ((B : Int), (Pn : Int), (S : Int), (W : Int), u) = ⟨B, Pn, S, W⟩ := by simp [cfg]
  rw [hcf] at hck ⊢
  refine ld_of ((B : Int), (Pn : Int), (S : Int), (W : Int), ()) (lc _ List.mem_cons_self) (nw_of fun m _ => ?_)
  refine lp_of (fun z' z L' => ∃ (i : Nat) (pv : SlV) (pseg : HList) (rs : List RK) (nv : SlV) (nseg : HList) (wv : SlV) (wseg : HList) (bv : SlV) (bseg : HList) (J X Z : HList), i ≤ B ∧ z' = B - i ∧ z = ((i : Int), ()) ∧
      L' = X ++ rO m (fresh ⟨B, Pn, S, W⟩) pv nv wv bv ⟨none, 0, 0⟩ :: (pseg ++ (nseg ++ (wseg ++ (bseg ++ Z)))) ∧ (X ++ Z).Perm (rsegs rs ++ (o1 :: J)) ∧
      Own pv 1 tSt (rs.map RK.val) pseg ∧ (∀ r ∈ rs, r.Ok) ∧ rs.map RK.l = List.replicate i (List.replicate Pn (blk S)) ∧ Own nv 1 eIn (ivs .i64 (List.replicate i 0)) nseg ∧ Own wv 1 eIn (ivs .i64 (List.replicate i 0)) wseg ∧ Own bv 1 eBo (bos (List.replicate i false)) bseg) B
    ⟨0, ⟨none, 0, 0⟩, [], [], ⟨none, 0, 0⟩, [], ⟨none, 0, 0⟩, [], ⟨none, 0, 0⟩, [], [], [], [o1], by omega, by omega, rfl, rfl, List.Perm.refl _, own_nil, by simp, rfl, own_nil, own_nil, own_nil⟩ ?_
  rintro z' z L ⟨i, pv, pseg, rs, nv, nseg, wv, wseg, bv, bseg, J, X, Z, hi, rfl, rfl, rfl, hp, ownp, hokr, hrs, ownn, ownw, ownb⟩
  have ho1 : o1 ∈ X ++ rO m (fresh ⟨B, Pn, S, W⟩) pv nv wv bv ⟨none, 0, 0⟩ :: (pseg ++ (nseg ++ (wseg ++ (bseg ++ Z)))) := by
    have h5 : o1 ∈ X ++ Z := (hp.mem_iff (a := o1)).2 (by simp)
    have h6 : o1 ∈ X ∨ o1 ∈ Z := by simpa using h5
    rcases h6 with h6 | h6 <;> simp [h6]
  have hrl : rs.length = i := by have := congrArg List.length hrs; rwa [List.length_map, List.length_replicate] at this
  have hpvl := ownp.len
  rw [List.length_map] at hpvl
  have hnvl := ownn.len
  rw [ivs_length, List.length_replicate] at hnvl
  have hwvl := ownw.len
  rw [ivs_length, List.length_replicate] at hwvl
  have hbvl := ownb.len
  rw [bos, List.length_map, List.length_replicate] at hbvl
  refine ld_of (B : Int) (lB _ ho1) ?_
  refine ifD_of (fun (hlt : (i : Int) < (B : Int)) => ?_) (fun (hge : ¬ (i : Int) < (B : Int)) => ?_)
  · generalize hLL : X ++ rO m (fresh ⟨B, Pn, S, W⟩) pv nv wv bv ⟨none, 0, 0⟩ :: (pseg ++ (nseg ++ (wseg ++ (bseg ++ Z)))) = LL at ho1
    refine lp_of (fun z' z L' => ∃ (j : Nat) (v : SlV) (sg G : HList), j ≤ Pn ∧ z' = Pn - j ∧ z = (v, (j : Int), ()) ∧ L' = G ++ sg ++ LL ∧ Own v 1 eSg ((List.replicate j (blk S)).map strV) sg) Pn ⟨0, ⟨none, 0, 0⟩, [], [], by omega, by omega, rfl, by simp, own_nil⟩ ?_
    rintro z' z _ ⟨j, v, sg, G, hj, rfl, rfl, rfl, own⟩
    have hvl := own.len
    rw [List.length_map, List.length_replicate] at hvl
    refine ld_of (Pn : Int) ((lc _ (List.mem_append_right _ ho1)).one 1 rfl) ?_
    refine ifD_of (fun (hlt2 : (j : Int) < (Pn : Int)) => ?_) (fun (hge2 : ¬ (j : Int) < (Pn : Int)) => ?_)
    · refine ld_of (S : Int) ((lc _ (List.mem_append_right _ ho1)).one 2 rfl) ?_
      refine cl_rd (rblank_s _ S (by omega)) ((⟨(blk S).toArray⟩ : ByteArray), ()) rfl (nw_of fun n3 _ => ?_)
      refine append_in elemSt srcSt ((n3, Obj.cells #[.string ⟨(blk S).toArray⟩] 9) :: G) LL own (by simp) (n := 1) (ws := [strV (blk S)]) (x := .slice (some ⟨n3, 0, none⟩) 1 1) (Src.sl (v := ⟨some ⟨n3, 0, none⟩, 1, 1⟩) ⟨rfl, Nat.le_refl _, .inr ⟨_, rfl, ldB List.mem_cons_self rfl⟩⟩) rfl (by omega) fun v' sg' hv' own' => ?_
      refine ⟨Pn - (j + 1), by omega, j + 1, v', sg', _, by omega, rfl, ?_, rfl, ?_⟩
      · rw [w64_id (by first | omega | (simp only; omega)) (by first | omega | (simp only; omega))]
        rfl
      · rw [List.replicate_succ', List.map_append]; exact own'
    · obtain rfl : j = Pn := by omega
      subst hLL
      have hd : ∀ (pv nv wv bv : SlV) (n o : Nat), True := fun _ _ _ _ _ _ => trivial
      have hLs : G ++ sg ++ (X ++ rO m (fresh ⟨B, j, S, W⟩) pv nv wv bv ⟨none, 0, 0⟩ :: (pseg ++ (nseg ++ (wseg ++ (bseg ++ Z))))) = (G ++ sg ++ X) ++ rO m (fresh ⟨B, j, S, W⟩) pv nv wv bv ⟨none, 0, 0⟩ :: (pseg ++ (nseg ++ (wseg ++ (bseg ++ Z)))) := by simp
      rw [hLs]
      clear hLs ho1
      have hGX : (G ++ sg ++ X ++ Z).Perm (rsegs (rs ++ [⟨v, sg, List.replicate j (blk S)⟩]) ++ (o1 :: (G ++ J))) := by
        rw [rsegs_append]
        have : rsegs [(⟨v, sg, List.replicate j (blk S)⟩ : RK)] = sg := by simp [rsegs]
        rw [this]
        classical
        rw [List.perm_iff_count] at hp ⊢
        intro z
        have := hp z
        simp only [List.append_eq, List.cons_append, List.count_append, List.count_cons, List.count_nil] at this ⊢
        omega
      generalize G ++ sg ++ X = Y at hGX
      refine ld_of pv (r_pg (m := m) (d := fresh ⟨B, j, S, W⟩) (nv := nv) (wv := wv) (bv := bv) (tv := ⟨none, 0, 0⟩) (by simp)) (nw_of fun n4 _ => ?_)
      refine append_in elemSs srcSs ((n4, Obj.cells #[.slice v.a v.len v.cap] 67) :: (Y ++ [rO m (fresh ⟨B, j, S, W⟩) pv nv wv bv ⟨none, 0, 0⟩])) (nseg ++ (wseg ++ (bseg ++ Z))) ownp (by simp) (n := 1) (ws := [RK.val ⟨v, sg, List.replicate j (blk S)⟩]) (x := .slice (some ⟨n4, 0, none⟩) 1 1) (Src.sl (v := ⟨some ⟨n4, 0, none⟩, 1, 1⟩) ⟨rfl, Nat.le_refl _, .inr ⟨_, rfl, ldB List.mem_cons_self rfl⟩⟩) rfl (by omega) fun pv' pseg' hv1 ownp' => ?_
      refine st_of (n := m) (off := 4) (c := #[.int .i64 B, .int .i64 j, .int .i64 S, .int .i64 W, .slice pv.a pv.len pv.cap, .slice nv.a nv.len nv.cap, .slice wv.a wv.len wv.cap, .slice bv.a bv.len bv.cap, .int .i64 0, .bool false, .int .i64 0, .int .i64 0, .slice none 0 0]) (T := tRf) (fz := (0, 0)) ((n4, Obj.cells #[.slice v.a v.len v.cap] 67) :: Y) (pseg' ++ (nseg ++ (wseg ++ (bseg ++ Z)))) rfl (by simp [rO, fresh]) (by simp) (.inl (Nat.le_refl _))
        #[.int .i64 B, .int .i64 j, .int .i64 S, .int .i64 W, .slice pv'.a pv'.len pv'.cap, .slice nv.a nv.len nv.cap, .slice wv.a wv.len wv.cap, .slice bv.a bv.len bv.cap, .int .i64 0, .bool false, .int .i64 0, .int .i64 0, .slice none 0 0] rfl ?_
      refine ld_of nv (ldB (n := m) (off := 5) (T := tRf) (fz := (0, 0)) (c := #[.int .i64 B, .int .i64 j, .int .i64 S, .int .i64 W, .slice pv'.a pv'.len pv'.cap, .slice nv.a nv.len nv.cap, .slice wv.a wv.len wv.cap, .slice bv.a bv.len bv.cap, .int .i64 0, .bool false, .int .i64 0, .int .i64 0, .slice none 0 0]) (by simp) rfl) (nw_of fun n5 _ => ?_)
      generalize (n4, Obj.cells #[.slice v.a v.len v.cap] 67) = o4
      refine append_in elemIn srcIn ((n5, Obj.cells #[.int .i64 0] 3) :: o4 :: (Y ++ ((m, Obj.cells #[.int .i64 B, .int .i64 j, .int .i64 S, .int .i64 W, .slice pv'.a pv'.len pv'.cap, .slice nv.a nv.len nv.cap, .slice wv.a wv.len wv.cap, .slice bv.a bv.len bv.cap, .int .i64 0, .bool false, .int .i64 0, .int .i64 0, .slice none 0 0] tRf) :: pseg'))) (wseg ++ (bseg ++ Z)) ownn (by simp) (n := 1) (ws := [.int .i64 0]) (x := .slice (some ⟨n5, 0, none⟩) 1 1) (Src.sl (v := ⟨some ⟨n5, 0, none⟩, 1, 1⟩) ⟨rfl, Nat.le_refl _, .inr ⟨_, rfl, ldB List.mem_cons_self rfl⟩⟩) rfl (by omega) fun nv' nseg' hv2 ownn' => ?_
      refine st_of (n := m) (off := 5) (c := #[.int .i64 B, .int .i64 j, .int .i64 S, .int .i64 W, .slice pv'.a pv'.len pv'.cap, .slice nv.a nv.len nv.cap, .slice wv.a wv.len wv.cap, .slice bv.a bv.len bv.cap, .int .i64 0, .bool false, .int .i64 0, .int .i64 0, .slice none 0 0]) (T := tRf) (fz := (0, 0)) ((n5, Obj.cells #[.int .i64 0] 3) :: o4 :: Y) (pseg' ++ (nseg' ++ (wseg ++ (bseg ++ Z)))) rfl (by simp) (by simp) (.inl (Nat.le_refl _))
        #[.int .i64 B, .int .i64 j, .int .i64 S, .int .i64 W, .slice pv'.a pv'.len pv'.cap, .slice nv'.a nv'.len nv'.cap, .slice wv.a wv.len wv.cap, .slice bv.a bv.len bv.cap, .int .i64 0, .bool false, .int .i64 0, .int .i64 0, .slice none 0 0] rfl ?_
      refine ld_of wv (ldB (n := m) (off := 6) (T := tRf) (fz := (0, 0)) (c := #[.int .i64 B, .int .i64 j, .int .i64 S, .int .i64 W, .slice pv'.a pv'.len pv'.cap, .slice nv'.a nv'.len nv'.cap, .slice wv.a wv.len wv.cap, .slice bv.a bv.len bv.cap, .int .i64 0, .bool false, .int .i64 0, .int .i64 0, .slice none 0 0]) (by simp) rfl) (nw_of fun n6 _ => ?_)
      generalize (n5, Obj.cells #[.int .i64 0] 3) = o5
      refine append_in elemIn srcIn ((n6, Obj.cells #[.int .i64 0] 3) :: o5 :: o4 :: (Y ++ ((m, Obj.cells #[.int .i64 B, .int .i64 j, .int .i64 S, .int .i64 W, .slice pv'.a pv'.len pv'.cap, .slice nv'.a nv'.len nv'.cap, .slice wv.a wv.len wv.cap, .slice bv.a bv.len bv.cap, .int .i64 0, .bool false, .int .i64 0, .int .i64 0, .slice none 0 0] tRf) :: (pseg' ++ nseg')))) (bseg ++ Z) ownw (by simp) (n := 1) (ws := [.int .i64 0]) (x := .slice (some ⟨n6, 0, none⟩) 1 1) (Src.sl (v := ⟨some ⟨n6, 0, none⟩, 1, 1⟩) ⟨rfl, Nat.le_refl _, .inr ⟨_, rfl, ldB List.mem_cons_self rfl⟩⟩) rfl (by omega) fun wv' wseg' hv3 ownw' => ?_
      refine st_of (n := m) (off := 6) (c := #[.int .i64 B, .int .i64 j, .int .i64 S, .int .i64 W, .slice pv'.a pv'.len pv'.cap, .slice nv'.a nv'.len nv'.cap, .slice wv.a wv.len wv.cap, .slice bv.a bv.len bv.cap, .int .i64 0, .bool false, .int .i64 0, .int .i64 0, .slice none 0 0]) (T := tRf) (fz := (0, 0)) ((n6, Obj.cells #[.int .i64 0] 3) :: o5 :: o4 :: Y) (pseg' ++ (nseg' ++ (wseg' ++ (bseg ++ Z)))) rfl (by simp) (by simp) (.inl (Nat.le_refl _))
        #[.int .i64 B, .int .i64 j, .int .i64 S, .int .i64 W, .slice pv'.a pv'.len pv'.cap, .slice nv'.a nv'.len nv'.cap, .slice wv'.a wv'.len wv'.cap, .slice bv.a bv.len bv.cap, .int .i64 0, .bool false, .int .i64 0, .int .i64 0, .slice none 0 0] rfl ?_
      refine ld_of bv (ldB (n := m) (off := 7) (T := tRf) (fz := (0, 0)) (c := #[.int .i64 B, .int .i64 j, .int .i64 S, .int .i64 W, .slice pv'.a pv'.len pv'.cap, .slice nv'.a nv'.len nv'.cap, .slice wv'.a wv'.len wv'.cap, .slice bv.a bv.len bv.cap, .int .i64 0, .bool false, .int .i64 0, .int .i64 0, .slice none 0 0]) (by simp) rfl) (nw_of fun n7 _ => ?_)
      generalize (n6, Obj.cells #[.int .i64 0] 3) = o6
      refine append_in elemBo srcBo ((n7, Obj.cells #[.bool false] 4) :: o6 :: o5 :: o4 :: (Y ++ ((m, Obj.cells #[.int .i64 B, .int .i64 j, .int .i64 S, .int .i64 W, .slice pv'.a pv'.len pv'.cap, .slice nv'.a nv'.len nv'.cap, .slice wv'.a wv'.len wv'.cap, .slice bv.a bv.len bv.cap, .int .i64 0, .bool false, .int .i64 0, .int .i64 0, .slice none 0 0] tRf) :: (pseg' ++ (nseg' ++ wseg'))))) Z ownb (by simp) (n := 1) (ws := [.bool false]) (x := .slice (some ⟨n7, 0, none⟩) 1 1) (Src.sl (v := ⟨some ⟨n7, 0, none⟩, 1, 1⟩) ⟨rfl, Nat.le_refl _, .inr ⟨_, rfl, ldB List.mem_cons_self rfl⟩⟩) rfl (by omega) fun bv' bseg' hv4 ownb' => ?_
      refine st_of (n := m) (off := 7) (c := #[.int .i64 B, .int .i64 j, .int .i64 S, .int .i64 W, .slice pv'.a pv'.len pv'.cap, .slice nv'.a nv'.len nv'.cap, .slice wv'.a wv'.len wv'.cap, .slice bv.a bv.len bv.cap, .int .i64 0, .bool false, .int .i64 0, .int .i64 0, .slice none 0 0]) (T := tRf) (fz := (0, 0)) ((n7, Obj.cells #[.bool false] 4) :: o6 :: o5 :: o4 :: Y) (pseg' ++ (nseg' ++ (wseg' ++ (bseg' ++ Z)))) rfl (by simp) (by simp) (.inl (Nat.le_refl _))
        #[.int .i64 B, .int .i64 j, .int .i64 S, .int .i64 W, .slice pv'.a pv'.len pv'.cap, .slice nv'.a nv'.len nv'.cap, .slice wv'.a wv'.len wv'.cap, .slice bv'.a bv'.len bv'.cap, .int .i64 0, .bool false, .int .i64 0, .int .i64 0, .slice none 0 0] rfl ?_
      generalize (n7, Obj.cells #[.bool false] 4) = o7
      refine ⟨B - (i + 1), by omega, i + 1, pv', pseg', rs ++ [⟨v, sg, List.replicate j (blk S)⟩], nv', nseg', wv', wseg', bv', bseg', o7 :: o6 :: o5 :: o4 :: (G ++ J), o7 :: o6 :: o5 :: o4 :: Y, Z, by omega, rfl, ?_, rfl, ?_, ?_, ?_, ?_, ?_, ?_, ?_⟩
      · rw [w64_id (by first | omega | (simp only; omega)) (by first | omega | (simp only; omega))]
        rfl
      · classical
        rw [List.perm_iff_count] at hGX ⊢
        intro z
        have := hGX z
        simp only [List.append_eq, List.cons_append, List.count_append, List.count_cons, List.count_nil] at this ⊢
        omega
      · rw [List.map_append]; exact ownp'
      · intro z hz
        rcases List.mem_append.1 hz with h5 | h5
        · exact hokr z h5
        · rw [List.mem_singleton.1 h5]; exact own
      · rw [List.map_append, hrs, List.replicate_succ' (n := i), List.map_singleton]
      · rw [List.replicate_succ', ivs_append]; exact ownn'
      · rw [List.replicate_succ', ivs_append]; exact ownw'
      · rw [List.replicate_succ', bos, List.map_append]; exact ownb'
  · obtain rfl : i = B := by omega
    have hpg : (fresh ⟨i, Pn, S, W⟩).bs.map Blk.pages = List.replicate i (List.replicate Pn (blk S)) := by simp [fresh, blk0]
    have hnx : nexts (fresh ⟨i, Pn, S, W⟩) = List.replicate i 0 := by simp [nexts, fresh, blk0]
    have hwr : wears (fresh ⟨i, Pn, S, W⟩) = List.replicate i 0 := by simp [wears, fresh, blk0]
    have hbd : bads (fresh ⟨i, Pn, S, W⟩) = List.replicate i false := by simp [bads, fresh, blk0]
    refine .drop (A := rL m (fresh ⟨i, Pn, S, W⟩) pv pseg rs nv nseg wv wseg bv bseg ⟨none, 0, 0⟩ [] []) (J := o1 :: J) (.inr ⟨hr, m, rfl, pv, pseg, rs, nv, nseg, wv, wseg, bv, bseg, ⟨none, 0, 0⟩, [], [], rfl, ownp, hokr, by rw [hrs, hpg], by rw [hnx]; exact ownn, by rw [hwr]; exact ownw, by rw [hbd]; exact ownb, own_nil, by simp, rfl⟩) ?_
    unfold rL
    have : tsegs [] = [] := rfl
    rw [this]
    classical
    rw [List.perm_iff_count] at hp ⊢
    intro z
    have := hp z
    simp only [List.append_eq, List.cons_append, List.count_append, List.count_cons, List.count_nil] at this ⊢
    omega
end Go.Proofs.Ytlabcgnegbdlfaa
set_option linter.unusedVariables false
set_option linter.unusedSimpArgs false
namespace Go.Proofs.Ytlabcgnegbdlfaa
open Go.HL

structure DG (d : Dev) (n : Nat) : Prop where
  ok : DvOk d
  few : d.torn.length + n ≤ 1048576
def progI (d : Dev) (b : Int) (h : Hd) (p : List UInt8) : Int × Dev := if (imgR h p d.c.S).2 ≠ 0 then ((imgR h p d.c.S).2, d) else prog d b h.2.2.2.2.1 (imgR h p d.c.S).1
def openR (d : Dev) (b ep : Int) : Int × Dev := progI d b (1, 0, 1, ep, 0, ()) []
def appG (b ep at' kind n : Int) : Dev → Nat → List (List UInt8) → Int × Dev
  | d, _, [] => (0, d)
  | d, i, p :: r => if (progI d b (kind, i, n, ep, at' + i, ()) p).1 = 0 then appG b ep at' kind n (progI d b (kind, i, n, ep, at' + i, ()) p).2 (i + 1) r else progI d b (kind, i, n, ep, at' + i, ()) p
def appR (d : Dev) (b ep at' kind : Int) (l : List (List UInt8)) : Int × Dev := if l = [] then (2, d) else appG b ep at' kind l.length d 0 l
def itB (x : It) : List Int := [x.1, x.2.1, x.2.2.1]
instance (l : List Int) : Decidable (inB l) := by unfold inB; infer_instance
def sealLd (l : List It) : List UInt8 := (l.flatMap itB).map u8of
def sealW (d : Dev) (b ep at' : Int) (l : List It) : Int × Dev := if inB (l.flatMap itB) then progI d b (4, 0, 1, ep, at', ()) (sealLd l) else (3, d)
def loadR (d : Dev) (b : Int) : List (List UInt8) × Int := if findE d b 0 ≠ 0 then ([], findE d b 0) else ((List.range d.c.P).map fun (p : Nat) => (readR d b (p : Int)).1, 0)
theorem imgR_0 {h : Hd} {p : List UInt8} {size : Int} (e : (imgR h p size).2 = 0) : hErr h = 0 := by
  unfold imgR at e
  split at e
  · simp at e
  · split at e
    · rename_i h2; exact absurd e h2
    · rename_i h2; exact Classical.not_not.1 h2
theorem progI_0 {d : Dev} {b : Int} {h : Hd} {p : List UInt8} (e : (progI d b h p).1 = 0) : hErr h = 0 := by
  unfold progI at e
  split at e
  · rename_i h2; exact absurd e h2
  · rename_i h2; exact imgR_0 (Classical.not_not.1 h2)
theorem progI_g {d : Dev} {n : Nat} (g : DG d (n + 1)) (b : Int) (h : Hd) (p : List UInt8) : DG (progI d b h p).2 n := by
  unfold progI
  split
  · exact ⟨g.ok, by have := g.few; show d.torn.length + n ≤ _; omega⟩
  · refine ⟨prog_ok g.ok _ _ _, ?_⟩
    have h1 := prog_torn d b h.2.2.2.2.1 (imgR h p d.c.S).1
    have := g.few
    omega
theorem DG.le {d : Dev} {n m : Nat} (g : DG d n) (h : m ≤ n) : DG d m := ⟨g.ok, by have := g.few; omega⟩
theorem appG_g {b ep at' kind n : Int} : ∀ (l : List (List UInt8)) {d : Dev} {i m : Nat}, DG d (l.length + m) → DG (appG b ep at' kind n d i l).2 m
  | [], d, i, m, g => g.le (by simp)
  | p :: r, d, i, m, g => by
    have g1 : DG d (r.length + m + 1) := g.le (by simp; omega)
    unfold appG
    split
    · exact appG_g r (progI_g g1 _ _ _)
    · exact (progI_g g1 _ _ _).le (by omega)
theorem appR_g {d : Dev} {l : List (List UInt8)} {m : Nat} (g : DG d (l.length + m)) (b ep at' kind : Int) : DG (appR d b ep at' kind l).2 m := by
  unfold appR
  split
  · exact g.le (by omega)
  · exact appG_g l g
theorem sealW_g {d : Dev} {n : Nat} (g : DG d (n + 1)) (b ep at' : Int) (l : List It) : DG (sealW d b ep at' l).2 n := by
  unfold sealW
  split
  · exact progI_g g _ _ _
  · exact g.le (by omega)
theorem p3 {A B C : HList} : (A ++ (B ++ C)).Perm (B ++ (A ++ C)) := List.perm_append_comm_assoc A B C
/-- A call that changes a device and reads the rest. -/
def DevK (H : Nat → Dev → HList → Prop) (m : Nat) (q : Int × Dev) (R : HList) (r : Value) (L' : HList) : Prop := ∃ A', L' = A' ++ R ∧ r = .int .i64 q.1 ∧ H m q.2 A'
theorem prog1_cl (m : Nat) (d : Dev) (A R : HList) (h : FH m d A) (g : DG d 1) (b : Int) (hd : Hd) (u : SlV) (p : List UInt8) (hu : BSl R u p) :
    CallF PP 82 #[.pointer (some ⟨m, 0, none⟩), .int .i64 b, .agg #[.int .i64 hd.1, .int .i64 hd.2.1, .int .i64 hd.2.2.1, .int .i64 hd.2.2.2.1, .int .i64 hd.2.2.2.2.1], .slice u.a u.len u.cap] (A ++ R) (DevK FH m (progI d b hd p) R) := by
  refine c82 (some ⟨m, 0, none⟩) b hd u ?_
  unfold s82
  have hc := g.ok.c.s
  refine cl_rd (Reads.in (X := []) (Y := R) (config_rd m d A h)) ((d.c.B, d.c.P, d.c.S, d.c.W, ()), ()) rfl ?_
  refine cl_of (pimage_cl (A ++ R) hd u p hu.right (d.c.S : Int) (by omega)) ?_
  rintro _ _ - ⟨s, sg, rfl, rfl, own⟩
  refine ⟨(s, (imgR hd p d.c.S).2, ()), rfl, ifb_of (fun (h0 : (imgR hd p d.c.S).2 = 0) => ?_) (fun (h0 : ¬ (imgR hd p d.c.S).2 = 0) => ?_)⟩
  · refine cl_of (CallF.perm p3 (program_cl m d A (sg ++ R) h g.ok (by have := g.few; omega) b hd.2.2.2.2.1 s (imgR hd p d.c.S).1 own.sl.left)) ?_
    rintro _ _ - ⟨A', rfl, rfl, h'⟩
    have e : progI d b hd p = prog d b hd.2.2.2.2.1 (imgR hd p d.c.S).1 := by unfold progI; rw [if_neg (by simpa using h0)]
    refine ⟨((prog d b hd.2.2.2.2.1 (imgR hd p d.c.S).1).1, ()), rfl, .drop (A := A' ++ R) (J := sg) ⟨A', rfl, by rw [e], by rw [e]; exact h'⟩ ?_⟩
    exact (p3.trans List.perm_append_comm)
  · have e : progI d b hd p = ((imgR hd p d.c.S).2, d) := by unfold progI; rw [if_pos h0]
    exact .app (.of ⟨A, rfl, by rw [e], by rw [e]; exact h⟩)
theorem open_cl (m : Nat) (d : Dev) (A R : HList) (h : FH m d A) (g : DG d 1) (b ep : Int) : CallF PP 40 #[.pointer (some ⟨m, 0, none⟩), .int .i64 b, .int .i64 ep] (A ++ R) (DevK FH m (openR d b ep) R) := by
  refine c40 (some ⟨m, 0, none⟩) b ep ?_
  unfold s40
  refine cl_of (prog1_cl m d A R h g b (1, 0, 1, ep, 0, ()) ⟨none, 0, 0⟩ [] (Sl.nil 1)) ?_
  rintro _ _ - ⟨A', rfl, rfl, h'⟩
  exact ⟨((openR d b ep).1, ()), rfl, .of ⟨A', rfl, rfl, h'⟩⟩
theorem append_cl (m : Nat) (d : Dev) (A R : HList) (h : FH m d A) (u : SlV) (l : List PV) (hu : Parts R u l) (hl : l.length ≤ 1000000) (g : DG d l.length) (b ep at' kind : Int) (hat : intWf .i64 at') :
    CallF PP 41 #[.pointer (some ⟨m, 0, none⟩), .int .i64 b, .int .i64 ep, .int .i64 at', .int .i64 kind, .slice u.a u.len u.cap] (A ++ R) (DevK FH m (appR d b ep at' kind (l.map Prod.snd)) R) := by
  refine c41 (some ⟨m, 0, none⟩) b ep at' kind u ?_
  unfold s41
  have hul := hu.len
  have hat' := wf_i64 hat
  refine ifb_of (fun (h0 : (u.len : Int) = 0) => ?_) (fun (h0 : ¬ (u.len : Int) = 0) => ?_)
  · have e : l.map Prod.snd = [] := by rw [List.map_eq_nil_iff]; exact List.length_eq_zero_iff.1 (by omega)
    exact .of ⟨A, rfl, by unfold appR; rw [if_pos e], by unfold appR; rw [if_pos e]; exact h⟩
  have hne : l.map Prod.snd ≠ [] := fun e => h0 (by have := congrArg List.length e; rw [List.length_map, List.length_nil] at this; omega)
  have hA : appR d b ep at' kind (l.map Prod.snd) = appG b ep at' kind l.length d 0 (l.map Prod.snd) := by unfold appR; rw [if_neg hne, List.length_map]
  rw [hA]
  refine lp_of (fun z' z L' => ∃ (i : Nat) (x : Int) (d' : Dev) (A' : HList), i ≤ l.length ∧ z' = l.length - i ∧ z = ((i : Int), kind, x, (l.length : Int), ep, at' + i, ()) ∧ L' = A' ++ R ∧ FH m d' A' ∧ DG d' (l.length - i) ∧ (0 < i → at' ≤ 15) ∧ appG b ep at' kind l.length d 0 (l.map Prod.snd) = appG b ep at' kind l.length d' i ((l.drop i).map Prod.snd)) l.length
    ⟨0, 0, d, A, by omega, by omega, by rw [hul]; simp, rfl, h, g, by omega, by simp⟩ ?_
  rintro z' z _ ⟨i, x, d', A', hi, rfl, rfl, rfl, h', g', h15, hst⟩
  dsimp only
  refine ifb_of (fun (hlt : (i : Int) < u.len) => ?_) (fun (hge : ¬ (i : Int) < u.len) => ?_)
  · have hi' : i < l.length := by omega
    refine elp_1 (hu.sl.mono mem_r) rfl (by rw [List.length_map]; exact hi') fun a ha => ?_
    rw [List.getElem_map] at ha
    refine ld_of l[i].1 ha (cl_of (prog1_cl m d' A' R h' (g'.le (by omega)) b (kind, (i : Int), (l.length : Int), ep, at' + i, ()) l[i].1 l[i].2 (hu.val _ (List.getElem_mem hi'))) ?_)
    rintro _ _ - ⟨A2, rfl, rfl, h2⟩
    rw [List.drop_eq_getElem_cons hi', List.map_cons, appG] at hst
    refine ⟨((progI d' b (kind, (i : Int), (l.length : Int), ep, at' + i, ()) l[i].2).1, ()), rfl, ifb_of (fun (h0 : (progI d' b (kind, (i : Int), (l.length : Int), ep, at' + i, ()) l[i].2).1 = 0) => ?_) (fun (h0 : ¬ (progI d' b (kind, (i : Int), (l.length : Int), ep, at' + i, ()) l[i].2).1 = 0) => ?_)⟩
    · have hk := hErr_ok (progI_0 h0)
      simp only at hk
      rw [if_pos h0] at hst
      refine w64_of (by omega) (w64_of (by omega) ⟨l.length - (i + 1), by omega, i + 1, i, _, A2, by omega, rfl, ?_, rfl, h2, progI_g (n := l.length - (i + 1)) (g'.le (by omega)) _ _ _, fun _ => by omega, hst⟩)
      rw [show at' + (i : Int) + 1 = at' + ((i + 1 : Nat) : Int) by omega]
      rfl
    · rw [if_neg h0] at hst
      exact .of ⟨A2, rfl, by rw [hst], by rw [hst]; exact h2⟩
  · obtain rfl : i = l.length := by omega
    rw [List.drop_length, List.map_nil, appG] at hst
    exact .of ⟨A', rfl, by rw [hst], by rw [hst]; exact h'⟩
theorem inB_app {a b : List Int} : inB (a ++ b) ↔ inB a ∧ inB b := by
  unfold inB
  constructor
  · exact fun h => ⟨fun n hn => h n (List.mem_append_left _ hn), fun n hn => h n (List.mem_append_right _ hn)⟩
  · rintro ⟨h1, h2⟩ n hn
    rcases List.mem_append.1 hn with h | h
    · exact h1 n h
    · exact h2 n h
theorem inB_no {l : List It} {x : It} (hx : x ∈ l) (h : ¬ inB (itB x)) : ¬ inB (l.flatMap itB) := fun hh => h fun n hn => hh n (List.mem_flatMap.2 ⟨x, hx, hn⟩)
theorem sealLd_len (l : List It) : (sealLd l).length = 3 * l.length := by
  unfold sealLd
  rw [List.length_map]
  induction l with
  | nil => rfl
  | cons x r ih => rw [List.flatMap_cons, List.length_append, ih]; simp [itB]; omega
theorem sealLd_snoc (l : List It) (x : It) : sealLd (l ++ [x]) = sealLd l ++ (itB x).map u8of := by simp [sealLd]
theorem seal_w_cl (m : Nat) (d : Dev) (A R : HList) (h : FH m d A) (u : SlV) (l : List It) (hu : Sl R u 3 (l.flatMap itEnc)) (hl : l.length ≤ 300) (g : DG d 1) (b ep at' : Int) :
    CallF PP 43 #[.pointer (some ⟨m, 0, none⟩), .int .i64 b, .int .i64 ep, .int .i64 at', .slice u.a u.len u.cap] (A ++ R) (DevK FH m (sealW d b ep at' l) R) := by
  refine c43 (some ⟨m, 0, none⟩) b ep at' u ?_
  unfold s43
  have hul := hu.els_len itEnc_len (by decide)
  refine lp_of (fun z' z L' => ∃ (i : Nat) (s : SlV) (sg J : HList), i ≤ l.length ∧ z' = l.length - i ∧ z = (s, (i : Int), ()) ∧ L' = sg ++ (J ++ (A ++ R)) ∧ Own s 1 eB (bvs (sealLd (l.take i))) sg ∧ inB ((l.take i).flatMap itB)) l.length ⟨0, ⟨none, 0, 0⟩, [], [], by omega, by omega, rfl, rfl, own_nil, by intro n hn; simp at hn⟩ ?_
  rintro z' z _ ⟨i, s, sg, J, hi, rfl, rfl, rfl, own, hin⟩
  dsimp only
  refine ifb_of (fun (hlt : (i : Int) < u.len) => ?_) (fun (hge : ¬ (i : Int) < u.len) => ?_)
  · have hi' : i < l.length := by omega
    refine elp_el itEnc_len (by decide) (((hu.mono mem_r).mono mem_r).mono mem_r) rfl hi' fun a ha => ?_
    refine ld_of (l[i] : It) ha (nw_of fun n2 _ => ?_)
    have hlen := sealLd_len (l.take i)
    rw [List.length_take] at hlen
    refine cl_of (CallF.perm List.perm_middle (bytes_cl ((n2, Obj.cells #[.int .i64 l[i].1, .int .i64 l[i].2.1, .int .i64 l[i].2.2.1] 3) :: (J ++ (A ++ R))) s (sealLd (l.take i)) sg own (by omega) ⟨some ⟨n2, 0, none⟩, 3, 3⟩ (itB l[i]) ⟨rfl, Nat.le_refl _, .inr ⟨_, rfl, ldB List.mem_cons_self rfl⟩⟩ (by simp [itB]))) ?_
    rintro _ _ - ⟨sg2, rfl, ⟨hb, v2, rfl, own2⟩ | ⟨hb, rfl⟩⟩
    · refine ⟨(v2, true, ()), rfl, ifT rfl (w64_of (by omega) ⟨l.length - (i + 1), by omega, i + 1, v2, sg2, (n2, Obj.cells #[.int .i64 l[i].1, .int .i64 l[i].2.1, .int .i64 l[i].2.2.1] 3) :: J, by omega, rfl, rfl, by simp, ?_, ?_⟩)⟩
      · rw [List.take_succ_eq_append_getElem hi', sealLd_snoc]; exact own2
      · rw [List.take_succ_eq_append_getElem hi', List.flatMap_append, inB_app, List.flatMap_singleton]; exact ⟨hin, hb⟩
    · have e : sealW d b ep at' l = (3, d) := by unfold sealW; rw [if_neg (inB_no (List.getElem_mem hi') hb)]
      exact ⟨(⟨none, 0, 0⟩, false, ()), rfl, ifF rfl (.app (.cons (.app (.of ⟨A, rfl, by rw [e], by rw [e]; exact h⟩))))⟩
  · obtain rfl : i = l.length := by omega
    rw [List.take_length] at own hin
    refine cl_of (CallF.perm (L := A ++ (sg ++ (J ++ R))) ?_ (prog1_cl m d A (sg ++ (J ++ R)) h g b (4, 0, 1, ep, at', ()) s (sealLd l) own.sl.left)) ?_
    · classical
      rw [List.perm_iff_count]
      intro z
      simp only [List.count_append]
      omega
    rintro _ _ - ⟨A2, rfl, rfl, h2⟩
    have e : sealW d b ep at' l = progI d b (4, 0, 1, ep, at', ()) (sealLd l) := by unfold sealW; rw [if_pos hin]
    refine ⟨(_, ()), rfl, .drop (A := A2 ++ R) (J := sg ++ J) ⟨A2, rfl, by rw [e], by rw [e]; exact h2⟩ ?_⟩
    classical
    rw [List.perm_iff_count]
    intro z
    simp only [List.count_append]
    omega
def LoadK (q : List (List UInt8) × Int) (A : HList) (r : Value) (L' : HList) : Prop := ∃ (v : SlV) (gs : List PG) (seg : HList), r = .tuple #[.slice v.a v.len v.cap, .int .i64 q.2] ∧ L' = seg ++ (pgs gs ++ A) ∧ Own v 1 tB (gs.map PG.val) seg ∧ (∀ g ∈ gs, g.Ok) ∧ gs.map PG.l = q.1
theorem findE_p {d : Dev} {b : Int} {p : Nat} (hp : p < d.c.P) : findE d b p = findE d b 0 := by
  unfold findE
  have h1 : (0 ≤ (p : Int) ∧ (p : Int) < d.c.P) := by omega
  have h2 : (0 ≤ (0 : Int) ∧ (0 : Int) < d.c.P) := by omega
  simp only [h1, h2, and_self, not_true_eq_false, if_false]
theorem readR_err {d : Dev} (ok : DvOk d) (b p : Int) : (readR d b p).2 = findE d b p := by
  unfold readR
  split
  · rfl
  · rename_i h
    have h0 : findE d b p = 0 := Classical.not_not.1 h
    have := findE_0 h0
    split
    · rename_i hn
      have hlt : b.toNat < d.bs.length := by omega
      rw [List.getElem?_eq_getElem hlt] at hn; cases hn
    · split <;> exact h0.symm
theorem DG.pb {d : Dev} (ok : DvOk d) : 4 ≤ d.c.P ∧ d.c.P ≤ 16 := ok.c.p
/-- What loading pages one by one has come to. -/
def LInv (d : Dev) (b : Int) (A : HList) (i : Nat) (s : SlV) (L' : HList) : Prop := ∃ (gs : List PG) (sg J : HList), L'.Perm (sg ++ (pgs gs ++ (J ++ A))) ∧ Own s 1 tB (gs.map PG.val) sg ∧ (∀ g ∈ gs, g.Ok) ∧ gs.map PG.l = (List.range i).map fun (p : Nat) => (readR d b (p : Int)).1
theorem LInv.nil (d : Dev) (b : Int) (A : HList) : LInv d b A 0 ⟨none, 0, 0⟩ A := ⟨[], [], [], List.Perm.refl _, own_nil, by simp, rfl⟩
theorem LInv.p {d : Dev} {b : Int} {A : HList} {i : Nat} {s : SlV} {L' : HList} (h : LInv d b A i s L') : ∃ G : HList, L'.Perm (A ++ G) := by
  obtain ⟨gs, sg, J, hp, -⟩ := h
  exact ⟨sg ++ (pgs gs ++ J), pc fun z => by have := pcn hp z; simp only [cnt_a] at this ⊢; omega⟩
theorem LInv.fin {d : Dev} {b : Int} {A : HList} {s : SlV} {L' : HList} (h : LInv d b A d.c.P s L') (h0 : findE d b 0 = 0) : HL.Ends (LoadK (loadR d b) A) (.tuple #[.slice s.a s.len s.cap, .int .i64 0]) L' := by
  obtain ⟨gs, sg, J, hp, own, hok, hg⟩ := h
  have e : loadR d b = ((List.range d.c.P).map fun (p : Nat) => (readR d b (p : Int)).1, 0) := by unfold loadR; rw [if_neg (by simpa using h0)]
  exact .drop (A := sg ++ (pgs gs ++ A)) (J := J) ⟨s, gs, sg, by rw [e], rfl, own, hok, by rw [e]; exact hg⟩ (pc fun z => by have := pcn hp z; simp only [cnt_a] at this ⊢; omega)
theorem LInv.snoc {d : Dev} {b : Int} {A : HList} {i : Nat} {s : SlV} {L' : HList} (h : LInv d b A i s L') (hi : i ≤ 16) (g : PG) (hg : g.Ok) (hl : g.l = (readR d b i).1) {L2 : HList} (hp2 : L2.Perm (g.seg ++ L')) {k : SlV → HP} (hk : ∀ s' L', LInv d b A (i + 1) s' L' → k s' L') :
    apv PP tPs tPs tPs tB s 1 [g.val] k L2 := by
  obtain ⟨gs, sg, J, hp, own, hok, hgl⟩ := h
  have hln := congrArg List.length hgl
  rw [List.length_map, List.length_map, List.length_range] at hln
  have hsl := own.len
  rw [List.length_map] at hsl
  refine apv_pm elemPs srcPs (Y := g.seg ++ (pgs gs ++ (J ++ A))) own (pc fun z => by have := pcn hp z; have := pcn hp2 z; simp only [cnt_a] at *; omega) rfl rfl (by omega) fun s2 sg2 _ own2 => hk _ _ ⟨gs ++ [g], sg2, J, ?_, ?_, ?_, ?_⟩
  · rw [pgs_append, pgs_one]
    exact pc fun z => by simp only [cnt_a]; omega
  · rw [List.map_append]; exact own2
  · intro g' hg'
    rcases List.mem_append.1 hg' with h1 | h1
    · exact hok g' h1
    · rw [List.mem_singleton.1 h1]; exact hg
  · rw [List.range_succ, List.map_append, List.map_append, hgl, List.map_singleton, List.map_singleton, hl]
theorem LInv.err {d : Dev} {b : Int} {A : HList} {i : Nat} {s : SlV} {L' J L2 : HList} (h : LInv d b A i s L') (hi : i < d.c.P) {z : Int} (hz : z = findE d b i) (hne : z ≠ 0) (hp : L2.Perm (J ++ L')) : HL.Ends (LoadK (loadR d b) A) (.tuple #[.slice none 0 0, .int .i64 z]) L2 := by
  obtain ⟨G, hG⟩ := h.p
  have e : loadR d b = ([], z) := by rw [findE_p hi] at hz; unfold loadR; rw [← hz, if_pos hne]
  exact .drop (A := A) (J := J ++ G) ⟨⟨none, 0, 0⟩, [], [], by rw [e], rfl, own_nil, by simp, by rw [e]; rfl⟩ (pc fun z => by have := pcn hG z; have := pcn hp z; simp only [cnt_a] at *; omega)
theorem load_cl (m : Nat) (d : Dev) (A : HList) (h : FH m d A) (ok : DvOk d) (b : Int) : CallF PP 46 #[.pointer (some ⟨m, 0, none⟩), .int .i64 b] A (LoadK (loadR d b) A) := by
  refine c46 (some ⟨m, 0, none⟩) b ?_
  unfold s46
  have hP := DG.pb ok
  refine ifF rfl (cl_rd (config_rd m d A h) ((d.c.B, d.c.P, d.c.S, d.c.W, ()), ()) rfl ?_)
  refine lp_of (fun z' z L' => ∃ (i : Nat) (s : SlV), i ≤ d.c.P ∧ z' = d.c.P - i ∧ z = (s, (i : Int), ()) ∧ LInv d b A i s L' ∧ (0 < i → findE d b 0 = 0)) d.c.P ⟨0, ⟨none, 0, 0⟩, by omega, by omega, rfl, LInv.nil d b A, by omega⟩ ?_
  rintro z' z L1 ⟨i, s, hi, rfl, rfl, hI, h0⟩
  dsimp only
  obtain ⟨G, hG⟩ := hI.p
  refine ifb_of (fun (hlt : (i : Int) < d.c.P) => ?_) (fun (hge : ¬ (i : Int) < d.c.P) => ?_)
  · have hi' : i < d.c.P := by omega
    refine cl_pm (read_cl m d A h ok b i) hG ?_
    rintro _ _ ⟨g, rfl, rfl, hg, hgl⟩
    have hre := readR_err ok b (i : Int)
    have hpp : ((g.seg ++ A) ++ G).Perm (g.seg ++ L1) := pc fun z => by have := pcn hG z; simp only [cnt_a] at *; omega
    refine ⟨_, List.Perm.refl _, (g.v, (readR d b (i : Int)).2, ()), rfl, ifb_of (fun (he : (readR d b (i : Int)).2 = 0) => ?_) (fun (he : ¬ (readR d b (i : Int)).2 = 0) => hI.err hi' hre he hpp)⟩
    exact hI.snoc (by omega) g hg hgl hpp fun s' L' hI' => w64_of (by omega) ⟨d.c.P - (i + 1), by omega, i + 1, s', by omega, rfl, rfl, hI', fun _ => by rw [← findE_p hi', ← hre]; exact he⟩
  · obtain rfl : i = d.c.P := by omega
    exact hI.fin (h0 (by omega))
theorem rone_cl (m : Nat) (d : Dev) (A R : HList) (h : RH m d A) (g : DG d 1) (b : Int) (hd : Hd) (u : SlV) (p : List UInt8) (hu : BSl R u p) :
    CallF PP 87 #[.pointer (some ⟨m, 0, none⟩), .int .i64 b, .agg #[.int .i64 hd.1, .int .i64 hd.2.1, .int .i64 hd.2.2.1, .int .i64 hd.2.2.2.1, .int .i64 hd.2.2.2.2.1], .slice u.a u.len u.cap] (A ++ R) (DevK RH m (progI d b hd p) R) := by
  refine c87 (some ⟨m, 0, none⟩) b hd u ?_
  unfold s87
  have hc := g.ok.c.s
  have hS : LdAt ⟨m, 2, none⟩ [.int .i64 d.c.S] (A ++ R) := by
    obtain ⟨pv, pseg, rs, nv, nseg, wv, wseg, bv, bseg, tv, tseg, ts, rfl, hh⟩ := h
    exact (r_S rL_o).mono mem_l
  refine nilc_of rfl (ld_of (d.c.S : Int) hS ?_)
  refine cl_of (rimage_cl (A ++ R) hd u p hu.right (d.c.S : Int) (by omega)) ?_
  rintro _ _ - ⟨s, sg, rfl, rfl, own⟩
  refine ⟨(s, (imgR hd p d.c.S).2, ()), rfl, ifb_of (fun (h0 : (imgR hd p d.c.S).2 = 0) => ?_) (fun (h0 : ¬ (imgR hd p d.c.S).2 = 0) => ?_)⟩
  · refine cl_of (CallF.perm p3 (rprogram_cl m d A (sg ++ R) h g.ok (by have := g.few; omega) b hd.2.2.2.2.1 s (imgR hd p d.c.S).1 own.sl.left)) ?_
    rintro _ _ - ⟨A', rfl, rfl, h'⟩
    have e : progI d b hd p = prog d b hd.2.2.2.2.1 (imgR hd p d.c.S).1 := by unfold progI; rw [if_neg (by simpa using h0)]
    refine ⟨((prog d b hd.2.2.2.2.1 (imgR hd p d.c.S).1).1, ()), rfl, .drop (A := A' ++ R) (J := sg) ⟨A', rfl, by rw [e], by rw [e]; exact h'⟩ ?_⟩
    exact (p3.trans List.perm_append_comm)
  · have e : progI d b hd p = ((imgR hd p d.c.S).2, d) := by unfold progI; rw [if_pos h0]
    exact .app (.of ⟨A, rfl, by rw [e], by rw [e]; exact h⟩)
theorem ropen_cl (m : Nat) (d : Dev) (A R : HList) (h : RH m d A) (g : DG d 1) (b ep : Int) : CallF PP 49 #[.pointer (some ⟨m, 0, none⟩), .int .i64 b, .int .i64 ep] (A ++ R) (DevK RH m (openR d b ep) R) := by
  refine c49 (some ⟨m, 0, none⟩) b ep ?_
  unfold s49
  refine cl_of (rone_cl m d A R h g b (1, 0, 1, ep, 0, ()) ⟨none, 0, 0⟩ [] (Sl.nil 1)) ?_
  rintro _ _ - ⟨A', rfl, rfl, h'⟩
  exact ⟨((openR d b ep).1, ()), rfl, .of ⟨A', rfl, rfl, h'⟩⟩
theorem rappend_cl (m : Nat) (d : Dev) (A R : HList) (h : RH m d A) (u : SlV) (l : List PV) (hu : Parts R u l) (hl : l.length ≤ 1000000) (g : DG d l.length) (b ep at' kind : Int) (hat : intWf .i64 at') :
    CallF PP 50 #[.pointer (some ⟨m, 0, none⟩), .int .i64 b, .int .i64 ep, .int .i64 at', .int .i64 kind, .slice u.a u.len u.cap] (A ++ R) (DevK RH m (appR d b ep at' kind (l.map Prod.snd)) R) := by
  refine c50 (some ⟨m, 0, none⟩) b ep at' kind u ?_
  unfold s50
  have hul := hu.len
  have hat' := wf_i64 hat
  refine ifb_of (fun (h0 : (u.len : Int) = 0) => ?_) (fun (h0 : ¬ (u.len : Int) = 0) => ?_)
  · have e : l.map Prod.snd = [] := by rw [List.map_eq_nil_iff]; exact List.length_eq_zero_iff.1 (by omega)
    exact .of ⟨A, rfl, by unfold appR; rw [if_pos e], by unfold appR; rw [if_pos e]; exact h⟩
  have hne : l.map Prod.snd ≠ [] := fun e => h0 (by have := congrArg List.length e; rw [List.length_map, List.length_nil] at this; omega)
  have hA : appR d b ep at' kind (l.map Prod.snd) = appG b ep at' kind l.length d 0 (l.map Prod.snd) := by unfold appR; rw [if_neg hne, List.length_map]
  rw [hA]
  refine lp_of (fun z' z L' => ∃ (i : Nat) (d' : Dev) (A' : HList), i ≤ l.length ∧ z' = l.length - i ∧ z = ((i : Int), ()) ∧ L' = A' ++ R ∧ RH m d' A' ∧ DG d' (l.length - i) ∧ (0 < i → at' ≤ 15) ∧ appG b ep at' kind l.length d 0 (l.map Prod.snd) = appG b ep at' kind l.length d' i ((l.drop i).map Prod.snd)) l.length
    ⟨0, d, A, by omega, by omega, rfl, rfl, h, g, by omega, by simp⟩ ?_
  rintro z' z _ ⟨i, d', A', hi, rfl, rfl, rfl, h', g', h15, hst⟩
  dsimp only
  refine ifb_of (fun (hlt : (i : Int) < u.len) => ?_) (fun (hge : ¬ (i : Int) < u.len) => ?_)
  · have hi' : i < l.length := by omega
    refine w64_of (by omega) (elp_1 (hu.sl.mono mem_r) rfl (by rw [List.length_map]; exact hi') fun a ha => ?_)
    rw [List.getElem_map] at ha
    rw [hul]
    refine ld_of l[i].1 ha (cl_of (rone_cl m d' A' R h' (g'.le (by omega)) b (kind, (i : Int), (l.length : Int), ep, at' + i, ()) l[i].1 l[i].2 (hu.val _ (List.getElem_mem hi'))) ?_)
    rintro _ _ - ⟨A2, rfl, rfl, h2⟩
    rw [List.drop_eq_getElem_cons hi', List.map_cons, appG] at hst
    refine ⟨((progI d' b (kind, (i : Int), (l.length : Int), ep, at' + i, ()) l[i].2).1, ()), rfl, ifb_of (fun (h0 : (progI d' b (kind, (i : Int), (l.length : Int), ep, at' + i, ()) l[i].2).1 = 0) => ?_) (fun (h0 : ¬ (progI d' b (kind, (i : Int), (l.length : Int), ep, at' + i, ()) l[i].2).1 = 0) => ?_)⟩
    · have hk := hErr_ok (progI_0 h0)
      simp only at hk
      rw [if_pos h0] at hst
      exact w64_of (by omega) ⟨l.length - (i + 1), by omega, i + 1, _, A2, by omega, rfl, rfl, rfl, h2, progI_g (n := l.length - (i + 1)) (g'.le (by omega)) _ _ _, fun _ => by omega, hst⟩
    · rw [if_neg h0] at hst
      exact .of ⟨A2, rfl, by rw [hst], by rw [hst]; exact h2⟩
  · obtain rfl : i = l.length := by omega
    rw [List.drop_length, List.map_nil, appG] at hst
    exact .of ⟨A', rfl, by rw [hst], by rw [hst]; exact h'⟩
def SLd (l : List It) (A : HList) (r : Value) (L' : HList) : Prop := ∃ (v : SlV) (seg : HList), L' = seg ++ A ∧ ((inB (l.flatMap itB) ∧ r = .tuple #[.slice v.a v.len v.cap, .int .i64 0] ∧ Own v 1 eB (bvs (sealLd l)) seg) ∨ (¬ inB (l.flatMap itB) ∧ r = .tuple #[.slice v.a v.len v.cap, .int .i64 3]))
theorem rsealload_cl (A : HList) (u : SlV) (l : List It) (hu : Sl A u 3 (l.flatMap itEnc)) (hl : l.length ≤ 300) : CallF PP 88 #[.slice u.a u.len u.cap] A (SLd l A) := by
  refine c88 u ?_
  unfold s88
  have hul := hu.els_len itEnc_len (by decide)
  refine lp_of (fun z' z L' => ∃ (i : Nat) (s : SlV) (sg J : HList), i ≤ l.length ∧ z' = l.length - i ∧ z = (s, (i : Int), ()) ∧ L'.Perm (sg ++ (J ++ A)) ∧ Own s 1 eB (bvs (sealLd (l.take i))) sg ∧ inB ((l.take i).flatMap itB)) l.length ⟨0, ⟨none, 0, 0⟩, [], [], by omega, by omega, rfl, List.Perm.refl _, own_nil, by intro n hn; simp at hn⟩ ?_
  rintro z' z L0 ⟨i, s, sg, J, hi, rfl, rfl, hp0, own, hin⟩
  dsimp only
  refine ifb_of (fun (hlt : (i : Int) < u.len) => ?_) (fun (hge : ¬ (i : Int) < u.len) => ?_)
  · have hi' : i < l.length := by omega
    refine elp_el itEnc_len (by decide) (hu.mono fun p hp => hp0.symm.subset (by simp [hp])) rfl hi' fun a ha => ?_
    refine ld_of l[i].1 ha.hd (ld_of l[i].2.1 (ha.one 1 rfl) (ld_of l[i].2.2.1 (ha.one 2 rfl) (nw_of fun n2 _ => ?_)))
    have hlen := sealLd_len (l.take i)
    rw [List.length_take] at hlen
    generalize ho : ((n2, Obj.cells #[.int .i64 l[i].1, .int .i64 l[i].2.1, .int .i64 l[i].2.2.1] 3) : Nat × Obj) = o
    have hrow : ∀ L : HList, o ∈ L → ∀ (k : Nat) (hk : k < 3), LdAt (Addr.add ⟨n2, 0, none⟩ ((k : Int).toNat * 1)) [.int .i64 ((itB l[i])[k]'(by simp [itB]; omega))] L := by
      intro L hm k hk
      have h0 : LdAt ⟨n2, 0, none⟩ [.int .i64 l[i].1, .int .i64 l[i].2.1, .int .i64 l[i].2.2.1] L := ldB (by rw [← ho] at hm; exact hm) rfl
      rw [Int.toNat_natCast, Nat.mul_one]
      refine h0.one k ?_
      match k, hk with
      | 0, _ => rfl
      | 1, _ => rfl
      | 2, _ => rfl
    clear ho
    refine lp_of (fun z' z L' => ∃ (k : Nat) (s : SlV) (sg : HList), k ≤ 3 ∧ z' = 3 - k ∧ z = (s, (k : Int), ()) ∧ L'.Perm (sg ++ (o :: (J ++ A))) ∧ Own s 1 eB (bvs (sealLd (l.take i) ++ ((itB l[i]).take k).map u8of)) sg ∧ inB ((itB l[i]).take k)) 3 ⟨0, s, sg, by omega, rfl, rfl, pc fun z => by have := pcn hp0 z; simp only [cnt_a, cnt_c] at *; omega, by simpa using own, by intro n hn; simp at hn⟩ ?_
    rintro z' z L1 ⟨k, s2, sg2, hk, rfl, rfl, hp, own2, hin2⟩
    dsimp only
    have hil : (itB l[i]).length = 3 := rfl
    refine ifb_of (fun (hk3 : (k : Int) < 3) => ?_) (fun (hk3 : ¬ (k : Int) < 3) => ?_)
    · have hk' : k < 3 := by omega
      have hm : o ∈ L1 := hp.symm.subset (by simp)
      have hsl := own2.sl.len
      rw [bvs_length, List.length_append, List.length_map, List.length_take] at hsl
      have hno : ¬ inB (itB l[i]) → HL.Ends (SLd l A) (.tuple #[.slice none 0 0, .int .i64 3]) L1 := fun hx => .drop (A := A) (J := sg2 ++ (o :: J)) ⟨⟨none, 0, 0⟩, [], rfl, .inr ⟨inB_no (List.getElem_mem hi') hx, rfl⟩⟩ (pc fun z => by have := pcn hp z; simp only [cnt_a, cnt_c] at *; omega)
      have hmem : (itB l[i])[k] ∈ itB l[i] := List.getElem_mem _
      refine ixn_of (by omega) (by omega) (ld_of _ (hrow L1 hm k hk') (ifb_of (fun (h1 : (itB l[i])[k] < 0) => hno fun hh => by have := hh _ hmem; omega) (fun (h1 : ¬ (itB l[i])[k] < 0) => ixn_of (by omega) (by omega) (ld_of _ (hrow L1 hm k hk') (ifb_of (fun (h2 : (itB l[i])[k] > 255) => hno fun hh => by have := hh _ hmem; omega) (fun (h2 : ¬ (itB l[i])[k] > 255) => ixn_of (by omega) (by omega) (ld_of _ (hrow L1 hm k hk') ?_)))))))
      rw [u8_wrap (by omega) (by omega)]
      refine apv_pm elemB srcB own2 hp (ws := bvs [u8of (itB l[i])[k]]) rfl rfl (by omega) fun s3 sg3 hs3 own3 => w64_of (by omega) ⟨3 - (k + 1), by omega, k + 1, s3, sg3, by omega, rfl, rfl, List.Perm.refl _, ?_, ?_⟩
      · rw [← bvs_append] at own3
        rw [List.take_succ_eq_append_getElem (by omega), List.map_append, ← List.append_assoc]
        exact own3
      · rw [List.take_succ_eq_append_getElem (by omega), inB_app]
        exact ⟨hin2, fun n hn => by rw [List.mem_singleton.1 hn]; omega⟩
    · obtain rfl : k = 3 := by omega
      refine w64_of (by omega) ⟨l.length - (i + 1), by omega, i + 1, s2, sg2, o :: J, by omega, rfl, rfl, hp, ?_, ?_⟩
      · rw [List.take_succ_eq_append_getElem hi', sealLd_snoc]; exact own2
      · rw [List.take_succ_eq_append_getElem hi', List.flatMap_append, inB_app, List.flatMap_singleton]; exact ⟨hin, hin2⟩
  · obtain rfl : i = l.length := by omega
    rw [List.take_length] at own hin
    exact .drop (A := sg ++ A) (J := J) ⟨s, sg, rfl, .inl ⟨hin, rfl, own⟩⟩ (pc fun z => by have := pcn hp0 z; simp only [cnt_a] at *; omega)
theorem rseal_w_cl (m : Nat) (d : Dev) (A R : HList) (h : RH m d A) (u : SlV) (l : List It) (hu : Sl R u 3 (l.flatMap itEnc)) (hl : l.length ≤ 300) (g : DG d 1) (b ep at' : Int) :
    CallF PP 51 #[.pointer (some ⟨m, 0, none⟩), .int .i64 b, .int .i64 ep, .int .i64 at', .slice u.a u.len u.cap] (A ++ R) (DevK RH m (sealW d b ep at' l) R) := by
  refine c51 (some ⟨m, 0, none⟩) b ep at' u ?_
  unfold s51
  refine cl_of (rsealload_cl (A ++ R) u l hu.right hl) ?_
  rintro _ _ - ⟨v, sg, rfl, ⟨hin, rfl, own⟩ | ⟨hin, rfl⟩⟩
  · refine ⟨(v, 0, ()), rfl, ifT rfl (cl_of (CallF.perm p3 (rone_cl m d A (sg ++ R) h g b (4, 0, 1, ep, at', ()) v (sealLd l) own.sl.left)) ?_)⟩
    rintro _ _ - ⟨A2, rfl, rfl, h2⟩
    have e : sealW d b ep at' l = progI d b (4, 0, 1, ep, at', ()) (sealLd l) := by unfold sealW; rw [if_pos hin]
    exact ⟨(_, ()), rfl, .drop (A := A2 ++ R) (J := sg) ⟨A2, rfl, by rw [e], by rw [e]; exact h2⟩ (p3.trans List.perm_append_comm)⟩
  · have e : sealW d b ep at' l = (3, d) := by unfold sealW; rw [if_neg hin]
    exact ⟨(v, 3, ()), rfl, ifF rfl (.app (.of ⟨A, rfl, by rw [e], by rw [e]; exact h⟩))⟩
theorem rload_cl (m : Nat) (d : Dev) (A : HList) (h : RH m d A) (ok : DvOk d) (b : Int) : CallF PP 56 #[.pointer (some ⟨m, 0, none⟩), .int .i64 b] A (LoadK (loadR d b) A) := by
  refine c56 (some ⟨m, 0, none⟩) b ?_
  unfold s56
  have hP := DG.pb ok
  have hPl : LdAt ⟨m, 1, none⟩ [.int .i64 d.c.P] A := by
    obtain ⟨pv, pseg, rs, nv, nseg, wv, wseg, bv, bseg, tv, tseg, ts, rfl, hh⟩ := h
    exact r_P rL_o
  refine lp_of (fun z' z L' => ∃ (i : Nat) (s : SlV), i ≤ d.c.P ∧ z' = d.c.P - i ∧ z = (s, (i : Int), ()) ∧ LInv d b A i s L' ∧ (0 < i → findE d b 0 = 0)) d.c.P ⟨0, ⟨none, 0, 0⟩, by omega, by omega, rfl, LInv.nil d b A, by omega⟩ ?_
  rintro z' z L1 ⟨i, s, hi, rfl, rfl, hI, h0⟩
  dsimp only
  obtain ⟨G, hG⟩ := hI.p
  refine nilc_of rfl (ld_of (d.c.P : Int) (hPl.mono (psub0 hG)) (ifb_of (fun (hlt : (i : Int) < d.c.P) => ?_) (fun (hge : ¬ (i : Int) < d.c.P) => ?_)))
  · have hi' : i < d.c.P := by omega
    refine cl_pm (rread_cl m d A h ok b i) hG ?_
    rintro _ _ ⟨g, rfl, rfl, hg, hgl⟩
    have hre := readR_err ok b (i : Int)
    have hpp : ((g.seg ++ A) ++ G).Perm (g.seg ++ L1) := pc fun z => by have := pcn hG z; simp only [cnt_a] at *; omega
    refine ⟨_, List.Perm.refl _, (g.v, (readR d b (i : Int)).2, ()), rfl, ifb_of (fun (he : (readR d b (i : Int)).2 = 0) => ?_) (fun (he : ¬ (readR d b (i : Int)).2 = 0) => hI.err hi' hre he hpp)⟩
    exact hI.snoc (by omega) g hg hgl hpp fun s' L' hI' => w64_of (by omega) ⟨d.c.P - (i + 1), by omega, i + 1, s', by omega, rfl, rfl, hI', fun _ => by rw [← findE_p hi', ← hre]; exact he⟩
  · obtain rfl : i = d.c.P := by omega
    exact hI.fin (h0 (by omega))
end Go.Proofs.Ytlabcgnegbdlfaa
set_option linter.unusedVariables false
set_option linter.unusedSimpArgs false
namespace Go.Proofs.Ytlabcgnegbdlfaa
open Go.HL

def exD : Dev := fresh ⟨2, 8, 64, 9⟩
def exI : List It := [(2, 1, 1, ()), (2, 2, 2, ())]
def exD1 : Dev := (openR exD 0 7).2
def exD2 : Dev := (appR exD1 0 7 1 2 [[5]]).2
def exD3 : Dev := (appR exD2 0 7 2 2 [[6], [7]]).2
def exD4 : Dev := (sealW exD3 0 7 4 exI).2
theorem ex_1 : (openR exD 0 7).1 = 0 := by kernel_rfl
theorem ex_2 : (appR exD1 0 7 1 2 [[5]]).1 = 0 := by kernel_rfl
theorem ex_3 : (appR exD2 0 7 2 2 [[6], [7]]).1 = 0 := by kernel_rfl
theorem ex_l3 : (loadR exD3 0).2 = 0 := by kernel_rfl
theorem ex_s3 : scanR (loadR exD3 0).1 = ((7, false, exI), true) := by kernel_rfl
theorem ex_4 : (sealW exD3 0 7 4 exI).1 = 0 := by kernel_rfl
theorem ex_l4 : (loadR exD4 0).2 = 0 := by kernel_rfl
theorem ex_s4 : scanR (loadR exD4 0).1 = ((7, true, exI), true) := by kernel_rfl
theorem ex_p : partsR (loadR exD4 0).1 (2, 2, 2, ()) = [[6], [7]] := by kernel_rfl
theorem ex_k : (killR [(1, 2, 3, ())]).2 = 0 ∧ (killR [(1, 2, 3, ())]).1.length = 6 := ⟨by kernel_rfl, by kernel_rfl⟩
theorem ex_q : killsR (killR [(1, 2, 3, ())]).1 = ([(1, 2, 3, ())], 0) := by kernel_rfl
theorem exD_ok : DG exD 1000 := ⟨fresh_ok ⟨by decide, by decide, by decide, by decide⟩, by decide⟩
theorem loadR_len {d : Dev} (ok : DvOk d) (b : Int) : (loadR d b).1.length ≤ 16 ∧ ∀ x ∈ (loadR d b).1, x.length ≤ 512 := by
  have hP := ok.c.p
  have hS := ok.c.s
  unfold loadR
  split
  · exact ⟨by simp, by simp⟩
  · refine ⟨by simp; omega, fun x hx => ?_⟩
    simp only [List.mem_map] at hx
    obtain ⟨p, hp, rfl⟩ := hx
    have hp2 : p < d.c.P := List.mem_range.1 hp
    unfold readR
    split
    · simp
    · split
      · simp
      · rename_i k hk
        have hm : k ∈ d.bs := List.mem_of_getElem? hk
        have h1 := ok.pg k hm
        split
        · simp [blk]; omega
        · rw [Int.toNat_natCast, List.getD_eq_getElem?_getD, List.getElem?_eq_getElem (by omega), Option.getD_some, h1.2 _ (List.getElem_mem _)]; omega
theorem device_l (L : HList) : Reads PP 47 #[] L (.agg #[.int .i64 2, .int .i64 8, .int .i64 64, .int .i64 9]) := by
  unfold Reads
  refine c47 ?_
  unfold s47
  exact .of ⟨rfl, rfl⟩
theorem parts_l {L : HList} {v : SlV} {gs : List PG} {seg Y : HList} (own : Own v 1 tB (gs.map PG.val) seg) (hg : ∀ g ∈ gs, g.Ok) (hp : L.Perm (seg ++ (pgs gs ++ Y))) : Parts L v (pvs gs) :=
  parts_of own hg (fun x hx => hp.symm.subset (by simp [hx])) (fun x hx => hp.symm.subset (by simp [hx]))
theorem pvs_snd (gs : List PG) : (pvs gs).map Prod.snd = gs.map PG.l := by unfold pvs; rw [List.map_map]; rfl
theorem load_bnd {d : Dev} (ok : DvOk d) {b : Int} {gs : List PG} (hl : gs.map PG.l = (loadR d b).1) : (pvs gs).length ≤ 16 ∧ ∀ x ∈ pvs gs, x.2.length ≤ 512 := by
  have h := loadR_len ok b
  rw [← hl, ← pvs_snd, List.length_map] at h
  exact ⟨h.1, fun x hx => h.2 _ (List.mem_map_of_mem hx)⟩
theorem regions_rd (L : HList) : Reads PP 9 #[] L (.bool true) := by
  unfold Reads
  refine c9 ?_
  unfold s9
  refine cl_rd (device_l L) ((2, 8, 64, 9, ()), ()) rfl ?_
  refine cl_pm (R := L) (new_cl (2, 8, 64, 9, ())) (List.Perm.refl _) ?_
  rintro _ A (⟨hn, -, -⟩ | ⟨-, m, rfl, hA⟩)
  · exact absurd (by decide) hn
  have hA : FH m exD A := hA
  refine ⟨_, List.Perm.refl _, (some ⟨m, 0, none⟩, 0, ()), rfl, ifT rfl ?_⟩
  have g0 := exD_ok
  refine cl_of (open_cl m exD A L hA (g0.le (by decide)) 0 7) ?_
  rintro _ _ - ⟨A1, rfl, rfl, h1⟩
  have h1 : FH m exD1 A1 := h1
  have g1 : DG exD1 900 := progI_g (n := 900) (g0.le (by decide)) _ _ _
  rw [ex_1]
  refine ⟨(0, ()), rfl, nw_of fun n1 _ => nw_of fun n2 _ => ?_⟩
  generalize ho1 : ((n1, Obj.cells #[.int .u8 5] 5) : Nat × Obj) = o1
  generalize ho2 : ((n2, Obj.cells #[.slice (some ⟨n1, 0, none⟩) 1 1] 40) : Nat × Obj) = o2
  have hp1 : Parts (o2 :: o1 :: L) ⟨some ⟨n2, 0, none⟩, 1, 1⟩ [(⟨some ⟨n1, 0, none⟩, 1, 1⟩, [5])] := ⟨⟨rfl, Nat.le_refl _, .inr ⟨_, rfl, ldB (by rw [ho2]; exact List.mem_cons_self) rfl⟩⟩, fun x hx => by
    rw [List.mem_singleton.1 hx]
    exact ⟨rfl, Nat.le_refl _, .inr ⟨_, rfl, ldB (by rw [ho1]; simp) rfl⟩⟩⟩
  refine cl_p (append_cl m exD1 A1 (o2 :: o1 :: L) h1 _ _ hp1 (by simp) (g1.le (by simp)) 0 7 1 2 (wf_mk (by decide))) (pc fun z => by simp only [cnt_a, cnt_c]; omega) ?_
  rintro _ _ ⟨A2, rfl, rfl, h2⟩
  have h2 : FH m exD2 A2 := h2
  have g2 : DG exD2 800 := appR_g (m := 800) (g1.le (by decide)) _ _ _ _
  refine ⟨(0, ()), congrArg (Value.int .i64) ex_2, nw_of fun n3 _ => nw_of fun n4 _ => nw_of fun n5 _ => ?_⟩
  generalize ho3 : ((n3, Obj.cells #[.int .u8 6] 5) : Nat × Obj) = o3
  generalize ho4 : ((n4, Obj.cells #[.int .u8 7] 5) : Nat × Obj) = o4
  generalize ho5 : ((n5, Obj.cells #[.slice (some ⟨n3, 0, none⟩) 1 1, .slice (some ⟨n4, 0, none⟩) 1 1] 40) : Nat × Obj) = o5
  generalize hR2 : (o2 :: o1 :: L) = R2
  have hR2L : ∃ J, R2.Perm (L ++ J) := ⟨[o2, o1], by rw [← hR2]; exact pc fun z => by simp only [cnt_a, cnt_c, cnt_n]; omega⟩
  have hp2 : Parts (o5 :: o4 :: o3 :: R2) ⟨some ⟨n5, 0, none⟩, 2, 2⟩ [(⟨some ⟨n3, 0, none⟩, 1, 1⟩, [6]), (⟨some ⟨n4, 0, none⟩, 1, 1⟩, [7])] := ⟨⟨rfl, Nat.le_refl _, .inr ⟨_, rfl, ldB (by rw [ho5]; exact List.mem_cons_self) rfl⟩⟩, fun x hx => by
    rcases List.mem_cons.1 hx with rfl | hx
    · exact ⟨rfl, Nat.le_refl _, .inr ⟨_, rfl, ldB (by rw [ho3]; simp) rfl⟩⟩
    · rw [List.mem_singleton.1 hx]
      exact ⟨rfl, Nat.le_refl _, .inr ⟨_, rfl, ldB (by rw [ho4]; simp) rfl⟩⟩⟩
  refine cl_p (append_cl m exD2 A2 (o5 :: o4 :: o3 :: R2) h2 _ _ hp2 (by simp) (g2.le (by simp)) 0 7 2 2 (wf_mk (by decide))) (pc fun z => by simp only [cnt_a, cnt_c]; omega) ?_
  rintro _ _ ⟨A3, rfl, rfl, h3⟩
  have h3 : FH m exD3 A3 := h3
  have g3 : DG exD3 700 := appR_g (m := 700) (g2.le (by decide)) _ _ _ _
  generalize hR3 : (o5 :: o4 :: o3 :: R2) = R3
  have hR3L : ∃ J, R3.Perm (L ++ J) := by obtain ⟨J, hJ⟩ := hR2L; exact ⟨o5 :: o4 :: o3 :: J, by rw [← hR3]; exact pc fun z => by have := pcn hJ z; simp only [cnt_a, cnt_c] at *; omega⟩
  clear hp1 hp2 ho1 ho2 ho3 ho4 ho5
  refine ⟨(0, ()), congrArg (Value.int .i64) ex_3, ?_⟩
  refine cl_pm (load_cl m exD3 A3 h3 g3.ok 0) (List.Perm.refl _) ?_
  rintro _ _ ⟨v6, gs6, seg6, rfl, rfl, own6, hg6, hl6⟩
  have hlen6 := loadR_len g3.ok 0
  rw [ex_l3]
  refine ⟨_, List.Perm.refl _, (v6, 0, ()), rfl, ?_⟩
  have hP6 : Parts ((seg6 ++ (pgs gs6 ++ A3)) ++ R3) v6 (pvs gs6) := parts_l own6 hg6 (Y := A3 ++ R3) (pc fun z => by simp only [cnt_a]; omega)
  have hln6 := load_bnd g3.ok hl6
  refine cl_of (scan_cl _ v6 (pvs gs6) hP6 (by omega) (fun x hx => by have := hln6.2 x hx; omega)) ?_
  rintro _ _ - ⟨v7, seg7, rfl, rfl, own7⟩
  rw [pvs_snd, hl6, ex_s3] at own7
  rw [pvs_snd, hl6, ex_s3]
  refine ⟨((7, false, v7, ()), true, ()), rfl, ?_⟩
  refine cl_p (seal_w_cl m exD3 A3 (seg7 ++ (seg6 ++ (pgs gs6 ++ R3))) h3 v7 exI own7.sl.left (by decide) (g3.le (by decide)) 0 7 4) (pc fun z => by simp only [cnt_a]; omega) ?_
  rintro _ _ ⟨A4, rfl, rfl, h4⟩
  have h4 : FH m exD4 A4 := h4
  have g4 : DG exD4 600 := sealW_g (n := 600) (g3.le (by decide)) _ _ _ _
  refine ⟨(0, ()), congrArg (Value.int .i64) ex_4, ?_⟩
  refine cl_pm (load_cl m exD4 A4 h4 g4.ok 0) (List.Perm.refl _) ?_
  rintro _ _ ⟨v9, gs9, seg9, rfl, rfl, own9, hg9, hl9⟩
  have hlen9 := loadR_len g4.ok 0
  rw [ex_l4]
  refine ⟨_, List.Perm.refl _, (v9, 0, ()), rfl, ?_⟩
  generalize hR9 : (seg7 ++ (seg6 ++ (pgs gs6 ++ R3))) = R9
  have hs7 : Sl R9 v7 3 (exI.flatMap itEnc) := by rw [← hR9]; exact own7.sl.left
  have hR9L : ∃ J, R9.Perm (L ++ J) := by obtain ⟨J, hJ⟩ := hR3L; exact ⟨seg7 ++ (seg6 ++ (pgs gs6 ++ J)), by rw [← hR9]; exact pc fun z => by have := pcn hJ z; simp only [cnt_a] at *; omega⟩
  have hP9 : Parts ((seg9 ++ (pgs gs9 ++ A4)) ++ R9) v9 (pvs gs9) := parts_l own9 hg9 (Y := A4 ++ R9) (pc fun z => by simp only [cnt_a]; omega)
  have hln9 : (pvs gs9).length ≤ 1000000 ∧ ∀ x ∈ pvs gs9, x.2.length ≤ 1000000 := by
    have h := load_bnd g4.ok hl9
    exact ⟨by omega, fun x hx => by have := h.2 x hx; omega⟩
  refine cl_of (scan_cl _ v9 (pvs gs9) hP9 hln9.1 hln9.2) ?_
  rintro _ _ - ⟨v10, seg10, rfl, rfl, own10⟩
  rw [pvs_snd, hl9, ex_s4] at own10
  rw [pvs_snd, hl9, ex_s4]
  refine ⟨((7, true, v10, ()), true, ()), rfl, ?_⟩
  refine cl_of (ppartsrg_cl _ v9 (pvs gs9) (hP9.mono (R := seg10 ++ ((seg9 ++ (pgs gs9 ++ A4)) ++ R9)) mem_r) hln9.1 hln9.2 (2, 2, 2, ()) ⟨wf_mk (by decide), wf_mk (by decide)⟩) ?_
  rintro _ _ - ⟨v11, gs11, seg11, rfl, rfl, own11, hg11, hl11⟩
  rw [pvs_snd, hl9, ex_p] at hl11
  refine ⟨(v11, ()), rfl, nw_of fun n8 _ => ?_⟩
  generalize ho8 : ((n8, Obj.cells #[.int .i64 1, .int .i64 2, .int .i64 3] 104) : Nat × Obj) = o8
  obtain ⟨R11, hR11⟩ : ∃ R11, R11 = o8 :: (seg11 ++ (pgs gs11 ++ (seg10 ++ ((seg9 ++ (pgs gs9 ++ A4)) ++ R9)))) := ⟨_, rfl⟩
  rw [← hR11]
  have hm8 : o8 ∈ R11 := by rw [hR11]; exact List.mem_cons_self
  have h10 : Sl R11 v10 3 (exI.flatMap itEnc) := by rw [hR11]; exact own10.sl.left.right.right.cons
  have h7' : Sl R11 v7 3 (exI.flatMap itEnc) := by rw [hR11]; exact hs7.right.right.right.right.cons
  have h11 : Parts R11 v11 (pvs gs11) := parts_l own11 hg11 (Y := o8 :: (seg10 ++ ((seg9 ++ (pgs gs9 ++ A4)) ++ R9))) (by rw [hR11]; exact pc fun z => by simp only [cnt_a, cnt_c]; omega)
  have hR11L : ∃ J, R11.Perm (L ++ J) := by obtain ⟨J, hJ⟩ := hR9L; exact ⟨o8 :: (seg11 ++ (pgs gs11 ++ (seg10 ++ ((seg9 ++ (pgs gs9 ++ A4)) ++ J)))), by rw [hR11]; exact pc fun z => by have := pcn hJ z; simp only [cnt_a, cnt_c] at *; omega⟩
  have hv11 : (pvs gs11).map Prod.snd = [[6], [7]] := by rw [pvs_snd]; exact hl11
  have hln11 : (pvs gs11).length = 2 := by have := congrArg List.length hv11; rwa [List.length_map] at this
  have hsl8 : Sl R11 ⟨some ⟨n8, 0, none⟩, 1, 1⟩ 3 (([(1, 2, 3, ())] : List It).flatMap itEnc) := ⟨rfl, Nat.le_refl _, .inr ⟨_, rfl, ldB (by rw [ho8]; exact hm8) rfl⟩⟩
  clear hR11 hP9 hP6
  refine cl_of (killload_cl R11 ⟨some ⟨n8, 0, none⟩, 1, 1⟩ [(1, 2, 3, ())] hsl8 (by decide)) ?_
  rintro _ _ - ⟨g12, rfl, rfl, hg12, hl12⟩
  unfold PG.Ok at hg12
  rw [hl12] at hg12
  rw [ex_k.1]
  have hb12 : BSl (g12.seg ++ R11) g12.v (killR [(1, 2, 3, ())]).1 := hg12.sl.left
  have hlen12 := hb12.len
  rw [ex_k.2] at hlen12
  refine ⟨(g12.v, 0, ()), rfl, ?_⟩
  refine cl_of (kills_cl (g12.seg ++ R11) g12.v _ hb12 (by rw [ex_k.2]; decide)) ?_
  rintro _ _ - ⟨v13, seg13, rfl, rfl, own13⟩
  rw [ex_q] at own13
  rw [ex_q]
  refine ⟨(v13, 0, ()), rfl, ?_⟩
  have hlv10 := h10.els_len itEnc_len (by decide)
  refine ifT rfl (ifT rfl (ifT rfl (ifT rfl (ifT rfl (ifT rfl (ifT rfl (ifF rfl (ifT rfl (ifT rfl (ifT rfl ?_))))))))))
  refine ifT (decide_eq_true (by dsimp only; rw [hlv10]; rfl)) ?_
  refine cl_rd (items_rd _ v7 v10 exI h7'.right.right h10.right.right (by decide)) (true, ()) rfl (ifT rfl ?_)
  have hl11v := h11.len
  refine ifT (decide_eq_true (by dsimp only; omega)) ?_
  have h11s : Parts (seg13 ++ (g12.seg ++ R11)) v11 (pvs gs11) := (h11.mono mem_r).mono mem_r
  have hlt : 1 < (pvs gs11).length := by omega
  have he7 : (pvs gs11)[1].2 = [7] := by
    have : ((pvs gs11).map Prod.snd)[1]? = some [7] := by rw [hv11]; rfl
    rw [List.getElem?_map, List.getElem?_eq_getElem hlt] at this
    exact Option.some.inj this
  refine elp_1 h11s.sl (n := 1) rfl (by rw [List.length_map]; exact hlt) fun a1 ha1 => ?_
  rw [List.getElem_map] at ha1
  have hb7 := h11s.val _ (List.getElem_mem hlt)
  rw [he7] at hb7
  have hl7 := hb7.len
  refine ld_of (pvs gs11)[1].1 ha1 (ifT (decide_eq_true (by rw [hl7]; rfl)) (ld_of (pvs gs11)[1].1 ha1 (elp_b hb7 (n := 0) rfl (by decide) fun a2 ha2 => ld_of 7 ha2 (ifT rfl (ifT rfl ?_)))))
  refine ifT (decide_eq_true (by dsimp only; omega)) (ifT rfl ?_)
  have hl13 := own13.sl.els_len itEnc_len (by decide)
  refine ifT (decide_eq_true (by dsimp only; rw [hl13]; rfl)) (elp_el itEnc_len (by decide) own13.sl.left (n := 0) rfl (by decide) fun a3 ha3 => ld_of 3 (ha3.one 2 rfl) ?_)
  obtain ⟨J, hJ⟩ := hR11L
  exact .drop (A := L) (J := seg13 ++ (g12.seg ++ J)) ⟨rfl, rfl⟩ (pc fun z => by have := pcn hJ z; simp only [cnt_a] at *; omega)
abbrev partWf (W : World) (x : PV) : Prop := SlOk W (fun b => [bv b]) (fun _ => True) 1 x
theorem parts_in {W : World} {a0 : SlV} {l0 : List PV} (w0 : SlOk W (fun x : PV => [pvV x]) (partWf W) 1 (a0, l0)) : Parts (allB W) a0 l0 ∧ l0.length ≤ 9223372036854775807 := by
  have hm : maxLen = 9223372036854775807 := rfl
  have h1 := w0.len'
  have h2 := w0.sl.cap
  have h3 := w0.cap
  simp only at h2 h3
  have hsl : Sl (allB W) a0 1 (l0.map pvV) := by
    have h := w0.sl
    have he : ∀ l : List PV, (l.flatMap fun x : PV => [pvV x]) = l.map pvV := by
      intro l
      induction l with
      | nil => rfl
      | cons x r ih => rw [List.flatMap_cons, ih]; rfl
    simp only at h
    rw [he] at h
    exact h
  exact ⟨⟨hsl, fun x hx => (w0.all x hx).bytes⟩, by omega⟩
end Go.Proofs.Ytlabcgnegbdlfaa
set_option linter.unusedVariables false
set_option linter.unusedSimpArgs false
namespace Go.Proofs.Ytlabcgnegbdlfaa
open Go.HL

abbrev RA := Int × Int × Int × Int × Int × (SlV × List PV) × (SlV × List It) × Int × Int × Unit
def raEnc (x : RA) : List Value := [.int .i64 x.1, .int .i64 x.2.1, .int .i64 x.2.2.1, .int .i64 x.2.2.2.1, .int .i64 x.2.2.2.2.1, .slice x.2.2.2.2.2.1.1.a x.2.2.2.2.2.1.1.len x.2.2.2.2.2.1.1.cap, .slice x.2.2.2.2.2.2.1.1.a x.2.2.2.2.2.2.1.1.len x.2.2.2.2.2.2.1.1.cap, .int .i64 x.2.2.2.2.2.2.2.1, .int .i64 x.2.2.2.2.2.2.2.2.1]
theorem ra_len (x : RA) : (raEnc x).length = 9 := rfl
structure RActs (L : HList) (v : SlV) (l : List RA) : Prop where
  sl : Sl L v 9 (l.flatMap raEnc)
  parts : ∀ x ∈ l, Parts L x.2.2.2.2.2.1.1 x.2.2.2.2.2.1.2 ∧ x.2.2.2.2.2.1.2.length ≤ 9223372036854775807
  items : ∀ x ∈ l, Sl L x.2.2.2.2.2.2.1.1 3 (x.2.2.2.2.2.2.1.2.flatMap itEnc)
  rng : ∀ x ∈ l, intWf .i64 x.2.2.2.1 ∧ x.2.2.2.2.2.2.2.1 ≤ 9223372036854775807
theorem DG.arm {d : Dev} {n : Nat} (g : DG d n) {a k : Int} (ha : a ≤ 9223372036854775807) : DG (Go.Proofs.Ytlabcgnegbdlfaa.arm d a k) n := by
  refine ⟨arm_ok g.ok ha, ?_⟩
  have : (Go.Proofs.Ytlabcgnegbdlfaa.arm d a k).torn = d.torn := by unfold Go.Proofs.Ytlabcgnegbdlfaa.arm; split <;> rfl
  rw [this]; exact g.few
theorem DG.restart {d : Dev} {n : Nat} (g : DG d n) : DG (restart d) n := ⟨restart_ok g.ok, g.few⟩
theorem DG.erase {d : Dev} {n : Nat} (g : DG d n) (b : Int) : DG (eraseR d b).2 n := ⟨erase_ok g.ok b, by rw [erase_torn]; exact g.few⟩
theorem law_RegionWrites (L : HList) (v : SlV) (l : List RA) (h : RActs L v l) : Reads PP 7 #[.slice v.a v.len v.cap] L (.bool true) := by
  unfold Reads
  refine c7 v ?_
  unfold s7
  have hvl := h.sl.els_len ra_len (by decide)
  refine cl_rd (device_l L) ((2, 8, 64, 9, ()), ()) rfl ?_
  refine cl_pm (R := L) (new_cl (2, 8, 64, 9, ())) (List.Perm.refl _) ?_
  rintro _ A (⟨hn, -, -⟩ | ⟨-, m, rfl, hA⟩)
  · exact absurd (by decide) hn
  refine ⟨_, List.Perm.refl _, (some ⟨m, 0, none⟩, 0, ()), rfl, ?_⟩
  refine cl_rd (device_l _) ((2, 8, 64, 9, ()), ()) rfl ?_
  refine cl_pm (R := A ++ L) (rnew_cl (2, 8, 64, 9, ())) (List.Perm.refl _) ?_
  rintro _ B (⟨hn, -, -⟩ | ⟨-, q, rfl, hB⟩)
  · exact absurd (by decide) hn
  refine ⟨_, List.Perm.refl _, (some ⟨q, 0, none⟩, 0, ()), rfl, ifT rfl ?_⟩
  have hA : FH m exD A := hA
  have hB : RH q exD B := hB
  have hend : ∀ {L' J : HList}, L'.Perm (L ++ J) → cl PP 9 #[] [.lf .bool] (fun r => HL.Ends (fun v' L' => v' = .bool true ∧ L' = L) (.bool r.1)) L' := fun {L' J} hp => cl_rd (regions_rd _) (true, ()) rfl (.drop (A := L) (J := J) ⟨rfl, rfl⟩ hp)
  refine ifb_of (fun _ => hend (J := B ++ A) (pc fun z => by simp only [cnt_a]; omega)) (fun (h60 : ¬ (v.len : Int) > 60) => ?_)
  refine lp_of (fun z' z L' => ∃ (i : Nat) (d : Dev) (A B J : HList), i ≤ l.length ∧ z' = l.length - i ∧ z = ((i : Int), ()) ∧ L'.Perm (A ++ (B ++ (J ++ L))) ∧ FH m d A ∧ RH q d B ∧ DG d ((60 - i) * 20)) l.length
    ⟨0, exD, A, B, [], by omega, by omega, rfl, pc fun z => by simp only [cnt_a, cnt_n]; omega, hA, hB, ⟨exD_ok.ok, by show 0 + _ ≤ _; omega⟩⟩ ?_
  rintro z' z L1 ⟨i, d, A, B, J, hi, rfl, rfl, hp, hA, hB, g⟩
  dsimp only
  have hLL : ∃ J, L1.Perm (L ++ J) := ⟨A ++ (B ++ J), pc fun z => by have := pcn hp z; simp only [cnt_a] at *; omega⟩
  obtain ⟨JL, hJL⟩ := hLL
  refine ifb_of (fun (hlt : (i : Int) < v.len) => ?_) (fun _ => hend hJL)
  have hi' : i < l.length := by omega
  have hm := List.getElem_mem hi'
  refine elp_el ra_len (by decide) (h.sl.mono (psub0 hJL)) rfl hi' fun a ha => ?_
  obtain ⟨x, hx⟩ : ∃ x, x = l[i] := ⟨_, rfl⟩
  obtain ⟨kind, b, ep, pg, of', ⟨pv, ps⟩, ⟨iv, its⟩, n, keep, ⟨⟩⟩ := x
  have hP := h.parts _ hm
  have hI := h.items _ hm
  have hR := h.rng _ hm
  rw [← hx] at ha hP hI hR
  dsimp only at hP hI hR
  obtain ⟨hP, hPl⟩ := hP
  refine ld_of (kind, b, ep, pg, of', pv, iv, n, keep, ()) ha ?_
  refine cl_of (fewp_cl L1 pv ps (hP.mono (psub0 hJL)) hPl 20 600) ?_
  rintro _ L2 - ⟨hL2, bb, rfl, hb⟩
  rw [hL2]
  refine ⟨(bb, ()), rfl, ifB_of (fun (hbt : bb = true) => ?_) (fun _ => hend hJL)⟩
  obtain ⟨h20, hlen⟩ := hb hbt
  refine ifb_of (fun _ => hend hJL) (fun (h300 : ¬ (iv.len : Int) > 300) => ?_)
  have hil := hI.els_len itEnc_len (by decide)
  have hRJ : ∀ {X : HList}, Parts (X ++ (J ++ L)) pv ps := fun {X} => (hP.mono mem_r).mono mem_r
  have hIJ : ∀ {X : HList}, Sl (X ++ (J ++ L)) iv 3 (its.flatMap itEnc) := fun {X} => (hI.mono mem_r).mono mem_r
  obtain ⟨n', hn'⟩ : ∃ n', 60 - i = n' + 1 := ⟨60 - (i + 1), by omega⟩
  have hg : (60 - i) * 20 = (60 - (i + 1)) * 20 + 20 := by omega
  rw [hg] at g
  refine jn_of (fun y L' => ∃ (e : Int) (d' : Dev) (A B : HList), y = (e, e, ()) ∧ L'.Perm (A ++ (B ++ (J ++ L))) ∧ FH m d' A ∧ RH q d' B ∧ DG d' ((60 - (i + 1)) * 20)) ?_ ?_
  · rintro _ L3 ⟨e, d, A, B, rfl, hp, hA, hB, g⟩
    refine cl_pm (load_cl m d A hA g.ok b) hp ?_
    rintro _ _ ⟨v1, gs1, s1, rfl, rfl, own1, hg1, hl1⟩
    refine ⟨_, List.Perm.refl _, (v1, (loadR d b).2, ()), rfl, ?_⟩
    refine cl_pm (R := s1 ++ (pgs gs1 ++ (A ++ (J ++ L)))) (rload_cl q d B hB g.ok b) (pc fun z => by simp only [cnt_a]; omega) ?_
    rintro _ _ ⟨v2, gs2, s2, rfl, rfl, own2, hg2, hl2⟩
    refine ⟨_, List.Perm.refl _, (v2, (loadR d b).2, ()), rfl, ifT (by simp) ?_⟩
    have hb1 := load_bnd g.ok hl1
    refine cl_rd (samep_rd _ v1 v2 (pvs gs1) (pvs gs2) (parts_l own1 hg1 (Y := s2 ++ (pgs gs2 ++ (B ++ (A ++ (J ++ L))))) (pc fun z => by simp only [cnt_a]; omega)) (parts_l own2 hg2 (Y := B ++ (s1 ++ (pgs gs1 ++ (A ++ (J ++ L))))) (pc fun z => by simp only [cnt_a]; omega)) (by rw [pvs_snd, pvs_snd, hl1, hl2]) (by omega)) (true, ()) rfl (ifT rfl (ifT (by simp) (w64_of (by omega) ?_)))
    exact ⟨l.length - (i + 1), by omega, i + 1, d, A, B, s1 ++ (pgs gs1 ++ (s2 ++ (pgs gs2 ++ J))), by omega, rfl, rfl, pc fun z => by simp only [cnt_a]; omega, hA, hB, g⟩
  · intro j hj
    refine ifb_of (fun _ => ?_) (fun _ => ifb_of (fun _ => ?_) (fun _ => ifb_of (fun _ => ?_) (fun _ => ifb_of (fun _ => ?_) (fun _ => ifb_of (fun _ => ?_) (fun _ => ?_)))))
    · refine cl_p (open_cl m d A (B ++ (J ++ L)) hA (g.le (by omega)) b ep) hp ?_
      rintro _ _ ⟨A', rfl, rfl, hA'⟩
      refine ⟨((openR d b ep).1, ()), rfl, ?_⟩
      refine cl_p (ropen_cl q d B (A' ++ (J ++ L)) hB (g.le (by omega)) b ep) p3 ?_
      rintro _ _ ⟨B', rfl, rfl, hB'⟩
      exact ⟨((openR d b ep).1, ()), rfl, hj _ _ ⟨_, _, A', B', rfl, p3, hA', hB', progI_g (n := (60 - (i + 1)) * 20) (g.le (by omega)) _ _ _⟩⟩
    · refine cl_p (append_cl m d A (B ++ (J ++ L)) hA pv ps hRJ (by omega) (g.le (by omega)) b ep pg of' hR.1) hp ?_
      rintro _ _ ⟨A', rfl, rfl, hA'⟩
      refine ⟨((appR d b ep pg of' (ps.map Prod.snd)).1, ()), rfl, ?_⟩
      refine cl_p (rappend_cl q d B (A' ++ (J ++ L)) hB pv ps hRJ (by omega) (g.le (by omega)) b ep pg of' hR.1) p3 ?_
      rintro _ _ ⟨B', rfl, rfl, hB'⟩
      exact ⟨((appR d b ep pg of' (ps.map Prod.snd)).1, ()), rfl, hj _ _ ⟨_, _, A', B', rfl, p3, hA', hB', appR_g (m := (60 - (i + 1)) * 20) (g.le (by rw [List.length_map]; omega)) _ _ _ _⟩⟩
    · refine cl_p (seal_w_cl m d A (B ++ (J ++ L)) hA iv its hIJ (by omega) (g.le (by omega)) b ep pg) hp ?_
      rintro _ _ ⟨A', rfl, rfl, hA'⟩
      refine ⟨((sealW d b ep pg its).1, ()), rfl, ?_⟩
      refine cl_p (rseal_w_cl q d B (A' ++ (J ++ L)) hB iv its hIJ (by omega) (g.le (by omega)) b ep pg) p3 ?_
      rintro _ _ ⟨B', rfl, rfl, hB'⟩
      exact ⟨((sealW d b ep pg its).1, ()), rfl, hj _ _ ⟨_, _, A', B', rfl, p3, hA', hB', sealW_g (n := (60 - (i + 1)) * 20) (g.le (by omega)) _ _ _ _⟩⟩
    · refine cl_pm (arm_cl m d A hA n keep) hp ?_
      rintro _ A' ⟨rfl, hA'⟩
      refine ⟨_, List.Perm.refl _, (), rfl, ?_⟩
      refine cl_pm (R := A' ++ (J ++ L)) (rarm_cl q d B hB n keep) p3 ?_
      rintro _ B' ⟨rfl, hB'⟩
      exact ⟨_, List.Perm.refl _, (), rfl, hj _ _ ⟨0, _, A', B', rfl, p3, hA', hB', (g.le (by omega)).arm hR.2⟩⟩
    · refine cl_pm (restart_cl m d A hA) hp ?_
      rintro _ A' ⟨rfl, hA'⟩
      refine ⟨_, List.Perm.refl _, (), rfl, ?_⟩
      refine cl_pm (R := A' ++ (J ++ L)) (rrestart_cl q d B hB) p3 ?_
      rintro _ B' ⟨rfl, hB'⟩
      exact ⟨_, List.Perm.refl _, (), rfl, hj _ _ ⟨0, _, A', B', rfl, p3, hA', hB', (g.le (by omega)).restart⟩⟩
    · refine cl_pm (erase_cl m d A hA g.ok b) hp ?_
      rintro _ A' ⟨rfl, hA'⟩
      refine ⟨_, List.Perm.refl _, ((eraseR d b).1, ()), rfl, ?_⟩
      refine cl_pm (R := A' ++ (J ++ L)) (rerase_cl q d B hB g.ok b) p3 ?_
      rintro _ B' ⟨rfl, hB'⟩
      exact ⟨_, List.Perm.refl _, ((eraseR d b).1, ()), rfl, hj _ _ ⟨_, _, A', B', rfl, p3, hA', hB', (g.le (by omega)).erase b⟩⟩
abbrev raWf (W : World) (x : RA) : Prop := intWf .i64 x.1 ∧ intWf .i64 x.2.1 ∧ intWf .i64 x.2.2.1 ∧ intWf .i64 x.2.2.2.1 ∧ intWf .i64 x.2.2.2.2.1 ∧ SlOk W (fun x : PV => [pvV x]) (partWf W) 1 x.2.2.2.2.2.1 ∧ SlOk W itEnc (fun x => intWf .i64 x.1 ∧ intWf .i64 x.2.1 ∧ intWf .i64 x.2.2.1 ∧ True) 3 x.2.2.2.2.2.2.1 ∧ intWf .i64 x.2.2.2.2.2.2.2.1 ∧ intWf .i64 x.2.2.2.2.2.2.2.2.1 ∧ True
theorem row_RegionWrites (W : World) (a0 : SlV) (l0 : List RA) (w0 : SlOk W raEnc (raWf W) 9 (a0, l0)) : Reads PP 7 #[.slice a0.a a0.len a0.cap] (allB W) (.bool true) :=
  law_RegionWrites _ a0 l0 ⟨w0.sl, fun x hx => parts_in (w0.all x hx).2.2.2.2.2.1, fun x hx => (w0.all x hx).2.2.2.2.2.2.1.sl, fun x hx => ⟨(w0.all x hx).2.2.2.1, (wf_i64 (w0.all x hx).2.2.2.2.2.2.2.1).2⟩⟩
end Go.Proofs.Ytlabcgnegbdlfaa
