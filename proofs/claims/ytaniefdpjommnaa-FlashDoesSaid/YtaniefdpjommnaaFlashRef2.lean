/-
  It is proved what Program of the document's answer for the layer flash computes. There are no further conditions than those that each theorem names.
-/
import Derived.Test.YtaniefdpjommnaaFlashRef
set_option linter.unusedVariables false
set_option linter.unusedSimpArgs false
namespace Go.Proofs.Ytaniefdpjommnaa
open Go.HL

theorem ivs_at {L : HList} {v : SlV} {l : List Int} (h : ISl L v .i64 l) {i : Nat} (hi : i < l.length) : v.len = l.length ∧ ∃ a, v.a = some a ∧ LdAt (Addr.add a ((i : Int).toNat * 1)) [.int .i64 l[i]] L := by
  obtain ⟨a, ha⟩ := h.some hi
  exact ⟨h.len, a, ha, h.rd hi ha _ (by rw [Int.toNat_natCast])⟩
theorem nexts_set (d : Dev) (i : Nat) (k : Blk) (e : Dev) (he : e.bs = d.bs.set i k) : nexts e = (nexts d).set i (k.next : Int) := by unfold nexts; rw [he, List.map_set]
theorem wears_set (d : Dev) (i : Nat) (k : Blk) (e : Dev) (he : e.bs = d.bs.set i k) : wears e = (wears d).set i (k.wear : Int) := by unfold wears; rw [he, List.map_set]
theorem bads_set (d : Dev) (i : Nat) (k : Blk) (e : Dev) (he : e.bs = d.bs.set i k) : bads e = (bads d).set i k.bad := by unfold bads; rw [he, List.map_set]
theorem set_same {α β : Type} (l : List α) (f : α → β) (i : Nat) (hi : i < l.length) : (l.map f).set i (f l[i]) = l.map f := by
  apply List.ext_getElem?
  intro j
  rw [List.getElem?_set]
  by_cases h : i = j
  · subst h
    rw [if_pos rfl, if_pos (by rw [List.length_map]; exact hi), List.getElem?_map, List.getElem?_eq_getElem hi]; rfl
  · rw [if_neg h]
/-- What holds of the objects after one block's pages were changed. -/
theorem RHs.put {d e : Dev} {pv : SlV} {pseg : HList} {pre post : List RK} {r : RK} {nv : SlV} {nseg : HList} {wv : SlV} {wseg : HList} {bv : SlV} {bseg : HList} {tv : SlV} {tseg : HList} {ts : List PT}
    (h : RHs d pv pseg (pre ++ r :: post) nv nseg wv wseg bv bseg tv tseg ts) {k : Blk} (he : e.bs = d.bs.set pre.length k) {rseg : HList} (hr : Own r.v 1 eSg (k.pages.map strV) rseg) {nseg' wseg' bseg' : HList}
    (on : Own nv 1 eIn (ivs .i64 (nexts e)) nseg') (ow : Own wv 1 eIn (ivs .i64 (wears e)) wseg') (ob : Own bv 1 eBo (bos (bads e)) bseg') {tv' : SlV} {tseg' : HList} {ts' : List PT}
    (ot : Own tv' 4 eT (ts'.flatMap PT.enc) tseg') (okt : ∀ t ∈ ts', t.m.Ok ∧ t.i.Ok) (ht : ts'.map PT.tn = e.torn) :
    RHs e pv pseg (pre ++ ⟨r.v, rseg, k.pages⟩ :: post) nv nseg' wv wseg' bv bseg' tv' tseg' ts' := by
  refine ⟨?_, ?_, ?_, on, ow, ob, ot, okt, ht⟩
  · have : (pre ++ (⟨r.v, rseg, k.pages⟩ : RK) :: post).map RK.val = (pre ++ r :: post).map RK.val := by simp [RK.val]
    rw [this]; exact h.op
  · intro z hz
    have hz' : z ∈ pre ∨ z = ⟨r.v, rseg, k.pages⟩ ∨ z ∈ post := by simpa using hz
    rcases hz' with h1 | rfl | h1
    · exact h.okp z (by simp [h1])
    · exact hr
    · exact h.okp z (by simp [h1])
  · rw [he, List.map_set, ← h.hp]; simp
theorem rprogram_cl (m : Nat) (d : Dev) (A R : HList) (h : RH m d A) (ok : DvOk d) (hf : d.torn.length ≤ 1048576) (b p : Int) (u : SlV) (data : List UInt8) (hu : BSl R u data) :
    CallF PP 56 #[.pointer (some ⟨m, 0, none⟩), .int .i64 b, .int .i64 p, .slice u.a u.len u.cap] (A ++ R) fun r L' => ∃ A', L' = A' ++ R ∧ r = .int .i64 (prog d b p data).1 ∧ RH m (prog d b p data).2 A' := by
  have hA := h
  obtain ⟨pv, pseg, rs, nv, nseg, wv, wseg, bv, bseg, tv, tseg, ts, rfl, h⟩ := h
  refine CallF.of (args := [.pointer (some ⟨m, 0, none⟩), .int .i64 b, .int .i64 p, .slice u.a u.len u.cap]) noNum mixed Try.func56 (e56 (some ⟨m, 0, none⟩) b p u _) ?_
  unfold t56
  have hP := ok.c.p
  have hS := ok.c.s
  have hul := hu.len
  have hcap := hu.cap
  have hmO : rO m d pv nv wv bv tv ∈ rL m d pv pseg rs nv nseg wv wseg bv bseg tv tseg ts ++ R := List.mem_append_left _ rL_o
  refine nilc_of rfl (ld_of d.down (r_dn hmO) ?_)
  refine ifB_of (fun (hd : d.down = true) => ?_) (fun (hd : d.down = false) => ?_)
  · have hr : prog d b p data = (11, d) := by
      have he : findE d b p = 11 := by unfold findE; rw [if_pos hd]
      unfold prog; rw [he, if_pos (by decide)]
    rw [hr]
    exact .of ⟨_, rfl, rfl, hA⟩
  obtain ⟨hf1, hf2⟩ := findE_there ok hd b p
  refine cl_rd (there_rd _ m d pv nv wv bv tv hmO b p) (decide (0 ≤ b ∧ b < d.c.B ∧ 0 ≤ p ∧ p < d.c.P), ()) rfl ?_
  by_cases hth : 0 ≤ b ∧ b < d.c.B ∧ 0 ≤ p ∧ p < d.c.P
  case neg =>
    rw [decide_eq_false hth]
    have he : findE d b p = 2 := hf2 fun h => hth (hf1.1 h)
    have hr : prog d b p data = (2, d) := by unfold prog; rw [he, if_pos (by decide)]
    rw [hr]
    exact ifT rfl (.of ⟨_, rfl, rfl, hA⟩)
  rw [decide_eq_true hth]
  have he := hf1.2 hth
  obtain ⟨hb0, hb1, hp0, hp1⟩ := hth
  refine ifF rfl (nilc_of rfl (ld_of (d.c.S : Int) (r_S hmO) ?_))
  refine ifNe_of (fun (hs : (u.len : Int) ≠ (d.c.S : Int)) => ?_) (fun (hs : (u.len : Int) = (d.c.S : Int)) => ?_)
  · have hr : prog d b p data = (2, d) := by unfold prog; rw [he, if_neg (by decide), if_pos (by omega)]
    rw [hr]
    exact .of ⟨_, rfl, rfl, hA⟩
  have hdl : data.length = d.c.S := by omega
  obtain ⟨i, rfl⟩ : ∃ i : Nat, b = i := ⟨b.toNat, by omega⟩
  obtain ⟨q, rfl⟩ : ∃ q : Nat, p = q := ⟨p.toNat, by omega⟩
  have hbl := ok.len
  have hi : i < d.bs.length := by omega
  have hir : i < rs.length := by rw [h.rlen]; exact hi
  have hk : d.bs[i]? = some d.bs[i] := List.getElem?_eq_getElem hi
  have hbk := ok.bk (List.getElem_mem hi)
  have hbl1 : (bos (bads d)).length = d.bs.length := by simp [bos, bads]
  have hnl1 : (nexts d).length = d.bs.length := by simp [nexts]
  obtain ⟨e1, ba, hba, lba⟩ := el_at ((h.bsl (m := m)).left (R := R)) (i := i) (by rw [hbl1]; exact hi)
  have hbv : (bos (bads d))[i]'(by rw [hbl1]; exact hi) = .bool d.bs[i].bad := by simp [bos, bads]
  rw [hbv] at lba
  obtain ⟨e2, na, hna, lna⟩ := ivs_at (Sl.left (R := R) (h.nsl (m := m))) (i := i) (by rw [hnl1]; exact hi)
  have hnv : (nexts d)[i]'(by rw [hnl1]; exact hi) = (d.bs[i].next : Int) := by simp [nexts]
  rw [hnv] at lna
  have h0i : (0 : Int) ≤ (i : Int) := by omega
  have h0q : (0 : Int) ≤ (q : Int) := by omega
  have hpr : prog d (i : Int) (q : Int) data = if d.bs[i].bad then (10, d) else if (d.bs[i].next : Int) ≠ (q : Int) then (9, d) else progK d i q d.bs[i] data := by
    unfold prog
    rw [he, if_neg (by decide), if_neg (by omega), Int.toNat_natCast, Int.toNat_natCast, hk]
  refine nilc_of rfl (ld_of bv (r_bd hmO) (nilc_of hba (ixn_of h0i (show (i : Int) < bv.len by omega) (ld_of d.bs[i].bad lba ?_))))
  refine ifB_of (fun (hbad : d.bs[i].bad = true) => ?_) (fun (hbad : d.bs[i].bad = false) => ?_)
  · rw [hpr, if_pos hbad]
    exact .of ⟨_, rfl, rfl, hA⟩
  refine nilc_of rfl (ld_of nv (r_nx hmO) (nilc_of hna (ixn_of h0i (show (i : Int) < nv.len by omega) (ld_of (d.bs[i].next : Int) lna ?_))))
  refine ifNe_of (fun (hn : (d.bs[i].next : Int) ≠ (q : Int)) => ?_) (fun (hn : (d.bs[i].next : Int) = (q : Int)) => ?_)
  · rw [hpr, if_neg (by rw [hbad]; decide), if_pos hn]
    exact .of ⟨_, rfl, rfl, hA⟩
  rw [hpr, if_neg (by rw [hbad]; decide), if_neg (by omega)]
  refine nilc_of rfl (ld_of nv (r_nx hmO) ?_)
  clear hpr hA lna lba hmO
  have hrl := h.rl hir
  obtain ⟨pre, r, post, rfl, rfl⟩ : ∃ pre r post, rs = pre ++ r :: post ∧ pre.length = i := ⟨rs.take i, rs[i], rs.drop (i + 1), by rw [← List.drop_eq_getElem_cons hir, List.take_append_drop], by rw [List.length_take]; omega⟩
  have hrl' : r.l = d.bs[pre.length].pages := by rw [← hrl]; simp
  generalize hkk : d.bs[pre.length] = k at hk hbk hbad hn hrl' ⊢
  have hpl := hbk.pg.1
  have hrll : r.l.length = d.c.P := by rw [hrl']; exact hpl
  have hq : q < k.pages.length := by omega
  have hok := h.okp r (by simp)
  unfold RK.Ok at hok
  rw [hrl'] at hok
  have hwx : IntKind.i64.wrap ((q : Int) + 1) = ((q + 1 : Nat) : Int) := by rw [w64_id (by omega) (by omega)]; omega
  have hL : rL m d pv pseg (pre ++ r :: post) nv nseg wv wseg bv bseg tv tseg ts ++ R = rO m d pv nv wv bv tv :: (pseg ++ (rsegs pre ++ (r.seg ++ (rsegs post ++ (nseg ++ (wseg ++ (bseg ++ (tseg ++ (tsegs ts ++ R))))))))) := by
    unfold rL
    rw [rsegs_append, rsegs_cons]
    simp
  rw [hL]
  clear hL
  have hpm : pv.len = (pre ++ r :: post).length ∧ ∃ a, pv.a = some a ∧ ∀ Z : HList, (∀ x ∈ pseg, x ∈ Z) → LdAt (Addr.add a ((pre.length : Int).toNat * 1)) [.slice r.v.a r.v.len r.v.cap] Z := by
    obtain ⟨e, a, ha, l⟩ := el_at h.op.sl (i := pre.length) (by simp)
    rw [List.length_map] at e
    refine ⟨e, a, ha, fun Z hz => ?_⟩
    have : ((pre ++ r :: post).map RK.val)[pre.length]'(by simp) = RK.val r := by simp
    rw [this] at l
    exact l.mono hz
  obtain ⟨e3, pa, hpa, lpa⟩ := hpm
  simp only [hwx]
  refine nilc_of hna (ixn_of h0i (show (pre.length : Int) < nv.len by omega) ?_)
  refine h.on.st (p := pre.length) (ws := [.int .i64 ((q + 1 : Nat) : Int)]) (rO m d pv nv wv bv tv :: (pseg ++ (rsegs pre ++ (r.seg ++ rsegs post)))) (wseg ++ (bseg ++ (tseg ++ (tsegs ts ++ R)))) (by rw [ivs_length, hnl1, List.length_singleton]; omega) (by simp) hna (by rw [Int.toNat_natCast, Nat.mul_one]) (by simp) fun nseg' own_n => ?_
  rw [putL_one (by rw [ivs_length]; omega), ivs_set] at own_n
  refine nilc_of rfl (nilc_of rfl (ld_of d.bytes (r_by (m := m) (pv := pv) (nv := nv) (wv := wv) (bv := bv) (tv := tv) (by simp)) (ld_of (d.c.S : Int) (r_S (m := m) (pv := pv) (nv := nv) (wv := wv) (bv := bv) (tv := tv) (by simp)) (nilc_of rfl ?_))))
  refine st_of (n := m) (off := 8) (c := #[.int .i64 d.c.B, .int .i64 d.c.P, .int .i64 d.c.S, .int .i64 d.c.W, .slice pv.a pv.len pv.cap, .slice nv.a nv.len nv.cap, .slice wv.a wv.len wv.cap, .slice bv.a bv.len bv.cap, .int .i64 d.bytes, .bool d.down, .int .i64 d.after, .int .i64 d.keep, .slice tv.a tv.len tv.cap]) (T := tRf) (fz := (0, 0)) [] (pseg ++ (rsegs pre ++ (r.seg ++ (rsegs post ++ (nseg' ++ (wseg ++ (bseg ++ (tseg ++ (tsegs ts ++ R))))))))) rfl (by simp [rO]) (by simp) (.inl (Nat.le_refl _))
    #[.int .i64 d.c.B, .int .i64 d.c.P, .int .i64 d.c.S, .int .i64 d.c.W, .slice pv.a pv.len pv.cap, .slice nv.a nv.len nv.cap, .slice wv.a wv.len wv.cap, .slice bv.a bv.len bv.cap, .int .i64 (IntKind.i64.wrap (d.bytes + d.c.S)), .bool d.down, .int .i64 d.after, .int .i64 d.keep, .slice tv.a tv.len tv.cap] rfl ?_
  rw [List.nil_append]
  have hcO : ((m, Obj.cells #[.int .i64 d.c.B, .int .i64 d.c.P, .int .i64 d.c.S, .int .i64 d.c.W, .slice pv.a pv.len pv.cap, .slice nv.a nv.len nv.cap, .slice wv.a wv.len wv.cap, .slice bv.a bv.len bv.cap, .int .i64 (IntKind.i64.wrap (d.bytes + d.c.S)), .bool d.down, .int .i64 d.after, .int .i64 d.keep, .slice tv.a tv.len tv.cap] tRf) : Nat × Obj) = rO m (counted d) pv nv wv bv tv := rfl
  rw [hcO]
  refine nilc_of rfl (ld_of pv (r_pg (m := m) (d := counted d) (nv := nv) (wv := wv) (bv := bv) (tv := tv) (by simp)) (nilc_of hpa (ixn_of h0i (show (pre.length : Int) < pv.len by omega) (ld_of r.v (lpa _ (by intro x hx; simp [hx])) ?_))))
  have hus : ∀ X : HList, BSl (X ++ R) u data := fun X => hu.right
  refine b2s_of (v := u) (l := data) (by have := hus (rO m (counted d) pv nv wv bv tv :: (pseg ++ (rsegs pre ++ (r.seg ++ (rsegs post ++ (nseg' ++ (wseg ++ (bseg ++ (tseg ++ tsegs ts))))))))); simpa using this) ?_
  obtain ⟨e4, ra, hra, -⟩ := el_at hok.sl (i := q) (by rw [List.length_map]; omega)
  rw [List.length_map] at e4
  refine nilc_of hra (ixn_of h0q (show (q : Int) < r.v.len by omega) ?_)
  refine hok.st (p := q) (ws := [strV data]) (rO m (counted d) pv nv wv bv tv :: (pseg ++ rsegs pre)) (rsegs post ++ (nseg' ++ (wseg ++ (bseg ++ (tseg ++ (tsegs ts ++ R)))))) (by rw [List.length_map, List.length_singleton]; omega) (by simp) hra (by rw [Int.toNat_natCast, Nat.mul_one]) (by simp) fun rs1 own1 => ?_
  rw [putL_one (by rw [List.length_map]; omega), ← List.map_set] at own1
  refine cl_in [] (pseg ++ (rsegs pre ++ (rs1 ++ (rsegs post ++ (nseg' ++ (wseg ++ (bseg ++ (tseg ++ (tsegs ts ++ R))))))))) (rtears_cl m (counted d) pv nv wv bv tv ok.after) (by simp) ?_
  rintro _ _ - ⟨rfl, rfl⟩
  refine ⟨((tear (counted d)).1, ()), rfl, ?_⟩
  unfold progK
  obtain ⟨hc2, hb2, hk2, hy2, ht2⟩ := tear_c (counted d)
  generalize hd2 : tear (counted d) = tt at hc2 hb2 hk2 hy2 ht2 ⊢
  obtain ⟨t, d2⟩ := tt
  simp only at hc2 hb2 hk2 hy2 ht2 ⊢
  have hcS : d2.c.S = d.c.S := by rw [hc2]; rfl
  have ht2' : d2.torn = d.torn := ht2
  have hseq : ∀ (k' : Blk) (e : Dev), e.bs = d.bs.set pre.length k' → k'.wear = k.wear → k'.bad = k.bad → wears e = wears d ∧ bads e = bads d := by
    intro k' e he2 hw hb
    rw [wears_set d pre.length k' e he2, bads_set d pre.length k' e he2, hw, hb, ← hkk]
    exact ⟨set_same d.bs (fun k => (k.wear : Int)) pre.length hi, set_same d.bs (fun k => k.bad) pre.length hi⟩
  have hnseq : ∀ (k' : Blk) (e : Dev), e.bs = d.bs.set pre.length k' → k'.next = q + 1 → nexts e = (nexts d).set pre.length ((q + 1 : Nat) : Int) := by
    intro k' e he2 hn2
    rw [nexts_set d pre.length k' e he2, hn2]
  cases t with
  | false =>
    refine ifT rfl ?_
    rw [if_neg (by decide)]
    obtain ⟨s1, s2⟩ := hseq (k.put q data) { d2 with bs := d.bs.set pre.length (k.put q data) } rfl rfl rfl
    have s3 := hnseq (k.put q data) { d2 with bs := d.bs.set pre.length (k.put q data) } rfl rfl
    refine .of ⟨rL m { d2 with bs := d.bs.set pre.length (k.put q data) } pv pseg (pre ++ ⟨r.v, rs1, (k.put q data).pages⟩ :: post) nv nseg' wv wseg bv bseg tv tseg ts, ?_, rfl, pv, pseg, _, nv, nseg', wv, wseg, bv, bseg, tv, tseg, ts, rfl,
      h.put (k := k.put q data) rfl own1 (by rw [s3]; exact own_n) (by rw [s1]; exact h.ow) (by rw [s2]; exact h.ob) h.ot h.okt (by show _ = d2.torn; rw [ht2']; exact h.ht)⟩
    unfold rL
    rw [rsegs_append, rsegs_cons]
    simp [rO]
  | true =>
    rw [if_pos rfl]
    have hd2k : d2.keep = d.keep := hk2
    have hm2 : ∀ {Z : HList}, rO m d2 pv nv wv bv tv ∈ Z → rO m d2 pv nv wv bv tv ∈ Z := fun h => h
    refine ifF rfl (nilc_of rfl (nilc_of rfl ?_))
    rw [List.nil_append]
    refine ld_of d2.keep (r_kp (m := m) (d := d2) (pv := pv) (nv := nv) (wv := wv) (bv := bv) (tv := tv) (by simp)) (ld_of (d2.c.S : Int) (r_S (m := m) (d := d2) (pv := pv) (nv := nv) (wv := wv) (bv := bv) (tv := tv) (by simp)) (nilc_of rfl ?_))
    rw [hcS]
    simp only [imin_kept]
    rw [show keptN d2.keep d.c.S = keptN d.keep d.c.S by rw [hd2k]]
    have hkp : keptN d.keep d.c.S ≤ d.c.S := by unfold keptN; omega
    refine slc_of (l' := 0) (h' := keptN d.keep d.c.S) (m' := u.cap) rfl rfl rfl (by omega) (by omega) (Nat.le_refl _) ?_
    have hss : ∀ X : HList, Sl (X ++ R) (slcV u (0 : Nat) (keptN d.keep d.c.S : Nat) (u.cap : Nat) 1) 1 (bvs (data.take (keptN d.keep d.c.S))) := by
      intro X
      have := (hus X).slc (l := 0) (h' := keptN d.keep d.c.S) (m := u.cap) (by decide) (by omega) (by omega) (by omega)
      rw [bvs_slc, List.drop_zero, Nat.sub_zero] at this
      exact this
    generalize slcV u (0 : Nat) (keptN d.keep d.c.S : Nat) (u.cap : Nat) 1 = us at hss ⊢
    have hLs : [rO m d2 pv nv wv bv tv] ++ (pseg ++ (rsegs pre ++ (rs1 ++ (rsegs post ++ (nseg' ++ (wseg ++ (bseg ++ (tseg ++ (tsegs ts ++ R))))))))) = (rO m d2 pv nv wv bv tv :: (pseg ++ rsegs pre)) ++ rs1 ++ (rsegs post ++ (nseg' ++ (wseg ++ (bseg ++ (tseg ++ (tsegs ts ++ R)))))) := by simp
    rw [hLs]
    clear hLs
    have mem1 : ∀ s : HList, rO m d2 pv nv wv bv tv ∈ (rO m d2 pv nv wv bv tv :: (pseg ++ rsegs pre)) ++ s ++ (rsegs post ++ (nseg' ++ (wseg ++ (bseg ++ (tseg ++ (tsegs ts ++ R)))))) := fun s => by simp
    have lp1 : ∀ s : HList, LdAt (Addr.add pa ((pre.length : Int).toNat * 1)) [.slice r.v.a r.v.len r.v.cap] ((rO m d2 pv nv wv bv tv :: (pseg ++ rsegs pre)) ++ s ++ (rsegs post ++ (nseg' ++ (wseg ++ (bseg ++ (tseg ++ (tsegs ts ++ R))))))) := fun s => lpa _ (by intro x hx; simp [hx])
    have hbs1 : BSl ((rO m d2 pv nv wv bv tv :: (pseg ++ rsegs pre)) ++ rs1 ++ (rsegs post ++ (nseg' ++ (wseg ++ (bseg ++ (tseg ++ (tsegs ts ++ R))))))) us (data.take (keptN d.keep d.c.S)) := by
      have := hss ((rO m d2 pv nv wv bv tv :: (pseg ++ rsegs pre)) ++ rs1 ++ (rsegs post ++ (nseg' ++ (wseg ++ (bseg ++ (tseg ++ tsegs ts))))))
      simpa using this
    have g2 : (pre.length : Int) < pv.len := by omega
    refine nilc_of rfl (ld_of pv (r_pg (mem1 rs1)) (nilc_of hpa (ixn_of h0i g2 (ld_of r.v (lp1 rs1) (b2s_of hbs1 (ld_of (d2.c.S : Int) (r_S (mem1 rs1)) ?_))))))
    rw [hcS]
    have hwk : IntKind.i64.wrap ((d.c.S : Int) - (keptN d.keep d.c.S : Int)) = ((d.c.S - keptN d.keep d.c.S : Nat) : Int) := by rw [w64_id (by omega) (by omega)]; omega
    simp only [hwk]
    refine cl_rd (rblank_s _ (d.c.S - keptN d.keep d.c.S) (by omega)) ((⟨(blk (d.c.S - keptN d.keep d.c.S)).toArray⟩ : ByteArray), ()) rfl ?_
    refine keep_of (b2s_rd hbs1) (keep_of (lp1 rs1) (keep_of (r_pg (mem1 rs1)) ?_))
    have hsz1 : (ByteArray.mk (data.take (keptN d.keep d.c.S)).toArray).size = keptN d.keep d.c.S := by
      show (data.take (keptN d.keep d.c.S)).toArray.size = _
      rw [List.size_toArray, List.length_take]; omega
    have hsz2 : (ByteArray.mk (blk (d.c.S - keptN d.keep d.c.S)).toArray).size = d.c.S - keptN d.keep d.c.S := by
      show (blk (d.c.S - keptN d.keep d.c.S)).toArray.size = _
      rw [List.size_toArray, blk, List.length_replicate]
    refine req_of ?_ ?_
    · show (((ByteArray.mk (data.take (keptN d.keep d.c.S)).toArray).size + (ByteArray.mk (blk (d.c.S - keptN d.keep d.c.S)).toArray).size : Nat) : Int) ≤ 9223372036854775807
      rw [hsz1, hsz2]; omega
    have hcat : (ByteArray.mk (data.take (keptN d.keep d.c.S)).toArray) ++ (ByteArray.mk (blk (d.c.S - keptN d.keep d.c.S)).toArray) = ⟨(tornImg d data).toArray⟩ := by
      apply ByteArray.ext
      rw [ByteArray.data_append]
      unfold tornImg
      simp
    simp only [hcat]
    refine nilc_of hra (ixn_of h0q (show (q : Int) < r.v.len by omega) ?_)
    refine own1.st (p := q) (ws := [strV (tornImg d data)]) (rO m d2 pv nv wv bv tv :: (pseg ++ rsegs pre)) (rsegs post ++ (nseg' ++ (wseg ++ (bseg ++ (tseg ++ (tsegs ts ++ R)))))) (by rw [List.length_map, List.length_set, List.length_singleton]; omega) (by simp) hra (by rw [Int.toNat_natCast, Nat.mul_one]) rfl fun rs2 own2 => ?_
    rw [putL_one (by rw [List.length_map, List.length_set]; omega), ← List.map_set, List.set_set] at own2
    have himl := tornImg_len hdl
    obtain ⟨e5, ra2, hra2, lra⟩ := el_at own2.sl (i := q) (by rw [List.length_map, List.length_set]; omega)
    have hrv : ((k.pages.set q (tornImg d data)).map strV)[q]'(by rw [List.length_map, List.length_set]; omega) = .string ⟨(tornImg d data).toArray⟩ := by
      rw [List.getElem_map, List.getElem_set_self]; rfl
    rw [hrv] at lra
    have lr1 : LdAt (Addr.add ra2 ((q : Int).toNat * 1)) [.string ⟨(tornImg d data).toArray⟩] ((rO m d2 pv nv wv bv tv :: (pseg ++ rsegs pre)) ++ rs2 ++ (rsegs post ++ (nseg' ++ (wseg ++ (bseg ++ (tseg ++ (tsegs ts ++ R))))))) := lra.mono fun x hx => List.mem_append_left _ (List.mem_append_right _ hx)
    refine nilc_of rfl (nilc_of rfl (ld_of tv (r_tn (mem1 rs2)) (ld_of pv (r_pg (mem1 rs2)) (nilc_of hpa (ixn_of h0i g2 (ld_of r.v (lp1 rs2) (nilc_of hra2 (ixn_of h0q (show (q : Int) < r.v.len by omega) (ld_of (⟨(tornImg d data).toArray⟩ : ByteArray) lr1 (nw_of fun n1 _ => ?_))))))))))
    have husL : BSl ((rO m d2 pv nv wv bv tv :: (pseg ++ rsegs pre)) ++ rs2 ++ (rsegs post ++ (nseg' ++ (wseg ++ (bseg ++ (tseg ++ (tsegs ts ++ R))))))) u data := by
      have := hus ((rO m d2 pv nv wv bv tv :: (pseg ++ rsegs pre)) ++ rs2 ++ (rsegs post ++ (nseg' ++ (wseg ++ (bseg ++ (tseg ++ tsegs ts))))))
      simpa using this
    have k1 := r_tn (mem1 rs2)
    have k2 := r_pg (mem1 rs2)
    have k3 := lp1 rs2
    generalize hLL : (rO m d2 pv nv wv bv tv :: (pseg ++ rsegs pre)) ++ rs2 ++ (rsegs post ++ (nseg' ++ (wseg ++ (bseg ++ (tseg ++ (tsegs ts ++ R)))))) = LL at husL lr1 k1 k2 k3 ⊢
    refine append_in elemB srcB [] LL own_empty rfl (.sl husL.cons) (bvs_plain _) (by simp only; omega) fun v5 seg5 hv5 own5 => ?_
    rw [List.nil_append] at own5 ⊢
    have hup : ∀ z ∈ LL, z ∈ seg5 ++ LL := fun z hz => List.mem_append_right _ hz
    refine keep_of (lr1.mono hup) (keep_of (k3.mono hup) (keep_of (k2.mono hup) (keep_of (k1.mono hup) ?_)))
    refine s2b_of fun n3 ob3 v6 hv6 own6 _ => nw_of fun n4 _ => ?_
    subst hLL
    have htl : ts.length = d.torn.length := by rw [← h.ht, List.length_map]
    have htvl := h.ot.sl.els_len PT.enc_len (by decide)
    have own6' : Own v6 1 eB (bvs (tornImg d data)) [(n3, ob3)] := own6
    refine append_in elemTs srcTs ((n4, Obj.cells #[.int .i64 pre.length, .int .i64 q, .slice v5.a v5.len v5.cap, .slice v6.a v6.len v6.cap] eT) :: (n3, ob3) :: (seg5 ++ (rO m d2 pv nv wv bv tv :: (pseg ++ (rsegs pre ++ (rs2 ++ (rsegs post ++ (nseg' ++ (wseg ++ bseg))))))))) (tsegs ts ++ R) h.ot (by simp)
      (n := 1) (ws := PT.enc ⟨pre.length, q, ⟨v5, seg5, data⟩, ⟨v6, [(n3, ob3)], tornImg d data⟩⟩) (x := .slice (some ⟨n4, 0, none⟩) 1 1) (Src.sl (v := ⟨some ⟨n4, 0, none⟩, 1, 1⟩) ⟨rfl, Nat.le_refl _, .inr ⟨_, rfl, ldB List.mem_cons_self rfl⟩⟩) rfl (by omega) fun v8 seg8 hv8 own8 => ?_
    refine nilc_of rfl ?_
    refine st_of (n := m) (off := 12) (c := #[.int .i64 d2.c.B, .int .i64 d2.c.P, .int .i64 d2.c.S, .int .i64 d2.c.W, .slice pv.a pv.len pv.cap, .slice nv.a nv.len nv.cap, .slice wv.a wv.len wv.cap, .slice bv.a bv.len bv.cap, .int .i64 d2.bytes, .bool d2.down, .int .i64 d2.after, .int .i64 d2.keep, .slice tv.a tv.len tv.cap]) (T := tRf) (fz := (0, 0)) ((n4, Obj.cells #[.int .i64 pre.length, .int .i64 q, .slice v5.a v5.len v5.cap, .slice v6.a v6.len v6.cap] eT) :: (n3, ob3) :: seg5) (pseg ++ (rsegs pre ++ (rs2 ++ (rsegs post ++ (nseg' ++ (wseg ++ (bseg ++ (seg8 ++ (tsegs ts ++ R))))))))) rfl (by simp [rO]) (by simp) (.inl (Nat.le_refl _))
      #[.int .i64 d2.c.B, .int .i64 d2.c.P, .int .i64 d2.c.S, .int .i64 d2.c.W, .slice pv.a pv.len pv.cap, .slice nv.a nv.len nv.cap, .slice wv.a wv.len wv.cap, .slice bv.a bv.len bv.cap, .int .i64 d2.bytes, .bool d2.down, .int .i64 d2.after, .int .i64 d2.keep, .slice v8.a v8.len v8.cap] rfl ?_
    obtain ⟨s1, s2⟩ := hseq (k.put q (tornImg d data)) { d2 with bs := d.bs.set pre.length (k.put q (tornImg d data)), torn := d.torn ++ [⟨pre.length, q, data, tornImg d data⟩] } rfl rfl rfl
    have s3 := hnseq (k.put q (tornImg d data)) { d2 with bs := d.bs.set pre.length (k.put q (tornImg d data)), torn := d.torn ++ [⟨pre.length, q, data, tornImg d data⟩] } rfl rfl
    refine .drop (A := rL m { d2 with bs := d.bs.set pre.length (k.put q (tornImg d data)), torn := d.torn ++ [⟨pre.length, q, data, tornImg d data⟩] } pv pseg (pre ++ ⟨r.v, rs2, (k.put q (tornImg d data)).pages⟩ :: post) nv nseg' wv wseg bv bseg v8 seg8 (ts ++ [⟨pre.length, q, ⟨v5, seg5, data⟩, ⟨v6, [(n3, ob3)], tornImg d data⟩⟩]) ++ R) (J := [(n4, Obj.cells #[.int .i64 pre.length, .int .i64 q, .slice v5.a v5.len v5.cap, .slice v6.a v6.len v6.cap] eT)])
      ⟨_, rfl, rfl, pv, pseg, _, nv, nseg', wv, wseg, bv, bseg, v8, seg8, _, rfl, h.put (k := k.put q (tornImg d data)) rfl own2 (by rw [s3]; exact own_n) (by rw [s1]; exact h.ow) (by rw [s2]; exact h.ob) (by rw [List.flatMap_append, List.flatMap_singleton]; exact own8) ?_ ?_⟩ ?_
    · intro z hz
      rcases List.mem_append.1 hz with h1 | h1
      · exact h.okt z h1
      · rw [List.mem_singleton.1 h1]; exact ⟨own5, own6'⟩
    · rw [List.map_append, h.ht]; rfl
    · unfold rL
      rw [rsegs_append, rsegs_cons, tsegs_append, tsegs_one]
      have ho2 : rO m { d2 with bs := d.bs.set pre.length (k.put q (tornImg d data)), torn := d.torn ++ [⟨pre.length, q, data, tornImg d data⟩] } pv nv wv bv v8 = (m, Obj.cells #[.int .i64 d2.c.B, .int .i64 d2.c.P, .int .i64 d2.c.S, .int .i64 d2.c.W, .slice pv.a pv.len pv.cap, .slice nv.a nv.len nv.cap, .slice wv.a wv.len wv.cap, .slice bv.a bv.len bv.cap, .int .i64 d2.bytes, .bool d2.down, .int .i64 d2.after, .int .i64 d2.keep, .slice v8.a v8.len v8.cap] tRf) := rfl
      rw [ho2]
      simp only
      generalize (m, Obj.cells #[.int .i64 d2.c.B, .int .i64 d2.c.P, .int .i64 d2.c.S, .int .i64 d2.c.W, .slice pv.a pv.len pv.cap, .slice nv.a nv.len nv.cap, .slice wv.a wv.len wv.cap, .slice bv.a bv.len bv.cap, .int .i64 d2.bytes, .bool d2.down, .int .i64 d2.after, .int .i64 d2.keep, .slice v8.a v8.len v8.cap] tRf) = of
      generalize (n4, Obj.cells #[.int .i64 pre.length, .int .i64 q, .slice v5.a v5.len v5.cap, .slice v6.a v6.len v6.cap] eT) = o4
      generalize (n3, ob3) = o3
      classical
      rw [List.perm_iff_count]
      intro z
      simp only [List.append_eq, List.cons_append, List.count_append, List.count_cons, List.count_nil]
      omega
end Go.Proofs.Ytaniefdpjommnaa
