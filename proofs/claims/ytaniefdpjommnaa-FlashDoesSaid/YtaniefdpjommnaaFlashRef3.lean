/-
  It is proved what Erase of the document's answer for the layer flash computes. There are no further conditions than those that each theorem names.
-/
import Derived.Test.YtaniefdpjommnaaFlashRef2
set_option linter.unusedVariables false
set_option linter.unusedSimpArgs false
namespace Go.Proofs.Ytaniefdpjommnaa
open Go.HL

theorem bos_set (l : List Bool) (i : Nat) (x : Bool) : (bos l).set i (.bool x) = bos (l.set i x) := by unfold bos; rw [List.map_set]
theorem rerase_cl (m : Nat) (d : Dev) (A : HList) (h : RH m d A) (ok : DvOk d) (b : Int) :
    CallF PP 58 #[.pointer (some ⟨m, 0, none⟩), .int .i64 b] A fun r L' => r = .int .i64 (eraseR d b).1 ∧ RH m (eraseR d b).2 L' := by
  have hA := h
  obtain ⟨pv, pseg, rs, nv, nseg, wv, wseg, bv, bseg, tv, tseg, ts, rfl, h⟩ := h
  refine CallF.of (args := [.pointer (some ⟨m, 0, none⟩), .int .i64 b]) noNum mixed Try.func58 (e58 (some ⟨m, 0, none⟩) b _) ?_
  unfold t58
  have hP := ok.c.p
  have hS := ok.c.s
  have hW := ok.c.w
  have hmO : rO m d pv nv wv bv tv ∈ rL m d pv pseg rs nv nseg wv wseg bv bseg tv tseg ts := rL_o
  refine nilc_of rfl (ld_of d.down (r_dn hmO) ?_)
  refine ifB_of (fun (hd : d.down = true) => ?_) (fun (hd : d.down = false) => ?_)
  · have hr : eraseR d b = (11, d) := by
      have he : findE d b 0 = 11 := by unfold findE; rw [if_pos hd]
      unfold eraseR; rw [he, if_pos (by decide)]
    rw [hr]
    exact .of ⟨rfl, hA⟩
  obtain ⟨hf1, hf2⟩ := findE_there ok hd b 0
  refine cl_rd (there_rd _ m d pv nv wv bv tv hmO b 0) (decide (0 ≤ b ∧ b < d.c.B ∧ 0 ≤ (0 : Int) ∧ (0 : Int) < d.c.P), ()) rfl ?_
  by_cases hth : 0 ≤ b ∧ b < d.c.B ∧ 0 ≤ (0 : Int) ∧ (0 : Int) < d.c.P
  case neg =>
    rw [decide_eq_false hth]
    have he : findE d b 0 = 2 := hf2 fun h => hth (hf1.1 h)
    have hr : eraseR d b = (2, d) := by unfold eraseR; rw [he, if_pos (by decide)]
    rw [hr]
    exact ifT rfl (.of ⟨rfl, hA⟩)
  rw [decide_eq_true hth]
  have he := hf1.2 hth
  obtain ⟨hb0, hb1, -, -⟩ := hth
  obtain ⟨i, rfl⟩ : ∃ i : Nat, b = i := ⟨b.toNat, by omega⟩
  have hbl := ok.len
  have hi : i < d.bs.length := by omega
  have hir : i < rs.length := by rw [h.rlen]; exact hi
  have hk : d.bs[i]? = some d.bs[i] := List.getElem?_eq_getElem hi
  have hbk := ok.bk (List.getElem_mem hi)
  have hbl1 : (bos (bads d)).length = d.bs.length := by simp [bos, bads]
  have hnl1 : (nexts d).length = d.bs.length := by simp [nexts]
  have hwl1 : (wears d).length = d.bs.length := by simp [wears]
  obtain ⟨e1, ba, hba, lba⟩ := el_at (h.bsl (m := m)) (i := i) (by rw [hbl1]; exact hi)
  have hbv : (bos (bads d))[i]'(by rw [hbl1]; exact hi) = .bool d.bs[i].bad := by simp [bos, bads]
  rw [hbv] at lba
  have h0i : (0 : Int) ≤ (i : Int) := by omega
  have hpr : eraseR d (i : Int) = if d.bs[i].bad then (10, d) else eraseK d i d.bs[i] := by
    unfold eraseR
    rw [he, if_neg (by decide), Int.toNat_natCast, hk]
  refine ifF rfl (nilc_of rfl (ld_of bv (r_bd hmO) (nilc_of hba (ixn_of h0i (show (i : Int) < bv.len by omega) (ld_of d.bs[i].bad lba ?_)))))
  refine ifB_of (fun (hbad : d.bs[i].bad = true) => ?_) (fun (hbad : d.bs[i].bad = false) => ?_)
  · rw [hpr, if_pos hbad]
    exact .of ⟨rfl, hA⟩
  rw [hpr, if_neg (by rw [hbad]; decide)]
  clear hpr hA lba hmO
  have hrl := h.rl hir
  obtain ⟨pre, r, post, rfl, rfl⟩ : ∃ pre r post, rs = pre ++ r :: post ∧ pre.length = i := ⟨rs.take i, rs[i], rs.drop (i + 1), by rw [← List.drop_eq_getElem_cons hir, List.take_append_drop], by rw [List.length_take]; omega⟩
  have hrl' : r.l = d.bs[pre.length].pages := by rw [← hrl]; simp
  have hnv : (nexts d)[pre.length]'(by rw [hnl1]; exact hi) = (d.bs[pre.length].next : Int) := by simp [nexts]
  have hwv : (wears d)[pre.length]'(by rw [hwl1]; exact hi) = (d.bs[pre.length].wear : Int) := by simp [wears]
  generalize hkk : d.bs[pre.length] = k at hk hbk hbad hrl' hnv hwv ⊢
  have hpl := hbk.pg.1
  have hkw : k.wear ≤ d.c.W := hbk.nx.2.1
  have hok := h.okp r (by simp)
  unfold RK.Ok at hok
  rw [hrl'] at hok
  have hL : rL m d pv pseg (pre ++ r :: post) nv nseg wv wseg bv bseg tv tseg ts = rO m d pv nv wv bv tv :: (pseg ++ (rsegs pre ++ (r.seg ++ (rsegs post ++ (nseg ++ (wseg ++ (bseg ++ (tseg ++ tsegs ts)))))))) := by
    unfold rL
    rw [rsegs_append, rsegs_cons]
    simp
  rw [hL]
  clear hL
  have hpm : pv.len = (pre ++ r :: post).length ∧ ∃ a, pv.a = some a ∧ ∀ Z : HList, (∀ x ∈ pseg, x ∈ Z) → LdAt (Addr.add a ((pre.length : Int).toNat * 1)) [.slice r.v.a r.v.len r.v.cap] Z := by
    obtain ⟨e, a, ha, l⟩ := el_at h.op.sl (i := pre.length) (by simp)
    rw [List.length_map] at e
    refine ⟨e, a, ha, fun Z hz => ?_⟩
    have : ((pre ++ r :: post).map RK.val)[pre.length]'(by simp) = RK.val r := by simp
    rw [this] at l
    exact l.mono hz
  obtain ⟨e3, pa, hpa, lpa⟩ := hpm
  have g2 : (pre.length : Int) < pv.len := by omega
  refine cl_in [] (pseg ++ (rsegs pre ++ (r.seg ++ (rsegs post ++ (nseg ++ (wseg ++ (bseg ++ (tseg ++ tsegs ts)))))))) (rtears_cl m d pv nv wv bv tv ok.after) rfl ?_
  rintro _ _ - ⟨rfl, rfl⟩
  refine ⟨((tear d).1, ()), rfl, ?_⟩
  unfold eraseK
  obtain ⟨hc2, hb2, hk2, hy2, ht2⟩ := tear_c d
  generalize hd2 : tear d = tt at hc2 hb2 hk2 hy2 ht2 ⊢
  obtain ⟨t, d2⟩ := tt
  simp only at hc2 hb2 hk2 hy2 ht2 ⊢
  have hLs : [] ++ [rO m d2 pv nv wv bv tv] ++ (pseg ++ (rsegs pre ++ (r.seg ++ (rsegs post ++ (nseg ++ (wseg ++ (bseg ++ (tseg ++ tsegs ts)))))))) = (rO m d2 pv nv wv bv tv :: (pseg ++ rsegs pre)) ++ r.seg ++ (rsegs post ++ (nseg ++ (wseg ++ (bseg ++ (tseg ++ tsegs ts))))) := by simp
  rw [hLs]
  clear hLs
  have mem1 : ∀ s : HList, rO m d2 pv nv wv bv tv ∈ (rO m d2 pv nv wv bv tv :: (pseg ++ rsegs pre)) ++ s ++ (rsegs post ++ (nseg ++ (wseg ++ (bseg ++ (tseg ++ tsegs ts))))) := fun s => by simp
  have lp1 : ∀ s : HList, LdAt (Addr.add pa ((pre.length : Int).toNat * 1)) [.slice r.v.a r.v.len r.v.cap] ((rO m d2 pv nv wv bv tv :: (pseg ++ rsegs pre)) ++ s ++ (rsegs post ++ (nseg ++ (wseg ++ (bseg ++ (tseg ++ tsegs ts)))))) := fun s => lpa _ (by intro x hx; simp [hx])
  have hcP : (d2.c.P : Int) = d.c.P := by rw [hc2]
  have hcS : (d2.c.S : Int) = d.c.S := by rw [hc2]
  refine nilc_of rfl (ld_of (d2.c.P : Int) (r_P (mem1 r.seg)) ?_)
  rw [hcP]
  generalize hnn : (if t then keptN d.keep d.c.P else d.c.P) = n
  have hn : n ≤ d.c.P := by rw [← hnn]; unfold keptN; split <;> omega
  refine jn_of (fun y L' => y = ((n : Int), ()) ∧ L' = (rO m d2 pv nv wv bv tv :: (pseg ++ rsegs pre)) ++ r.seg ++ (rsegs post ++ (nseg ++ (wseg ++ (bseg ++ (tseg ++ tsegs ts)))))) ?_ ?_
  case refine_2 =>
    intro j hj
    cases t with
    | true =>
      refine ifT rfl (nilc_of rfl (ld_of d2.keep (r_kp (mem1 r.seg)) ?_))
      simp only [imin_kept]
      rw [show keptN d2.keep d.c.P = keptN d.keep d.c.P by rw [hk2]]
      exact hj _ _ ⟨by rw [← hnn]; rfl, rfl⟩
    | false => exact ifF rfl (hj _ _ ⟨by rw [← hnn]; rfl, rfl⟩)
  rintro _ _ ⟨rfl, rfl⟩
  refine lp_of (fun z' z L' => ∃ (j : Nat) (sg : HList), j ≤ n ∧ z' = n - j ∧ z = ((j : Int), ()) ∧ L' = (rO m d2 pv nv wv bv tv :: (pseg ++ rsegs pre)) ++ sg ++ (rsegs post ++ (nseg ++ (wseg ++ (bseg ++ (tseg ++ tsegs ts))))) ∧ Own r.v 1 eSg ((List.replicate j (blk d.c.S) ++ k.pages.drop j).map strV) sg) n
    ⟨0, r.seg, by omega, by omega, rfl, rfl, by simpa using hok⟩ ?_
  rintro z' z _ ⟨j, sg, hj, rfl, rfl, rfl, own⟩
  have hll : ((List.replicate j (blk d.c.S) ++ k.pages.drop j).map strV).length = d.c.P := by
    rw [List.length_map, List.length_append, List.length_replicate, List.length_drop]; omega
  have hvl := own.len
  rw [hll] at hvl
  refine ifD_of (fun (hlt : (j : Int) < (n : Int)) => ?_) (fun (hge : ¬ (j : Int) < (n : Int)) => ?_)
  · obtain ⟨e4, ra, hra, -⟩ := el_at own.sl (i := j) (by rw [hll]; omega)
    refine nilc_of rfl (nilc_of rfl (ld_of pv (r_pg (mem1 sg)) (nilc_of hpa (ixn_of h0i g2 (ld_of r.v (lp1 sg) (ld_of (d2.c.S : Int) (r_S (mem1 sg)) ?_))))))
    rw [hcS]
    refine cl_rd (rblank_s _ d.c.S (by omega)) ((⟨(blk d.c.S).toArray⟩ : ByteArray), ()) rfl (keep_of (lp1 sg) (keep_of (r_pg (mem1 sg)) ?_))
    refine nilc_of hra (ixn_of (show (0 : Int) ≤ (j : Int) by omega) (show (j : Int) < r.v.len by omega) ?_)
    refine own.st (p := j) (ws := [strV (blk d.c.S)]) (rO m d2 pv nv wv bv tv :: (pseg ++ rsegs pre)) (rsegs post ++ (nseg ++ (wseg ++ (bseg ++ (tseg ++ tsegs ts))))) (by rw [hll, List.length_singleton]; omega) (by simp) hra (by rw [Int.toNat_natCast, Nat.mul_one]) rfl fun sg' own' => ?_
    rw [putL_one (by rw [hll]; omega), ← List.map_set] at own'
    refine ⟨n - (j + 1), by omega, j + 1, sg', by omega, rfl, ?_, rfl, ?_⟩
    · rw [w64_id (by first | omega | (simp only; omega)) (by first | omega | (simp only; omega))]
      rfl
    · have : (List.replicate j (blk d.c.S) ++ k.pages.drop j).set j (blk d.c.S) = List.replicate (j + 1) (blk d.c.S) ++ k.pages.drop (j + 1) := by
        rw [List.set_append, if_neg (by simp), List.length_replicate, Nat.sub_self, List.drop_eq_getElem_cons (by omega), List.set_cons_zero, List.replicate_succ', List.append_assoc]
        rfl
      rw [this] at own'
      exact own'
  · obtain rfl : j = n := by omega
    cases t with
    | true =>
      rw [if_pos rfl] at hnn ⊢
      subst hnn
      obtain ⟨e2, na, hna, -⟩ := ivs_at (L := nseg) h.on.sl (i := pre.length) (by rw [hnl1]; exact hi)
      refine ifT rfl (nilc_of rfl (nilc_of rfl (ld_of nv (r_nx (mem1 sg)) (ld_of (d2.c.P : Int) (r_P (mem1 sg)) ?_))))
      rw [hcP]
      refine nilc_of hna (ixn_of h0i (show (pre.length : Int) < nv.len by omega) ?_)
      refine h.on.st (p := pre.length) (ws := [.int .i64 (d.c.P : Int)]) (rO m d2 pv nv wv bv tv :: (pseg ++ (rsegs pre ++ (sg ++ rsegs post)))) (wseg ++ (bseg ++ (tseg ++ tsegs ts))) (by rw [ivs_length, hnl1, List.length_singleton]; omega) (by simp) hna (by rw [Int.toNat_natCast, Nat.mul_one]) (by simp) fun nseg' own_n => ?_
      rw [putL_one (by rw [ivs_length]; omega), ivs_set] at own_n
      have s1 : wears { d2 with bs := d.bs.set pre.length (k.torn d.c (keptN d.keep d.c.P)) } = wears d := by
        rw [wears_set d pre.length (k.torn d.c (keptN d.keep d.c.P)) _ rfl]
        show (wears d).set pre.length (k.wear : Int) = _
        rw [← hkk]
        exact set_same d.bs (fun k => (k.wear : Int)) pre.length hi
      have s2 : bads { d2 with bs := d.bs.set pre.length (k.torn d.c (keptN d.keep d.c.P)) } = bads d := by
        rw [bads_set d pre.length (k.torn d.c (keptN d.keep d.c.P)) _ rfl]
        show (bads d).set pre.length k.bad = _
        rw [← hkk]
        exact set_same d.bs (fun k => k.bad) pre.length hi
      refine .of ⟨rfl, pv, pseg, pre ++ ⟨r.v, sg, (k.torn d.c (keptN d.keep d.c.P)).pages⟩ :: post, nv, nseg', wv, wseg, bv, bseg, tv, tseg, ts, ?_,
        h.put (k := k.torn d.c (keptN d.keep d.c.P)) rfl own (by rw [nexts_set d pre.length (k.torn d.c (keptN d.keep d.c.P)) _ rfl]; exact own_n) (by rw [s1]; exact h.ow) (by rw [s2]; exact h.ob) h.ot h.okt (by show _ = d2.torn; rw [ht2]; exact h.ht)⟩
      unfold rL
      rw [rsegs_append, rsegs_cons]
      simp [rO]
    | false =>
      rw [if_neg (by decide)] at hnn ⊢
      subst hnn
      obtain ⟨e2, na, hna, -⟩ := ivs_at (L := nseg) h.on.sl (i := pre.length) (by rw [hnl1]; exact hi)
      obtain ⟨e5, wa, hwa, lwa⟩ := ivs_at (L := wseg) h.ow.sl (i := pre.length) (by rw [hwl1]; exact hi)
      rw [hwv] at lwa
      obtain ⟨e6, ba2, hba2, -⟩ := el_at h.ob.sl (i := pre.length) (by rw [hbl1]; exact hi)
      have hrw : (k.fresh d.c).pages = List.replicate d.c.P (blk d.c.S) ++ k.pages.drop d.c.P := by
        unfold Blk.fresh
        rw [List.drop_of_length_le (by omega), List.append_nil]
      rw [← hrw] at own
      refine ifF rfl (nilc_of rfl (ld_of nv (r_nx (mem1 sg)) ?_))
      refine nilc_of hna (ixn_of h0i (show (pre.length : Int) < nv.len by omega) ?_)
      refine h.on.st (p := pre.length) (ws := [.int .i64 0]) (rO m d2 pv nv wv bv tv :: (pseg ++ (rsegs pre ++ (sg ++ rsegs post)))) (wseg ++ (bseg ++ (tseg ++ tsegs ts))) (by rw [ivs_length, hnl1, List.length_singleton]; omega) (by simp) hna (by rw [Int.toNat_natCast, Nat.mul_one]) (by simp) fun nseg' own_n => ?_
      rw [putL_one (by rw [ivs_length]; omega), ivs_set] at own_n
      have mem2 : ∀ w b : HList, rO m d2 pv nv wv bv tv ∈ (rO m d2 pv nv wv bv tv :: (pseg ++ (rsegs pre ++ (sg ++ (rsegs post ++ nseg'))))) ++ w ++ (b ++ (tseg ++ tsegs ts)) := fun w b => by simp
      have hLs : (rO m d2 pv nv wv bv tv :: (pseg ++ (rsegs pre ++ (sg ++ rsegs post)))) ++ nseg' ++ (wseg ++ (bseg ++ (tseg ++ tsegs ts))) = (rO m d2 pv nv wv bv tv :: (pseg ++ (rsegs pre ++ (sg ++ (rsegs post ++ nseg'))))) ++ wseg ++ (bseg ++ (tseg ++ tsegs ts)) := by simp
      rw [hLs]
      clear hLs
      have hww : IntKind.i64.wrap ((k.wear : Int) + 1) = ((k.wear + 1 : Nat) : Int) := by rw [w64_id (by omega) (by omega)]; omega
      refine nilc_of rfl (nilc_of rfl (ld_of wv (r_wr (mem2 wseg bseg)) (ld_of wv (r_wr (mem2 wseg bseg)) (nilc_of hwa (ixn_of h0i (show (pre.length : Int) < wv.len by omega) (ld_of (k.wear : Int) (lwa.mono fun x hx => List.mem_append_left _ (List.mem_append_right _ hx)) ?_))))))
      simp only [hww]
      refine nilc_of hwa (ixn_of h0i (show (pre.length : Int) < wv.len by omega) ?_)
      refine h.ow.st (p := pre.length) (ws := [.int .i64 ((k.wear + 1 : Nat) : Int)]) (rO m d2 pv nv wv bv tv :: (pseg ++ (rsegs pre ++ (sg ++ (rsegs post ++ nseg'))))) (bseg ++ (tseg ++ tsegs ts)) (by rw [ivs_length, hwl1, List.length_singleton]; omega) (by simp) hwa (by rw [Int.toNat_natCast, Nat.mul_one]) rfl fun wseg' own_w => ?_
      rw [putL_one (by rw [ivs_length]; omega), ivs_set] at own_w
      obtain ⟨-, wa', hwa', lwa'⟩ := ivs_at (L := wseg') own_w.sl (i := pre.length) (by rw [List.length_set, hwl1]; exact hi)
      rw [List.getElem_set_self] at lwa'
      have hwd : (((k.wear + 1 : Nat) : Int) == (d.c.W : Int)) = decide (k.wear + 1 = d.c.W) := by
        by_cases hw1 : k.wear + 1 = d.c.W
        · rw [decide_eq_true hw1, beq_iff_eq]; omega
        · rw [decide_eq_false hw1, beq_eq_false_iff_ne]; omega
      refine nilc_of rfl (nilc_of rfl (nilc_of rfl (ld_of bv (r_bd (mem2 wseg' bseg)) (ld_of wv (r_wr (mem2 wseg' bseg)) (nilc_of hwa' (ixn_of h0i (show (pre.length : Int) < wv.len by omega) (ld_of ((k.wear + 1 : Nat) : Int) (lwa'.mono fun x hx => List.mem_append_left _ (List.mem_append_right _ hx)) (ld_of (d2.c.W : Int) (r_W (mem2 wseg' bseg)) ?_))))))))
      rw [show (d2.c.W : Int) = d.c.W by rw [hc2]]
      simp only [hwd]
      refine nilc_of hba2 (ixn_of h0i (show (pre.length : Int) < bv.len by omega) ?_)
      refine h.ob.st (p := pre.length) (ws := [.bool (decide (k.wear + 1 = d.c.W))]) (rO m d2 pv nv wv bv tv :: (pseg ++ (rsegs pre ++ (sg ++ (rsegs post ++ (nseg' ++ wseg')))))) (tseg ++ tsegs ts) (by rw [hbl1, List.length_singleton]; omega) (by simp) hba2 (by rw [Int.toNat_natCast, Nat.mul_one]) (by simp) fun bseg' own_b => ?_
      rw [putL_one (by rw [hbl1]; omega), bos_set] at own_b
      obtain ⟨-, ba3, hba3, lba3⟩ := el_at own_b.sl (i := pre.length) (by rw [← bos_set, List.length_set, hbl1]; exact hi)
      have hbv3 : (bos ((bads d).set pre.length (decide (k.wear + 1 = d.c.W))))[pre.length]'(by rw [← bos_set, List.length_set, hbl1]; exact hi) = .bool (decide (k.wear + 1 = d.c.W)) := by
        unfold bos
        rw [List.getElem_map, List.getElem_set_self]
      rw [hbv3] at lba3
      have hend : RH m { d2 with bs := d.bs.set pre.length (k.fresh d.c) } ((rO m d2 pv nv wv bv tv :: (pseg ++ (rsegs pre ++ (sg ++ (rsegs post ++ (nseg' ++ wseg')))))) ++ bseg' ++ (tseg ++ tsegs ts)) := by
        refine ⟨pv, pseg, pre ++ ⟨r.v, sg, (k.fresh d.c).pages⟩ :: post, nv, nseg', wv, wseg', bv, bseg', tv, tseg, ts, ?_,
          h.put (k := k.fresh d.c) rfl own (by rw [nexts_set d pre.length (k.fresh d.c) _ rfl]; exact own_n) (by rw [wears_set d pre.length (k.fresh d.c) _ rfl]; exact own_w) (by rw [bads_set d pre.length (k.fresh d.c) _ rfl]; exact own_b) h.ot h.okt (by show _ = d2.torn; rw [ht2]; exact h.ht)⟩
        unfold rL
        rw [rsegs_append, rsegs_cons]
        simp [rO]
      refine nilc_of rfl (ld_of bv (r_bd (m := m) (d := d2) (pv := pv) (nv := nv) (wv := wv) (tv := tv) (by simp)) (nilc_of hba3 (ixn_of h0i (show (pre.length : Int) < bv.len by omega) (ld_of (decide (k.wear + 1 = d.c.W)) (lba3.mono fun x hx => List.mem_append_left _ (List.mem_append_right _ hx)) ?_))))
      refine ifD_of (fun (hw1 : k.wear + 1 = d.c.W) => .of ⟨?_, hend⟩) (fun (hw1 : ¬ k.wear + 1 = d.c.W) => .of ⟨?_, hend⟩)
      · show Value.int .i64 10 = .int .i64 (if k.wear + 1 = d.c.W then 10 else 0)
        rw [if_pos hw1]
      · show Value.int .i64 0 = .int .i64 (if k.wear + 1 = d.c.W then 10 else 0)
        rw [if_neg hw1]
end Go.Proofs.Ytaniefdpjommnaa
