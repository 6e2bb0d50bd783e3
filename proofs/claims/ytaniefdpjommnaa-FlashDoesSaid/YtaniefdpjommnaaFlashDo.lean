/-
  It is proved that the law FlashDoes returns true for every input. There are no further conditions.
-/
import Derived.Test.YtaniefdpjommnaaFlashRef4
set_option linter.unusedVariables false
set_option linter.unusedSimpArgs false
namespace Go.Proofs.Ytaniefdpjommnaa
open Go.HL

theorem do_cl (m g : Nat) (d : Dev) (A B R : HList) (h : FH m d A) (hr : RH g d B) (ok : DvOk d) (hf : d.torn.length ≤ 1048576) (x : FA) (hu : BSl R x.2.2.2.1.1 x.2.2.2.1.2) :
    CallF PP 25 #[.pointer (some ⟨m, 0, none⟩), .pointer (some ⟨g, 0, none⟩), faV x] (A ++ (B ++ R)) fun r L' => r = .bool true ∧ ∃ A' B', L' = A' ++ (B' ++ R) ∧ FH m (act d x) A' ∧ RH g (act d x) B' := by
  obtain ⟨kd, b, p, ⟨u, data⟩, n, kp, ⟨⟩⟩ := x
  refine CallF.of (args := [.pointer (some ⟨m, 0, none⟩), .pointer (some ⟨g, 0, none⟩), faV (kd, b, p, (u, data), n, kp, ())]) noNum mixed Try.func25 (e25 (some ⟨m, 0, none⟩) (some ⟨g, 0, none⟩) (kd, b, p, u, n, kp, ()) _) ?_
  unfold t25 act
  refine nw_of fun n1 _ => ?_
  generalize ho : ((n1, Obj.cells #[.int .i64 kd, .int .i64 b, .int .i64 p, .slice u.a u.len u.cap, .int .i64 n, .int .i64 kp] 55) : Nat × Obj) = o1
  have lo : ∀ L : HList, o1 ∈ L → LdAt ⟨n1, 0, none⟩ [.int .i64 kd, .int .i64 b, .int .i64 p, .slice u.a u.len u.cap, .int .i64 n, .int .i64 kp] L := fun L hm => ldB (by rw [← ho] at hm; exact hm) rfl
  clear ho
  refine ld_of kd ((lo _ List.mem_cons_self).pre fun i u hu => by cases i with | zero => exact hu | succ i => exact absurd (show (none : Option Value) = some u from hu) (by simp)) ?_
  refine ifE_of (fun (hk : kd = 0) => ?_) (fun (hk : kd ≠ 0) => ?_)
  · rw [if_pos hk]
    refine ld_of b ((lo _ List.mem_cons_self).one 1 rfl) (ld_of p ((lo _ List.mem_cons_self).one 2 rfl) (ld_of u ((lo _ List.mem_cons_self).one 3 rfl) ?_))
    refine ld_of b ((lo _ List.mem_cons_self).one 1 rfl) (ld_of p ((lo _ List.mem_cons_self).one 2 rfl) (ld_of u ((lo _ List.mem_cons_self).one 3 rfl) ?_))
    refine cl_in [o1] [] (program_cl m d A (B ++ R) h ok hf b p u data (Sl.right hu)) (by simp) ?_
    rintro _ _ - ⟨A', rfl, rfl, h'⟩
    have hm1 : o1 ∈ [o1] ++ (A' ++ (B ++ R)) ++ [] := by simp
    refine ⟨((prog d b p data).1, ()), rfl, keep_of ((lo _ hm1).one 3 rfl) (keep_of ((lo _ hm1).one 2 rfl) (keep_of ((lo _ hm1).one 1 rfl) ?_))⟩
    refine cl_in (o1 :: A') [] (rprogram_cl g d B R hr ok hf b p u data hu) (by simp) ?_
    rintro _ _ - ⟨B', rfl, rfl, hr'⟩
    refine ⟨((prog d b p data).1, ()), rfl, ?_⟩
    rw [List.append_nil]
    have hbe : ((prog d b p data).1 == (prog d b p data).1) = true := by simp
    rw [hbe]
    exact .cons (.of ⟨rfl, A', B', rfl, h', hr'⟩)
  · rw [if_neg hk]
    refine ifE_of (fun (hk : kd = 1) => ?_) (fun (hk : kd ≠ 1) => ?_)
    · rw [if_pos hk]
      refine ld_of b ((lo _ List.mem_cons_self).one 1 rfl) (ld_of p ((lo _ List.mem_cons_self).one 2 rfl) ?_)
      refine cl_in [o1] (B ++ R) (read_cl m d A h ok b p) (by simp) ?_
      rintro _ _ - ⟨g1, rfl, rfl, hg1, hl1⟩
      have hm1 : o1 ∈ [o1] ++ (g1.seg ++ A) ++ (B ++ R) := by simp
      refine ⟨(g1.v, (readR d b p).2, ()), rfl, ld_of b ((lo _ hm1).one 1 rfl) (ld_of p ((lo _ hm1).one 2 rfl) ?_)⟩
      refine cl_in (o1 :: (g1.seg ++ A)) R (rread_cl g d B hr ok b p) (by simp) ?_
      rintro _ _ - ⟨g2, rfl, rfl, hg2, hl2⟩
      refine ⟨(g2.v, (readR d b p).2, ()), rfl, ?_⟩
      unfold PG.Ok at hg1 hg2
      rw [hl1] at hg1
      rw [hl2] at hg2
      refine cl_rd (same_rd _ g1.v g2.v (readR d b p).1 hg1.sl.left.cons.left.left hg2.sl.left.right.left) (true, ()) rfl (ifT rfl ?_)
      have hbe : ((readR d b p).2 == (readR d b p).2) = true := by simp
      simp only [hbe]
      refine .drop (A := A ++ (B ++ R)) (J := o1 :: (g1.seg ++ g2.seg)) ⟨rfl, A, B, rfl, h, hr⟩ ?_
      classical
      rw [List.perm_iff_count]
      intro z
      simp only [List.append_eq, List.cons_append, List.count_append, List.count_cons, List.count_nil]
      omega
    · rw [if_neg hk]
      refine ifE_of (fun (hk : kd = 2) => ?_) (fun (hk : kd ≠ 2) => ?_)
      · rw [if_pos hk]
        refine ld_of b ((lo _ List.mem_cons_self).one 1 rfl) (ld_of b ((lo _ List.mem_cons_self).one 1 rfl) ?_)
        refine cl_in [o1] (B ++ R) (erase_cl m d A h ok b) (by simp) ?_
        rintro _ A' - ⟨rfl, h'⟩
        have hm1 : o1 ∈ [o1] ++ A' ++ (B ++ R) := by simp
        refine ⟨((eraseR d b).1, ()), rfl, keep_of ((lo _ hm1).one 1 rfl) ?_⟩
        refine cl_in (o1 :: A') R (rerase_cl g d B hr ok b) (by simp) ?_
        rintro _ B' - ⟨rfl, hr'⟩
        refine ⟨((eraseR d b).1, ()), rfl, ?_⟩
        have hbe : ((eraseR d b).1 == (eraseR d b).1) = true := by simp
        simp only [hbe]
        rw [List.append_assoc]
        exact .cons (.of ⟨rfl, A', B', rfl, h', hr'⟩)
      · rw [if_neg hk]
        refine ifE_of (fun (hk : kd = 3) => ?_) (fun (hk : kd ≠ 3) => ?_)
        · rw [if_pos hk]
          refine ld_of n ((lo _ List.mem_cons_self).one 4 rfl) (ld_of kp ((lo _ List.mem_cons_self).one 5 rfl) ?_)
          refine cl_in [o1] (B ++ R) (arm_cl m d A h n kp) (by simp) ?_
          rintro _ A' - ⟨rfl, h'⟩
          have hm1 : o1 ∈ [o1] ++ A' ++ (B ++ R) := by simp
          refine ⟨(), rfl, ld_of n ((lo _ hm1).one 4 rfl) (ld_of kp ((lo _ hm1).one 5 rfl) ?_)⟩
          refine cl_in (o1 :: A') R (rarm_cl g d B hr n kp) (by simp) ?_
          rintro _ B' - ⟨rfl, hr'⟩
          refine ⟨(), rfl, ?_⟩
          rw [List.append_assoc]
          exact .cons (.of ⟨rfl, A', B', rfl, h', hr'⟩)
        · rw [if_neg hk]
          refine cl_in [o1] (B ++ R) (restart_cl m d A h) (by simp) ?_
          rintro _ A' - ⟨rfl, h'⟩
          refine ⟨(), rfl, ?_⟩
          refine cl_in (o1 :: A') R (rrestart_cl g d B hr) (by simp) ?_
          rintro _ B' - ⟨rfl, hr'⟩
          refine ⟨(), rfl, ?_⟩
          rw [List.append_assoc]
          exact .cons (.of ⟨rfl, A', B', rfl, h', hr'⟩)
theorem rh_at {m : Nat} {d : Dev} {A : HList} (h : RH m d A) {i : Nat} (hi : i < d.bs.length) : ∃ (nv wv bv : SlV) (na wa ba : Addr), LdAt ⟨m, 5, none⟩ [.slice nv.a nv.len nv.cap] A ∧ LdAt ⟨m, 6, none⟩ [.slice wv.a wv.len wv.cap] A ∧ LdAt ⟨m, 7, none⟩ [.slice bv.a bv.len bv.cap] A ∧
    nv.a = some na ∧ wv.a = some wa ∧ bv.a = some ba ∧ (i : Int) < nv.len ∧ (i : Int) < wv.len ∧ (i : Int) < bv.len ∧
    LdAt (Addr.add na ((i : Int).toNat * 1)) [.int .i64 (nextOf d i)] A ∧ LdAt (Addr.add wa ((i : Int).toNat * 1)) [.int .i64 (wearOf d i)] A ∧ LdAt (Addr.add ba ((i : Int).toNat * 1)) [.bool (badOf d i)] A := by
  obtain ⟨pv, pseg, rs, nv, nseg, wv, wseg, bv, bseg, tv, tseg, ts, rfl, h⟩ := h
  have hb : blkAt d i = some d.bs[i] := by unfold blkAt; rw [if_pos (by omega), Int.toNat_natCast]; exact List.getElem?_eq_getElem hi
  have hn : nextOf d i = (d.bs[i].next : Int) := by unfold nextOf; rw [hb]; rfl
  have hw : wearOf d i = (d.bs[i].wear : Int) := by unfold wearOf; rw [hb]; rfl
  have hbad : badOf d i = d.bs[i].bad := by unfold badOf; rw [hb]; rfl
  have hbl1 : (bos (bads d)).length = d.bs.length := by simp [bos, bads]
  have hnl1 : (nexts d).length = d.bs.length := by simp [nexts]
  have hwl1 : (wears d).length = d.bs.length := by simp [wears]
  have hnv : (nexts d)[i]'(by rw [hnl1]; exact hi) = (d.bs[i].next : Int) := by simp [nexts]
  have hwv : (wears d)[i]'(by rw [hwl1]; exact hi) = (d.bs[i].wear : Int) := by simp [wears]
  have hbv : (bos (bads d))[i]'(by rw [hbl1]; exact hi) = .bool d.bs[i].bad := by simp [bos, bads]
  obtain ⟨e1, na, h1, l1⟩ := ivs_at (h.nsl (m := m)) (i := i) (by rw [hnl1]; exact hi)
  obtain ⟨e2, wa, h2, l2⟩ := ivs_at (h.wsl (m := m)) (i := i) (by rw [hwl1]; exact hi)
  obtain ⟨e3, ba, h3, l3⟩ := el_at (h.bsl (m := m)) (i := i) (by rw [hbl1]; exact hi)
  rw [hnv] at l1
  rw [hwv] at l2
  rw [hbv] at l3
  rw [hn, hw, hbad]
  exact ⟨nv, wv, bv, na, wa, ba, r_nx rL_o, r_wr rL_o, r_bd rL_o, h1, h2, h3, by omega, by omega, by omega, l1, l2, l3⟩
theorem rh_o {m : Nat} {d : Dev} {A : HList} (h : RH m d A) : LdAt ⟨m, 8, none⟩ [.int .i64 d.bytes] A ∧ LdAt ⟨m, 9, none⟩ [.bool d.down] A ∧ ∃ (tv : SlV) (ts : List PT), LdAt ⟨m, 12, none⟩ [.slice tv.a tv.len tv.cap] A ∧ Sl A tv 4 (ts.flatMap PT.enc) ∧ ts.map PT.tn = d.torn ∧ ∀ t ∈ ts, BSl A t.m.v t.m.l ∧ BSl A t.i.v t.i.l := by
  obtain ⟨pv, pseg, rs, nv, nseg, wv, wseg, bv, bseg, tv, tseg, ts, rfl, h⟩ := h
  refine ⟨r_by rL_o, r_dn rL_o, tv, ts, r_tn rL_o, h.tsl, h.ht, fun t ht => ?_⟩
  have hsub : ∀ x, x ∈ t.m.seg ++ t.i.seg → x ∈ rL m d pv pseg rs nv nseg wv wseg bv bseg tv tseg ts := fun x hx => List.mem_cons_of_mem _ (List.mem_append_right _ (List.mem_append_right _ (List.mem_append_right _ (List.mem_append_right _ (List.mem_append_right _ (List.mem_append_right _ (List.mem_flatMap.2 ⟨t, ht, hx⟩)))))))
  exact ⟨Sl.mono (h.okt t ht).1.sl fun x hx => hsub x (List.mem_append_left _ hx), Sl.mono (h.okt t ht).2.sl fun x hx => hsub x (List.mem_append_right _ hx)⟩
theorem law_FlashDoes (L : HList) (c : Int × Int × Int × Int × Unit) (v0 : SlV) (l0 : List FA) (h0 : FActs L v0 l0) (hl0 : l0.length ≤ 9223372036854775807) :
    Reads PP 7 #[.agg #[.int .i64 c.1, .int .i64 c.2.1, .int .i64 c.2.2.1, .int .i64 c.2.2.2.1], .slice v0.a v0.len v0.cap] L (.bool true) := by
  refine Reads.of (args := [.agg #[.int .i64 c.1, .int .i64 c.2.1, .int .i64 c.2.2.1, .int .i64 c.2.2.2.1], .slice v0.a v0.len v0.cap]) noNum mixed Try.func7 (e7 c v0 _) ?_
  unfold t7
  have hlen0 := h0.len
  refine nw_of fun n1 _ => ?_
  generalize ho : (n1, Obj.cells #[.int .i64 c.1, .int .i64 c.2.1, .int .i64 c.2.2.1, .int .i64 c.2.2.2.1] 44) = o1
  have lc : ∀ L : HList, o1 ∈ L → LdAt ⟨n1, 0, none⟩ [.int .i64 c.1, .int .i64 c.2.1, .int .i64 c.2.2.1, .int .i64 c.2.2.2.1] L := fun L hm => ldB (by rw [← ho] at hm; exact hm) rfl
  clear ho
  have lB : ∀ L : HList, o1 ∈ L → LdAt ⟨n1, 0, none⟩ [.int .i64 c.1] L := fun L hm => (lc L hm).pre fun i u hu => by cases i with | zero => exact hu | succ i => exact absurd (show (none : Option Value) = some u from hu) (by simp)
  refine ld_of c (lc _ List.mem_cons_self) (cl_in [] (o1 :: L) (new_cl c) rfl ?_)
  have hB : ∀ A : HList, HL.Ends (fun v' L' => v' = Value.bool true ∧ L' = L) (.bool true) (A ++ (o1 :: L)) := fun A => .app (.cons (.of ⟨rfl, rfl⟩))
  have hburn : ∀ (A : HList), cl PP 24 #[] [.lf .bool] (fun r => HL.Ends (fun v' L' => v' = Value.bool true ∧ L' = L) (.bool r.1)) (A ++ (o1 :: L)) := fun A => cl_rd (burns_rd _) (true, ()) rfl (hB A)
  have h0' : FActs (o1 :: L) v0 l0 := h0.mono fun p hp => List.mem_cons_of_mem _ hp
  rintro _ A0 - (⟨hn, rfl, rfl⟩ | ⟨hr, m, rfl, hF⟩)
  · refine ⟨(none, 30, ()), rfl, ld_of c (lc _ (by simp)) (cl_in [] (o1 :: L) (rnew_cl c) rfl ?_)⟩
    rintro _ B0 - (⟨-, rfl, rfl⟩ | ⟨hr, -⟩)
    case inr => exact absurd hr hn
    refine ⟨(none, 30, ()), rfl, ifF rfl ?_⟩
    refine cl_in [] [] (small_cl (o1 :: L) v0 l0 h0' hl0) (by simp) ?_
    rintro _ L1 - ⟨hL1, b0, rfl, hb0⟩
    rw [List.append_nil, hL1]
    refine ⟨(b0, ()), rfl, ?_⟩
    cases b0 with
    | false => exact ifT rfl (hburn [])
    | true => exact ifF rfl (ifT rfl (hburn []))
  refine ⟨(some ⟨m, 0, none⟩, 0, ()), rfl, ld_of c (lc _ (by simp)) ?_⟩
  rw [List.nil_append]
  refine cl_in A0 (o1 :: L) (rnew_cl c) (by simp) ?_
  rintro _ B0 - (⟨hn, -⟩ | ⟨-, g, rfl, hR⟩)
  · exact absurd hr hn
  refine ⟨(some ⟨g, 0, none⟩, 0, ()), rfl, ifF rfl ?_⟩
  refine cl_in (A0 ++ B0) [] (small_cl (o1 :: L) v0 l0 h0' hl0) (by simp) ?_
  rintro _ L1 - ⟨hL1, b0, rfl, hb0⟩
  rw [List.append_nil, hL1]
  clear hL1 L1
  refine ⟨(b0, ()), rfl, ?_⟩
  cases b0 with
  | false => exact ifT rfl (hburn _)
  | true =>
  obtain ⟨hs0, -⟩ := hb0 rfl
  refine ifF rfl (ifF rfl ?_)
  have hok0 := fresh_ok (cfg_ok hr)
  have hr' := hr
  unfold right at hr'
  obtain ⟨cB, cP, cS, cW, u⟩ := c
  simp only at hr' lc lB
  obtain ⟨nB, rfl⟩ : ∃ B : Nat, cB = B := ⟨cB.toNat, by omega⟩
  obtain ⟨Pn, rfl⟩ : ∃ B : Nat, cP = B := ⟨cP.toNat, by omega⟩
  obtain ⟨S, rfl⟩ : ∃ B : Nat, cS = B := ⟨cS.toNat, by omega⟩
  obtain ⟨W, rfl⟩ : ∃ B : Nat, cW = B := ⟨cW.toNat, by omega⟩
  have hcf : cfg ((nB : Int), (Pn : Int), (S : Int), (W : Int), u) = ⟨nB, Pn, S, W⟩ := by simp [cfg]
  rw [hcf] at hF hR hok0
  rw [List.append_assoc]
  refine lp_of (fun z' z L' => ∃ (i : Nat) (d : Dev) (A B : HList), i ≤ l0.length ∧ z' = l0.length - i ∧ z = ((i : Int), ()) ∧ L' = A ++ (B ++ (o1 :: L)) ∧ FH m d A ∧ RH g d B ∧ DvOk d ∧ d.c = ⟨nB, Pn, S, W⟩ ∧ d.torn.length ≤ i) l0.length ⟨0, fresh ⟨nB, Pn, S, W⟩, A0, B0, by omega, by omega, rfl, rfl, hF, hR, hok0, rfl, Nat.le_refl _⟩ ?_
  clear hF hR
  rintro z' z _ ⟨i, d, A, B, hi, rfl, rfl, rfl, hF, hR, hok, hc, hto⟩
  have hbl : d.bs.length = nB := by rw [hok.len, hc]
  refine ifD_of (fun (hlt : (i : Int) < v0.len) => ?_) (fun (hge : ¬ (i : Int) < v0.len) => ?_)
  · have hi' : i < l0.length := by omega
    obtain ⟨a, ha, l1⟩ := h0'.at' hi'
    have hx := h0'.val l0[i] (List.getElem_mem hi')
    have hxr := h0'.rng l0[i] (List.getElem_mem hi')
    refine nilc_of ha (ixn_of (show (0 : Int) ≤ (i : Int) by omega) hlt ?_)
    refine ld_of (l0[i].1, l0[i].2.1, l0[i].2.2.1, l0[i].2.2.2.1.1, l0[i].2.2.2.2.1, l0[i].2.2.2.2.2.1, ()) (l1.mono fun x hx => List.mem_append_right _ (List.mem_append_right _ hx)) ?_
    refine cl_in [] [] (do_cl m g d A B (o1 :: L) hF hR hok (by omega) l0[i] hx) (by simp) ?_
    rintro _ _ - ⟨rfl, A', B', rfl, hF', hR'⟩
    rw [List.append_nil, List.nil_append]
    refine ⟨(true, ()), rfl, ifF rfl ?_⟩
    have hok' := act_ok hok l0[i] hxr
    have hc' := act_c d l0[i]
    have hto' := act_torn d l0[i]
    generalize act d l0[i] = d' at hF' hR' hok' hc' hto' ⊢
    have hbl' : d'.bs.length = nB := by rw [hok'.len, hc', hc]
    obtain ⟨q1, q2, -⟩ := rh_o hR'
    have up : ∀ x ∈ B', x ∈ A' ++ (B' ++ (o1 :: L)) := fun x hx => List.mem_append_right _ (List.mem_append_left _ hx)
    have l2 : LdAt (Addr.add (Addr.add a ((i : Int).toNat * 6)) 1) [.int .i64 l0[i].2.1] (A' ++ (B' ++ (o1 :: L))) := (l1.one 1 rfl).mono fun x hx => List.mem_append_right _ (List.mem_append_right _ hx)
    have hgo : (fun (x' : RsV [.lf (.int .i64)]) (L'' : HList) => ∃ k', k' < l0.length - i ∧ ∃ (i : Nat) (d : Dev) (A B : HList), i ≤ l0.length ∧ k' = l0.length - i ∧ x' = ((i : Int), ()) ∧ L'' = A ++ (B ++ (o1 :: L)) ∧ FH m d A ∧ RH g d B ∧ DvOk d ∧ d.c = ⟨nB, Pn, S, W⟩ ∧ d.torn.length ≤ i) (IntKind.i64.wrap ((i : Int) + 1), ()) (A' ++ (B' ++ (o1 :: L))) := by
      refine ⟨l0.length - (i + 1), by omega, i + 1, d', A', B', by omega, rfl, ?_, rfl, hF', hR', hok', by rw [hc', hc], by omega⟩
      rw [w64_id (by first | omega | (simp only; omega)) (by first | omega | (simp only; omega))]
      rfl
    refine nilc_of rfl (ld_of d'.bytes (q1.mono up) (cl_rd (Reads.in (X := []) (Y := B' ++ (o1 :: L)) (bytes_rd m d' A' hF')) (d'.bytes, ()) rfl (keep_of (q1.mono up) (ifF (by simp) ?_))))
    refine nilc_of rfl (ld_of d'.down (q2.mono up) (cl_rd (Reads.in (X := []) (Y := B' ++ (o1 :: L)) (down_rd m d' A' hF')) (d'.down, ()) rfl (keep_of (q2.mono up) (ifF (by simp) ?_))))
    refine nilc_of ha (ixn_of (show (0 : Int) ≤ (i : Int) by omega) hlt (ld_of l0[i].2.1 l2 ?_))
    refine ifD_of (fun (hb0 : l0[i].2.1 ≥ 0) => ?_) (fun _ => hgo)
    refine ld_of (nB : Int) (lB _ (by simp)) (ifD_of (fun (hb1 : l0[i].2.1 < (nB : Int)) => ?_) (fun _ => hgo))
    generalize l0[i].2.1 = b at hb0 hb1
    obtain ⟨j, rfl⟩ : ∃ j : Nat, b = j := ⟨b.toNat, by omega⟩
    obtain ⟨nv, wv, bv, na, wa, ba, k1, k2, k3, a1, a2, a3, g1, g2, g3, e1, e2, e3⟩ := rh_at hR' (i := j) (by omega)
    refine nilc_of rfl (ld_of nv (k1.mono up) (nilc_of a1 (ixn_of hb0 g1 (ld_of (nextOf d' j) (e1.mono up) (cl_rd (Reads.in (X := []) (Y := B' ++ (o1 :: L)) (next_rd m d' A' hF' hok' j)) (nextOf d' j, ()) rfl (keep_of (e1.mono up) (keep_of (k1.mono up) (ifF (by simp) ?_))))))))
    refine nilc_of rfl (ld_of wv (k2.mono up) (nilc_of a2 (ixn_of hb0 g2 (ld_of (wearOf d' j) (e2.mono up) (cl_rd (Reads.in (X := []) (Y := B' ++ (o1 :: L)) (wear_rd m d' A' hF' hok' j)) (wearOf d' j, ()) rfl (keep_of (e2.mono up) (keep_of (k2.mono up) (ifF (by simp) ?_))))))))
    refine nilc_of rfl (ld_of bv (k3.mono up) (nilc_of a3 (ixn_of hb0 g3 (ld_of (badOf d' j) (e3.mono up) (cl_rd (Reads.in (X := []) (Y := B' ++ (o1 :: L)) (bad_rd m d' A' hF' hok' j)) (badOf d' j, ()) rfl (keep_of (e3.mono up) (keep_of (k3.mono up) (ifF (by simp) hgo))))))))
  · obtain ⟨-, -, tv, ts, t1, t2, t3, t4⟩ := rh_o hR
    have up : ∀ x ∈ B, x ∈ A ++ (B ++ (o1 :: L)) := fun x hx => List.mem_append_right _ (List.mem_append_left _ hx)
    refine nilc_of rfl (ld_of tv (t1.mono up) ?_)
    refine cl_in [] (B ++ (o1 :: L)) (torn_cl m d A hF hok (by omega)) rfl ?_
    rintro _ _ - ⟨sv, sseg, ss, rfl, rfl, sown, sok, smap⟩
    rw [List.nil_append]
    have up2 : ∀ x ∈ B, x ∈ sseg ++ (tsegs ss ++ A) ++ (B ++ (o1 :: L)) := fun x hx => List.mem_append_right _ (List.mem_append_left _ hx)
    refine ⟨(sv, ()), rfl, keep_of (t1.mono up2) ?_⟩
    have hsm : ∀ t ∈ ss, BSl (sseg ++ (tsegs ss ++ A) ++ (B ++ (o1 :: L))) t.m.v t.m.l ∧ BSl (sseg ++ (tsegs ss ++ A) ++ (B ++ (o1 :: L))) t.i.v t.i.l := by
      intro t ht
      have hsub : ∀ x, x ∈ t.m.seg ++ t.i.seg → x ∈ sseg ++ (tsegs ss ++ A) ++ (B ++ (o1 :: L)) := fun x hx => List.mem_append_left _ (List.mem_append_right _ (List.mem_append_left _ (List.mem_flatMap.2 ⟨t, ht, hx⟩)))
      exact ⟨Sl.mono (sok t ht).1.sl fun x hx => hsub x (List.mem_append_left _ hx), Sl.mono (sok t ht).2.sl fun x hx => hsub x (List.mem_append_right _ hx)⟩
    have hsl : ss.length ≤ 1048576 := by
      have : ss.length = d.torn.length := by rw [← smap, List.length_map]
      omega
    refine cl_rd (sametorn_rd _ sv tv ss ts sown.sl.left.left (t2.mono up2) (by rw [smap, t3]) hsl hsm (fun t ht => ⟨Sl.mono (t4 t ht).1 up2, Sl.mono (t4 t ht).2 up2⟩)) (true, ()) rfl (ifT rfl ?_)
    have hLs : sseg ++ (tsegs ss ++ A) ++ (B ++ (o1 :: L)) = (sseg ++ tsegs ss) ++ A ++ (B ++ (o1 :: L)) := by simp
    rw [hLs]
    have ho1 : o1 ∈ (sseg ++ tsegs ss) ++ A ++ (B ++ (o1 :: L)) := by simp
    refine ld_of ((nB : Int), (Pn : Int), (S : Int), (W : Int), ()) (lc _ ho1) ?_
    refine cl_in (sseg ++ tsegs ss) (B ++ (o1 :: L)) (config_rd m d A hF) rfl ?_
    rintro _ A1 - ⟨rfl, hA1⟩
    rw [hA1]
    refine ⟨(((nB : Int), (Pn : Int), (S : Int), (W : Int), ()), ()), by rw [hc]; rfl, keep_of (lc _ ho1) (eqDv _ _ _ _ _ _ _ _ (ifT (by simp) ?_))⟩
    have hn1 : nextOf d (-1) = 0 := by unfold nextOf blkAt; rw [if_neg (by decide)]; rfl
    have hb1 : badOf d (-1) = false := by unfold badOf blkAt; rw [if_neg (by decide)]; rfl
    have hw1 : wearOf d nB = 0 := by unfold wearOf blkAt; rw [if_pos (by omega), Int.toNat_natCast, List.getElem?_eq_none (by omega)]; rfl
    refine ld_of (nB : Int) (lB _ ho1) (cl_rd (Reads.in (X := sseg ++ tsegs ss) (Y := B ++ (o1 :: L)) (next_rd m d A hF hok (-1))) (nextOf d (-1), ()) rfl (keep_of (lB _ ho1) ?_))
    refine cl_rd (Reads.in (X := sseg ++ tsegs ss) (Y := B ++ (o1 :: L)) (wear_rd m d A hF hok nB)) (wearOf d nB, ()) rfl (ifT (by simp only; rw [hn1, hw1]; decide) ?_)
    refine cl_rd (Reads.in (X := sseg ++ tsegs ss) (Y := B ++ (o1 :: L)) (bad_rd m d A hF hok (-1))) (badOf d (-1), ()) rfl (ifT (by simp only; rw [hb1]; rfl) ?_)
    have hLs2 : (sseg ++ tsegs ss) ++ A ++ (B ++ (o1 :: L)) = ((sseg ++ tsegs ss) ++ A ++ B) ++ (o1 :: L) := by simp
    rw [hLs2]
    exact hburn _
theorem row_FlashDoes (W : World) (a0 : Int × Int × Int × Int × Unit) (w0 : intWf .i64 a0.1 ∧ intWf .i64 a0.2.1 ∧ intWf .i64 a0.2.2.1 ∧ intWf .i64 a0.2.2.2.1 ∧ True) (a1 : SlV) (l1 : List FA) (w1 : SlOk W faEnc (faWf W) 6 (a1, l1)) :
    Reads PP 7 #[.agg #[.int .i64 a0.1, .int .i64 a0.2.1, .int .i64 a0.2.2.1, .int .i64 a0.2.2.2.1], .slice a1.a a1.len a1.cap] (allB W) (.bool true) := by
  have hm : maxLen = 9223372036854775807 := rfl
  have h1 := w1.len'
  have h2 := w1.sl.cap
  have h3 := w1.cap
  simp only at h2 h3
  exact law_FlashDoes _ a0 a1 l1 ⟨w1.sl, fun x hx => (w1.all x hx).2.2.2.1.bytes, fun x hx => (wf_i64 (w1.all x hx).2.2.2.2.1).2⟩ (by omega)
end Go.Proofs.Ytaniefdpjommnaa
