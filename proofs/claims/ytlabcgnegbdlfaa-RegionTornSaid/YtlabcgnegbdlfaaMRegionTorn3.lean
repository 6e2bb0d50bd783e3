/-
  It is proved what the functions that the law RegionTorn reaches compute, part 3. There are no further conditions than those that each theorem names.
-/
import Derived.Test.YtlabcgnegbdlfaaMRegionTorn2
set_option linter.unusedVariables false
set_option linter.unusedSimpArgs false
namespace Go.Proofs.Ytlabcgnegbdlfaa
open Go.HL

def exD : Dev := fresh ⟨2, 8, 64, 9⟩
def exI : List It := [(2, 1, 1, ()), (2, 2, 2, ())]
def exD1 : Dev := (openR exD 0 7).2
def exD2 : Dev := (appR exD1 0 7 1 2 [[5]]).2
def exD3 : Dev := (appR exD2 0 7 2 2 [[6], [7]]).2
def exD4 : Dev := (sealW exD3 0 7 4 exI).2
theorem ex_1 : (openR exD 0 7).1 = 0 := by kernel_rfl
theorem ex_2 : (appR exD1 0 7 1 2 [[5]]).1 = 0 := by kernel_rfl
theorem ex_3 : (appR exD2 0 7 2 2 [[6], [7]]).1 = 0 := by kernel_rfl
theorem ex_l3 : (loadR exD3 0).2 = 0 := by kernel_rfl
theorem ex_s3 : scanR (loadR exD3 0).1 = ((7, false, exI), true) := by kernel_rfl
theorem ex_4 : (sealW exD3 0 7 4 exI).1 = 0 := by kernel_rfl
theorem ex_l4 : (loadR exD4 0).2 = 0 := by kernel_rfl
theorem ex_s4 : scanR (loadR exD4 0).1 = ((7, true, exI), true) := by kernel_rfl
theorem ex_p : partsR (loadR exD4 0).1 (2, 2, 2, ()) = [[6], [7]] := by kernel_rfl
theorem ex_k : (killR [(1, 2, 3, ())]).2 = 0 ∧ (killR [(1, 2, 3, ())]).1.length = 6 := ⟨by kernel_rfl, by kernel_rfl⟩
theorem ex_q : killsR (killR [(1, 2, 3, ())]).1 = ([(1, 2, 3, ())], 0) := by kernel_rfl
theorem exD_ok : DG exD 1000 := ⟨fresh_ok ⟨by decide, by decide, by decide, by decide⟩, by decide⟩
theorem loadR_len {d : Dev} (ok : DvOk d) (b : Int) : (loadR d b).1.length ≤ 16 ∧ ∀ x ∈ (loadR d b).1, x.length ≤ 512 := by
  have hP := ok.c.p
  have hS := ok.c.s
  unfold loadR
  split
  · exact ⟨by simp, by simp⟩
  · refine ⟨by simp; omega, fun x hx => ?_⟩
    simp only [List.mem_map] at hx
    obtain ⟨p, hp, rfl⟩ := hx
    have hp2 : p < d.c.P := List.mem_range.1 hp
    unfold readR
    split
    · simp
    · split
      · simp
      · rename_i k hk
        have hm : k ∈ d.bs := List.mem_of_getElem? hk
        have h1 := ok.pg k hm
        split
        · simp [blk]; omega
        · rw [Int.toNat_natCast, List.getD_eq_getElem?_getD, List.getElem?_eq_getElem (by omega), Option.getD_some, h1.2 _ (List.getElem_mem _)]; omega
theorem device_l (L : HList) : Reads PP 47 #[] L (.agg #[.int .i64 2, .int .i64 8, .int .i64 64, .int .i64 9]) := by
  unfold Reads
  refine c47 ?_
  unfold s47
  exact .of ⟨rfl, rfl⟩
theorem parts_l {L : HList} {v : SlV} {gs : List PG} {seg Y : HList} (own : Own v 1 tB (gs.map PG.val) seg) (hg : ∀ g ∈ gs, g.Ok) (hp : L.Perm (seg ++ (pgs gs ++ Y))) : Parts L v (pvs gs) :=
  parts_of own hg (fun x hx => hp.symm.subset (by simp [hx])) (fun x hx => hp.symm.subset (by simp [hx]))
theorem pvs_snd (gs : List PG) : (pvs gs).map Prod.snd = gs.map PG.l := by unfold pvs; rw [List.map_map]; rfl
theorem load_bnd {d : Dev} (ok : DvOk d) {b : Int} {gs : List PG} (hl : gs.map PG.l = (loadR d b).1) : (pvs gs).length ≤ 16 ∧ ∀ x ∈ pvs gs, x.2.length ≤ 512 := by
  have h := loadR_len ok b
  rw [← hl, ← pvs_snd, List.length_map] at h
  exact ⟨h.1, fun x hx => h.2 _ (List.mem_map_of_mem hx)⟩
theorem regions_rd (L : HList) : Reads PP 9 #[] L (.bool true) := by
  unfold Reads
  refine c9 ?_
  unfold s9
  refine cl_rd (device_l L) ((2, 8, 64, 9, ()), ()) rfl ?_
  refine cl_pm (R := L) (new_cl (2, 8, 64, 9, ())) (List.Perm.refl _) ?_
  rintro _ A (⟨hn, -, -⟩ | ⟨-, m, rfl, hA⟩)
  · exact absurd (by decide) hn
  have hA : FH m exD A := hA
  refine ⟨_, List.Perm.refl _, (some ⟨m, 0, none⟩, 0, ()), rfl, ifT rfl ?_⟩
  have g0 := exD_ok
  refine cl_of (open_cl m exD A L hA (g0.le (by decide)) 0 7) ?_
  rintro _ _ - ⟨A1, rfl, rfl, h1⟩
  have h1 : FH m exD1 A1 := h1
  have g1 : DG exD1 900 := progI_g (n := 900) (g0.le (by decide)) _ _ _
  rw [ex_1]
  refine ⟨(0, ()), rfl, nw_of fun n1 _ => nw_of fun n2 _ => ?_⟩
  generalize ho1 : ((n1, Obj.cells #[.int .u8 5] 5) : Nat × Obj) = o1
  generalize ho2 : ((n2, Obj.cells #[.slice (some ⟨n1, 0, none⟩) 1 1] 40) : Nat × Obj) = o2
  have hp1 : Parts (o2 :: o1 :: L) ⟨some ⟨n2, 0, none⟩, 1, 1⟩ [(⟨some ⟨n1, 0, none⟩, 1, 1⟩, [5])] := ⟨⟨rfl, Nat.le_refl _, .inr ⟨_, rfl, ldB (by rw [ho2]; exact List.mem_cons_self) rfl⟩⟩, fun x hx => by
    rw [List.mem_singleton.1 hx]
    exact ⟨rfl, Nat.le_refl _, .inr ⟨_, rfl, ldB (by rw [ho1]; simp) rfl⟩⟩⟩
  refine cl_p (append_cl m exD1 A1 (o2 :: o1 :: L) h1 _ _ hp1 (by simp) (g1.le (by simp)) 0 7 1 2 (wf_mk (by decide))) (pc fun z => by simp only [cnt_a, cnt_c]; omega) ?_
  rintro _ _ ⟨A2, rfl, rfl, h2⟩
  have h2 : FH m exD2 A2 := h2
  have g2 : DG exD2 800 := appR_g (m := 800) (g1.le (by decide)) _ _ _ _
  refine ⟨(0, ()), congrArg (Value.int .i64) ex_2, nw_of fun n3 _ => nw_of fun n4 _ => nw_of fun n5 _ => ?_⟩
  generalize ho3 : ((n3, Obj.cells #[.int .u8 6] 5) : Nat × Obj) = o3
  generalize ho4 : ((n4, Obj.cells #[.int .u8 7] 5) : Nat × Obj) = o4
  generalize ho5 : ((n5, Obj.cells #[.slice (some ⟨n3, 0, none⟩) 1 1, .slice (some ⟨n4, 0, none⟩) 1 1] 40) : Nat × Obj) = o5
  generalize hR2 : (o2 :: o1 :: L) = R2
  have hR2L : ∃ J, R2.Perm (L ++ J) := ⟨[o2, o1], by rw [← hR2]; exact pc fun z => by simp only [cnt_a, cnt_c, cnt_n]; omega⟩
  have hp2 : Parts (o5 :: o4 :: o3 :: R2) ⟨some ⟨n5, 0, none⟩, 2, 2⟩ [(⟨some ⟨n3, 0, none⟩, 1, 1⟩, [6]), (⟨some ⟨n4, 0, none⟩, 1, 1⟩, [7])] := ⟨⟨rfl, Nat.le_refl _, .inr ⟨_, rfl, ldB (by rw [ho5]; exact List.mem_cons_self) rfl⟩⟩, fun x hx => by
    rcases List.mem_cons.1 hx with rfl | hx
    · exact ⟨rfl, Nat.le_refl _, .inr ⟨_, rfl, ldB (by rw [ho3]; simp) rfl⟩⟩
    · rw [List.mem_singleton.1 hx]
      exact ⟨rfl, Nat.le_refl _, .inr ⟨_, rfl, ldB (by rw [ho4]; simp) rfl⟩⟩⟩
  refine cl_p (append_cl m exD2 A2 (o5 :: o4 :: o3 :: R2) h2 _ _ hp2 (by simp) (g2.le (by simp)) 0 7 2 2 (wf_mk (by decide))) (pc fun z => by simp only [cnt_a, cnt_c]; omega) ?_
  rintro _ _ ⟨A3, rfl, rfl, h3⟩
  have h3 : FH m exD3 A3 := h3
  have g3 : DG exD3 700 := appR_g (m := 700) (g2.le (by decide)) _ _ _ _
  generalize hR3 : (o5 :: o4 :: o3 :: R2) = R3
  have hR3L : ∃ J, R3.Perm (L ++ J) := by obtain ⟨J, hJ⟩ := hR2L; exact ⟨o5 :: o4 :: o3 :: J, by rw [← hR3]; exact pc fun z => by have := pcn hJ z; simp only [cnt_a, cnt_c] at *; omega⟩
  clear hp1 hp2 ho1 ho2 ho3 ho4 ho5
  refine ⟨(0, ()), congrArg (Value.int .i64) ex_3, ?_⟩
  refine cl_pm (load_cl m exD3 A3 h3 g3.ok 0) (List.Perm.refl _) ?_
  rintro _ _ ⟨v6, gs6, seg6, rfl, rfl, own6, hg6, hl6⟩
  have hlen6 := loadR_len g3.ok 0
  rw [ex_l3]
  refine ⟨_, List.Perm.refl _, (v6, 0, ()), rfl, ?_⟩
  have hP6 : Parts ((seg6 ++ (pgs gs6 ++ A3)) ++ R3) v6 (pvs gs6) := parts_l own6 hg6 (Y := A3 ++ R3) (pc fun z => by simp only [cnt_a]; omega)
  have hln6 := load_bnd g3.ok hl6
  refine cl_of (scan_cl _ v6 (pvs gs6) hP6 (by omega) (fun x hx => by have := hln6.2 x hx; omega)) ?_
  rintro _ _ - ⟨v7, seg7, rfl, rfl, own7⟩
  rw [pvs_snd, hl6, ex_s3] at own7
  rw [pvs_snd, hl6, ex_s3]
  refine ⟨((7, false, v7, ()), true, ()), rfl, ?_⟩
  refine cl_p (seal_w_cl m exD3 A3 (seg7 ++ (seg6 ++ (pgs gs6 ++ R3))) h3 v7 exI own7.sl.left (by decide) (g3.le (by decide)) 0 7 4) (pc fun z => by simp only [cnt_a]; omega) ?_
  rintro _ _ ⟨A4, rfl, rfl, h4⟩
  have h4 : FH m exD4 A4 := h4
  have g4 : DG exD4 600 := sealW_g (n := 600) (g3.le (by decide)) _ _ _ _
  refine ⟨(0, ()), congrArg (Value.int .i64) ex_4, ?_⟩
  refine cl_pm (load_cl m exD4 A4 h4 g4.ok 0) (List.Perm.refl _) ?_
  rintro _ _ ⟨v9, gs9, seg9, rfl, rfl, own9, hg9, hl9⟩
  have hlen9 := loadR_len g4.ok 0
  rw [ex_l4]
  refine ⟨_, List.Perm.refl _, (v9, 0, ()), rfl, ?_⟩
  generalize hR9 : (seg7 ++ (seg6 ++ (pgs gs6 ++ R3))) = R9
  have hs7 : Sl R9 v7 3 (exI.flatMap itEnc) := by rw [← hR9]; exact own7.sl.left
  have hR9L : ∃ J, R9.Perm (L ++ J) := by obtain ⟨J, hJ⟩ := hR3L; exact ⟨seg7 ++ (seg6 ++ (pgs gs6 ++ J)), by rw [← hR9]; exact pc fun z => by have := pcn hJ z; simp only [cnt_a] at *; omega⟩
  have hP9 : Parts ((seg9 ++ (pgs gs9 ++ A4)) ++ R9) v9 (pvs gs9) := parts_l own9 hg9 (Y := A4 ++ R9) (pc fun z => by simp only [cnt_a]; omega)
  have hln9 : (pvs gs9).length ≤ 1000000 ∧ ∀ x ∈ pvs gs9, x.2.length ≤ 1000000 := by
    have h := load_bnd g4.ok hl9
    exact ⟨by omega, fun x hx => by have := h.2 x hx; omega⟩
  refine cl_of (scan_cl _ v9 (pvs gs9) hP9 hln9.1 hln9.2) ?_
  rintro _ _ - ⟨v10, seg10, rfl, rfl, own10⟩
  rw [pvs_snd, hl9, ex_s4] at own10
  rw [pvs_snd, hl9, ex_s4]
  refine ⟨((7, true, v10, ()), true, ()), rfl, ?_⟩
  refine cl_of (ppartsrg_cl _ v9 (pvs gs9) (hP9.mono (R := seg10 ++ ((seg9 ++ (pgs gs9 ++ A4)) ++ R9)) mem_r) hln9.1 hln9.2 (2, 2, 2, ()) ⟨wf_mk (by decide), wf_mk (by decide)⟩) ?_
  rintro _ _ - ⟨v11, gs11, seg11, rfl, rfl, own11, hg11, hl11⟩
  rw [pvs_snd, hl9, ex_p] at hl11
  refine ⟨(v11, ()), rfl, nw_of fun n8 _ => ?_⟩
  generalize ho8 : ((n8, Obj.cells #[.int .i64 1, .int .i64 2, .int .i64 3] 104) : Nat × Obj) = o8
  obtain ⟨R11, hR11⟩ : ∃ R11, R11 = o8 :: (seg11 ++ (pgs gs11 ++ (seg10 ++ ((seg9 ++ (pgs gs9 ++ A4)) ++ R9)))) := ⟨_, rfl⟩
  rw [← hR11]
  have hm8 : o8 ∈ R11 := by rw [hR11]; exact List.mem_cons_self
  have h10 : Sl R11 v10 3 (exI.flatMap itEnc) := by rw [hR11]; exact own10.sl.left.right.right.cons
  have h7' : Sl R11 v7 3 (exI.flatMap itEnc) := by rw [hR11]; exact hs7.right.right.right.right.cons
  have h11 : Parts R11 v11 (pvs gs11) := parts_l own11 hg11 (Y := o8 :: (seg10 ++ ((seg9 ++ (pgs gs9 ++ A4)) ++ R9))) (by rw [hR11]; exact pc fun z => by simp only [cnt_a, cnt_c]; omega)
  have hR11L : ∃ J, R11.Perm (L ++ J) := by obtain ⟨J, hJ⟩ := hR9L; exact ⟨o8 :: (seg11 ++ (pgs gs11 ++ (seg10 ++ ((seg9 ++ (pgs gs9 ++ A4)) ++ J)))), by rw [hR11]; exact pc fun z => by have := pcn hJ z; simp only [cnt_a, cnt_c] at *; omega⟩
  have hv11 : (pvs gs11).map Prod.snd = [[6], [7]] := by rw [pvs_snd]; exact hl11
  have hln11 : (pvs gs11).length = 2 := by have := congrArg List.length hv11; rwa [List.length_map] at this
  have hsl8 : Sl R11 ⟨some ⟨n8, 0, none⟩, 1, 1⟩ 3 (([(1, 2, 3, ())] : List It).flatMap itEnc) := ⟨rfl, Nat.le_refl _, .inr ⟨_, rfl, ldB (by rw [ho8]; exact hm8) rfl⟩⟩
  clear hR11 hP9 hP6
  refine cl_of (killload_cl R11 ⟨some ⟨n8, 0, none⟩, 1, 1⟩ [(1, 2, 3, ())] hsl8 (by decide)) ?_
  rintro _ _ - ⟨g12, rfl, rfl, hg12, hl12⟩
  unfold PG.Ok at hg12
  rw [hl12] at hg12
  rw [ex_k.1]
  have hb12 : BSl (g12.seg ++ R11) g12.v (killR [(1, 2, 3, ())]).1 := hg12.sl.left
  have hlen12 := hb12.len
  rw [ex_k.2] at hlen12
  refine ⟨(g12.v, 0, ()), rfl, ?_⟩
  refine cl_of (kills_cl (g12.seg ++ R11) g12.v _ hb12 (by rw [ex_k.2]; decide)) ?_
  rintro _ _ - ⟨v13, seg13, rfl, rfl, own13⟩
  rw [ex_q] at own13
  rw [ex_q]
  refine ⟨(v13, 0, ()), rfl, ?_⟩
  have hlv10 := h10.els_len itEnc_len (by decide)
  refine ifT rfl (ifT rfl (ifT rfl (ifT rfl (ifT rfl (ifT rfl (ifT rfl (ifF rfl (ifT rfl (ifT rfl (ifT rfl ?_))))))))))
  refine ifT (decide_eq_true (by dsimp only; rw [hlv10]; rfl)) ?_
  refine cl_rd (items_rd _ v7 v10 exI h7'.right.right h10.right.right (by decide)) (true, ()) rfl (ifT rfl ?_)
  have hl11v := h11.len
  refine ifT (decide_eq_true (by dsimp only; omega)) ?_
  have h11s : Parts (seg13 ++ (g12.seg ++ R11)) v11 (pvs gs11) := (h11.mono mem_r).mono mem_r
  have hlt : 1 < (pvs gs11).length := by omega
  have he7 : (pvs gs11)[1].2 = [7] := by
    have : ((pvs gs11).map Prod.snd)[1]? = some [7] := by rw [hv11]; rfl
    rw [List.getElem?_map, List.getElem?_eq_getElem hlt] at this
    exact Option.some.inj this
  refine elp_1 h11s.sl (n := 1) rfl (by rw [List.length_map]; exact hlt) fun a1 ha1 => ?_
  rw [List.getElem_map] at ha1
  have hb7 := h11s.val _ (List.getElem_mem hlt)
  rw [he7] at hb7
  have hl7 := hb7.len
  refine ld_of (pvs gs11)[1].1 ha1 (ifT (decide_eq_true (by rw [hl7]; rfl)) (ld_of (pvs gs11)[1].1 ha1 (elp_b hb7 (n := 0) rfl (by decide) fun a2 ha2 => ld_of 7 ha2 (ifT rfl (ifT rfl ?_)))))
  refine ifT (decide_eq_true (by dsimp only; omega)) (ifT rfl ?_)
  have hl13 := own13.sl.els_len itEnc_len (by decide)
  refine ifT (decide_eq_true (by dsimp only; rw [hl13]; rfl)) (elp_el itEnc_len (by decide) own13.sl.left (n := 0) rfl (by decide) fun a3 ha3 => ld_of 3 (ha3.one 2 rfl) ?_)
  obtain ⟨J, hJ⟩ := hR11L
  exact .drop (A := L) (J := seg13 ++ (g12.seg ++ J)) ⟨rfl, rfl⟩ (pc fun z => by have := pcn hJ z; simp only [cnt_a] at *; omega)
abbrev partWf (W : World) (x : PV) : Prop := SlOk W (fun b => [bv b]) (fun _ => True) 1 x
theorem parts_in {W : World} {a0 : SlV} {l0 : List PV} (w0 : SlOk W (fun x : PV => [pvV x]) (partWf W) 1 (a0, l0)) : Parts (allB W) a0 l0 ∧ l0.length ≤ 9223372036854775807 := by
  have hm : maxLen = 9223372036854775807 := rfl
  have h1 := w0.len'
  have h2 := w0.sl.cap
  have h3 := w0.cap
  simp only at h2 h3
  have hsl : Sl (allB W) a0 1 (l0.map pvV) := by
    have h := w0.sl
    have he : ∀ l : List PV, (l.flatMap fun x : PV => [pvV x]) = l.map pvV := by
      intro l
      induction l with
      | nil => rfl
      | cons x r ih => rw [List.flatMap_cons, ih]; rfl
    simp only at h
    rw [he] at h
    exact h
  exact ⟨⟨hsl, fun x hx => (w0.all x hx).bytes⟩, by omega⟩
end Go.Proofs.Ytlabcgnegbdlfaa
set_option linter.unusedVariables false
set_option linter.unusedSimpArgs false
namespace Go.Proofs.Ytlabcgnegbdlfaa
open Go.HL

end Go.Proofs.Ytlabcgnegbdlfaa
set_option linter.unusedVariables false
set_option linter.unusedSimpArgs false
namespace Go.Proofs.Ytlabcgnegbdlfaa
open Go.HL

theorem iAll_len {h : Hd} {p : List UInt8} {S : Nat} (h1 : 16 ≤ S) (h2 : p.length ≤ S - 16) : (iAll h p S).length = S := by
  unfold iAll
  rw [List.length_append, iBody_len h1 h2, digs_len]; omega
theorem dig0 {n : Nat} (h : n < 256) : (dig n 0).toNat = n := by
  have := num_digs 1 n (by simpa using h)
  have e : num (digs n 1) = (dig n 0).toNat := by simp [digs1, num]
  omega
theorem iAll_take (h : Hd) (p : List UInt8) {S : Nat} (h1 : 16 ≤ S) (h2 : p.length ≤ S - 16) : (iAll h p S).take (S - 4) = iBody h p S := by
  unfold iAll
  exact List.take_left' (iBody_len h1 h2)
theorem iAll_drop (h : Hd) (p : List UInt8) {S : Nat} (h1 : 16 ≤ S) (h2 : p.length ≤ S - 16) : (iAll h p S).drop (S - 4) = digs (crcSum (iBody h p S)).toNat 4 := by
  unfold iAll
  exact List.drop_left' (iBody_len h1 h2)
theorem num_crc (l : List UInt8) : ((num (digs (crcSum l).toNat 4) : Nat) : Int) = crcSum l := by
  have h := crcSum_rng l
  rw [num_digs 4 _ (show (crcSum l).toNat < 4294967296 by omega)]
  omega
theorem iAll_parts {h : Hd} (e : hErr h = 0) (p : List UInt8) {S : Nat} (h1 : 64 ≤ S ∧ S ≤ 512) (h2 : p.length ≤ S - 16) :
    hOf (iAll h p S) = h ∧ nOf (iAll h p S) = p.length ∧ payOf (iAll h p S) = p ∧ (∀ x ∈ padOf (iAll h p S), x = 0) ∧ (iAll h p S).getD 3 0 = 165 ∧ (iAll h p S).getD 9 0 = 0 := by
  have hok := hErr_ok e
  obtain ⟨k, pa, ps, ep, pg, u⟩ := h
  simp only at hok
  obtain ⟨k, rfl⟩ : ∃ n : Nat, k = n := ⟨k.toNat, by omega⟩
  obtain ⟨pa, rfl⟩ : ∃ n : Nat, pa = n := ⟨pa.toNat, by omega⟩
  obtain ⟨ps, rfl⟩ : ∃ n : Nat, ps = n := ⟨ps.toNat, by omega⟩
  obtain ⟨ep, rfl⟩ : ∃ n : Nat, ep = n := ⟨ep.toNat, by omega⟩
  obtain ⟨pg, rfl⟩ : ∃ n : Nat, pg = n := ⟨pg.toNat, by omega⟩
  have hlen := iAll_len (h := ((k : Int), (pa : Int), (ps : Int), (ep : Int), (pg : Int), ())) (p := p) (S := S) (by omega) h2
  generalize hq : List.replicate (S - 16 - p.length) 0 ++ digs (crcSum (iBody ((k : Int), (pa : Int), (ps : Int), (ep : Int), (pg : Int), ()) p S)).toNat 4 = q
  have hb : iAll ((k : Int), (pa : Int), (ps : Int), (ep : Int), (pg : Int), ()) p S = dig k 0 :: dig pa 0 :: dig ps 0 :: 165 :: dig ep 0 :: dig ep 1 :: dig ep 2 :: dig ep 3 :: dig pg 0 :: 0 :: dig p.length 0 :: dig p.length 1 :: (p ++ q) := by
    rw [← hq]
    unfold iAll
    conv => lhs; arg 1; unfold iBody hBytes
    simp only [Int.toNat_natCast, List.append_assoc]
    rfl
  have hbl : (S - 4) - 12 - p.length = S - 16 - p.length := by omega
  generalize hB : iAll ((k : Int), (pa : Int), (ps : Int), (ep : Int), (pg : Int), ()) p S = b at hb hlen ⊢
  have e4 : num (digs ep 4) = ep := num_digs 4 ep (show ep < 4294967296 by omega)
  have e2 : num (digs p.length 2) = p.length := num_digs 2 _ (show p.length < 65536 by omega)
  have hn : nOf b = p.length := by rw [hb]; exact e2
  refine ⟨?_, hn, ?_, ?_, by rw [hb]; rfl, by rw [hb]; rfl⟩
  · have : hOf b = (((dig k 0).toNat : Int), ((dig pa 0).toNat : Int), ((dig ps 0).toNat : Int), ((num (digs ep 4) : Nat) : Int), ((dig pg 0).toNat : Int), ()) := by rw [hb]; rfl
    rw [this, e4, dig0 (by omega), dig0 (by omega), dig0 (by omega), dig0 (by omega)]
  · unfold payOf
    rw [hn, hb]
    show List.take p.length (p ++ q) = p
    exact List.take_left' rfl
  · unfold padOf
    rw [hn, hlen, hb]
    have : List.drop (12 + p.length) (dig k 0 :: dig pa 0 :: dig ps 0 :: 165 :: dig ep 0 :: dig ep 1 :: dig ep 2 :: dig ep 3 :: dig pg 0 :: 0 :: dig p.length 0 :: dig p.length 1 :: (p ++ q)) = q := by
      rw [← List.drop_drop]
      show List.drop p.length (p ++ q) = q
      exact List.drop_left' rfl
    rw [this, ← hq, show S - 4 - (12 + p.length) = S - 16 - p.length by omega, List.take_left' (by rw [List.length_replicate])]
    exact fun x hx => List.eq_of_mem_replicate hx
theorem par_img {h : Hd} (e : hErr h = 0) (p : List UInt8) {S : Nat} (h1 : 64 ≤ S ∧ S ≤ 512) (h2 : p.length ≤ S - 16) : parR (iAll h p S) = (h, p, 0) ∧ pblank (iAll h p S) = false := by
  obtain ⟨a1, a2, a3, a4, a5, a6⟩ := iAll_parts e p h1 h2
  have hlen := iAll_len (h := h) (p := p) (S := S) (by omega) h2
  have hbk : pblank (iAll h p S) = false := by
    unfold pblank
    rw [List.all_eq_false]
    rw [getD_at (by omega)] at a5
    exact ⟨_, List.getElem_mem (show 3 < (iAll h p S).length by omega), by rw [a5]; decide⟩
  have hc : crcSum ((iAll h p S).take ((iAll h p S).length - 4)) = (num ((iAll h p S).drop ((iAll h p S).length - 4)) : Int) := by
    rw [hlen, iAll_take h p (by omega) h2, iAll_drop h p (by omega) h2, num_crc]
  have := parR_ok (b := iAll h p S) (by rw [hlen]; exact h1) hbk hc (pbad_f a5 a6 (by omega) (by rw [a1]; exact e) a4)
  rw [a1, a3] at this
  exact ⟨this, hbk⟩
end Go.Proofs.Ytlabcgnegbdlfaa
set_option linter.unusedVariables false
set_option linter.unusedSimpArgs false
namespace Go.Proofs.Ytlabcgnegbdlfaa
open Go.HL

def Say (ps : List (List UInt8)) (q : Nat) (h : Hd) : Prop := q < 16 ∧ ∃ b, ps[q]? = some b ∧ (parR b).2.2 = 0 ∧ (parR b).1 = h
def Mute (ps : List (List UInt8)) (q : Nat) : Prop := ∀ b, ps[q]? = some b → (parR b).2.2 ≠ 0
theorem Say.says {ps : List (List UInt8)} {q : Nat} {h : Hd} (s : Say ps q h) (h' : Hd) : saysR ps q h' = if h = h' then (ps[q]?).map fun b => (parR b).2.1 else none := by
  obtain ⟨h16, b, hb, h0, h1⟩ := s
  unfold saysR
  rw [if_pos (by omega), Int.toNat_natCast, hb]
  simp only [h0, h1, true_and, Option.map_some]
theorem Mute.says {ps : List (List UInt8)} {q : Nat} (s : Mute ps q) (h' : Hd) : saysR ps q h' = none := by
  unfold saysR
  split
  · rw [Int.toNat_natCast]
    split
    · rename_i b hb
      rw [if_neg (fun hh => s b hb hh.1)]
    · rfl
  · rfl
theorem Say.found {ps : List (List UInt8)} {q : Nat} {h : Hd} (s : Say ps q h) (ep : Int) : foundR ps ep q = if h.1 = 2 ∨ h.1 = 3 then
    if (List.range h.2.2.1.toNat).all (fun i => (saysR ps ((q : Int) + i) (h.1, i, h.2.2.1, ep, (q : Int) + i, ())).isSome) = true then some (h.1, (q : Int), h.2.2.1, ()) else none
    else none := by
  obtain ⟨h16, b, hb, h0, h1⟩ := s
  unfold foundR
  rw [hb]
  simp only [h0, h1, true_and]
theorem Mute.found {ps : List (List UInt8)} {q : Nat} (s : Mute ps q) (ep : Int) : foundR ps ep q = none := by
  unfold foundR
  split
  · rename_i b hb
    rw [if_neg (fun hh => s b hb hh.1)]
  · rfl
def At (ps : List (List UInt8)) (s : Nat) (l : List Hd) : Prop := ∀ (i : Nat) (hi : i < l.length), Say ps (s + i) l[i]
theorem At.left {ps : List (List UInt8)} {s : Nat} {a b : List Hd} (h : At ps s (a ++ b)) : At ps s a := fun i hi => by
  have := h i (by rw [List.length_append]; omega)
  rwa [List.getElem_append_left hi] at this
theorem At.right {ps : List (List UInt8)} {s : Nat} {a b : List Hd} (h : At ps s (a ++ b)) : At ps (s + a.length) b := fun i hi => by
  have := h (a.length + i) (by rw [List.length_append]; omega)
  rw [List.getElem_append_right (by omega)] at this
  simp only [Nat.add_sub_cancel_left] at this
  rwa [← Nat.add_assoc] at this
def ihs (s n : Nat) : List Hd := (List.range n).map fun i => (2, ((i : Nat) : Int), (n : Int), 9, (((s + i) : Nat) : Int), ())
theorem ihs_len (s n : Nat) : (ihs s n).length = n := by simp [ihs]
theorem ihs_get (s n i : Nat) (hi : i < (ihs s n).length) : (ihs s n)[i] = (2, ((i : Nat) : Int), (n : Int), 9, (((s + i) : Nat) : Int), ()) := by simp [ihs]
def bodyH : List Nat → Nat → List Hd
  | [], _ => []
  | n :: I, s => ihs s n ++ bodyH I (s + n)
def itemsH : List Nat → Nat → List It
  | [], _ => []
  | n :: I, s => (2, (s : Int), (n : Int), ()) :: itemsH I (s + n)
theorem bodyH_len : ∀ (I : List Nat) (s : Nat), (bodyH I s).length = I.sum
  | [], s => rfl
  | n :: I, s => by rw [bodyH, List.length_append, ihs_len, bodyH_len I, List.sum_cons]
theorem itemsH_len : ∀ (I : List Nat) (s : Nat), (itemsH I s).length = I.length
  | [], s => rfl
  | n :: I, s => by rw [itemsH, List.length_cons, itemsH_len I, List.length_cons]
theorem item_found {ps : List (List UInt8)} {s n : Nat} (h : At ps s (ihs s n)) (hn : 1 ≤ n) : foundR ps 9 s = some (2, (s : Int), (n : Int), ()) := by
  have h0 := h 0 (by rw [ihs_len]; omega)
  rw [ihs_get, Nat.add_zero] at h0
  rw [h0.found 9]
  simp only [true_or, if_true, Int.toNat_natCast]
  rw [if_pos]
  rw [List.all_eq_true]
  intro i hi
  have hi := List.mem_range.1 hi
  have h1 := h i (by rw [ihs_len]; omega)
  rw [ihs_get] at h1
  obtain ⟨h16, b, hb, -⟩ := h1
  have h1 := (h i (by rw [ihs_len]; omega)).says (2, ((i : Nat) : Int), (n : Int), 9, (((s + i) : Nat) : Int), ())
  rw [ihs_get, if_pos rfl, hb] at h1
  have e : (s : Int) + (i : Int) = ((s + i : Nat) : Int) := by omega
  rw [e, h1]; rfl
theorem part_none {ps : List (List UInt8)} {q i n : Nat} (h : Say ps q (2, ((i : Nat) : Int), (n : Int), 9, (q : Int), ())) (hi : 1 ≤ i) (hn : 1 ≤ n) : foundR ps 9 q = none := by
  rw [h.found 9]
  simp only [true_or, if_true, Int.toNat_natCast]
  rw [if_neg]
  intro hx
  rw [List.all_eq_true] at hx
  have := hx 0 (List.mem_range.2 (by omega))
  have e : (q : Int) + ((0 : Nat) : Int) = (q : Int) := by omega
  rw [e, h.says, if_neg] at this
  · cases this
  · intro he
    simp only [Prod.mk.injEq] at he
    omega
theorem gap_none {ps : List (List UInt8)} {q n j : Nat} (h : Say ps q (2, ((0 : Nat) : Int), (n : Int), 9, (q : Int), ())) (hj : j < n) (hm : Mute ps (q + j)) : foundR ps 9 q = none := by
  rw [h.found 9]
  simp only [true_or, if_true, Int.toNat_natCast]
  rw [if_neg]
  intro hx
  rw [List.all_eq_true] at hx
  have := hx j (List.mem_range.2 hj)
  have e : (q : Int) + ((j : Nat) : Int) = ((q + j : Nat) : Int) := by omega
  rw [e, hm.says] at this
  cases this
theorem each_none {f : Nat → Option It} {last : Nat} : ∀ (k p : Nat), (∀ q, p ≤ q → q ≤ last → f q = none) → eachR f last k p = []
  | 0, p, h => rfl
  | k + 1, p, h => by
    rw [eachR]
    split
    · rename_i hp
      rw [h p (Nat.le_refl _) hp]
      exact each_none k (p + 1) fun q h1 h2 => h q (by omega) h2
    · rfl
theorem each_body {ps : List (List UInt8)} {last : Nat} : ∀ (I : List Nat) (s k : Nat), At ps s (bodyH I s) → (∀ n ∈ I, 1 ≤ n) → s + I.sum ≤ last + 1 → I.length ≤ k → (∀ q, s + I.sum ≤ q → q ≤ last → foundR ps 9 q = none) → eachR (foundR ps 9) last k s = itemsH I s
  | [], s, k, h, h1, h2, hk, hn => each_none k s fun q => hn q
  | n :: I, s, k, h, h1, h2, hk, hn => by
    obtain ⟨k, rfl⟩ : ∃ k', k = k' + 1 := ⟨k - 1, by simp at hk; omega⟩
    rw [bodyH] at h
    have hn1 := h1 n List.mem_cons_self
    rw [List.sum_cons] at h2 hn
    rw [eachR, if_pos (by omega), item_found h.left hn1]
    simp only [Int.toNat_natCast]
    rw [itemsH]
    have hr := h.right
    rw [ihs_len] at hr
    rw [each_body I (s + n) k hr (fun m hm => h1 m (List.mem_cons_of_mem _ hm)) (by omega) (by simp at hk; omega) (fun q h3 h4 => hn q (by omega) h4)]
def pg (w : List (List UInt8)) : List (List UInt8) := w ++ List.replicate (16 - w.length) (blk 64)
theorem pg_len {w : List (List UInt8)} (h : w.length ≤ 16) : (pg w).length = 16 := by unfold pg; rw [List.length_append, List.length_replicate]; omega
theorem pg_in {w : List (List UInt8)} {q : Nat} (h : q < w.length) : (pg w)[q]? = some w[q] := by unfold pg; rw [List.getElem?_append_left h, List.getElem?_eq_getElem h]
theorem pg_out {w : List (List UInt8)} {q : Nat} (h : w.length ≤ q) (h16 : q < 16) : (pg w)[q]? = some (blk 64) := by
  unfold pg
  rw [List.getElem?_append_right h, List.getElem?_replicate, if_pos (by omega)]
theorem blank_blk : pblank (blk 64) = true := by decide
theorem par_blk : (parR (blk 64)).2.2 ≠ 0 := by
  rw [parR_blank (by decide) blank_blk]; decide
theorem pg_mute {w : List (List UInt8)} {q : Nat} (h : w.length ≤ q) (hw : w.length ≤ 16) : Mute (pg w) q := by
  intro b hb
  have hlt := (List.getElem?_eq_some_iff.1 hb).1
  rw [pg_len hw] at hlt
  rw [pg_out h hlt] at hb
  rw [← Option.some.inj hb]; exact par_blk
theorem blank_is {b : List UInt8} (h : pblank b = true) (hl : b.length = 64) : b = blk 64 := by
  unfold pblank at h
  rw [List.all_eq_true] at h
  refine List.eq_replicate_iff.2 ⟨hl, fun x hx => by simpa using h x hx⟩
theorem pg_blank {w : List (List UInt8)} (h : w.length < 16) : pg (w ++ [blk 64]) = pg w := by
  unfold pg
  rw [List.length_append, List.length_singleton, List.append_assoc, List.singleton_append, ← List.replicate_succ]
  congr 2
  omega
theorem lastD_pg {w : List (List UInt8)} (hw : w.length ≤ 16) {x : List UInt8} (hx : w.getLast? = some x) (hb : pblank x = false) : ∀ n, w.length - 1 ≤ n → n ≤ 15 → lastD (pg w) n = w.length - 1 := by
  have hne : 0 < w.length := by
    cases w with
    | nil => cases hx
    | cons a r => simp
  intro n
  induction n with
  | zero => intro h1 h2; show 0 = _; omega
  | succ n ih =>
    intro h1 h2
    rw [lastD]
    by_cases h : w.length - 1 = n + 1
    · have : (pg w).getD (n + 1) [] = x := by
        rw [List.getLast?_eq_getElem?, h, List.getElem?_eq_getElem (by omega)] at hx
        rw [List.getD_eq_getElem?_getD, pg_in (by omega), Option.getD_some]
        exact Option.some.inj hx
      rw [this, hb, h]; rfl
    · have : (pg w).getD (n + 1) [] = blk 64 := by rw [List.getD_eq_getElem?_getD, pg_out (by omega) (by omega)]; rfl
      rw [this, blank_blk]
      simp only [if_true]
      exact ih (by omega) (by omega)
theorem lastR_pg {w : List (List UInt8)} (hw : w.length ≤ 16) {x : List UInt8} (hx : w.getLast? = some x) (hb : pblank x = false) : lastR (pg w) = w.length - 1 := by
  unfold lastR
  rw [pg_len hw]
  exact lastD_pg hw hx hb 15 (by omega) (by omega)
def im (h : Hd) (p : List UInt8) : List UInt8 := iAll h p 64
structure Rec where
  h : Hd
  p : List UInt8
def Rec.im (r : Rec) : List UInt8 := Go.Proofs.Ytlabcgnegbdlfaa.im r.h r.p
structure Rec.Ok (r : Rec) : Prop where
  h : hErr r.h = 0
  p : r.p.length ≤ 48
theorem Rec.Ok.par {r : Rec} (o : r.Ok) : parR r.im = (r.h, r.p, 0) ∧ pblank r.im = false := par_img o.h r.p (S := 64) (by omega) o.p
theorem Rec.Ok.len {r : Rec} (o : r.Ok) : r.im.length = 64 := iAll_len (by omega) o.p
theorem at_pg {R : List Rec} (ho : ∀ r ∈ R, r.Ok) (Y : List (List UInt8)) (hl : (R.map Rec.im ++ Y).length ≤ 16) : At (pg (R.map Rec.im ++ Y)) 0 (R.map Rec.h) := by
  intro i hi
  rw [List.length_map] at hi
  rw [List.length_append, List.length_map] at hl
  rw [Nat.zero_add]
  refine ⟨by omega, R[i].im, ?_, ?_⟩
  · rw [pg_in (by rw [List.length_append, List.length_map]; omega), List.getElem_append_left (by rw [List.length_map]; exact hi), List.getElem_map]
  · have := (ho _ (List.getElem_mem hi)).par.1
    rw [this, List.getElem_map]
    exact ⟨rfl, rfl⟩
def hd0 : Rec := ⟨(1, 0, 1, 9, 0, ()), []⟩
theorem hd0_ok : hd0.Ok := ⟨by decide, by decide⟩
/-- A region that was opened, has whole items of so many pages, a beginning of one, and a page that isn't read, or none. -/
structure Lay (R : List Rec) (I : List Nat) (n j : Nat) (Y : List (List UInt8)) : Prop where
  ok : ∀ r ∈ R, r.Ok
  hs : R.map Rec.h = hd0.h :: (bodyH I 1 ++ (ihs (1 + I.sum) n).take j)
  pos : ∀ m ∈ I, 1 ≤ m
  jn : j < n ∨ (j = 0 ∧ n = 0)
  len : (R.map Rec.im ++ Y).length ≤ 16
  y : Y = [] ∨ ∃ i, Y = [i] ∧ i.length = 64 ∧ (parR i).2.2 ≠ 0
  p0 : ∀ r, R[0]? = some r → r.p = []
theorem Lay.rlen {R : List Rec} {I : List Nat} {n j : Nat} {Y : List (List UInt8)} (h : Lay R I n j Y) : R.length = 1 + I.sum + j := by
  have h1 := congrArg List.length h.hs
  have h2 := h.jn
  rw [List.length_map, List.length_cons, List.length_append, bodyH_len, List.length_take, ihs_len] at h1
  omega
theorem Lay.head {R : List Rec} {I : List Nat} {n j : Nat} {Y : List (List UInt8)} (h : Lay R I n j Y) : saysR (pg (R.map Rec.im ++ Y)) 0 (1, 0, 1, 9, 0, ()) = some [] ∧ epR (pg (R.map Rec.im ++ Y)) = 9 := by
  have hl := h.rlen
  have hat := at_pg h.ok Y h.len
  rw [h.hs] at hat
  have h0 := hat 0 (by simp)
  obtain ⟨r, hr⟩ : ∃ r, R[0]? = some r := ⟨R[0], List.getElem?_eq_getElem (by omega)⟩
  have hrm : r ∈ R := List.mem_of_getElem? hr
  have hg : (pg (R.map Rec.im ++ Y))[0]? = some r.im := by
    rw [pg_in (by rw [List.length_append, List.length_map]; omega), List.getElem_append_left (by rw [List.length_map]; omega), List.getElem_map]
    rw [List.getElem?_eq_getElem (by omega)] at hr
    rw [Option.some.inj hr]
  have hp := (h.ok r hrm).par.1
  have hh : r.h = hd0.h := by
    have := congrArg (fun l => l[0]?) h.hs
    simp only [List.getElem?_map, hr, Option.map_some, List.getElem?_cons_zero] at this
    exact Option.some.inj this
  refine ⟨?_, ?_⟩
  · have := h0.says (1, 0, 1, 9, 0, ())
    rw [Nat.zero_add] at this
    have e : ((0 : Nat) : Int) = 0 := rfl
    rw [e] at this
    rw [this, hg]
    simp only [List.getElem_cons_zero, Option.map_some, hp, h.p0 r hr]
    rfl
  · unfold epR
    rw [List.getD_eq_getElem?_getD, hg, Option.getD_some, hp, hh]; rfl
theorem ihs_k2 (s n : Nat) : ∀ h ∈ ihs s n, h.1 = 2 := by
  intro h hm
  unfold ihs at hm
  obtain ⟨i, _, rfl⟩ := List.mem_map.1 hm
  rfl
theorem body_k2 : ∀ (I : List Nat) (s : Nat), ∀ h ∈ bodyH I s, h.1 = 2
  | [], s, h, hm => by simp [bodyH] at hm
  | n :: I, s, h, hm => by
    rw [bodyH] at hm
    rcases List.mem_append.1 hm with h1 | h1
    · unfold ihs at h1
      obtain ⟨i, _, rfl⟩ := List.mem_map.1 h1
      rfl
    · exact body_k2 I _ h h1
theorem len_sum : ∀ (I : List Nat), (∀ m ∈ I, 1 ≤ m) → I.length ≤ I.sum
  | [], _ => Nat.le_refl _
  | n :: I, h => by
    have h1 := h n List.mem_cons_self
    have h2 := len_sum I fun m hm => h m (List.mem_cons_of_mem _ hm)
    rw [List.length_cons, List.sum_cons]; omega
theorem Lay.scan' {R : List Rec} {I : List Nat} {n j : Nat} {Y : List (List UInt8)} (h : Lay R I n j Y) (hY : Y = [] ∨ ∃ i, Y = [i] ∧ pblank i = false ∧ (parR i).2.2 ≠ 0) : scanR (pg (R.map Rec.im ++ Y)) = ((9, false, itemsH I 1), true) := by
  have hl := h.rlen
  have hlen := h.len
  have hjn := h.jn
  have hat := at_pg h.ok Y h.len
  rw [h.hs] at hat
  obtain ⟨hs0, hep⟩ := h.head
  generalize hw : R.map Rec.im ++ Y = w at *
  have hwl : w.length = R.length + Y.length := by rw [← hw, List.length_append, List.length_map]
  have hYl : Y.length ≤ 1 := by rcases hY with rfl | ⟨i, rfl, _⟩ <;> simp
  -- the page behind the records
  have hmute : ∀ q, R.length ≤ q → Mute (pg w) q := by
    intro q hq
    rcases hY with hY | ⟨i, hY, hi⟩
    · exact pg_mute (by rw [hwl, hY]; exact hq) hlen
    · rcases Nat.lt_or_ge R.length q with h5 | h5
      · exact pg_mute (by rw [hwl, hY]; simp; omega) hlen
      · obtain rfl : q = R.length := by omega
        intro b hb
        have hq2 : R.length < w.length := by rw [hwl, hY]; simp
        rw [pg_in hq2] at hb
        have : w[R.length] = i := by
          have h6 : w[R.length]? = some i := by rw [← hw, List.getElem?_append_right (by rw [List.length_map]; exact Nat.le_refl _), List.length_map, Nat.sub_self, hY]; rfl
          rw [List.getElem?_eq_getElem hq2] at h6
          exact Option.some.inj h6
        rw [← Option.some.inj hb, this]; exact hi.2
  have hlast : lastR (pg w) = w.length - 1 := by
    have : ∃ x, w.getLast? = some x ∧ pblank x = false := by
      rcases hY with hY | ⟨i, hY, hi⟩
      · have hR : 0 < R.length := by omega
        obtain ⟨r, hr⟩ : ∃ r, R[R.length - 1]? = some r := ⟨_, List.getElem?_eq_getElem (by omega)⟩
        refine ⟨r.im, ?_, (h.ok _ (List.mem_of_getElem? hr)).par.2⟩
        rw [← hw, hY, List.append_nil, List.getLast?_eq_getElem?, List.length_map, List.getElem?_map, hr]
        rfl
      · exact ⟨i, by rw [← hw, hY, List.getLast?_concat], hi.1⟩
    obtain ⟨x, hx, hxb⟩ := this
    exact lastR_pg hlen hx hxb
  have hne : pg w ≠ [] := fun e => by have := pg_len hlen; rw [e] at this; simp at this
  have hat1 : At (pg w) 1 (bodyH I 1 ++ (ihs (1 + I.sum) n).take j) := by
    have := At.right (a := [hd0.h]) (by simpa using hat)
    simpa using this
  have hseal : (if lastR (pg w) > 0 then sealS (pg w) (epR (pg w)) else none) = none := by
    split
    · rename_i hgt
      unfold sealS
      rw [hlast, hep]
      have : saysR (pg w) ((w.length - 1 : Nat) : Int) (4, 0, 1, 9, ((w.length - 1 : Nat) : Int), ()) = none := by
        rcases hY with hY | ⟨i, hY, hi⟩
        · have hw1 : w.length = R.length := by rw [hwl, hY]; rfl
          have hq : w.length - 2 < (bodyH I 1 ++ (ihs (1 + I.sum) n).take j).length := by rw [List.length_append, bodyH_len, List.length_take, ihs_len]; omega
          have h7 := hat1 (w.length - 2) hq
          rw [show 1 + (w.length - 2) = w.length - 1 by omega] at h7
          rw [h7.says, if_neg]
          intro he
          have hk2 : ((bodyH I 1 ++ (ihs (1 + I.sum) n).take j)[w.length - 2]).1 = 2 := by
            rcases List.mem_append.1 (List.getElem_mem hq) with h8 | h8
            · exact body_k2 I 1 _ h8
            · exact ihs_k2 _ _ _ (List.mem_of_mem_take h8)
          rw [he] at hk2
          simp at hk2
        · exact (hmute _ (by rw [hwl, hY]; simp)).says _
      rw [this]; rfl
    · rfl
  rw [scanR_each hne (by rw [hep]; exact hs0) hseal, hep, hlast]
  congr 3
  refine each_body I 1 17 hat1.left h.pos (by omega) (by have := len_sum I h.pos; omega) fun q h1 h2 => ?_
  rcases Nat.lt_or_ge q R.length with h5 | h5
  · have hr := hat1.right
    rw [bodyH_len] at hr
    have hi : q - (1 + I.sum) < ((ihs (1 + I.sum) n).take j).length := by rw [List.length_take, ihs_len]; omega
    have h7 := hr (q - (1 + I.sum)) hi
    rw [show 1 + I.sum + (q - (1 + I.sum)) = q by omega, List.getElem_take, ihs_get, show 1 + I.sum + (q - (1 + I.sum)) = q by omega] at h7
    by_cases h0 : q - (1 + I.sum) = 0
    · rw [h0] at h7
      exact gap_none (j := j) h7 (by omega) (hmute _ (by omega))
    · exact part_none h7 (by omega) (by omega)
  · exact (hmute q h5).found 9
theorem Lay.scan {R : List Rec} {I : List Nat} {n j : Nat} {Y : List (List UInt8)} (h : Lay R I n j Y) : scanR (pg (R.map Rec.im ++ Y)) = ((9, false, itemsH I 1), true) := by
  rcases h.y with rfl | ⟨i, rfl, hi64, hi⟩
  · exact h.scan' (.inl rfl)
  · cases hbl : pblank i with
    | false => exact h.scan' (.inr ⟨i, rfl, hbl, hi⟩)
    | true =>
      have := blank_is hbl hi64
      subst this
      have hlen := h.len
      rw [List.length_append, List.length_singleton] at hlen
      rw [pg_blank (by omega)]
      have h' : Lay R I n j [] := ⟨h.ok, h.hs, h.pos, h.jn, by rw [List.append_nil]; omega, .inl rfl, h.p0⟩
      have := h'.scan' (.inl rfl)
      rwa [List.append_nil] at this
theorem sealLd_app (a b : List It) : sealLd (a ++ b) = sealLd a ++ sealLd b := by simp [sealLd]
theorem u8of_n {n : Int} (h : 0 ≤ n ∧ n ≤ 255) : ((u8of n).toNat : Int) = n := by rw [← u8_wrap h.1 h.2, w8_id h.1 h.2]
theorem sItem_ld (pre : List It) (x : It) (post : List It) (hx : inB (itB x)) : sItem (sealLd (pre ++ x :: post)) pre.length = x := by
  have hl := sealLd_len pre
  have e : sealLd (pre ++ x :: post) = sealLd pre ++ (u8of x.1 :: u8of x.2.1 :: u8of x.2.2.1 :: sealLd post) := by rw [sealLd_app]; simp [sealLd, itB]
  have hg : ∀ k, (sealLd (pre ++ x :: post)).getD (pre.length * 3 + k) 0 = (u8of x.1 :: u8of x.2.1 :: u8of x.2.2.1 :: sealLd post).getD k 0 := by
    intro k
    rw [e, List.getD_eq_getElem?_getD, List.getD_eq_getElem?_getD, List.getElem?_append_right (by omega), show pre.length * 3 + k - (sealLd pre).length = k by omega]
  unfold sItem
  have g0 := hg 0
  rw [Nat.add_zero] at g0
  rw [g0, hg 1, hg 2]
  have h1 : ((u8of x.1).toNat : Int) = x.1 := u8of_n (hx _ (by simp [itB]))
  have h2 : ((u8of x.2.1).toNat : Int) = x.2.1 := u8of_n (hx _ (by simp [itB]))
  have h3 : ((u8of x.2.2.1).toNat : Int) = x.2.2.1 := u8of_n (hx _ (by simp [itB]))
  simp only [List.getD_cons_zero, List.getD_cons_succ, h1, h2, h3]
theorem sealG_items : ∀ (I : List Nat) (pre : List It) (s : Nat), (∀ x ∈ itemsH I s, inB (itB x)) → (∀ n ∈ I, 1 ≤ n) → sealG (sealLd (pre ++ itemsH I s)) I.length pre.length (s : Int) = some (itemsH I s, (s : Int) + (I.sum : Int))
  | [], pre, s, _, _ => by simp [sealG, itemsH]
  | n :: I, pre, s, hx, hp => by
    have hn := hp n List.mem_cons_self
    rw [itemsH] at hx ⊢
    rw [List.length_cons, sealG_succ, sItem_ld pre _ _ (hx _ List.mem_cons_self)]
    simp only
    rw [if_pos (by refine ⟨?_, ?_, ?_⟩ <;> first | trivial | omega)]
    have := sealG_items I (pre ++ [(2, (s : Int), (n : Int), ())]) (s + n) (fun x h => hx x (List.mem_cons_of_mem _ h)) (fun m h => hp m (List.mem_cons_of_mem _ h))
    rw [List.length_append, List.length_singleton, List.append_assoc, List.singleton_append] at this
    rw [show (s : Int) + (n : Int) = ((s + n : Nat) : Int) by omega, this, Option.map_some, List.sum_cons]
    simp only [Option.some.injEq, Prod.mk.injEq, true_and]
    omega
theorem items_in : ∀ (I : List Nat) (s : Nat), s + I.sum ≤ 255 → ∀ x ∈ itemsH I s, inB (itB x)
  | [], s, _, x, hx => by simp [itemsH] at hx
  | n :: I, s, h, x, hx => by
    rw [List.sum_cons] at h
    rw [itemsH] at hx
    rcases List.mem_cons.1 hx with rfl | hx
    · intro m hm
      simp only [itB, List.mem_cons, List.not_mem_nil, or_false] at hm
      rcases hm with rfl | rfl | rfl <;> omega
    · exact items_in I (s + n) (by omega) x hx
theorem seal_items {I : List Nat} (hp : ∀ n ∈ I, 1 ≤ n) (h : 1 + I.sum ≤ 255) : sealR (sealLd (itemsH I 1)) (1 + I.sum) = some (itemsH I 1) ∧ inB ((itemsH I 1).flatMap itB) := by
  have hin := items_in I 1 h
  have hl := sealLd_len (itemsH I 1)
  rw [itemsH_len] at hl
  have hg := sealG_items I [] 1 hin hp
  rw [List.nil_append] at hg
  refine ⟨?_, fun n hn => ?_⟩
  · unfold sealR
    rw [if_neg (by omega), show (sealLd (itemsH I 1)).length / 3 = I.length by omega]
    have e : ((1 : Nat) : Int) = 1 := rfl
    rw [e] at hg
    simp only [List.length_nil] at hg
    rw [hg]
    simp only
    rw [if_pos (by omega)]
  · obtain ⟨x, hx, hn⟩ := List.mem_flatMap.1 hn
    exact hin x hx n hn
def sealRec (I : List Nat) : Rec := ⟨(4, 0, 1, 9, ((1 + I.sum : Nat) : Int), ()), sealLd (itemsH I 1)⟩
theorem scan_sealed {R : List Rec} {I : List Nat} (hok : ∀ r ∈ R, r.Ok) (hpos : ∀ m ∈ I, 1 ≤ m) (hs : R.map Rec.h = hd0.h :: bodyH I 1) (hlen : R.length < 16) (p0 : ∀ r, R[0]? = some r → r.p = []) :
    scanR (pg ((R ++ [sealRec I]).map Rec.im)) = ((9, true, itemsH I 1), true) := by
  obtain ⟨sr, hsr⟩ : ∃ sr : Rec, sr = sealRec I := ⟨_, rfl⟩
  rw [← hsr]
  unfold sealRec at hsr
  have hRl : R.length = 1 + I.sum := by
    have := congrArg List.length hs
    rw [List.length_map, List.length_cons, bodyH_len] at this
    omega
  have hsl := len_sum I hpos
  have hso : sr.Ok := by
    rw [hsr]
    refine ⟨?_, ?_⟩
    · unfold hErr
      rw [if_neg (by simp), if_neg (by simp only; omega)]
    · simp only
      rw [sealLd_len, itemsH_len]; omega
  have hok' : ∀ r ∈ R ++ [sr], r.Ok := fun r hr => by
    rcases List.mem_append.1 hr with h | h
    · exact hok r h
    · rw [List.mem_singleton.1 h]; exact hso
  have hlw : ((R ++ [sr]).map Rec.im).length = R.length + 1 := by simp
  have hat := at_pg hok' [] (by rw [List.append_nil, hlw]; omega)
  rw [List.append_nil] at hat
  have h0 := hat 0 (by simp)
  have hl := hat R.length (by simp)
  rw [Nat.zero_add] at h0 hl
  have e0 : ((R ++ [sr]).map Rec.h)[0]'(by simp) = hd0.h := by
    have : ((R ++ [sr]).map Rec.h)[0]? = some hd0.h := by rw [List.map_append, hs]; rfl
    rw [List.getElem?_eq_getElem (by simp)] at this
    exact Option.some.inj this
  have el : ((R ++ [sr]).map Rec.h)[R.length]'(by simp) = sr.h := by simp
  rw [e0] at h0
  rw [el] at hl
  obtain ⟨r, hr⟩ : ∃ r, R[0]? = some r := ⟨R[0], List.getElem?_eq_getElem (by omega)⟩
  have hrm : r ∈ R := List.mem_of_getElem? hr
  have hg0 : (pg ((R ++ [sr]).map Rec.im))[0]? = some r.im := by
    have : ((R ++ [sr]).map Rec.im)[0]? = some r.im := by rw [List.getElem?_map, List.getElem?_append_left (by omega), hr]; rfl
    rw [pg_in (by rw [hlw]; omega), ← List.getElem?_eq_getElem (by rw [hlw]; omega), this]
  have hgl : (pg ((R ++ [sr]).map Rec.im))[R.length]? = some sr.im := by
    have : ((R ++ [sr]).map Rec.im)[R.length]? = some sr.im := by simp
    rw [pg_in (by rw [hlw]; omega), ← List.getElem?_eq_getElem (by rw [hlw]; omega), this]
  have hpr := (hok r hrm).par.1
  have hps := hso.par
  have hep : epR (pg ((R ++ [sr]).map Rec.im)) = 9 := by
    unfold epR
    have hh : r.h = hd0.h := by
      have := congrArg (fun l => l[0]?) hs
      simp only [List.getElem?_map, hr, Option.map_some, List.getElem?_cons_zero] at this
      exact Option.some.inj this
    rw [List.getD_eq_getElem?_getD, hg0, Option.getD_some, hpr, hh]; rfl
  have hs0 : saysR (pg ((R ++ [sr]).map Rec.im)) 0 (1, 0, 1, epR (pg ((R ++ [sr]).map Rec.im)), 0, ()) = some [] := by
    have := h0.says (1, 0, 1, 9, 0, ())
    have e : ((0 : Nat) : Int) = 0 := rfl
    rw [e] at this
    rw [hep, this, hg0]
    simp only [Option.map_some, hpr, p0 r hr]
    rfl
  have hlast : lastR (pg ((R ++ [sr]).map Rec.im)) = R.length := by
    rw [lastR_pg (x := sr.im) (by rw [hlw]; omega) (by simp) hps.2, hlw]; rfl
  have hne : pg ((R ++ [sr]).map Rec.im) ≠ [] := fun e => by have := pg_len (w := (R ++ [sr]).map Rec.im) (by rw [hlw]; omega); rw [e] at this; simp at this
  have hseal : (if lastR (pg ((R ++ [sr]).map Rec.im)) > 0 then sealS (pg ((R ++ [sr]).map Rec.im)) (epR (pg ((R ++ [sr]).map Rec.im))) else none) = some (itemsH I 1) := by
    rw [if_pos (by omega)]
    unfold sealS
    rw [hlast, hep, hl.says, if_pos (by rw [hsr, hRl]), hgl]
    simp only [Option.map_some, Option.bind_some, hps.1]
    rw [hsr, hRl]
    exact (seal_items hpos (by omega)).1
  rw [scanR_seal hne hs0 hseal, hep]
theorem scan_mute {w : List (List UInt8)} (h : Mute (pg w) 0) : scanR (pg w) = ((0, false, []), false) := scanR_no (by
  have := h.says (1, 0, 1, epR (pg w), 0, ())
  have e : ((0 : Nat) : Int) = 0 := rfl
  rw [e] at this
  rw [this]; exact fun e => by cases e)
end Go.Proofs.Ytlabcgnegbdlfaa
set_option linter.unusedVariables false
set_option linter.unusedSimpArgs false
namespace Go.Proofs.Ytlabcgnegbdlfaa
open Go.HL

abbrev cT : Cfg := ⟨2, 16, 64, 9⟩
structure GD (d : Dev) (R : List Rec) : Prop where
  c : d.c = cT
  dn : d.down = false
  tn : d.torn = []
  bs : d.bs = [blk0 cT, ⟨pg (R.map Rec.im), R.length, 0, false⟩]
  len : R.length ≤ 16
structure TD (d : Dev) (R : List Rec) (r : Rec) (i : List UInt8) : Prop where
  c : d.c = cT
  dn : d.down = true
  tn : d.torn = [⟨1, R.length, r.im, i⟩]
  bs : d.bs = [blk0 cT, ⟨pg (R.map Rec.im ++ [i]), R.length + 1, 0, false⟩]
  len : R.length < 16
  i : i.length = 64
theorem pg_set {w : List (List UInt8)} (h : w.length < 16) (x : List UInt8) : (pg w).set w.length x = pg (w ++ [x]) := by
  unfold pg
  rw [List.set_append_right _ _ (Nat.le_refl _), Nat.sub_self, show 16 - w.length = (16 - (w ++ [x]).length) + 1 by simp; omega, List.replicate_succ, List.set_cons_zero, List.append_assoc, List.singleton_append]
theorem tear_down (d : Dev) (h : d.down = false) : (tear d).2.down = (tear d).1 := by
  unfold tear
  split
  · exact h
  · rfl
theorem prog_good {d : Dev} {R : List Rec} (g : GD d R) {r : Rec} (o : r.Ok) (hp : r.h.2.2.2.2.1 = (R.length : Int)) :
    ((progI d 1 r.h r.p).1 = 0 ∧ GD (progI d 1 r.h r.p).2 (R ++ [r])) ∨ ((progI d 1 r.h r.p).1 = 11 ∧ ∃ i, TD (progI d 1 r.h r.p).2 R r i) := by
  have he := hErr_ok o.h
  have hlt : R.length < 16 := by omega
  have hI : imgR r.h r.p (d.c.S : Int) = (r.im, 0) := by rw [g.c]; exact imgR_ok (S := 64) (by decide) o.h o.p
  have hf : findE d 1 (R.length : Int) = 0 := by
    unfold findE
    rw [g.dn, g.bs, g.c]
    simp only [Bool.false_eq_true, if_false, List.length_cons, List.length_nil]
    rw [if_neg (by decide), if_neg (by simp only [Classical.not_not]; omega)]
  have hwl : (R.map Rec.im).length = R.length := List.length_map _
  have hP : progI d 1 r.h r.p = progK d 1 R.length ⟨pg (R.map Rec.im), R.length, 0, false⟩ r.im := by
    unfold progI
    rw [hI]
    simp only [ne_eq, not_true_eq_false, if_false]
    unfold prog
    rw [hp, hf, g.c, o.len]
    simp only [ne_eq, not_true_eq_false, if_false]
    rw [show (1 : Int).toNat = 1 from rfl, g.bs]
    simp only [List.getElem?_cons_succ, List.getElem?_cons_zero, Bool.false_eq_true, if_false, not_true_eq_false, Int.toNat_natCast]
  rw [hP]
  obtain ⟨h1, h2, h3, h4⟩ := tear_counted d
  have htd : (tear (counted d)).2.down = (tear (counted d)).1 := tear_down _ g.dn
  unfold progK
  split
  · rename_i ht
    refine .inr ⟨rfl, tornImg d r.im, ?_, ?_, ?_, ?_, hlt, ?_⟩
    · show (tear (counted d)).2.c = _; rw [h1]; exact g.c
    · show (tear (counted d)).2.down = _; rw [htd]; exact ht
    · show d.torn ++ _ = _; rw [g.tn]; rfl
    · show d.bs.set 1 _ = _
      rw [g.bs]
      simp only [List.set_cons_succ, List.set_cons_zero, Blk.put]
      rw [← hwl, pg_set (by rw [hwl]; exact hlt)]
    · rw [tornImg_len (by rw [g.c]; exact o.len), g.c]
  · rename_i ht
    refine .inl ⟨rfl, ?_, ?_, ?_, ?_, by simp; omega⟩
    · show (tear (counted d)).2.c = _; rw [h1]; exact g.c
    · show (tear (counted d)).2.down = _; rw [htd]; simpa using ht
    · show (tear (counted d)).2.torn = _; rw [h3]; exact g.tn
    · show d.bs.set 1 _ = _
      rw [g.bs]
      simp only [List.set_cons_succ, List.set_cons_zero, Blk.put]
      rw [← hwl, pg_set (by rw [hwl]; exact hlt), List.map_append]
      simp
def irecs (s n : Nat) : Nat → List (List UInt8) → List Rec
  | _, [] => []
  | i, p :: r => ⟨(2, ((i : Nat) : Int), (n : Int), 9, (((s + i) : Nat) : Int), ()), p⟩ :: irecs s n (i + 1) r
theorem irecs_len (s n : Nat) : ∀ (i : Nat) (ps : List (List UInt8)), (irecs s n i ps).length = ps.length
  | _, [] => rfl
  | i, p :: r => by rw [irecs, List.length_cons, irecs_len, List.length_cons]
theorem irecs_hs (s n : Nat) : ∀ (i : Nat) (ps : List (List UInt8)), (irecs s n i ps).map Rec.h = (List.range' i ps.length).map fun i => ((2, ((i : Nat) : Int), (n : Int), 9, (((s + i) : Nat) : Int), ()) : Hd)
  | _, [] => rfl
  | i, p :: r => by rw [irecs, List.map_cons, irecs_hs, List.length_cons, List.range'_succ, List.map_cons]
theorem irecs_ihs (s : Nat) (ps : List (List UInt8)) : (irecs s ps.length 0 ps).map Rec.h = ihs s ps.length := by
  rw [irecs_hs]; unfold ihs; rw [List.range_eq_range']
theorem irec_ok {s n i : Nat} (h1 : i < n) (h2 : n ≤ 16) (h3 : s + i ≤ 15) {p : List UInt8} (hp : p.length ≤ 48) : (⟨(2, ((i : Nat) : Int), (n : Int), 9, (((s + i) : Nat) : Int), ()), p⟩ : Rec).Ok := by
  refine ⟨?_, hp⟩
  unfold hErr
  rw [if_neg (by simp), if_neg (by simp only; omega)]
theorem irecs_ok {s n : Nat} (h2 : n ≤ 16) (h3 : s + n ≤ 16) : ∀ (i : Nat) (ps : List (List UInt8)), i + ps.length ≤ n → (∀ p ∈ ps, p.length ≤ 48) → ∀ r ∈ irecs s n i ps, r.Ok
  | _, [], _, _, r, hr => by simp [irecs] at hr
  | i, p :: ps, h, hp, r, hr => by
    rw [irecs] at hr
    rw [List.length_cons] at h
    rcases List.mem_cons.1 hr with rfl | hr
    · exact irec_ok (by omega) h2 (by omega) (hp p List.mem_cons_self)
    · exact irecs_ok h2 h3 (i + 1) ps (by omega) (fun q hq => hp q (List.mem_cons_of_mem _ hq)) r hr
theorem appG_good {s n : Nat} (h2 : n ≤ 16) (h3 : s + n ≤ 16) : ∀ (ps : List (List UInt8)) (i : Nat) (d : Dev) (R : List Rec), GD d R → R.length = s + i → (∀ p ∈ ps, p.length ≤ 48) → i + ps.length = n →
    ((appG 1 9 s 2 n d i ps).1 = 0 ∧ GD (appG 1 9 s 2 n d i ps).2 (R ++ irecs s n i ps)) ∨
    ((appG 1 9 s 2 n d i ps).1 = 11 ∧ ∃ (j : Nat) (hj : j < (irecs s n i ps).length) (im : List UInt8), TD (appG 1 9 s 2 n d i ps).2 (R ++ (irecs s n i ps).take j) (irecs s n i ps)[j] im)
  | [], i, d, R, g, _, _, _ => .inl ⟨rfl, by rw [irecs, List.append_nil]; exact g⟩
  | p :: ps, i, d, R, g, hR, hp, hn => by
    rw [List.length_cons] at hn
    have ho := irec_ok (s := s) (i := i) (n := n) (by omega) h2 (by omega) (hp p List.mem_cons_self)
    have hst := prog_good g ho (by rw [hR])
    have e : (s : Int) + (i : Int) = ((s + i : Nat) : Int) := by omega
    rw [appG, e]
    rcases hst with ⟨h0, g'⟩ | ⟨h11, im, t⟩
    · simp only at h0 g'
      rw [if_pos h0]
      have ih := appG_good h2 h3 ps (i + 1) _ _ g' (by simp [hR]; omega) (fun q hq => hp q (List.mem_cons_of_mem _ hq)) (by omega)
      rw [irecs]
      rcases ih with ⟨h5, h6⟩ | ⟨h5, j, hj, im, t⟩
      · refine .inl ⟨h5, ?_⟩
        rw [List.append_assoc, List.singleton_append] at h6
        exact h6
      · refine .inr ⟨h5, j + 1, by simp; omega, im, ?_⟩
        rw [List.append_assoc, List.singleton_append] at t
        rw [List.take_succ_cons, List.getElem_cons_succ]
        exact t
    · simp only at h11 t
      rw [if_neg (by rw [h11]; decide)]
      exact .inr ⟨h11, 0, by simp [irecs], im, by simp only [irecs, List.take_zero, List.append_nil, List.getElem_cons_zero]; exact t⟩
/-- A region's records: the head, and whole items. -/
structure OkSt (R : List Rec) (I : List Nat) : Prop where
  ok : ∀ r ∈ R, r.Ok
  hs : R.map Rec.h = hd0.h :: bodyH I 1
  pos : ∀ m ∈ I, 1 ≤ m
  p0 : ∀ r, R[0]? = some r → r.p = []
theorem OkSt.len {R : List Rec} {I : List Nat} (h : OkSt R I) : R.length = 1 + I.sum := by
  have := congrArg List.length h.hs
  rw [List.length_map, List.length_cons, bodyH_len] at this
  omega
theorem bodyH_snoc : ∀ (I : List Nat) (s n : Nat), bodyH (I ++ [n]) s = bodyH I s ++ ihs (s + I.sum) n
  | [], s, n => by simp [bodyH]
  | m :: I, s, n => by rw [List.cons_append, bodyH, bodyH_snoc, bodyH, List.append_assoc, List.sum_cons, Nat.add_assoc]
theorem itemsH_snoc : ∀ (I : List Nat) (s n : Nat), itemsH (I ++ [n]) s = itemsH I s ++ [(2, ((s + I.sum : Nat) : Int), (n : Int), ())]
  | [], s, n => by simp [itemsH]
  | m :: I, s, n => by rw [List.cons_append, itemsH, itemsH_snoc, itemsH, List.cons_append, List.sum_cons, Nat.add_assoc]
theorem hd_st : OkSt [hd0] [] := ⟨by intro r hr; rw [List.mem_singleton.1 hr]; exact hd0_ok, rfl, by simp, by intro r hr; rw [← Option.some.inj hr]; rfl⟩
theorem get0_app {R S : List Rec} (h : 0 < R.length) : (R ++ S)[0]? = R[0]? := List.getElem?_append_left h
theorem OkSt.snoc {R : List Rec} {I : List Nat} (h : OkSt R I) {ps : List (List UInt8)} (hp : ∀ p ∈ ps, p.length ≤ 48) (h1 : 1 ≤ ps.length) (h2 : 1 + I.sum + ps.length ≤ 16) : OkSt (R ++ irecs (1 + I.sum) ps.length 0 ps) (I ++ [ps.length]) := by
  have hl := h.len
  refine ⟨fun r hr => ?_, ?_, fun m hm => ?_, fun r hr => ?_⟩
  · rcases List.mem_append.1 hr with h5 | h5
    · exact h.ok r h5
    · exact irecs_ok (by omega) h2 0 ps (by omega) hp r h5
  · rw [List.map_append, h.hs, irecs_ihs, bodyH_snoc, List.cons_append]
  · rcases List.mem_append.1 hm with h5 | h5
    · exact h.pos m h5
    · rw [List.mem_singleton.1 h5]; exact h1
  · rw [get0_app (by omega)] at hr; exact h.p0 r hr
theorem OkSt.lay {R : List Rec} {I : List Nat} (h : OkSt R I) (hl : R.length ≤ 16) : Lay R I 0 0 [] := ⟨h.ok, by rw [h.hs]; simp, h.pos, .inr ⟨rfl, rfl⟩, by simp; exact hl, .inl rfl, h.p0⟩
theorem OkSt.scan {R : List Rec} {I : List Nat} (h : OkSt R I) (hl : R.length ≤ 16) : scanR (pg (R.map Rec.im)) = ((9, false, itemsH I 1), true) := by
  have := (h.lay hl).scan
  rwa [List.append_nil] at this
theorem OkSt.scanY {R : List Rec} {I : List Nat} (h : OkSt R I) (hl : R.length < 16) {i : List UInt8} (h64 : i.length = 64) (hi : (parR i).2.2 ≠ 0) : scanR (pg (R.map Rec.im ++ [i])) = ((9, false, itemsH I 1), true) :=
  Lay.scan ⟨h.ok, by rw [h.hs]; simp, h.pos, .inr ⟨rfl, rfl⟩, by simp; omega, .inr ⟨i, rfl, h64, hi⟩, h.p0⟩ (n := 0) (j := 0)
/-- The beginning of an item, and a page that isn't read, or none. -/
theorem OkSt.part {R : List Rec} {I : List Nat} (h : OkSt R I) {ps : List (List UInt8)} (hp : ∀ p ∈ ps, p.length ≤ 48) (h2 : 1 + I.sum + ps.length ≤ 16) {j : Nat} (hj : j < ps.length) {Y : List (List UInt8)} (hY : Y = [] ∨ ∃ i, Y = [i] ∧ i.length = 64 ∧ (parR i).2.2 ≠ 0) :
    scanR (pg ((R ++ (irecs (1 + I.sum) ps.length 0 ps).take j).map Rec.im ++ Y)) = ((9, false, itemsH I 1), true) := by
  have hl := h.len
  refine Lay.scan (n := ps.length) (j := j) ⟨fun r hr => ?_, ?_, h.pos, .inl hj, ?_, hY, fun r hr => ?_⟩
  · rcases List.mem_append.1 hr with h5 | h5
    · exact h.ok r h5
    · exact irecs_ok (by omega) h2 0 ps (by omega) hp r (List.mem_of_mem_take h5)
  · rw [List.map_append, h.hs, List.map_take, irecs_ihs, List.cons_append]
  · have : Y.length ≤ 1 := by rcases hY with rfl | ⟨i, rfl, _⟩ <;> simp
    rw [List.length_append, List.length_map, List.length_append, List.length_take, irecs_len]; omega
  · rw [get0_app (by omega)] at hr; exact h.p0 r hr
theorem load_pg {d : Dev} {w : List (List UInt8)} {nx : Nat} (hc : d.c = cT) (hb : d.bs = [blk0 cT, ⟨pg w, nx, 0, false⟩]) (hw : w.length ≤ 16) : loadR (restart d) 1 = (pg w, 0) := by
  have hf : ∀ p : Nat, p < 16 → findE (restart d) 1 (p : Int) = 0 := by
    intro p hp
    unfold findE
    rw [show (restart d).down = false from rfl, show (restart d).bs = d.bs from rfl, show (restart d).c = d.c from rfl, hb, hc]
    simp only [Bool.false_eq_true, if_false, List.length_cons, List.length_nil]
    rw [if_neg (by decide), if_neg (by simp only [Classical.not_not]; omega)]
  have hl := pg_len hw
  unfold loadR
  rw [if_neg (by rw [show (0 : Int) = ((0 : Nat) : Int) from rfl, hf 0 (by decide)]; simp), show (restart d).c = d.c from rfl, hc]
  congr 1
  apply List.ext_getElem
  · simp [hl]
  · intro i h1 h2
    simp only [List.getElem_map, List.getElem_range]
    unfold readR
    rw [hl] at h2
    rw [hf i h2, show (restart d).bs = d.bs from rfl, hb]
    simp [List.getD_eq_getElem?_getD, hl, h2]
/-- How the walk stands behind the items: opened or not, the error, the page, the device, what is wanted. -/
def St (e0 a at' : Int) (d : Dev) (W : List It) : Prop :=
  (e0 = 0 ∧ a = 0 ∧ ∃ R I, GD d R ∧ OkSt R I ∧ R.length ≤ 15 ∧ at' = (R.length : Int) ∧ W = itemsH I 1) ∨
  (e0 = 0 ∧ a = 11 ∧ ∃ R I ps j, ∃ (hj : j < (irecs (1 + I.sum) ps.length 0 ps).length) (i : List UInt8), TD d (R ++ (irecs (1 + I.sum) ps.length 0 ps).take j) (irecs (1 + I.sum) ps.length 0 ps)[j] i ∧ OkSt R I ∧ (∀ p ∈ ps, p.length ≤ 48) ∧ 1 + I.sum + ps.length ≤ 15 ∧
    W = (if j + 1 = ps.length ∧ i = ((irecs (1 + I.sum) ps.length 0 ps)[j]).im then itemsH (I ++ [ps.length]) 1 else itemsH I 1)) ∨
  (e0 = 11 ∧ a = 11 ∧ W = [] ∧ ∃ i, TD d [] hd0 i)
/-- How it stands behind the seal. -/
def FinS (e0 a : Int) (sl sealed : Bool) (d : Dev) (W : List It) : Prop := ∃ w, w.length ≤ 16 ∧ loadR (restart d) 1 = (pg w, 0) ∧ (e0 = 0 ∨ e0 = 11) ∧
  ((a = 0 ∧ d.torn = [] ∧ e0 = 0 ∧ scanR (pg w) = ((9, sealed, W), true)) ∨
   (a = 11 ∧ sealed = false ∧ ∃ t, d.torn = [t] ∧ (t.image ≠ t.meant → (parR t.image).2.2 ≠ 0 → scanR (pg w) = if e0 = 0 then ((9, false, W), true) else ((0, false, []), false)) ∧
     (t.image = t.meant → if e0 = 0 then (scanR (pg w) = ((9, false, W), true) ∨ sl = true ∧ scanR (pg w) = ((9, true, W), true)) else scanR (pg w) = ((9, false, []), true))))
theorem fresh_gd (n k : Int) : GD (arm (fresh cT) n k) [] := ⟨rfl, rfl, rfl, rfl, by decide⟩
theorem St.open' (n k : Int) : St (openR (arm (fresh cT) n k) 1 9).1 (openR (arm (fresh cT) n k) 1 9).1 1 (openR (arm (fresh cT) n k) 1 9).2 [] := by
  rcases prog_good (fresh_gd n k) hd0_ok rfl with ⟨h0, g⟩ | ⟨h0, i, t⟩
  · refine .inl ⟨h0, h0, [hd0], [], g, hd_st, by decide, rfl, rfl⟩
  · exact .inr (.inr ⟨h0, h0, rfl, i, t⟩)
theorem St.app {e0 : Int} {R : List Rec} {I : List Nat} {d : Dev} (g : GD d R) (o : OkSt R I) (h0 : e0 = 0) {ps : List (List UInt8)} (hp : ∀ p ∈ ps, p.length ≤ 48) (h1 : 1 ≤ ps.length) (h2 : R.length + ps.length ≤ 15) :
    ((appR d 1 9 R.length 2 ps).1 = 0 ∧ (appR d 1 9 R.length 2 ps).2.torn = [] ∧ St e0 0 ((R.length + ps.length : Nat) : Int) (appR d 1 9 R.length 2 ps).2 (itemsH I 1 ++ [(2, (R.length : Int), (ps.length : Int), ())])) ∨
    ((appR d 1 9 R.length 2 ps).1 = 11 ∧ ∃ t, (appR d 1 9 R.length 2 ps).2.torn = [t] ∧ ∀ W, W = (if (t.p : Int) = ((R.length + ps.length : Nat) : Int) - 1 ∧ t.image = t.meant then itemsH I 1 ++ [(2, (R.length : Int), (ps.length : Int), ())] else itemsH I 1) → ∀ x, St e0 11 x (appR d 1 9 R.length 2 ps).2 W) := by
  have hl := o.len
  have hA : appR d 1 9 R.length 2 ps = appG 1 9 ((1 + I.sum : Nat) : Int) 2 ps.length d 0 ps := by
    unfold appR
    rw [if_neg (by intro e; rw [e] at h1; simp at h1), hl]
  have hsn := itemsH_snoc I 1 ps.length
  rw [hA]
  rcases appG_good (s := 1 + I.sum) (n := ps.length) (by omega) (by omega) ps 0 d R g (by omega) hp (by omega) with ⟨h5, g'⟩ | ⟨h5, j, hj, i, t⟩
  · refine .inl ⟨h5, g'.tn, .inl ⟨h0, rfl, _, _, g', o.snoc hp h1 (by omega), by rw [List.length_append, irecs_len]; exact h2, by rw [List.length_append, irecs_len], by rw [hsn, hl]⟩⟩
  · refine .inr ⟨h5, _, t.tn, fun W hW x => .inr (.inl ⟨h0, rfl, R, I, ps, j, hj, i, t, o, hp, by omega, ?_⟩)⟩
    rw [hW, hsn, hl]
    have hjl := hj
    rw [irecs_len] at hjl
    have hc : ((((R ++ (irecs (1 + I.sum) ps.length 0 ps).take j).length : Nat) : Int) = ((1 + I.sum + ps.length : Nat) : Int) - 1 ∧ i = ((irecs (1 + I.sum) ps.length 0 ps)[j]).im) ↔ (j + 1 = ps.length ∧ i = ((irecs (1 + I.sum) ps.length 0 ps)[j]).im) := by
      rw [List.length_append, List.length_take, irecs_len]
      constructor
      · rintro ⟨h, h'⟩; exact ⟨by omega, h'⟩
      · rintro ⟨h, h'⟩; exact ⟨by omega, h'⟩
    simp only [hc]
theorem St.fin {e0 a at' : Int} {sl : Bool} {d : Dev} {W : List It} (s : St e0 a at' d W) (hx : a ≠ 0 ∨ sl = false) : FinS e0 a sl false d W := by
  rcases s with ⟨h0, ha, R, I, g, o, hl, -, rfl⟩ | ⟨h0, ha, R, I, ps, j, hj, i, t, o, hp, h2, rfl⟩ | ⟨h0, ha, rfl, i, t⟩
  · exact ⟨R.map Rec.im, by simp; omega, load_pg g.c g.bs (by simp; omega), .inl h0, .inl ⟨ha, g.tn, h0, o.scan (by omega)⟩⟩
  · have hjl := hj
    rw [irecs_len] at hjl
    have hl := o.len
    have hwl : ((R ++ (irecs (1 + I.sum) ps.length 0 ps).take j).map Rec.im ++ [i]).length ≤ 16 := by have := t.len; simp only [List.length_append, List.length_map, List.length_singleton] at *; omega
    refine ⟨_, hwl, load_pg t.c t.bs hwl, .inl h0, .inr ⟨ha, rfl, _, t.tn, fun hne hq => ?_, fun he => ?_⟩⟩
    · simp only at hne hq
      rw [if_pos h0, if_neg (fun hh => hne hh.2)]
      exact o.part hp (by omega) hjl (.inr ⟨i, rfl, t.i, hq⟩)
    · simp only at he
      rw [if_pos h0]
      left
      have hcat : (R ++ (irecs (1 + I.sum) ps.length 0 ps).take j).map Rec.im ++ [i] = (R ++ (irecs (1 + I.sum) ps.length 0 ps).take (j + 1)).map Rec.im := by
        rw [List.take_succ_eq_append_getElem hj, ← List.append_assoc, List.map_append (l₂ := [_]), he]; rfl
      rw [hcat]
      by_cases hj1 : j + 1 = ps.length
      · rw [if_pos ⟨hj1, he⟩, List.take_of_length_le (by rw [irecs_len]; omega)]
        exact (o.snoc hp (by omega) (by omega)).scan (by rw [List.length_append, irecs_len]; omega)
      · rw [if_neg (fun hh => hj1 hh.1)]
        have := o.part hp (by omega) (j := j + 1) (by omega) (.inl rfl)
        rwa [List.append_nil] at this
  · have hwl : (([] : List Rec).map Rec.im ++ [i]).length ≤ 16 := by simp
    refine ⟨_, hwl, load_pg t.c t.bs hwl, .inr h0, .inr ⟨ha, rfl, _, t.tn, fun hne hq => ?_, fun he => ?_⟩⟩
    · rw [if_neg (by omega)]
      refine scan_mute fun b hb => ?_
      rw [pg_in (by simp)] at hb
      rw [← Option.some.inj hb]; exact hq
    · rw [if_neg (by omega)]
      simp only at he
      have := hd_st.scan (by decide)
      rw [he]
      exact this
theorem St.sealD {at' : Int} {d : Dev} {W : List It} (s : St 0 0 at' d W) : (sealW d 1 9 at' W).1 = 0 ∧ FinS 0 0 true true (sealW d 1 9 at' W).2 W ∨ (sealW d 1 9 at' W).1 = 11 ∧ FinS 0 11 true false (sealW d 1 9 at' W).2 W := by
  rcases s with ⟨-, -, R, I, g, o, hl, rfl, rfl⟩ | ⟨-, h, -⟩ | ⟨h, -⟩
  case inr.inl => exact absurd h (by decide)
  case inr.inr => exact absurd h (by decide)
  have hln := o.len
  have hsl := len_sum I o.pos
  have hsi := seal_items o.pos (by omega)
  have hso : (sealRec I).Ok := by
    refine ⟨?_, ?_⟩
    · show hErr (4, 0, 1, 9, ((1 + I.sum : Nat) : Int), ()) = 0
      unfold hErr
      rw [if_neg (by simp), if_neg (by simp only; omega)]
    · show (sealLd (itemsH I 1)).length ≤ 48
      rw [sealLd_len, itemsH_len]; omega
  have hE : sealW d 1 9 (R.length : Int) (itemsH I 1) = progI d 1 (sealRec I).h (sealRec I).p := by
    unfold sealW
    rw [if_pos hsi.2, hln]; rfl
  rw [hE]
  have hsc := scan_sealed o.ok o.pos o.hs (by omega) o.p0
  rcases prog_good g hso (by show ((1 + I.sum : Nat) : Int) = _; rw [hln]) with ⟨h0, g'⟩ | ⟨h0, i, t⟩
  · have hwl : ((R ++ [sealRec I]).map Rec.im).length ≤ 16 := by simp; omega
    exact .inl ⟨h0, _, hwl, load_pg g'.c g'.bs hwl, .inl rfl, .inl ⟨rfl, g'.tn, rfl, hsc⟩⟩
  · have hwl : (R.map Rec.im ++ [i]).length ≤ 16 := by simp; omega
    refine .inr ⟨h0, _, hwl, load_pg t.c t.bs hwl, .inl rfl, .inr ⟨rfl, rfl, _, t.tn, fun hne hq => ?_, fun he => ?_⟩⟩
    · rw [if_pos rfl]
      exact o.scanY (by omega) t.i hq
    · rw [if_pos rfl]
      simp only at he
      right
      refine ⟨rfl, ?_⟩
      rw [List.map_append] at hsc
      rw [he]; exact hsc
end Go.Proofs.Ytlabcgnegbdlfaa
set_option linter.unusedVariables false
set_option linter.unusedSimpArgs false
namespace Go.Proofs.Ytlabcgnegbdlfaa
open Go.HL

theorem DG.arm {d : Dev} {n : Nat} (g : DG d n) {a k : Int} (ha : a ≤ 9223372036854775807) : DG (Go.Proofs.Ytlabcgnegbdlfaa.arm d a k) n := by
  refine ⟨arm_ok g.ok ha, ?_⟩
  have : (Go.Proofs.Ytlabcgnegbdlfaa.arm d a k).torn = d.torn := by unfold Go.Proofs.Ytlabcgnegbdlfaa.arm; split <;> rfl
  rw [this]; exact g.few
theorem DG.restart {d : Dev} {n : Nat} (g : DG d n) : DG (restart d) n := ⟨restart_ok g.ok, g.few⟩
end Go.Proofs.Ytlabcgnegbdlfaa
set_option linter.unusedVariables false
set_option linter.unusedSimpArgs false
namespace Go.Proofs.Ytlabcgnegbdlfaa
open Go.HL

abbrev IV := SlV × List PV
def ivV (x : IV) : Value := .slice x.1.a x.1.len x.1.cap
structure ItemsIn (L : HList) (v : SlV) (l : List IV) : Prop where
  sl : Sl L v 1 (l.map ivV)
  parts : ∀ x ∈ l, Parts L x.1 x.2 ∧ x.2.length ≤ 9223372036854775807
theorem parsed_cl (L : HList) (v : SlV) (b : List UInt8) (hb : BSl L v b) (hl : b.length ≤ 1000000) : CallF PP 45 #[.slice v.a v.len v.cap] L fun r L' => r = .bool (decide ((parR b).2.2 = 0)) ∧ L' = L := by
  refine c45 v ?_
  unfold s45
  refine cl_of (rparse_cl L v b hb hl) ?_
  rintro _ _ - ⟨s2, sg2, rfl, rfl, own2⟩
  refine ⟨((parR b).1, s2, (parR b).2.2, ()), rfl, .app (.of ⟨?_, rfl⟩)⟩
  congr 1
theorem str_eq (a b : List UInt8) : (ByteArray.mk a.toArray = ByteArray.mk b.toArray) ↔ a = b := by
  constructor
  · intro h; injection h with h; exact List.toArray_inj h
  · rintro rfl; rfl
theorem law_RegionTorn (L : HList) (v : SlV) (l : List IV) (h : ItemsIn L v l) (x1 : Bool) (x2 x3 : Int) (hx2 : x2 ≤ 9223372036854775807) : Reads PP 6 #[.slice v.a v.len v.cap, .bool x1, .int .i64 x2, .int .i64 x3] L (.bool true) := by
  unfold Reads
  refine c6 v x1 x2 x3 ?_
  unfold s6
  have hvl := h.sl.len
  rw [List.length_map, Nat.mul_one] at hvl
  refine cl_pm (R := L) (new_cl (2, 16, 64, 9, ())) (List.Perm.refl _) ?_
  rintro _ A0 (⟨hn, -, -⟩ | ⟨-, m, rfl, hA0⟩)
  · exact absurd (by decide) hn
  refine ⟨_, List.Perm.refl _, (some ⟨m, 0, none⟩, 0, ()), rfl, ifT rfl ?_⟩
  have hA0 : FH m (fresh cT) A0 := hA0
  have hend : ∀ {L' J : HList}, L'.Perm (L ++ J) → cl PP 9 #[] [.lf .bool] (fun r => HL.Ends (fun v' L' => v' = .bool true ∧ L' = L) (.bool r.1)) L' := fun {L' J} hp => cl_rd (regions_rd _) (true, ()) rfl (.drop (A := L) (J := J) ⟨rfl, rfl⟩ hp)
  refine ifb_of (fun _ => hend List.perm_append_comm) (fun (h20 : ¬ (v.len : Int) > 20) => ?_)
  refine lp_of (fun z' z L' => L' = A0 ++ L ∧ ∃ i : Nat, i ≤ l.length ∧ z' = l.length - i ∧ z = ((i : Int), ()) ∧ ∀ x ∈ l.take i, 1 ≤ x.2.length ∧ x.2.length ≤ 8 ∧ ∀ y ∈ x.2, y.2.length ≤ 48) l.length ⟨rfl, 0, by omega, by omega, rfl, by simp⟩ ?_
  rintro z' z _ ⟨rfl, i, hi, rfl, rfl, hF⟩
  dsimp only
  refine ifb_of (fun (hlt : (i : Int) < v.len) => ?_) (fun (hge : ¬ (i : Int) < v.len) => ?_)
  · have hi' : i < l.length := by omega
    have hm := List.getElem_mem hi'
    refine elp_1 (h.sl.mono mem_r) rfl (by rw [List.length_map]; exact hi') fun a ha => ?_
    rw [List.getElem_map] at ha
    have hP := h.parts _ hm
    refine ld_of l[i].1 ha (cl_of (fewp_cl (A0 ++ L) l[i].1 l[i].2 (hP.1.mono mem_r) hP.2 8 48) ?_)
    rintro _ L2 - ⟨hL2, bb, rfl, hb⟩
    rw [hL2]
    have hpl := hP.1.len
    refine ⟨(bb, ()), rfl, ifB_of (fun (hbt : bb = true) => ld_of l[i].1 ha (ifb_of (fun _ => hend List.perm_append_comm) (fun (hne : ¬ (l[i].1.len : Int) = 0) => w64_of (by omega) ⟨l.length - (i + 1), by omega, rfl, i + 1, by omega, rfl, rfl, fun x hx => ?_⟩))) (fun _ => hend List.perm_append_comm)⟩
    rw [List.take_succ_eq_append_getElem hi'] at hx
    rcases List.mem_append.1 hx with hx | hx
    · exact hF x hx
    · rw [List.mem_singleton.1 hx]
      obtain ⟨h1, h2⟩ := hb hbt
      exact ⟨by omega, by omega, fun y hy => by have := h2 y hy; omega⟩
  obtain rfl : i = l.length := by omega
  rw [List.take_length] at hF
  clear hge
  -- the device is armed, the region opened
  refine cl_pm (arm_cl m (fresh cT) A0 hA0 x2 x3) (List.Perm.refl _) ?_
  rintro _ A1 ⟨rfl, hA1⟩
  refine ⟨_, List.Perm.refl _, (), rfl, ?_⟩
  have g1 : DG (arm (fresh cT) x2 x3) 1000 := DG.arm ⟨fresh_ok ⟨by decide, by decide, by decide, by decide⟩, by decide⟩ hx2
  refine cl_of (open_cl m _ A1 L hA1 (g1.le (by decide)) 1 9) ?_
  rintro _ _ - ⟨A2, rfl, rfl, hA2⟩
  have g2 : DG (openR (arm (fresh cT) x2 x3) 1 9).2 900 := progI_g (n := 900) (g1.le (by decide)) _ _ _
  have hSt := St.open' x2 x3
  generalize (openR (arm (fresh cT) x2 x3) 1 9).2 = d2 at *
  generalize (openR (arm (fresh cT) x2 x3) 1 9).1 = e0 at *
  clear hA0 hA1 g1
  refine ⟨(e0, ()), rfl, ?_⟩
  dsimp only
  refine jn_of (fun y L' => ∃ (d : Dev) (A seg J : HList) (W : List It) (a at' : Int) (s : SlV), y = (a, at', s, ()) ∧ L'.Perm (A ++ (seg ++ (J ++ L))) ∧ FH m d A ∧ DG d 100 ∧ St e0 a at' d W ∧ Own s 3 eItm (W.flatMap itEnc) seg ∧ W.length ≤ 20) ?_ ?_
  case refine_2 =>
    intro j1 hj1
    refine lp_of (fun z' z L' => ∃ (i : Nat) (d : Dev) (A seg J : HList) (W : List It) (a at' : Int) (s : SlV), i ≤ l.length ∧ z' = l.length - i ∧ z = (a, at', s, (i : Int), ()) ∧ L'.Perm (A ++ (seg ++ (J ++ L))) ∧ FH m d A ∧ DG d (900 - 10 * i) ∧ St e0 a at' d W ∧ Own s 3 eItm (W.flatMap itEnc) seg ∧ W.length ≤ i ∧ -100 ≤ at' ∧ at' ≤ 1 + 8 * i) l.length
      ⟨0, d2, A2, [], [], [], e0, 1, ⟨none, 0, 0⟩, by omega, by omega, rfl, List.Perm.refl _, hA2, g2, hSt, own_nil, by simp, by omega, by omega⟩ ?_
    rintro z' z L1 ⟨i, d, A, seg, J, W, a, at', s, hi, rfl, rfl, hp, hA, g, hSt, own, hW, ha0, ha1⟩
    dsimp only
    have hout : j1 (a, at', s, ()) L1 := hj1 _ _ ⟨d, A, seg, J, W, a, at', s, rfl, hp, hA, g.le (by omega), hSt, own, by omega⟩
    refine jn_of (fun _ L' => L' = L1 ∧ a = 0 ∧ i < l.length) ?_ ?_
    case refine_2 =>
      intro j2 hj2
      exact ifb_of (fun (hlt : (i : Int) < v.len) => ifb_of (fun (ha : a = 0) => hj2 _ _ ⟨rfl, ha, by omega⟩) (fun _ => hout)) (fun _ => hout)
    rintro _ _ ⟨rfl, rfl, hi'⟩
    rename_i L1
    have hm := List.getElem_mem hi'
    obtain ⟨hf1, hf8, hf48⟩ := hF _ hm
    have hP := (h.parts _ hm).1
    have hpl := hP.len
    have hsub : ∀ p ∈ L, p ∈ L1 := fun p hp' => hp.symm.subset (by simp [hp'])
    refine elp_1 (h.sl.mono hsub) rfl (by rw [List.length_map]; exact hi') fun ad had => ?_
    rw [List.getElem_map] at had
    refine ld_of l[i].1 had (w64_of (by omega) (ifb_of (fun _ => hout) (fun (h15 : ¬ at' + (l[i].1.len : Int) > 15) => ld_of l[i].1 had ?_)))
    rcases hSt with ⟨h0, -, R, I, gd, o, hR, rfl, rfl⟩ | ⟨-, hx, -⟩ | ⟨-, hx, -⟩
    case inr.inl => exact absurd hx (by decide)
    case inr.inr => exact absurd hx (by decide)
    have hRl := o.len
    have hps : ∀ p ∈ l[i].2.map Prod.snd, p.length ≤ 48 := fun p hp => by obtain ⟨y, hy, rfl⟩ := List.mem_map.1 hp; exact hf48 y hy
    have hpsl : (l[i].2.map Prod.snd).length = l[i].2.length := List.length_map _
    have happ := St.app gd o h0 hps (by omega) (by omega)
    rw [hpsl] at happ
    refine cl_p (append_cl m d A (seg ++ (J ++ L)) hA l[i].1 l[i].2 (hP.mono fun p hp => by simp [hp]) (by omega) (g.le (by omega)) 1 9 (R.length : Int) 2 (wf_mk (by omega))) hp ?_
    rintro _ _ ⟨A', rfl, rfl, hA'⟩
    have g' : DG (appR d 1 9 R.length 2 (l[i].2.map Prod.snd)).2 (900 - 10 * (i + 1)) := appR_g (m := 900 - 10 * (i + 1)) (g.le (by omega)) _ _ _ _
    generalize appR d 1 9 R.length 2 (l[i].2.map Prod.snd) = ap at *
    refine ⟨(ap.1, ()), rfl, ?_⟩
    refine cl_pm (torn_cl m ap.2 A' hA' g'.ok (by have := g'.few; omega)) (List.Perm.refl _) ?_
    rintro _ _ ⟨tv, tseg, ts, rfl, rfl, town, htok, hts⟩
    refine ⟨_, List.Perm.refl _, (tv, ()), rfl, ?_⟩
    have htl := town.sl.els_len PT.enc_len (by decide)
    have hpp : ((tseg ++ (tsegs ts ++ A')) ++ (seg ++ (J ++ L))).Perm (seg ++ (A' ++ ((tseg ++ (tsegs ts ++ J)) ++ L))) := pc fun z => by simp only [cnt_a]; omega
    have hsl := own.sl.els_len itEnc_len (by decide)
    have hcast : (R.length : Int) + (l[i].1.len : Int) = ((R.length + l[i].2.length : Nat) : Int) := by omega
    dsimp only
    rcases happ with ⟨e1, e2, hSt'⟩ | ⟨e1, t, e2, hSt'⟩
    · refine ifT (decide_eq_true e1) (apv_pm elemItm srcItm own hpp rfl rfl (by omega) fun s2 seg2 _ own2 => w64_of (by omega) (w64_of (by omega) ?_))
      refine ⟨l.length - (i + 1), by omega, i + 1, ap.2, A', seg2, tseg ++ (tsegs ts ++ J), itemsH I 1 ++ [(2, (R.length : Int), (l[i].2.length : Int), ())], 0, _, s2, by omega, rfl, by rw [e1]; rfl, p3, hA', g', by rw [hcast]; exact hSt', ?_, by simp; omega, by omega, by omega⟩
      rw [List.flatMap_append, List.flatMap_singleton]
      rw [hpl] at own2
      exact own2
    · refine ifF (decide_eq_false (by rw [e1]; decide)) ?_
      have hts1 : ∃ pt, ts = [pt] ∧ pt.tn = t := by
        rw [e2] at hts
        match ts, hts with
        | [pt], hts => exact ⟨pt, rfl, (List.cons.inj hts).1⟩
      obtain ⟨pt, rfl, hpt⟩ := hts1
      refine ifT (decide_eq_true (by rw [htl]; rfl)) ?_
      obtain ⟨htm, hti⟩ := htok pt (by simp)
      have hgo : ∀ (L' : HList) (seg2 : HList) (s2 : SlV) (W : List It), L'.Perm (seg2 ++ (A' ++ ((tseg ++ (tsegs [pt] ++ J)) ++ L))) → Own s2 3 eItm (W.flatMap itEnc) seg2 → W.length ≤ i + 1 → W = (if (t.p : Int) = ((R.length + l[i].2.length : Nat) : Int) - 1 ∧ t.image = t.meant then itemsH I 1 ++ [(2, (R.length : Int), (l[i].2.length : Int), ())] else itemsH I 1) →
          ∃ k', k' < l.length - i ∧ ∃ (i' : Nat) (d : Dev) (A seg J : HList) (W : List It) (a at' : Int) (s : SlV), i' ≤ l.length ∧ k' = l.length - i' ∧ (ap.1, (R.length : Int) + (l[i].1.len : Int), s2, (i : Int) + 1, ()) = (a, at', s, (i' : Int), ()) ∧ L'.Perm (A ++ (seg ++ (J ++ L))) ∧ FH m d A ∧ DG d (900 - 10 * i') ∧ St e0 a at' d W ∧ Own s 3 eItm (W.flatMap itEnc) seg ∧ W.length ≤ i' ∧ -100 ≤ at' ∧ at' ≤ 1 + 8 * i' := by
        intro L' seg2 s2 W hp own2 hWl hW
        exact ⟨l.length - (i + 1), by omega, i + 1, ap.2, A', seg2, _, W, 11, _, s2, by omega, rfl, by rw [e1]; rfl, hp.trans p3, hA', g', hSt' W hW _, own2, hWl, by omega, by omega⟩
      have hB : ∀ g : PG, g.Ok → (∀ p ∈ g.seg, p ∈ tsegs [pt]) → BSl ((tseg ++ (tsegs [pt] ++ A')) ++ (seg ++ (J ++ L))) g.v g.l := fun g hg hs => Sl.mono hg.sl fun p hp => by simp [hs p hp]
      have hbm := hB pt.m htm (fun p hp => by rw [tsegs_one]; simp [hp])
      have hbi := hB pt.i hti (fun p hp => by rw [tsegs_one]; simp [hp])
      have hTs : Sl ((tseg ++ (tsegs [pt] ++ A')) ++ (seg ++ (J ++ L))) tv 4 ([pt].flatMap PT.enc) := Sl.mono town.sl fun p hp => by simp [hp]
      refine elp_el PT.enc_len (by decide) hTs (n := 0) rfl (by simp) fun a3 ha3 => w64_of (by omega) (w64_of (by omega) ?_)
      refine ld_of (pt.p : Int) (ha3.one 1 rfl) ?_
      have htp : (pt.p : Int) = t.p := by rw [← hpt]; rfl
      have htim : t.image = pt.i.l := by rw [← hpt]; rfl
      have htme : t.meant = pt.m.l := by rw [← hpt]; rfl
      have hno : ¬ ((t.p : Int) = ((R.length + l[i].2.length : Nat) : Int) - 1 ∧ t.image = t.meant) → itemsH I 1 = (if (t.p : Int) = ((R.length + l[i].2.length : Nat) : Int) - 1 ∧ t.image = t.meant then itemsH I 1 ++ [(2, (R.length : Int), (l[i].2.length : Int), ())] else itemsH I 1) := fun hh => by rw [if_neg hh]
      refine ifb_of (fun (hpg : (pt.p : Int) = (R.length : Int) + (l[i].1.len : Int) - 1) => ?_) (fun (hpg : ¬ (pt.p : Int) = (R.length : Int) + (l[i].1.len : Int) - 1) => w64_of (by omega) (w64_of (by omega) (hgo _ seg s _ hpp own (by omega) (hno (by omega)))))
      refine ld_of pt.i.v (ha3.one 3 rfl) (b2s_of hbi (ld_of pt.m.v (ha3.one 2 rfl) (b2s_of hbm ?_)))
      refine ifb_of (fun (heq : ByteArray.mk pt.i.l.toArray = ByteArray.mk pt.m.l.toArray) => ?_) (fun (heq : ¬ ByteArray.mk pt.i.l.toArray = ByteArray.mk pt.m.l.toArray) => w64_of (by omega) (w64_of (by omega) (hgo _ seg s _ hpp own (by omega) (hno fun hh => heq (by rw [← htim, ← htme, hh.2])))))
      refine apv_pm elemItm srcItm own hpp rfl rfl (by omega) fun s2 seg2 _ own2 => w64_of (by omega) (w64_of (by omega) ?_)
      refine hgo _ seg2 s2 (itemsH I 1 ++ [(2, (R.length : Int), (l[i].2.length : Int), ())]) (List.Perm.refl _) ?_ (by simp; omega) (by rw [if_pos ⟨by omega, by rw [htim, htme]; exact (str_eq _ _).1 heq⟩])
      rw [List.flatMap_append, List.flatMap_singleton]
      rw [hpl] at own2
      exact own2
  -- the seal, and what is there then
  rintro _ L1 ⟨d, A, seg, J, W, a, at', s, rfl, hp, hA, g, hSt, own, hWl⟩
  dsimp only
  refine jn_of (fun y L' => ∃ (d : Dev) (A J : HList) (a : Int) (sealed' : Bool), y = (a, sealed', ()) ∧ L'.Perm (A ++ (J ++ (seg ++ L))) ∧ FH m d A ∧ DG d 50 ∧ FinS e0 a x1 sealed' d W) ?_ ?_
  case refine_2 =>
    intro j3 hj3
    have hout : a ≠ 0 ∨ x1 = false → j3 (a, false, ()) L1 := fun hx => hj3 _ _ ⟨d, A, J, a, false, rfl, hp.trans (pc fun z => by simp only [cnt_a]; omega), hA, g.le (by decide), hSt.fin hx⟩
    refine ifb_of (fun (ha : a = 0) => ifB_of (fun (hx : x1 = true) => ?_) (fun hx => hout (.inr hx))) (fun (ha : ¬ a = 0) => hout (.inl ha))
    subst ha
    have he0 : e0 = 0 := by rcases hSt with ⟨h, -⟩ | ⟨h, -⟩ | ⟨-, h, -⟩ <;> first | exact h | exact absurd h (by decide)
    subst he0
    refine cl_p (seal_w_cl m d A (seg ++ (J ++ L)) hA s W own.sl.left (by omega) (g.le (by decide)) 1 9 at') hp ?_
    rintro _ _ ⟨A', rfl, rfl, hA'⟩
    have g' : DG (sealW d 1 9 at' W).2 50 := sealW_g (n := 50) (g.le (by decide)) _ _ _ _
    subst hx
    rcases hSt.sealD with ⟨h1, h2⟩ | ⟨h1, h2⟩
    · exact ⟨((sealW d 1 9 at' W).1, ()), rfl, hj3 _ _ ⟨_, A', J, 0, true, by rw [h1]; rfl, pc fun z => by simp only [cnt_a]; omega, hA', g', h2⟩⟩
    · exact ⟨((sealW d 1 9 at' W).1, ()), rfl, hj3 _ _ ⟨_, A', J, 11, false, by rw [h1]; rfl, pc fun z => by simp only [cnt_a]; omega, hA', g', h2⟩⟩
  clear hSt hp hA g
  rintro _ L1 ⟨d, A, J, a, sealed', rfl, hp, hA, g, w, hw, hload, he0, hfin⟩
  dsimp only
  refine jn_of (fun _ L' => L' = L1) ?_ ?_
  case refine_2 =>
    intro j4 hj4
    refine ifb_of (fun _ => hj4 _ _ rfl) (fun (h0 : ¬ a = 0) => ifb_of (fun _ => hj4 _ _ rfl) (fun (h1 : ¬ a = 11) => ?_))
    rcases hfin with ⟨h, -⟩ | ⟨h, -⟩
    · exact absurd h h0
    · exact absurd h h1
  rintro _ _ rfl
  rename_i L1
  refine cl_pm (restart_cl m d A hA) hp ?_
  rintro _ A' ⟨rfl, hA'⟩
  refine ⟨_, List.Perm.refl _, (), rfl, ?_⟩
  have g' := g.restart
  refine cl_pm (torn_cl m (restart d) A' hA' g'.ok (by have := g'.few; omega)) (List.Perm.refl _) ?_
  rintro _ _ ⟨tv, tseg, ts, rfl, rfl, town, htok, hts⟩
  refine ⟨_, List.Perm.refl _, (tv, ()), rfl, ?_⟩
  have htl := town.sl.els_len PT.enc_len (by decide)
  have hts : ts.map PT.tn = d.torn := hts
  generalize hLL : (tseg ++ (tsegs ts ++ A')) ++ (J ++ (seg ++ L)) = LL
  have hLp : LL.Perm (A' ++ ((tseg ++ (tsegs ts ++ J)) ++ (seg ++ L))) := by rw [← hLL]; exact pc fun z => by simp only [cnt_a]; omega
  have hLL2 : LL.Perm (L ++ (A' ++ ((tseg ++ (tsegs ts ++ J)) ++ seg))) := hLp.trans (pc fun z => by simp only [cnt_a]; omega)
  have hTs : Sl LL tv 4 (ts.flatMap PT.enc) := Sl.mono town.sl fun p hp => by rw [← hLL]; simp [hp]
  have hPT : ∀ pt ∈ ts, BSl LL pt.m.v pt.m.l ∧ BSl LL pt.i.v pt.i.l := fun pt hpt => by
    have hsub : ∀ p, p ∈ pt.m.seg ++ pt.i.seg → p ∈ LL := fun p hp => by
      have : p ∈ tsegs ts := List.mem_flatMap.2 ⟨pt, hpt, hp⟩
      rw [← hLL]; simp [this]
    exact ⟨Sl.mono (htok pt hpt).1.sl fun p hp => hsub p (List.mem_append_left _ hp), Sl.mono (htok pt hpt).2.sl fun p hp => hsub p (List.mem_append_right _ hp)⟩
  clear hLL
  -- what loading and scanning say
  have hcl : ∀ {L' J' : HList}, L'.Perm (A' ++ (J' ++ (seg ++ L))) → ∀ {k : RsV [.lf .sl, .lf (.int .i64)] → RsV [.agg [.int .i64, .bool, .sl], .lf .bool] → HP},
      (∀ v5 v6 L2, (∃ J2, L2.Perm (L ++ J2)) → Sl L2 v6 3 ((scanR (pg w)).1.2.2.flatMap itEnc) → Sl L2 s 3 (W.flatMap itEnc) → k (v5, 0, ()) (((scanR (pg w)).1.1, (scanR (pg w)).1.2.1, v6, ()), (scanR (pg w)).2, ()) L2) →
      cl PP 46 #[.pointer (some ⟨m, 0, none⟩), .int .i64 1] [.lf .sl, .lf (.int .i64)] (fun r15 => cl PP 10 #[.slice r15.1.a r15.1.len r15.1.cap] [.agg [.int .i64, .bool, .sl], .lf .bool] fun r16 => k r15 r16) L' := by
    intro L' J' hp' k hk
    refine cl_pm (load_cl m (restart d) A' hA' g'.ok 1) hp' ?_
    rintro _ _ ⟨v5, gs5, s5, rfl, rfl, own5, hg5, hl5⟩
    have hb5 := load_bnd g'.ok hl5
    rw [hload] at hl5 ⊢
    refine ⟨_, List.Perm.refl _, (v5, 0, ()), rfl, ?_⟩
    refine cl_of (scan_cl _ v5 (pvs gs5) (parts_l own5 hg5 (Y := A' ++ (J' ++ (seg ++ L))) (pc fun z => by simp only [cnt_a]; omega)) (by omega) (fun x hx => by have := hb5.2 x hx; omega)) ?_
    rintro _ _ - ⟨v6, s6, rfl, rfl, own6⟩
    rw [pvs_snd, hl5] at own6 ⊢
    exact ⟨(((scanR (pg w)).1.1, (scanR (pg w)).1.2.1, v6, ()), (scanR (pg w)).2, ()), rfl, hk v5 v6 _ ⟨s6 ++ (s5 ++ (pgs gs5 ++ (A' ++ (J' ++ seg)))), pc fun z => by simp only [cnt_a]; omega⟩ own6.sl.left (Sl.mono own.sl fun p hp => by simp [hp])⟩
  refine jn_of (fun _ L' => L' = LL ∧ ((a = 0 ∧ ts = []) ∨ (a = 11 ∧ ∃ pt, ts = [pt]))) ?_ ?_
  case refine_2 =>
    intro j5 hj5
    have hcase : (a = 0 ∧ ts = []) ∨ (a = 11 ∧ ∃ pt, ts = [pt]) := by
      rcases hfin with ⟨h, ht, -⟩ | ⟨h, -, t, ht, -⟩
      · rw [ht] at hts; exact .inl ⟨h, List.map_eq_nil_iff.1 hts⟩
      · rw [ht] at hts
        match ts, hts with
        | [pt], _ => exact .inr ⟨h, pt, rfl⟩
    have hlen : (tv.len : Int) = if a = 0 then 0 else 1 := by rcases hcase with ⟨h, ht⟩ | ⟨h, pt, ht⟩ <;> rw [htl, ht, h] <;> rfl
    refine ifb_of (fun (hgt : (tv.len : Int) > 1) => absurd hgt (by rw [hlen]; split <;> decide)) (fun _ => ?_)
    refine ifF ?_ (hj5 _ _ ⟨rfl, hcase⟩)
    rcases hcase with ⟨h, ht⟩ | ⟨h, pt, ht⟩ <;> (dsimp only; rw [hlen, h]; rfl)
  rintro _ _ ⟨rfl, hcase⟩
  rename_i LL
  have hWl' : W.length ≤ 1048576 := by omega
  rcases hcase with ⟨ha, hts0⟩ | ⟨ha, pt, hts0⟩
  · subst ha hts0
    have hlen : (tv.len : Int) = 0 := by rw [htl]; rfl
    refine ifF (decide_eq_false (by dsimp only; omega)) ?_
    refine jn_of (fun _ L' => L' = LL) ?_ (fun j7 hj7 => ifF (decide_eq_false (by dsimp only; omega)) (hj7 _ _ rfl))
    rintro _ _ rfl
    rename_i LL
    rcases hfin with ⟨-, -, rfl, hsc⟩ | ⟨h, -⟩
    case inr => exact absurd h (by decide)
    refine hcl hLp fun v5 v6 L2 ⟨J2, hJ2⟩ hs6 hsW => ?_
    rw [hsc] at hs6 ⊢
    refine ifT rfl (ifT rfl (ifT rfl (ifT rfl (cl_rd (items_rd _ v6 s W hs6 hsW hWl') (true, ()) rfl (ifT rfl (ifT (by simp) (hend hJ2)))))))
  · subst ha hts0
    have hlen : (tv.len : Int) = 1 := by rw [htl]; rfl
    obtain ⟨hbm, hbi⟩ := hPT pt (by simp)
    refine ifT (decide_eq_true (by dsimp only; omega)) (elp_el PT.enc_len (by decide) hTs (n := 0) rfl (by simp) fun a4 ha4 => ?_)
    refine ld_of pt.i.v (ha4.one 3 rfl) (b2s_of hbi (ld_of pt.m.v (ha4.one 2 rfl) (b2s_of hbm ?_)))
    rcases hfin with ⟨h, -⟩ | ⟨-, rfl, t, htd, hne, heq⟩
    · exact absurd h (by decide)
    have hpt : pt.tn = t := by rw [htd] at hts; exact (List.cons.inj hts).1
    have htim : t.image = pt.i.l := by rw [← hpt]; rfl
    have htme : t.meant = pt.m.l := by rw [← hpt]; rfl
    rw [htim, htme] at hne heq
    have hil : pt.i.l.length ≤ 1000000 := by
      have := g'.ok.torn t (by show t ∈ d.torn; rw [htd]; simp)
      have hS := g'.ok.c.s
      rw [htim] at this
      omega
    refine jn_of (fun _ L' => L' = LL ∧ (pt.i.l = pt.m.l ∨ (parR pt.i.l).2.2 ≠ 0)) ?_ ?_
    case refine_2 =>
      intro j6 hj6
      refine ifT (decide_eq_true (by dsimp only; omega)) ?_
      dsimp only
      rw [str_beq]
      refine ifb_of (fun h => hj6 _ _ ⟨rfl, .inl ((str_eq _ _).1 h)⟩) (fun h => ?_)
      refine ld_of pt.i.v (ha4.one 3 rfl) (cl_of (parsed_cl LL pt.i.v pt.i.l hbi hil) ?_)
      rintro _ L2 - ⟨rfl, hL2⟩
      rw [hL2]
      exact ⟨(decide ((parR pt.i.l).2.2 = 0), ()), rfl, ifb_of (fun _ => hend hLL2) (fun h3 => hj6 _ _ ⟨rfl, .inr h3⟩)⟩
    rintro _ _ ⟨rfl, hor⟩
    rename_i LL
    refine hcl hLp fun v5 v6 L2 ⟨J2, hJ2⟩ hs6 hsW => ?_
    dsimp only
    by_cases hw0 : pt.i.l = pt.m.l
    · have hq := heq hw0
      rcases he0 with rfl | rfl
      · rw [if_pos rfl] at hq
        refine ifT rfl (ifT rfl ?_)
        rcases hq with hsc | ⟨hx1, hsc⟩
        · rw [hsc] at hs6 ⊢
          exact ifT rfl (ifT rfl (cl_rd (items_rd _ v6 s W hs6 hsW hWl') (true, ()) rfl (ifT rfl (ifT rfl (hend hJ2)))))
        · rw [hsc] at hs6 ⊢
          exact ifT rfl (ifT rfl (cl_rd (items_rd _ v6 s W hs6 hsW hWl') (true, ()) rfl (ifT rfl (ifF rfl (ifT (decide_eq_true ((str_eq _ _).2 hw0)) (ifT (by rw [hx1]; rfl) (hend hJ2)))))))
      · rw [if_neg (by decide)] at hq
        rw [hq] at hs6 ⊢
        have hl6 := hs6.els_len itEnc_len (by decide)
        refine ifF rfl (ifT rfl (ifT ?_ (ifT (decide_eq_true (by rw [hl6]; rfl)) (hend hJ2))))
        rw [str_beq, decide_eq_true ((str_eq _ _).2 hw0)]; rfl
    · have hq := hne hw0 (hor.resolve_left hw0)
      rcases he0 with rfl | rfl
      · rw [if_pos rfl] at hq
        rw [hq] at hs6 ⊢
        exact ifT rfl (ifT rfl (ifT rfl (ifT rfl (cl_rd (items_rd _ v6 s W hs6 hsW hWl') (true, ()) rfl (ifT rfl (ifT rfl (hend hJ2)))))))
      · rw [if_neg (by decide)] at hq
        rw [hq] at hs6 ⊢
        have hl6 := hs6.els_len itEnc_len (by decide)
        refine ifF rfl (ifT rfl (ifT ?_ (ifT (decide_eq_true (by rw [hl6]; rfl)) (hend hJ2))))
        rw [str_beq, decide_eq_false (fun h => hw0 ((str_eq _ _).1 h))]; rfl
abbrev ivWf (W : World) (x : IV) : Prop := SlOk W (fun x : PV => [pvV x]) (partWf W) 1 x
theorem row_RegionTorn (W : World) (a0 : SlV) (l0 : List IV) (w0 : SlOk W (fun x : IV => [ivV x]) (ivWf W) 1 (a0, l0)) (a1 : Bool) (a2 : Int) (w2 : intWf .i64 a2) (a3 : Int) (w3 : intWf .i64 a3) :
    Reads PP 6 #[.slice a0.a a0.len a0.cap, .bool a1, .int .i64 a2, .int .i64 a3] (allB W) (.bool true) := by
  have hsl : Sl (allB W) a0 1 (l0.map ivV) := by
    have h := w0.sl
    have he : ∀ l : List IV, (l.flatMap fun x : IV => [ivV x]) = l.map ivV := by
      intro l
      induction l with
      | nil => rfl
      | cons x r ih => rw [List.flatMap_cons, ih]; rfl
    simp only at h
    rw [he] at h
    exact h
  exact law_RegionTorn _ a0 l0 ⟨hsl, fun x hx => parts_in (w0.all x hx)⟩ a1 a2 a3 (wf_i64 w2).2
end Go.Proofs.Ytlabcgnegbdlfaa
