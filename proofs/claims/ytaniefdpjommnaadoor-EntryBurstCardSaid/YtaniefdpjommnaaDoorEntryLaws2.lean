/-
  It is proved that the law EntryBurst returns true for every input. There are no further conditions than that the table of classes lies as the program's text lays it.
-/
import Derived.Test.YtaniefdpjommnaaDoorEntryLaws
set_option linter.unusedVariables false
set_option linter.unusedSimpArgs false
namespace Go.Proofs.YtaniefdpjommnaaDoor
open Go.HL

theorem join_ok {b : List UInt8} (h : (joinR b).2.2 = 0) : 4 ≤ b.length ∧ crcSum (b.take (b.length - 4)) = (num (b.drop (b.length - 4)) : Int) := by
  unfold joinR at h
  obtain ⟨q1, q2, q3, q4⟩ := wtext_rng (b := b) (a := 0) (Nat.zero_le _)
  obtain ⟨w1, w2, w3, w4⟩ := wtext_rng (b := b) (a := (wtext b 0).2.1) q2
  generalize wtext b (wtext b 0).2.1 = t2 at h w2
  obtain ⟨val, e, z⟩ := t2
  simp only at h w2
  split at h
  · rename_i h1; exact absurd h h1
  · split at h
    · rename_i h2; exact absurd h h2
    · split at h
      · rename_i h3; exact absurd h h3
      · rename_i h3
        have h3' : (wget b (e : Int) 4).2 = 0 := by simpa using h3
        have hge := (wget_rng b e 4).2.2.2 h3'
        split at h
        · exact absurd h (by simp)
        · rename_i h4
          split at h
          · exact absurd h (by simp)
          · rename_i h5
            have h5' : crcSum (b.take e) = (wget b (e : Int) 4).1 := by simpa using h5
            have he : e = b.length - 4 := by omega
            subst he
            have hw := wget_ok (b := b) (a := b.length - 4) (w := 4) (by decide) (by decide) (by omega)
            refine ⟨by omega, h5'.trans ((congrArg Prod.fst hw).trans ?_)⟩
            rw [List.take_of_length_le (by rw [List.length_drop]; omega)]
theorem join_flip {key val : List UInt8} (h1 : 1 ≤ key.length) (h2 : key.length ≤ 255) (h3 : val.length ≤ 65536) {cb : List UInt8} {S : Nat} (hS : (encA key val).length = S) (hl : cb.length = S) (hd : cb.drop (S - 4) = (encA key val).drop (S - 4)) {N : Nat} {M : BitVec 32}
    (hx : crcSteps (~~~ low32 0) (cb.take (S - 4)) = crcSteps (~~~ low32 0) ((encA key val).take (S - 4)) ^^^ crcBits N M) (h0 : M = 0#32 → cb = encA key val) :
    (M = 0#32 ∧ (joinR cb).2.2 = 0) ∨ (M ≠ 0#32 ∧ (joinR cb).2.2 ≠ 0) := by
  by_cases hM : M = 0#32
  · refine .inl ⟨hM, ?_⟩
    rw [h0 hM, join_enc h1 h2 h3]
  · refine .inr ⟨hM, fun hz => hM ((sum_ne hx).1 ?_)⟩
    obtain ⟨-, h5⟩ := join_ok hz
    have hal := encA_len key val
    have hbl := encB_len key val
    have hc : 0 ≤ crcSum (encB key val) ∧ crcSum (encB key val) < 4294967296 := crcMore_range 0 _
    have hS4 : S - 4 = (encB key val).length := by omega
    rw [hl] at h5
    rw [h5, hd, hS4]
    unfold encA
    rw [List.take_left, List.drop_left, num_digs 4 _ (by show (crcSum (encB key val)).toNat < 4294967296; omega), Int.toNat_of_nonneg hc.1]
theorem eburst_end (L : HList) (hT : Tab L) (c : SlV) (cb : List UInt8) (seg A : HList) (own : Own c 1 eB (bvs cb) seg) (hl : cb.length ≤ 1000000) (M : BitVec 32) (i : Int)
    (hc : (M = 0#32 ∧ (joinR cb).2.2 = 0) ∨ (M ≠ 0#32 ∧ (joinR cb).2.2 ≠ 0)) :
    (nw (.cells #[.slice c.a c.len c.cap] 22) fun n1 =>
      cl PP 16 #[.slice (some ⟨n1, 0, none⟩) 1 1] [.lf .str, .lf .sl, .lf (.int .i64)] fun r6 =>
      ifB (((r6.2.2.1 : Int) != 0) == (decide (M ≠ 0#32), i, ()).1) (
       cl PP 7 #[] [.lf .bool] fun r7 =>
       HL.Ends (fun v L' => v = Value.bool true ∧ L' = L) (.bool r7.1)) (
       HL.Ends (fun v L' => v = Value.bool true ∧ L' = L) (.bool false))) (seg ++ (A ++ L)) := by
  refine nw_of fun n1 _ => ?_
  have hparts : Parts ((n1, Obj.cells #[.slice c.a c.len c.cap] 22) :: (seg ++ (A ++ L))) ⟨some ⟨n1, 0, none⟩, 1, 1⟩ [(c, cb)] := by
    refine ⟨⟨rfl, Nat.le_refl _, .inr ⟨_, rfl, ldB List.mem_cons_self rfl⟩⟩, fun x hx => ?_⟩
    have hx' : x = (c, cb) := by simpa using hx
    subst hx'
    exact own.sl.left.cons
  have hcat : catL [((c, cb) : PV)] = cb := by simp [catL]
  refine cl_in [] [] (join_cl _ ⟨some ⟨n1, 0, none⟩, 1, 1⟩ _ hparts (by rw [hcat]; exact hl) (by simp)) (by simp) ?_
  rintro _ _ - ⟨g, rfl, rfl, hg, hgl⟩
  rw [hcat] at hgl ⊢
  rw [List.nil_append, List.append_nil]
  generalize (n1, Obj.cells #[.slice c.a c.len c.cap] 22) = o1
  refine ⟨(⟨(joinR cb).1.toArray⟩, g.v, (joinR cb).2.2, ()), rfl, ?_⟩
  have hTT : Tab (g.seg ++ (o1 :: (seg ++ (A ++ L)))) := hT.right.right.cons.right
  refine ifT ?_ (cl_rd (entries_rd _ hTT) (true, ()) rfl (.app (.cons (.app (.app (.of ⟨rfl, rfl⟩))))))
  rcases hc with ⟨hM, he⟩ | ⟨hM, he⟩
  · simp only [he, hM]; rfl
  · have hd : decide (M ≠ 0#32) = true := decide_eq_true hM
    simp only [hd]
    simp [he]
theorem law_EntryBurst (L : HList) (hT : Tab L) (key : ByteArray) (hk : key.size ≤ maxLen) (u : SlV) (val : List UInt8) (hu : BSl L u val) (x : Int) (m : BitVec 32) :
    Reads PP 6 #[.string key, .slice u.a u.len u.cap, .int .i64 x, .int .u32 m.toNat] L (.bool true) := by
  refine Reads.of (args := [.string key, .slice u.a u.len u.cap, .int .i64 x, .int .u32 m.toNat]) noNum mixed Tryd.func6 (e6 key u x m.toNat _) ?_
  unfold t6
  have hul := hu.len
  have hks := toList_len key
  have hex : ∀ A : HList, cl PP 7 #[] [.lf .bool] (fun r => HL.Ends (fun v' L' => v' = Value.bool true ∧ L' = L) (.bool r.1)) (A ++ L) := fun A => cl_rd (entries_rd _ hT.right) (true, ()) rfl (.app (.of ⟨rfl, rfl⟩))
  refine ifD_of (fun _ => hex []) (fun (h1 : ¬ (key.size : Int) > 300) => ifD_of (fun _ => hex []) (fun (h2 : ¬ (u.len : Int) > 300) => ?_))
  refine cl_in [] [] (cut_cl L hT key hk u val hu (4, 16, 512, 9, ()) (by decide)) (by simp) ?_
  rintro _ _ - ⟨ov, oseg, gs, rfl, rfl, own, gok, hgs⟩
  rw [List.nil_append, List.append_nil]
  refine ⟨(ov, (cutR key.data.toList val (4, 16, 512, 9, ())).2, ()), rfl, ?_⟩
  have hA : oseg ++ (pgs gs ++ L) = (oseg ++ pgs gs) ++ L := by simp
  refine ifNe_of (fun (he : (cutR key.data.toList val (4, 16, 512, 9, ())).2 ≠ 0) => ?_) (fun (he : (cutR key.data.toList val (4, 16, 512, 9, ())).2 = 0) => ?_)
  · rw [hA]
    refine ifD_of (fun _ => hex _) (fun (h3 : ¬ (key.size : Int) < 1) => ifD_of (fun _ => hex _) (fun (h4 : ¬ (key.size : Int) > 255) => ?_))
    exfalso
    obtain ⟨-, hp⟩ := cutR_err he
    have hr : roomOf (512 : Int) = 496 := by decide
    unfold pagesOf at hp
    simp only [hr] at hp
    rw [if_neg (by omega)] at hp
    have hq0 : 1 ≤ ((key.data.toList.length : Int) + (val.length : Int) + 12 + 496 - 1) / 496 := by omega
    have hq1 : ((key.data.toList.length : Int) + (val.length : Int) + 12 + 496 - 1) / 496 ≤ 2 := by omega
    generalize ((key.data.toList.length : Int) + (val.length : Int) + 12 + 496 - 1) / 496 = q at hp hq0 hq1
    have : q = 1 ∨ q = 2 := by omega
    rcases this with rfl | rfl
    · exact absurd hp (by decide)
    · exact absurd hp (by decide)
  obtain ⟨hk1, hk2, hv3, hpg, hch, hfl⟩ := cutR_ok he
  have hcatall : catL (pvs gs) = encA key.data.toList val := by rw [catL_pvs, hgs, hfl]
  have hal := encA_len key.data.toList val
  have hflip := fun (cb : List UInt8) hl hd (N : Nat) (M : BitVec 32) hx h0 => join_flip hk1 hk2 hv3 (cb := cb) (S := (encA key.data.toList val).length) rfl hl hd (N := N) (M := M) hx h0
  have hgN : gs.length ≤ 8 := by
    obtain ⟨_, _, _, _, _, _, h8, _⟩ := pagesOf_ne hpg
    have h9 : gs.length = (cutR key.data.toList val (4, 16, 512, 9, ())).1.length := by rw [← hgs, List.length_map]
    rw [h9, hch, chunks, List.length_map, List.length_range]; omega
  have hp : Parts (oseg ++ (pgs gs ++ L)) ov (pvs gs) := parts_of own gok (fun x hx => List.mem_append_left _ hx) (fun x hx => List.mem_append_right _ (List.mem_append_left _ hx))
  rw [hA] at hp ⊢
  generalize oseg ++ pgs gs = A at hp
  have hpl : (pvs gs).length = gs.length := by rw [pvs, List.length_map]
  generalize pvs gs = ps at hp hcatall hpl
  have hovl := hp.len
  refine lp_of (fun z' z L' => ∃ (i : Nat) (s : SlV) (seg : HList), i ≤ ps.length ∧ z' = ps.length - i ∧ z = (s, (i : Int), ()) ∧ L' = seg ++ (A ++ L) ∧ Own s 1 eB (bvs (catL (ps.take i))) seg) ps.length ⟨0, ⟨none, 0, 0⟩, [], by omega, by omega, rfl, rfl, own_nil⟩ ?_
  rintro z' z _ ⟨i, s1, seg, hi, rfl, rfl, rfl, own1⟩
  refine ifD_of (fun (hlt : (i : Int) < (ov.len : Int)) => ?_) (fun (hge : ¬ (i : Int) < (ov.len : Int)) => ?_)
  · have hi' : i < ps.length := by omega
    obtain ⟨a, ha, hld⟩ := hp.at' hi'
    have hbl := (hp.val _ (List.getElem_mem hi')).len
    have hs := catL_succ ps hi'
    have hle := catL_take_le ps (i + 1)
    have hsl : (catL (ps.take (i + 1))).length = (catL (ps.take i)).length + ps[i].1.len := by rw [hs, List.length_append, hbl]
    have hol := own1.sl.len
    rw [bvs_length] at hol
    rw [hcatall] at hle
    refine nilc_of ha (ixn_of (show (0 : Int) ≤ (i : Int) by omega) hlt (ld_of ps[i].1 (hld.mono fun x hx => List.mem_append_right _ hx) ?_))
    refine append_in elemB srcB [] (A ++ L) own1 rfl (.sl (Sl.right (hp.val _ (List.getElem_mem hi')))) (bvs_plain _) (by omega) fun s' seg' hs' own' => ?_
    rw [← bvs_append, ← hs] at own'
    refine ⟨ps.length - (i + 1), by omega, i + 1, s', seg', by omega, rfl, ?_, rfl, own'⟩
    rw [w64_id (by first | omega | (simp only; omega)) (by first | omega | (simp only; omega))]
    rfl
  obtain rfl : i = ps.length := by omega
  rw [List.take_length, hcatall] at own1
  generalize encA key.data.toList val = im at own1 hflip hal
  obtain ⟨S, hS⟩ : ∃ S, S = im.length := ⟨_, rfl⟩
  rw [← hS] at hflip hal
  have hln : im.length = S := hS.symm
  have hs1 := own1.sl.len
  rw [bvs_length, hln, Nat.mul_one] at hs1
  obtain ⟨N, hN⟩ : ∃ N, N = 8 * (S - 4) := ⟨_, rfl⟩
  have hwN : IntKind.i64.wrap (8 * (IntKind.i64.wrap ((s1.len : Int) - 4))) = (N : Int) := by rw [w64_id (n := (s1.len : Int) - 4) (by omega) (by omega), w64_id (by omega) (by omega)]; omega
  obtain ⟨f, hf, hfe⟩ := from_nat x N (by omega) (by omega)
  simp only [hwN, hfe]
  refine ifN (show ¬ (N : Int) < 8 by omega) ?_
  refine req_of (by omega) (req_of (by omega) ?_)
  obtain ⟨s, hs⟩ : ∃ s, s = ~~~ low32 0 := ⟨_, rfl⟩
  have hend : ∀ (i : Int) (M : BitVec 32) (cb : List UInt8) (seg : HList), cb.length = S → cb.drop (S - 4) = im.drop (S - 4) → Own s1 1 eB (bvs cb) seg → crcSteps s (cb.take (S - 4)) = crcSteps s (im.take (S - 4)) ^^^ crcBits (N - f) M → (M = 0#32 → cb = im) → _ :=
    fun i M cb seg a1 a2 a3 a4 a5 => eburst_end L hT s1 cb seg A a3 (by omega) M i (hflip cb a1 a2 (N - f) M (by subst hs; exact a4) a5)
  refine lp_of (fun k z L' => ∃ (i : Nat) (M : BitVec 32) (cb : List UInt8) (seg : HList), i ≤ 32 ∧ k = 32 - i ∧ f + i ≤ N ∧ z = (decide (M ≠ 0#32), (i : Int), ()) ∧ L' = seg ++ (A ++ L) ∧ cb.length = S ∧ cb.drop (S - 4) = im.drop (S - 4) ∧ Own s1 1 eB (bvs cb) seg ∧
    (∀ j, i ≤ j → M.getLsbD j = false) ∧ crcSteps s (cb.take (S - 4)) = crcSteps s (im.take (S - 4)) ^^^ crcBits (N - f) M ∧ (M = 0#32 → cb = im)) 32
    ⟨0, 0#32, im, seg, by omega, by omega, by omega, rfl, rfl, hln, rfl, own1, by simp, by rw [crcBits_of_zero, BitVec.xor_zero], fun _ => rfl⟩ ?_
  rintro k z L' ⟨i, M, cb, seg, hi, rfl, hfi, rfl, rfl, hcb, hdr, own, hM, hx, h0⟩
  have hwi : IntKind.i64.wrap ((f : Int) + i) = ((f + i : Nat) : Int) := by rw [w64_id (by omega) (by omega)]; omega
  refine ifD_of (fun (hlt : (i : Int) < 32) => ?_) (fun (hge : ¬ (i : Int) < 32) => hend i M cb seg hcb hdr own hx h0)
  simp only [hwi]
  refine ifD_of (fun (hlt2 : ((f + i : Nat) : Int) < N) => ?_) (fun (hge2 : ¬ ((f + i : Nat) : Int) < N) => hend i M cb seg hcb hdr own hx h0)
  have hi32 : i < 32 := by omega
  have hw1 : IntKind.i64.wrap ((i : Int) + 1) = ((i + 1 : Nat) : Int) := by rw [w64_id (by omega) (by omega)]; omega
  refine req_of (by rw [wu64_id (by omega) (by omega)]; omega) ?_
  simp only [mask_bit m i hi32]
  have hq4 : (f + i) / 8 < S - 4 := by omega
  have hq : (f + i) / 8 < cb.length := by omega
  refine ifE_of (fun h4 => ?_) (fun h4 => ?_)
  · have hd : IntKind.i64.wrap (Int.tdiv ((f + i : Nat) : Int) 8) = (((f + i) / 8 : Nat) : Int) := by
      rw [Int.tdiv_eq_ediv_of_nonneg (by omega), w64_id (by omega) (by omega)]; omega
    have hmod : Int.tmod ((f + i : Nat) : Int) 8 = (((f + i) % 8 : Nat) : Int) := by
      rw [Int.tmod_eq_emod_of_nonneg (by omega)]; omega
    simp only [hd, hmod, Int.toNat_natCast, Nat.mul_one]
    have hsl : BSl (seg ++ (A ++ L)) s1 cb := own.sl.left
    obtain ⟨ad, ha⟩ := hsl.some hq
    refine req_of (by decide) (req_of (by decide) (nilc_of ha (ixn_of (by omega) (by omega) (ld_of (cb[(f + i) / 8].toNat : Int) (hsl.rd hq ha _ (by simp)) ?_))))
    refine req_of (by decide) (req_of (by rw [wu64_id (by omega) (by omega)]; omega) (nilc_of ha (ixn_of (by omega) (by omega) ?_)))
    simp only [flip_int _ _ (Nat.mod_lt (f + i) (show 8 > 0 by omega))]
    refine Own.st own [] (A ++ L) (p := (f + i) / 8) (by rw [bvs_length]; simp only [List.length_cons, List.length_nil]; omega) (by simp) ha rfl rfl fun seg' own' => ?_
    rw [putL_one (by rw [bvs_length]; omega), bvs_set] at own'
    have hb3 := burst_step N f i hi32 hfi M hM _ _ hx
    have htk : (cb.take (S - 4)).length = S - 4 := by rw [List.length_take]; omega
    have hget : (cb.take (S - 4))[(f + i) / 8]'(by omega) = cb[(f + i) / 8] := List.getElem_take ..
    have hfl := crcSteps_flip s (cb.take (S - 4)) (f + i) (by omega)
    rw [hget, htk, ← hN] at hfl
    refine ⟨32 - (i + 1), by omega, i + 1, M ^^^ 1#32 <<< i, _, seg', by omega, rfl, by omega, ?_, rfl, ?_, ?_, own', hb3.1, ?_, fun hz => absurd hz hb3.2.1⟩
    · simp only [hw1, hb3.2.1, ne_eq, not_false_eq_true, decide_true]
    · rw [List.length_set, hcb]
    · rw [List.drop_set_of_lt (by omega)]; exact hdr
    · rw [List.take_set, hfl, ← hb3.2.2]
  · refine ⟨32 - (i + 1), by omega, i + 1, M, cb, seg, by omega, rfl, by omega, ?_, rfl, hcb, hdr, own, fun j hj => hM j (by omega), hx, h0⟩
    simp only [hw1]
theorem row_EntryBurst (W : World) (hT : Tab (allB W)) (a0 : ByteArray) (w0 : a0.size ≤ maxLen) (a1 : SlV) (l1 : List UInt8) (w1 : SlOk W (fun b => [bv b]) (fun _ => True) 1 (a1, l1)) (a2 : Int) (w2 : intWf .i64 a2) (a3 : Int) (w3 : intWf .u32 a3) :
    Reads PP 6 #[.string a0, .slice a1.a a1.len a1.cap, .int .i64 a2, .int .u32 a3] (allB W) (.bool true) := by
  obtain ⟨m, rfl⟩ := wf_u32 w3
  exact law_EntryBurst _ hT a0 w0 a1 l1 w1.bytes a2 m
end Go.Proofs.YtaniefdpjommnaaDoor
