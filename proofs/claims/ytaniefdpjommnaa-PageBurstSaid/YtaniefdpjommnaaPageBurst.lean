/-
  It is proved that the law PageBurst returns true for every input. There are no further conditions than those that each theorem names.
-/
import Derived.Test.YtaniefdpjommnaaPageLaws
set_option linter.unusedVariables false
set_option linter.unusedSimpArgs false
namespace Go.Proofs.Ytaniefdpjommnaa
open Go.HL

theorem par_flip {h : Hd} (e : hErr h = 0) (p : List UInt8) {S : Nat} (h1 : 64 ≤ S ∧ S ≤ 512) (h2 : p.length ≤ S - 16) {cb : List UInt8} (hl : cb.length = S) (hd : cb.drop (S - 4) = (iAll h p S).drop (S - 4)) {N : Nat} {M : BitVec 32}
    (hx : crcSteps (~~~ low32 0) (cb.take (S - 4)) = crcSteps (~~~ low32 0) ((iAll h p S).take (S - 4)) ^^^ crcBits N M) (h0 : M = 0#32 → cb = iAll h p S) :
    (M = 0#32 ∧ parR cb = (h, p, 0)) ∨ (M ≠ 0#32 ∧ (parR cb = (hz, [], 12) ∨ parR cb = (hz, [], 15))) := by
  by_cases hM : M = 0#32
  · refine .inl ⟨hM, ?_⟩
    rw [h0 hM]
    exact (par_img e p h1 h2).1
  · refine .inr ⟨hM, ?_⟩
    have hne : crcSum (cb.take (S - 4)) ≠ crcSum ((iAll h p S).take (S - 4)) := fun q => hM ((sum_ne hx).1 q)
    cases hbk : pblank cb with
    | true => exact .inr (parR_blank (by omega) hbk)
    | false =>
      refine .inl (parR_sum (by omega) hbk ?_)
      rw [hl, hd, iAll_drop h p (by omega) h2, num_crc, ← iAll_take h p (by omega) h2]
      exact hne
theorem pburst_end (L : HList) (o1 : Nat × Obj) (c : SlV) (cb : List UInt8) (seg : HList) (own : Own c 1 eB (bvs cb) seg) (hl : cb.length ≤ 1000000) (h : Hd) (p : List UInt8) (M : BitVec 32) (i : Int)
    (hc : (M = 0#32 ∧ parR cb = (h, p, 0)) ∨ (M ≠ 0#32 ∧ (parR cb = (hz, [], 12) ∨ parR cb = (hz, [], 15)))) :
    (cl PP 17 #[.slice c.a c.len c.cap] [.agg [.int .i64, .int .i64, .int .i64, .int .i64, .int .i64], .lf .sl, .lf (.int .i64)] fun r5 =>
     nw (.cells #[.int .i64 0, .int .i64 0, .int .i64 0, .int .i64 0, .int .i64 0] 23) fun n2 =>
     st ⟨n2, 0, none⟩ [.int .i64 r5.1.1, .int .i64 r5.1.2.1, .int .i64 r5.1.2.2.1, .int .i64 r5.1.2.2.2.1, .int .i64 r5.1.2.2.2.2.1] <|
     ifB ((r5.2.2.1 : Int) == 12) (
      ifB (true == (decide (M ≠ 0#32), i, ()).1) (
       ifB (decide (M ≠ 0#32), i, ()).1 (
        cl PP 11 #[] [.lf .bool] fun r6 =>
        HL.Ends (fun v L' => v = Value.bool true ∧ L' = L) (.bool r6.1)) (
        ifB ((r5.2.2.1 : Int) == 0) (
         cl PP 11 #[] [.lf .bool] fun r7 =>
         HL.Ends (fun v L' => v = Value.bool true ∧ L' = L) (.bool r7.1)) (
         HL.Ends (fun v L' => v = Value.bool true ∧ L' = L) (.bool false)))) (
       HL.Ends (fun v L' => v = Value.bool true ∧ L' = L) (.bool false))) (
      ifB (((r5.2.2.1 : Int) == 15) == (decide (M ≠ 0#32), i, ()).1) (
       ifB (decide (M ≠ 0#32), i, ()).1 (
        cl PP 11 #[] [.lf .bool] fun r8 =>
        HL.Ends (fun v L' => v = Value.bool true ∧ L' = L) (.bool r8.1)) (
        ifB ((r5.2.2.1 : Int) == 0) (
         cl PP 11 #[] [.lf .bool] fun r9 =>
         HL.Ends (fun v L' => v = Value.bool true ∧ L' = L) (.bool r9.1)) (
         HL.Ends (fun v L' => v = Value.bool true ∧ L' = L) (.bool false)))) (
       HL.Ends (fun v L' => v = Value.bool true ∧ L' = L) (.bool false)))) (seg ++ (o1 :: L)) := by
  refine cl_in [] [] (pparse_cl (seg ++ (o1 :: L)) c cb own.sl.left hl) (by simp) ?_
  rintro _ _ - ⟨s2, sg2, rfl, rfl, own2⟩
  rw [List.append_nil, List.nil_append]
  generalize parR cb = r at hc own2
  obtain ⟨hd, q, e⟩ := r
  simp only at own2 ⊢
  refine ⟨(hd, s2, e, ()), rfl, nw_of fun n2 _ => st_of [] _ rfl rfl (by simp) (.inl (Nat.le_refl _)) #[.int .i64 hd.1, .int .i64 hd.2.1, .int .i64 hd.2.2.1, .int .i64 hd.2.2.2.1, .int .i64 hd.2.2.2.2.1] rfl ?_⟩
  rw [List.nil_append]
  have fin : ∀ (o : Nat × Obj), HL.Ends (fun v L' => v = Value.bool true ∧ L' = L) (.bool true) (o :: (sg2 ++ (seg ++ (o1 :: L)))) := fun o => .cons (.app (.app (.cons (.of ⟨rfl, rfl⟩))))
  rcases hc with ⟨hM, he⟩ | ⟨hM, he | he⟩
  · have ee : e = 0 := congrArg (fun x : Hd × List UInt8 × Int => x.2.2) he
    subst ee hM
    exact ifF rfl (ifT rfl (ifF rfl (ifT rfl (cl_rd (images_rd _) (true, ()) rfl (fin _)))))
  · have ee : e = 12 := congrArg (fun x : Hd × List UInt8 × Int => x.2.2) he
    subst ee
    have hd : decide (M ≠ 0#32) = true := decide_eq_true hM
    rw [hd]
    exact ifT rfl (ifT rfl (ifT rfl (cl_rd (images_rd _) (true, ()) rfl (fin _))))
  · have ee : e = 15 := congrArg (fun x : Hd × List UInt8 × Int => x.2.2) he
    subst ee
    have hd : decide (M ≠ 0#32) = true := decide_eq_true hM
    rw [hd]
    exact ifF rfl (ifT rfl (ifT rfl (cl_rd (images_rd _) (true, ()) rfl (fin _))))
theorem law_PageBurst (L : HList) (h : Hd) (v : SlV) (p : List UInt8) (hv : BSl L v p) (size : Int) (hs : -9223372036854775808 ≤ size ∧ size ≤ 9223372036854775807) (x : Int) (m : BitVec 32) :
    Reads PP 6 #[.agg #[.int .i64 h.1, .int .i64 h.2.1, .int .i64 h.2.2.1, .int .i64 h.2.2.2.1, .int .i64 h.2.2.2.2.1], .slice v.a v.len v.cap, .int .i64 size, .int .i64 x, .int .u32 m.toNat] L (.bool true) := by
  refine Reads.of (args := [.agg #[.int .i64 h.1, .int .i64 h.2.1, .int .i64 h.2.2.1, .int .i64 h.2.2.2.1, .int .i64 h.2.2.2.2.1], .slice v.a v.len v.cap, .int .i64 size, .int .i64 x, .int .u32 m.toNat]) noNum mixed Try.func6 (e6 h v size x m.toNat _) ?_
  unfold t6
  refine nw_of fun n1 _ => ?_
  have l1 : ∀ {Z : HList}, (n1, Obj.cells #[.int .i64 h.1, .int .i64 h.2.1, .int .i64 h.2.2.1, .int .i64 h.2.2.2.1, .int .i64 h.2.2.2.2.1] 23) ∈ Z → LdAt ⟨n1, 0, none⟩ (hEnc h) Z := fun hm => ldB hm rfl
  generalize (n1, Obj.cells #[.int .i64 h.1, .int .i64 h.2.1, .int .i64 h.2.2.1, .int .i64 h.2.2.2.1, .int .i64 h.2.2.2.2.1] 23) = o1 at l1 ⊢
  refine ifD_of (fun _ => cl_rd (images_rd _) (true, ()) rfl (.cons (.of ⟨rfl, rfl⟩))) (fun _ => ?_)
  refine ld_of h (l1 List.mem_cons_self) (cl_in [] [] (pimage_cl (o1 :: L) h v p hv.cons size hs) (by simp) ?_)
  rintro _ _ - ⟨s1, sg1, rfl, rfl, own1⟩
  rw [List.append_nil, List.nil_append]
  refine ⟨(s1, (imgR h p size).2, ()), rfl, ?_⟩
  rcases imgR_cases h p size with ⟨e0, S, rfl, hS, hok, hpl, himg⟩ | ⟨e0, e1⟩
  · rw [himg] at own1 ⊢
    have hflip := fun (cb : List UInt8) hl hd (N : Nat) (M : BitVec 32) hx h0 => par_flip hok p hS hpl (cb := cb) hl hd (N := N) (M := M) hx h0
    have hln := iAll_len (h := h) (p := p) (S := S) (by omega) hpl
    generalize iAll h p S = im at own1 hflip hln
    have hs1 := own1.sl.len
    rw [bvs_length, hln, Nat.mul_one] at hs1
    refine ifF rfl ?_
    refine ifN (show ¬ (s1.len : Int) < 64 by omega) ?_
    obtain ⟨N, hN⟩ : ∃ N, N = 8 * (S - 4) := ⟨_, rfl⟩
    have hwN : IntKind.i64.wrap (8 * (IntKind.i64.wrap ((s1.len : Int) - 4))) = (N : Int) := by rw [w64_id (n := (s1.len : Int) - 4) (by omega) (by omega), w64_id (by omega) (by omega)]; omega
    obtain ⟨f, hf, hfe⟩ := from_nat x N (by omega) (by omega)
    simp only [hwN, hfe]
    refine req_of (by omega) (req_of (by omega) ?_)
    obtain ⟨s, hs⟩ : ∃ s, s = ~~~ low32 0 := ⟨_, rfl⟩
    have hend : ∀ (i : Int) (M : BitVec 32) (cb : List UInt8) (seg : HList), cb.length = S → cb.drop (S - 4) = im.drop (S - 4) → Own s1 1 eB (bvs cb) seg → crcSteps s (cb.take (S - 4)) = crcSteps s (im.take (S - 4)) ^^^ crcBits (N - f) M → (M = 0#32 → cb = im) → _ :=
      fun i M cb seg a1 a2 a3 a4 a5 => pburst_end L o1 s1 cb seg a3 (by omega) h p M i (hflip cb a1 a2 (N - f) M (by subst hs; exact a4) a5)
    refine lp_of (fun k z L' => ∃ (i : Nat) (M : BitVec 32) (cb : List UInt8) (seg : HList), i ≤ 32 ∧ k = 32 - i ∧ f + i ≤ N ∧ z = (decide (M ≠ 0#32), (i : Int), ()) ∧ L' = seg ++ (o1 :: L) ∧ cb.length = S ∧ cb.drop (S - 4) = im.drop (S - 4) ∧ Own s1 1 eB (bvs cb) seg ∧
      (∀ j, i ≤ j → M.getLsbD j = false) ∧ crcSteps s (cb.take (S - 4)) = crcSteps s (im.take (S - 4)) ^^^ crcBits (N - f) M ∧ (M = 0#32 → cb = im)) 32
      ⟨0, 0#32, im, sg1, by omega, by omega, by omega, rfl, rfl, hln, rfl, own1, by simp, by rw [crcBits_of_zero, BitVec.xor_zero], fun _ => rfl⟩ ?_
    rintro k z L' ⟨i, M, cb, seg, hi, rfl, hfi, rfl, rfl, hcb, hdr, own, hM, hx, h0⟩
    have hwi : IntKind.i64.wrap ((f : Int) + i) = ((f + i : Nat) : Int) := by rw [w64_id (by omega) (by omega)]; omega
    refine ifD_of (fun (hlt : (i : Int) < 32) => ?_) (fun (hge : ¬ (i : Int) < 32) => hend i M cb seg hcb hdr own hx h0)
    simp only [hwi]
    refine ifD_of (fun (hlt2 : ((f + i : Nat) : Int) < N) => ?_) (fun (hge2 : ¬ ((f + i : Nat) : Int) < N) => hend i M cb seg hcb hdr own hx h0)
    have hi32 : i < 32 := by omega
    have hw1 : IntKind.i64.wrap ((i : Int) + 1) = ((i + 1 : Nat) : Int) := by rw [w64_id (by omega) (by omega)]; omega
    refine req_of (by rw [wu64_id (by omega) (by omega)]; omega) ?_
    simp only [mask_bit m i hi32]
    have hq4 : (f + i) / 8 < S - 4 := by omega
    have hq : (f + i) / 8 < cb.length := by omega
    refine ifE_of (fun h4 => ?_) (fun h4 => ?_)
    · have hd : IntKind.i64.wrap (Int.tdiv ((f + i : Nat) : Int) 8) = (((f + i) / 8 : Nat) : Int) := by
        rw [Int.tdiv_eq_ediv_of_nonneg (by omega), w64_id (by omega) (by omega)]; omega
      have hmod : Int.tmod ((f + i : Nat) : Int) 8 = (((f + i) % 8 : Nat) : Int) := by
        rw [Int.tmod_eq_emod_of_nonneg (by omega)]; omega
      simp only [hd, hmod, Int.toNat_natCast, Nat.mul_one]
      have hsl : BSl (seg ++ (o1 :: L)) s1 cb := own.sl.left
      obtain ⟨ad, ha⟩ := hsl.some hq
      refine req_of (by decide) (req_of (by decide) (nilc_of ha (ixn_of (by omega) (by omega) (ld_of (cb[(f + i) / 8].toNat : Int) (hsl.rd hq ha _ (by simp)) ?_))))
      refine req_of (by decide) (req_of (by rw [wu64_id (by omega) (by omega)]; omega) (nilc_of ha (ixn_of (by omega) (by omega) ?_)))
      simp only [flip_int _ _ (Nat.mod_lt (f + i) (show 8 > 0 by omega))]
      refine Own.st own [] (o1 :: L) (p := (f + i) / 8) (by rw [bvs_length]; simp only [List.length_cons, List.length_nil]; omega) (by simp) ha rfl rfl fun seg' own' => ?_
      rw [putL_one (by rw [bvs_length]; omega), bvs_set] at own'
      have hb3 := burst_step N f i hi32 hfi M hM _ _ hx
      have htk : (cb.take (S - 4)).length = S - 4 := by rw [List.length_take]; omega
      have hget : (cb.take (S - 4))[(f + i) / 8]'(by omega) = cb[(f + i) / 8] := List.getElem_take ..
      have hfl := crcSteps_flip s (cb.take (S - 4)) (f + i) (by omega)
      rw [hget, htk, ← hN] at hfl
      refine ⟨32 - (i + 1), by omega, i + 1, M ^^^ 1#32 <<< i, _, seg', by omega, rfl, by omega, ?_, rfl, ?_, ?_, own', hb3.1, ?_, fun hz => absurd hz hb3.2.1⟩
      · simp only [hw1, hb3.2.1, ne_eq, not_false_eq_true, decide_true]
      · rw [List.length_set, hcb]
      · rw [List.drop_set_of_lt (by omega)]; exact hdr
      · rw [List.take_set, hfl, ← hb3.2.2]
    · refine ⟨32 - (i + 1), by omega, i + 1, M, cb, seg, by omega, rfl, by omega, ?_, rfl, hcb, hdr, own, fun j hj => hM j (by omega), hx, h0⟩
      simp only [hw1]
  · rw [e1] at own1
    have hs1 := own1.sl.len
    rw [bvs_length, Nat.mul_one] at hs1
    exact ifT (by simpa using e0) (ifT (by show ((s1.len : Int) == 0) = true; rw [hs1]; rfl) (cl_rd (images_rd _) (true, ()) rfl (.app (.cons (.of ⟨rfl, rfl⟩)))))
abbrev hdWf (h : Hd) : Prop := intWf .i64 h.1 ∧ intWf .i64 h.2.1 ∧ intWf .i64 h.2.2.1 ∧ intWf .i64 h.2.2.2.1 ∧ intWf .i64 h.2.2.2.2.1 ∧ True
theorem i64_rng {n : Int} (h : intWf .i64 n) : -9223372036854775808 ≤ n ∧ n ≤ 9223372036854775807 := wf_rng h
theorem row_PageImages (W : World) (a0 : Hd) (w0 : hdWf a0) (a1 : SlV) (l1 : List UInt8) (w1 : SlOk W (fun b => [bv b]) (fun _ => True) 1 (a1, l1)) (a2 : Int) (w2 : intWf .i64 a2) :
    Reads PP 3 #[.agg #[.int .i64 a0.1, .int .i64 a0.2.1, .int .i64 a0.2.2.1, .int .i64 a0.2.2.2.1, .int .i64 a0.2.2.2.2.1], .slice a1.a a1.len a1.cap, .int .i64 a2] (allB W) (.bool true) := law_PageImages _ a0 a1 l1 w1.bytes a2 (i64_rng w2)
theorem row_PageParses (W : World) (a0 : SlV) (l0 : List UInt8) (w0 : SlOk W (fun b => [bv b]) (fun _ => True) 1 (a0, l0)) : Reads PP 4 #[.slice a0.a a0.len a0.cap] (allB W) (.bool true) := law_PageParses _ a0 l0 w0.bytes
theorem row_PageBack (W : World) (a0 : Hd) (w0 : hdWf a0) (a1 : SlV) (l1 : List UInt8) (w1 : SlOk W (fun b => [bv b]) (fun _ => True) 1 (a1, l1)) (a2 : Int) (w2 : intWf .i64 a2) (a3 : SlV) (l3 : List UInt8) (w3 : SlOk W (fun b => [bv b]) (fun _ => True) 1 (a3, l3)) :
    Reads PP 5 #[.agg #[.int .i64 a0.1, .int .i64 a0.2.1, .int .i64 a0.2.2.1, .int .i64 a0.2.2.2.1, .int .i64 a0.2.2.2.2.1], .slice a1.a a1.len a1.cap, .int .i64 a2, .slice a3.a a3.len a3.cap] (allB W) (.bool true) := law_PageBack _ a0 a1 l1 w1.bytes a2 (i64_rng w2) a3 l3 w3.bytes
theorem row_PageBurst (W : World) (a0 : Hd) (w0 : hdWf a0) (a1 : SlV) (l1 : List UInt8) (w1 : SlOk W (fun b => [bv b]) (fun _ => True) 1 (a1, l1)) (a2 : Int) (w2 : intWf .i64 a2) (a3 : Int) (w3 : intWf .i64 a3) (a4 : Int) (w4 : intWf .u32 a4) :
    Reads PP 6 #[.agg #[.int .i64 a0.1, .int .i64 a0.2.1, .int .i64 a0.2.2.1, .int .i64 a0.2.2.2.1, .int .i64 a0.2.2.2.2.1], .slice a1.a a1.len a1.cap, .int .i64 a2, .int .i64 a3, .int .u32 a4] (allB W) (.bool true) := by
  obtain ⟨m, rfl⟩ := wf_u32 w4
  exact law_PageBurst _ a0 a1 l1 w1.bytes a2 (i64_rng w2) a3 m
end Go.Proofs.Ytaniefdpjommnaa
