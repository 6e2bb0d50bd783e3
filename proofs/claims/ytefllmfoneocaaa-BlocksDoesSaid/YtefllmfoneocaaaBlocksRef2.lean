/-
  It is proved what the document's answer for the layer blocks does (Erased, Spoilt, New), and that the law BlocksDoes returns true for every input. There are no further conditions than those that each theorem names.
-/
import Derived.Test.YtefllmfoneocaaaBlocksRef
set_option linter.unusedVariables false
set_option linter.unusedSimpArgs false
namespace Go.Proofs.Ytefllmfoneocaaa
open Go.HL

theorem enc_all (p s : List BS) (x x' : BS) : putL ((p ++ x :: s).flatMap bsEnc) (p.length * 3) (bsEnc x') = (p ++ x' :: s).flatMap bsEnc := by
  have hp : (p.flatMap bsEnc).length = p.length * 3 := flat_len bsEnc_len p
  rw [List.flatMap_append, List.flatMap_append, List.flatMap_cons, List.flatMap_cons]
  unfold putL
  rw [List.take_left' hp, bsEnc_len, ← List.drop_drop, List.drop_left' hp, List.append_assoc]
  rfl
theorem rbmod_ok {sv uv : SlV} {sseg useg : HList} {ss : List BS} {us : List Int} (ok : RBOk sv sseg ss uv useg us) {n : Int} (hi : n.toNat < ss.length) (g : BS → BS) (hg : ∀ s ∈ ss, 0 ≤ (g s).wear ∧ (g s).wear ≤ 1000000000) {sseg2 : HList} (own2 : Own sv 3 eRt ((bmod ss n g).flatMap bsEnc) sseg2) : RBOk sv sseg2 (bmod ss n g) uv useg us := by
  refine ⟨own2, ok.uown, by rw [bmod_len]; exact ok.cnt, ok.few, fun s hs => ?_⟩
  rw [bmod_at hi] at hs
  rcases List.mem_append.1 hs with h1 | h1
  · exact ok.wr s (List.mem_of_mem_take h1)
  · rcases List.mem_cons.1 h1 with rfl | h2
    · exact hg _ (List.getElem_mem hi)
    · exact ok.wr s (List.mem_of_mem_drop h2)
theorem rberased_cl (m : Nat) (ss : List BS) (us : List Int) (A : HList) (hA : RBX m ss us A) (hw : ∀ s ∈ ss, 0 ≤ s.wear ∧ s.wear ≤ 900000000) (n : Int) (bad : Bool) : CallF PP 76 #[.pointer (some ⟨m, 0, none⟩), .int .i64 n, .bool bad] A
    fun r L' => r = .bool (bgood ss n) ∧ RBX m (if bgood ss n = true then bmod ss n (gErase bad) else ss) (if bgood ss n = true then iwo us n else us) L' := by
  have hA' := hA
  obtain ⟨sv, sseg, uv, useg, rfl, ok⟩ := hA
  refine CallF.of (args := [.pointer (some ⟨m, 0, none⟩), .int .i64 n, .bool bad]) noNum mixed Try.func76 (e76 (some ⟨m, 0, none⟩) n bad _) ?_
  unfold t76
  refine cl_rd (rbgood_rd _ m ss us _ hA' (fun x hx => hx) n) (bgood ss n, ()) rfl ?_
  cases hgd : bgood ss n with
  | false => exact ifT rfl (.of ⟨rfl, hA'⟩)
  | true =>
    obtain ⟨h0, hi, hb⟩ := bgood_at hgd
    refine ifF rfl (cl_in [] [] (rbout_cl m ss sv sseg uv useg us ok n) (by simp) ?_)
    rintro _ _ - ⟨rfl, u2, useg2, rfl, ok2⟩
    rw [List.append_nil, List.nil_append]
    have hm : rbO m sv u2 ∈ rbO m sv u2 :: (sseg ++ useg2) := List.mem_cons_self
    have hsl : Sl (rbO m sv u2 :: (sseg ++ useg2)) sv 3 (ss.flatMap bsEnc) := ok2.own.sl.left.cons
    have hlen := hsl.els_len bsEnc_len (by decide)
    obtain ⟨a, ha, hl⟩ := hsl.el bsEnc_len (by decide) hi
    have hwx := hw ss[n.toNat] (List.getElem_mem hi)
    have hlt : n < sv.len := by omega
    refine ⟨(), rfl, nilc_of rfl (nilc_of rfl (ld_of sv (rb_s hm) (ld_of sv (rb_s hm) (nilc_of ha (ixn_of h0 hlt (ld_of ss[n.toNat].wear ?_ (nilc_of ha (ixn_of h0 hlt ?_))))))))⟩
    · exact hl.pre fun i u hu => by cases i with | zero => exact hu | succ i => exact absurd (show (none : Option Value) = some u from hu) (by simp)
    rw [w64_id (by omega) (by omega)]
    refine ok2.own.st [rbO m sv u2] useg2 (p := n.toNat * 3) (by rw [flat_len bsEnc_len]; simp only [List.length_cons, List.length_nil]; omega) (by simp) ha rfl (by simp) fun sseg3 own3 => ?_
    have hsplit : ss = ss.take n.toNat ++ ss[n.toNat] :: ss.drop (n.toNat + 1) := by rw [← List.drop_eq_getElem_cons hi, List.take_append_drop]
    have hplen : (ss.take n.toNat).length = n.toNat := by rw [List.length_take]; omega
    have hput := enc_all (ss.take n.toNat) (ss.drop (n.toNat + 1)) ss[n.toNat] (gErase bad ss[n.toNat])
    rw [← hsplit, hplen, ← bmod_at hi] at hput
    have hput' : putL (ss.flatMap bsEnc) (n.toNat * 3) [.int .i64 (ss[n.toNat].wear + 1), .bool bad, .bool false] = (bmod ss n (gErase bad)).flatMap bsEnc := hput
    rw [hput'] at own3
    refine .of ⟨rfl, sv, sseg3, u2, useg2, rfl, ?_⟩
    exact rbmod_ok ok2 hi (gErase bad) (fun s hs => by have := hw s hs; unfold gErase; simp only; omega) own3
theorem rbspoilt_cl (m : Nat) (ss : List BS) (us : List Int) (A : HList) (hA : RBX m ss us A) (n : Int) : CallF PP 78 #[.pointer (some ⟨m, 0, none⟩), .int .i64 n] A
    fun r L' => r = .bool (bgood ss n) ∧ RBX m (if bgood ss n = true then bmod ss n gSpoil else ss) (if bgood ss n = true then iwo us n else us) L' := by
  have hA' := hA
  obtain ⟨sv, sseg, uv, useg, rfl, ok⟩ := hA
  refine CallF.of (args := [.pointer (some ⟨m, 0, none⟩), .int .i64 n]) noNum mixed Try.func78 (e78 (some ⟨m, 0, none⟩) n _) ?_
  unfold t78
  refine cl_rd (rbgood_rd _ m ss us _ hA' (fun x hx => hx) n) (bgood ss n, ()) rfl ?_
  cases hgd : bgood ss n with
  | false => exact ifT rfl (.of ⟨rfl, hA'⟩)
  | true =>
    obtain ⟨h0, hi, hb⟩ := bgood_at hgd
    refine ifF rfl (cl_in [] [] (rbout_cl m ss sv sseg uv useg us ok n) (by simp) ?_)
    rintro _ _ - ⟨rfl, u2, useg2, rfl, ok2⟩
    rw [List.append_nil, List.nil_append]
    have hm : rbO m sv u2 ∈ rbO m sv u2 :: (sseg ++ useg2) := List.mem_cons_self
    have hsl : Sl (rbO m sv u2 :: (sseg ++ useg2)) sv 3 (ss.flatMap bsEnc) := ok2.own.sl.left.cons
    have hlen := hsl.els_len bsEnc_len (by decide)
    obtain ⟨a, ha, hl⟩ := hsl.el bsEnc_len (by decide) hi
    have hlt : n < sv.len := by omega
    refine ⟨(), rfl, nilc_of rfl (ld_of sv (rb_s hm) (nilc_of ha (ixn_of h0 hlt ?_)))⟩
    refine ok2.own.st [rbO m sv u2] useg2 (p := n.toNat * 3 + 2) (by rw [flat_len bsEnc_len]; simp only [List.length_cons, List.length_nil]; omega) (by simp) ha (addr2 a (n.toNat * 3) 2) (by simp) fun sseg3 own3 => ?_
    have hsplit : ss = ss.take n.toNat ++ ss[n.toNat] :: ss.drop (n.toNat + 1) := by rw [← List.drop_eq_getElem_cons hi, List.take_append_drop]
    have hplen : (ss.take n.toNat).length = n.toNat := by rw [List.length_take]; omega
    have hput := enc_at (ss.take n.toNat) (ss.drop (n.toNat + 1)) ss[n.toNat] (gSpoil ss[n.toNat]) 2 (by decide) (.bool true) rfl
    rw [← hsplit, hplen, ← bmod_at hi] at hput
    rw [hput] at own3
    refine .of ⟨rfl, sv, sseg3, u2, useg2, rfl, ?_⟩
    exact rbmod_ok ok2 hi gSpoil (fun s hs => ok.wr s hs) own3
def RBNewK (ss : List BS) (used : List Int) (A : HList) (v : Value) (L' : HList) : Prop := match bnewR ss used with
  | none => v = .tuple #[.pointer none, .int .i64 2] ∧ L' = A
  | some r => ∃ (m : Nat) (B : HList), v = .tuple #[.pointer (some ⟨m, 0, none⟩), .int .i64 0] ∧ L' = B ++ A ∧ RBX m r.1 r.2 B ∧ bus r.1 r.2
theorem RBNewK.bad {ss : List BS} {used : List Int} {A : HList} (h : bnewR ss used = none) : RBNewK ss used A (.tuple #[.pointer none, .int .i64 2]) A := by
  unfold RBNewK
  rw [h]
  exact ⟨rfl, rfl⟩
theorem rbnew_cl (A : HList) (v : SlV) (ss : List BS) (hv : Sl A v 3 (ss.flatMap bsEnc)) (u : SlV) (used : List Int) (hu : ISl A u .i64 used) (hul : used.length ≤ 9223372036854775807) : CallF PP 61 #[.slice v.a v.len v.cap, .slice u.a u.len u.cap] A (RBNewK ss used A) := by
  refine CallF.of (args := [.slice v.a v.len v.cap, .slice u.a u.len u.cap]) noNum mixed Try.func61 (e61 v u _) ?_
  unfold t61
  have hvl := hv.els_len bsEnc_len (by decide)
  have hulen := hu.len
  refine ifD_of (fun (h1 : (v.len : Int) < 1) => .of (RBNewK.bad (by unfold bnewR; rw [if_neg (by omega)]))) (fun (h1 : ¬ (v.len : Int) < 1) => ?_)
  refine ifD_of (fun (h2 : (v.len : Int) > 16) => .of (RBNewK.bad (by unfold bnewR; rw [if_neg (by omega)]))) (fun (h2 : ¬ (v.len : Int) > 16) => ?_)
  refine nw_of fun n1 _ => append_in elemRt srcRt [] A own_n rfl (.sl hv.cons) (bsEnc_plain _) (by first | omega | (simp only; omega)) fun sv sseg hsv sown => ?_
  rw [List.nil_append] at sown
  rw [List.nil_append]
  refine nw_of fun m _ => ?_
  refine lp_of (fun k z L' => L' = rbO m sv ⟨none, 0, 0⟩ :: (sseg ++ A) ∧ ∃ (i : Nat), i ≤ ss.length ∧ k = ss.length - i ∧ z = ((i : Int), ()) ∧ ∀ s ∈ ss.take i, 0 ≤ s.wear ∧ s.wear ≤ 1048576) ss.length ⟨rfl, 0, by omega, by omega, rfl, by simp⟩ ?_
  rintro k z L' ⟨rfl, i, hi, rfl, rfl, hall⟩
  refine ifD_of (fun (hlt : (i : Int) < v.len) => ?_) (fun (hge : ¬ (i : Int) < v.len) => ?_)
  · have hi' : i < ss.length := by omega
    have hi0 : (0 : Int) ≤ (i : Int) := by omega
    have hv' : Sl (rbO m sv ⟨none, 0, 0⟩ :: (sseg ++ A)) v 3 (ss.flatMap bsEnc) := hv.right.cons
    obtain ⟨a, ha, hl⟩ := hv'.el bsEnc_len (by decide) hi'
    have hbad : ¬ (0 ≤ ss[i].wear ∧ ss[i].wear ≤ 1048576) → bnewR ss used = none := by
      intro hc
      unfold bnewR
      rw [if_neg]
      rintro ⟨_, _, h3⟩
      exact hc (bwear_all h3 _ (List.getElem_mem hi'))
    have lw : LdAt (Addr.add a ((i : Int).toNat * 3)) [.int .i64 ss[i].wear] (rbO m sv ⟨none, 0, 0⟩ :: (sseg ++ A)) := by
      rw [Int.toNat_natCast]
      exact hl.pre fun i u hu => by cases i with | zero => exact hu | succ i => exact absurd (show (none : Option Value) = some u from hu) (by simp)
    refine nilc_of ha (ixn_of hi0 hlt (ld_of ss[i].wear lw (ifD_of (fun (hc : ss[i].wear < 0) => .cons (.app (.of (RBNewK.bad (hbad (by omega)))))) (fun (hc : ¬ ss[i].wear < 0) => ?_))))
    refine nilc_of ha (ixn_of hi0 hlt (ld_of ss[i].wear lw (ifD_of (fun (hc : ss[i].wear > 1048576) => .cons (.app (.of (RBNewK.bad (hbad (by omega)))))) (fun (hc2 : ¬ ss[i].wear > 1048576) => ?_))))
    refine ⟨ss.length - (i + 1), by omega, rfl, i + 1, by omega, rfl, ?_, fun s hs => ?_⟩
    · rw [w64_id (by first | omega | (simp only; omega)) (by first | omega | (simp only; omega))]
      rfl
    · rw [List.take_succ_eq_append_getElem hi'] at hs
      rcases List.mem_append.1 hs with h3 | h3
      · exact hall s h3
      · rw [List.mem_singleton.1 h3]; omega
  · obtain rfl : i = ss.length := by omega
    rw [List.take_length] at hall
    have hbw : bwear ss = true := by unfold bwear; rw [List.all_eq_true]; intro s hs; simpa using hall s hs
    have hR : bnewR ss used = bnewU ss [] used := by unfold bnewR; rw [if_pos ⟨by omega, by omega, hbw⟩]
    refine lp_of (fun k z L' => ∃ (i : Nat) (J : HList) (cs : List BS) (us : List Int) (sseg useg : HList) (uv : SlV), i ≤ used.length ∧ k = used.length - i ∧ z = ((i : Int), ()) ∧ L' = J ++ (rbO m sv uv :: (sseg ++ useg)) ++ A ∧ RBOk sv sseg cs uv useg us ∧ bus cs us ∧ cs.map BS.bad = ss.map BS.bad ∧ bnewU ss [] used = bnewU cs us (used.drop i)) used.length
      ⟨0, [], ss, [], sseg, [], ⟨none, 0, 0⟩, by omega, by omega, rfl, by simp, ⟨sown, own_z, by omega, by simp, fun s hs => by have := hall s hs; omega⟩, ⟨by simp, by simp⟩, rfl, rfl⟩ ?_
    rintro k z L' ⟨i, J, cs, us, sseg, useg, uv, hi, rfl, rfl, rfl, ok, hb, hcl, hU⟩
    have hclen : cs.length = ss.length := by have := congrArg List.length hcl; simpa using this
    refine ifD_of (fun (hlt : (i : Int) < u.len) => ?_) (fun (hge : ¬ (i : Int) < u.len) => ?_)
    · have hi' : i < used.length := by omega
      have hu' : ISl (J ++ (rbO m sv uv :: (sseg ++ useg)) ++ A) u .i64 used := hu.right
      obtain ⟨a, ha⟩ := hu'.some hi'
      have hdr := List.drop_eq_getElem_cons hi'
      rw [hdr] at hU
      refine nilc_of ha (ixn_of (show (0 : Int) ≤ (i : Int) by omega) hlt (ld_of used[i] (hu'.rd hi' ha _ (by simp)) ?_))
      generalize used[i] = n at hU ⊢
      have hno : bfree cs us n = false → RBNewK ss used A (.tuple #[.pointer none, .int .i64 2]) A := fun hfr => RBNewK.bad (by
        rw [hR, hU]
        unfold bnewU
        rw [if_neg (by rw [hfr]; decide)])
      have hng : bgood cs n = false → bfree cs us n = false := fun h => by unfold bfree; rw [h]; rfl
      refine ifD_of (fun (hc : n < 0) => .app (.of (hno (hng (by unfold bgood; rw [decide_eq_false (by omega)]; rfl))))) (fun (hc : ¬ n < 0) => ?_)
      refine ifD_of (fun (hc2 : n ≥ v.len) => .app (.of (hno (hng (by unfold bgood; rw [List.getElem?_eq_none (by omega)]; simp))))) (fun (hc2 : ¬ n ≥ v.len) => ?_)
      have hin : n.toNat < ss.length := by omega
      have hinc : n.toNat < cs.length := by omega
      have hbadE : cs[n.toNat].bad = ss[n.toNat].bad := by
        have := congrArg (fun l => l[n.toNat]?) hcl
        simp only [List.getElem?_map, List.getElem?_eq_getElem hin, List.getElem?_eq_getElem hinc, Option.map_some, Option.some.injEq] at this
        exact this
      have hgd : bgood cs n = !ss[n.toNat].bad := by
        unfold bgood
        rw [List.getElem?_eq_getElem hinc, decide_eq_true (show 0 ≤ n by omega), ← hbadE]; rfl
      have hv' : Sl (J ++ (rbO m sv uv :: (sseg ++ useg)) ++ A) v 3 (ss.flatMap bsEnc) := hv.right
      obtain ⟨b, hb', hl⟩ := hv'.el bsEnc_len (by decide) hin
      refine nilc_of hb' (ixn_of (show 0 ≤ n by omega) (show n < v.len by omega) (ld_of ss[n.toNat].bad (hl.one 1 rfl) (ifB_of (fun hbd => ?_) (fun hbd => ?_))))
      · have hbd' : ss[n.toNat].bad = true := hbd
        exact .app (.of (hno (hng (by rw [hgd, hbd']; rfl))))
      have hbd' : ss[n.toNat].bad = false := hbd
      have husl : ISl (J ++ (rbO m sv uv :: (sseg ++ useg)) ++ A) uv .i64 us := ok.uown.sl.mono fun x hx => by simp [hx]
      have hfew := ok.few
      refine ld_of uv (rb_u (sv := sv) (by simp)) (cl_rd (rin_rd _ uv us husl (by omega) n) (decide (n ∈ us), ()) rfl ?_)
      refine ifD_of (fun (hmem : n ∈ us) => .app (.of (hno (by unfold bfree; simp [hmem])))) (fun (hmem : ¬ n ∈ us) => ?_)
      have hfr : bfree cs us n = true := by unfold bfree; rw [hgd, hbd']; simp [hmem]
      have hU2 : bnewU ss [] used = bnewU (bmod cs n gClean) (us ++ [n]) (used.drop (i + 1)) := by
        rw [hU]
        conv => lhs; unfold bnewU
        rw [if_pos hfr]
      have hulen2 := ok.uown.sl.len
      rw [ivs_length, Nat.mul_one] at hulen2
      refine ld_of uv (rb_u (sv := sv) (by simp)) (nw_of fun n3 _ => ?_)
      have hsrc : ∀ {Z : HList}, Sl ((n3, Obj.cells #[.int .i64 n] eIn) :: Z) ⟨some ⟨n3, 0, none⟩, 1, 1⟩ 1 (ivs .i64 [n]) := fun {Z} => ⟨rfl, Nat.le_refl _, .inr ⟨_, rfl, ldB List.mem_cons_self rfl⟩⟩
      refine append_in elemIn srcIn ((n3, Obj.cells #[.int .i64 n] eIn) :: (J ++ (rbO m sv uv :: sseg))) A ok.uown (by simp) (.sl hsrc) (ivs_plain _ _) (by first | omega | (simp only; omega)) fun v2 seg2 hv2 uown2 => ?_
      rw [← ivs_append] at uown2
      refine st_of (n := m) (off := 1) (c := #[.slice sv.a sv.len sv.cap, .slice uv.a uv.len uv.cap]) (T := 116) (fz := (0, 0)) ((n3, Obj.cells #[.int .i64 n] eIn) :: J) (sseg ++ (seg2 ++ A)) rfl (by simp [rbO]) (by simp) (.inl (Nat.le_refl _)) #[.slice sv.a sv.len sv.cap, .slice v2.a v2.len v2.cap] rfl ?_
      have hslen := ok.own.sl.els_len bsEnc_len (by decide)
      obtain ⟨c, hc', _⟩ := ok.own.sl.el bsEnc_len (by decide) hinc
      refine ld_of sv (rb_s (m := m) (uv := v2) (by unfold rbO; simp)) (nilc_of hc' (ixn_of (show 0 ≤ n by omega) (show n < sv.len by omega) ?_))
      refine ok.own.st (((n3, Obj.cells #[.int .i64 n] eIn) :: J) ++ [rbO m sv v2]) (seg2 ++ A) (p := n.toNat * 3 + 2) (by rw [flat_len bsEnc_len]; simp only [List.length_cons, List.length_nil]; omega) (by simp) hc' (addr2 c (n.toNat * 3) 2) (by simp [rbO]) fun sseg2 own2 => ?_
      have hsplit : cs = cs.take n.toNat ++ cs[n.toNat] :: cs.drop (n.toNat + 1) := by rw [← List.drop_eq_getElem_cons hinc, List.take_append_drop]
      have hplen : (cs.take n.toNat).length = n.toNat := by rw [List.length_take]; omega
      have hput := enc_at (cs.take n.toNat) (cs.drop (n.toNat + 1)) cs[n.toNat] (gClean cs[n.toNat]) 2 (by decide) (.bool false) rfl
      rw [← hsplit, hplen, ← bmod_at hinc] at hput
      rw [hput] at own2
      have hbus := bus_snoc hb hfr
      have hml := bmod_len cs n gClean
      have hcnt := ok.cnt
      have hok2 := rbmod_ok ok hinc gClean (fun s hs => ok.wr s hs) own2
      refine ⟨used.length - (i + 1), by omega, i + 1, (n3, Obj.cells #[.int .i64 n] eIn) :: J, bmod cs n gClean, us ++ [n], sseg2, seg2, v2, by omega, rfl, ?_, by simp, ⟨hok2.own, uown2, hok2.cnt, by have := bus_few hbus; omega, hok2.wr⟩, ⟨hbus.1, fun x hx => by rw [hml]; exact hbus.2 x hx⟩, ?_, hU2⟩
      · rw [w64_id (by first | omega | (simp only; omega)) (by first | omega | (simp only; omega))]
        rfl
      · rw [← hcl]
        apply List.ext_getElem?
        intro j
        unfold bmod
        rw [List.getElem?_map, List.getElem?_map, List.getElem?_modify]
        cases cs[j]? with
        | none => rfl
        | some s => by_cases hj : n.toNat = j <;> simp [hj, gClean]
    · obtain rfl : i = used.length := by omega
      rw [List.drop_length] at hU
      have hRR : bnewR ss used = some (cs, us) := by rw [hR, hU]; rfl
      rw [List.append_assoc]
      refine .app (.of ?_)
      unfold RBNewK
      rw [hRR]
      exact ⟨m, _, rfl, rfl, ⟨sv, sseg, uv, useg, rfl, ok⟩, hb⟩
theorem given_cl (A : HList) (v : SlV) (ss : List BS) (hv : Sl A v 3 (ss.flatMap bsEnc)) (hb : ss.length * 16 ≤ 140737488351232) : CallF PP 60 #[.slice v.a v.len v.cap] A fun r L' => ∃ (s : SlV) (seg : HList), r = .slice s.a s.len s.cap ∧ L' = seg ++ A ∧ Own s 3 eSt (ss.flatMap bsEnc) seg := by
  refine CallF.of (args := [.slice v.a v.len v.cap]) noNum mixed Try.func60 (e60 v _) ?_
  unfold t60
  have hlen := hv.els_len bsEnc_len (by decide)
  refine lp_of (fun k z L' => ∃ (i : Nat) (u : SlV) (seg J : HList), i ≤ ss.length ∧ k = ss.length - i ∧ z = (u, (i : Int), ()) ∧ L' = J ++ seg ++ A ∧ Own u 3 eSt ((ss.take i).flatMap bsEnc) seg) ss.length
    ⟨0, ⟨none, 0, 0⟩, [], [], by omega, by omega, rfl, rfl, own_z⟩ ?_
  rintro k z L' ⟨i, u, seg, J, hi, rfl, rfl, rfl, own⟩
  refine ifD_of (fun (hlt : (i : Int) < v.len) => ?_) (fun (hge : ¬ (i : Int) < v.len) => ?_)
  · have hi' : i < ss.length := by omega
    have hv' : Sl (J ++ seg ++ A) v 3 (ss.flatMap bsEnc) := hv.right
    obtain ⟨a, ha, hl⟩ := hv'.el bsEnc_len (by decide) hi'
    have hul := own.sl.els_len bsEnc_len (by decide)
    rw [List.length_take] at hul
    have htk := List.take_succ_eq_append_getElem hi'
    refine nilc_of ha (ixn_of (show (0 : Int) ≤ (i : Int) by omega) hlt (ld_of (ss[i].wear, ss[i].bad, ss[i].dirty, ()) (by rw [Int.toNat_natCast]; exact hl) (nw_of fun n1 _ => ?_)))
    generalize ss[i] = x at htk ⊢
    have hsrc : ∀ {Z : HList}, Sl ((n1, Obj.cells #[.int .i64 x.wear, .bool x.bad, .bool x.dirty] eSt) :: Z) ⟨some ⟨n1, 0, none⟩, 1, 1⟩ 3 ([x].flatMap bsEnc) := fun {Z} => ⟨rfl, Nat.le_refl _, .inr ⟨_, rfl, ldB List.mem_cons_self rfl⟩⟩
    refine append_in elemSt srcSt ((n1, Obj.cells #[.int .i64 x.wear, .bool x.bad, .bool x.dirty] eSt) :: J) A own (by simp) (.sl hsrc) (bsEnc_plain _) (by first | omega | (simp only; omega)) fun v2 seg2 hv2 own2 => ?_
    rw [← List.flatMap_append, ← htk] at own2
    refine ⟨ss.length - (i + 1), by omega, i + 1, v2, seg2, _, by omega, rfl, ?_, rfl, own2⟩
    show (v2, IntKind.i64.wrap ((i : Int) + 1), ()) = _
    rw [w64_id (by omega) (by omega)]
    rfl
  · obtain rfl : i = ss.length := by omega
    rw [List.take_length] at own
    rw [List.append_assoc]
    exact .app (.of ⟨u, seg, rfl, rfl, own⟩)
end Go.Proofs.Ytefllmfoneocaaa
