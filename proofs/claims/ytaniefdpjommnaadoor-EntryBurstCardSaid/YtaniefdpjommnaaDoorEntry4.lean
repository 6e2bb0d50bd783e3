/-
  It is proved what Join of the layer entry and of its document's answer computes. There are no further conditions than those that each theorem names.
-/
import Derived.Test.YtaniefdpjommnaaDoorEntry3
set_option linter.unusedVariables false
set_option linter.unusedSimpArgs false
namespace Go.Proofs.YtaniefdpjommnaaDoor
open Go.HL

/-- Which entry bytes are, or what is wrong. -/
def joinR (b : List UInt8) : List UInt8 × List UInt8 × Int :=
  if (wtext b 0).2.2 ≠ 0 then ([], [], (wtext b 0).2.2) else
  if (wtext b (wtext b 0).2.1).2.2 ≠ 0 then ([], [], (wtext b (wtext b 0).2.1).2.2) else
  if (wget b (wtext b (wtext b 0).2.1).2.1 4).2 ≠ 0 then ([], [], (wget b (wtext b (wtext b 0).2.1).2.1 4).2) else
  if b.length > (wtext b (wtext b 0).2.1).2.1 + 4 ∨ (wtext b 0).1.length < 1 ∨ (wtext b 0).1.length > 255 then ([], [], 5) else
  if crcSum (b.take (wtext b (wtext b 0).2.1).2.1) ≠ (wget b (wtext b (wtext b 0).2.1).2.1 4).1 then ([], [], 12) else
  ((wtext b 0).1, (wtext b (wtext b 0).2.1).1, 0)
def JoinK (b : List UInt8) (A : HList) (r : Value) (L' : HList) : Prop := ∃ g : PG, r = .tuple #[strOf (joinR b).1, g.val, .int .i64 (joinR b).2.2] ∧ L' = g.seg ++ A ∧ g.Ok ∧ g.l = (joinR b).2.1
theorem JoinK.err {b : List UInt8} {A : HList} {e : Int} (h : joinR b = ([], [], e)) : JoinK b A (.tuple #[.string ⟨#[]⟩, .slice none 0 0, .int .i64 e]) A := ⟨pg0, by rw [h]; rfl, rfl, pg0_ok, by rw [h]; rfl⟩
theorem wtext_rng {b : List UInt8} {a : Nat} (h : a ≤ b.length) : a ≤ (wtext b a).2.1 ∧ (wtext b a).2.1 ≤ b.length ∧ (wtext b a).1.length ≤ 65536 ∧ ((wtext b a).2.2 = 0 → (wtext b a).2.1 = a + 4 + (wtext b a).1.length) := by
  have hg := wget_rng b a 4
  unfold wtext
  split
  · rename_i h1
    exact ⟨Nat.le_refl _, h, by simp, fun h2 => absurd h2 h1⟩
  · split
    · exact ⟨Nat.le_refl _, h, by simp, fun h => absurd h (by simp)⟩
    · split
      · exact ⟨Nat.le_refl _, h, by simp, fun h => absurd h (by simp)⟩
      · rename_i h1 h2 h3
        simp only
        rw [List.length_take, List.length_drop]
        omega
theorem strOf_size (l : List UInt8) : (ByteArray.mk l.toArray).size = l.length := by show l.toArray.size = _; simp
theorem join_cl (A : HList) (v : SlV) (l : List PV) (h : Parts A v l) (hb : (catL l).length ≤ 1000000) (hl : l.length ≤ 1099511627776) :
    CallF PP 16 #[.slice v.a v.len v.cap] A (JoinK (catL l) A) := by
  refine CallF.of (args := [.slice v.a v.len v.cap]) noNum mixed Tryd.func16 (e16 v _) ?_
  unfold t16
  refine cl_in [] [] (joined_cl A v l h (by omega) hl) (by simp) ?_
  rintro _ _ - ⟨s, seg, rfl, rfl, own⟩
  rw [List.nil_append, List.append_nil]
  generalize catL l = b at hb own ⊢
  refine ⟨(s, ()), rfl, cl_in [] [] (rdnew_cl (seg ++ A) s b own.sl.left hb) (by simp) ?_⟩
  rintro _ _ - ⟨m, R0, rfl, rfl, hr0⟩
  rw [List.nil_append, List.append_nil]
  have hsl : ∀ R : HList, BSl (R ++ (seg ++ A)) s b := fun R => own.sl.left.right
  have hslen := own.sl.len
  rw [bvs_length, Nat.mul_one] at hslen
  have hscap := own.cap
  refine ⟨(some ⟨m, 0, none⟩, ()), rfl, cl_in [] (seg ++ A) (text_cl m b 0 R0 hr0) rfl ?_⟩
  rintro _ R1 - ⟨rfl, hr1⟩
  rw [List.nil_append]
  obtain ⟨q1, q2, q3, q4⟩ := wtext_rng (b := b) (a := 0) (Nat.zero_le _)
  refine ⟨(⟨(wtext b 0).1.toArray⟩, (wtext b 0).2.2, ()), rfl, ?_⟩
  refine ifNe_of (fun (he : (wtext b 0).2.2 ≠ 0) => .app (.app (.of (JoinK.err (by unfold joinR; rw [if_pos he]))))) (fun (he : (wtext b 0).2.2 = 0) => ?_)
  refine cl_in [] (seg ++ A) (text_cl m b (wtext b 0).2.1 R1 hr1) rfl ?_
  rintro _ R2 - ⟨rfl, hr2⟩
  rw [List.nil_append]
  obtain ⟨w1, w2, w3, w4⟩ := wtext_rng (b := b) (a := (wtext b 0).2.1) q2
  refine ⟨(⟨(wtext b (wtext b 0).2.1).1.toArray⟩, (wtext b (wtext b 0).2.1).2.2, ()), rfl, ?_⟩
  refine ifNe_of (fun (he2 : (wtext b (wtext b 0).2.1).2.2 ≠ 0) => .app (.app (.of (JoinK.err (by unfold joinR; rw [if_neg (by omega), if_pos he2]))))) (fun (he2 : (wtext b (wtext b 0).2.1).2.2 = 0) => ?_)
  have hj : joinR b = if (wget b (wtext b (wtext b 0).2.1).2.1 4).2 ≠ 0 then ([], [], (wget b (wtext b (wtext b 0).2.1).2.1 4).2) else
      if b.length > (wtext b (wtext b 0).2.1).2.1 + 4 ∨ (wtext b 0).1.length < 1 ∨ (wtext b 0).1.length > 255 then ([], [], 5) else
      if crcSum (b.take (wtext b (wtext b 0).2.1).2.1) ≠ (wget b (wtext b (wtext b 0).2.1).2.1 4).1 then ([], [], 12) else
      ((wtext b 0).1, (wtext b (wtext b 0).2.1).1, 0) := by unfold joinR; rw [if_neg (by omega), if_neg (by omega)]
  refine cl_rd (Reads.in (X := []) (Y := seg ++ A) (left_rd m b _ R2 hr2)) ((b.length : Int) - (wtext b (wtext b 0).2.1).2.1, ()) rfl ?_
  generalize (wtext b 0).1 = key at q3 hj ⊢
  generalize wtext b (wtext b 0).2.1 = t2 at hr2 w2 hj ⊢
  obtain ⟨val, e, z⟩ := t2
  simp only at hr2 w2 hj ⊢
  refine cl_in [] (seg ++ A) (num_cl m b e R2 hr2 4) rfl ?_
  rintro _ R3 - ⟨rfl, hr3⟩
  rw [List.nil_append]
  refine ⟨((wget b e 4).1, (wget b e 4).2, ()), rfl, ?_⟩
  refine ifNe_of (fun (he3 : (wget b e 4).2 ≠ 0) => .app (.app (.of (JoinK.err (by rw [hj, if_pos he3]))))) (fun (he3 : (wget b e 4).2 = 0) => ?_)
  have hnx : rdNext b e 4 = e + 4 := by unfold rdNext; rw [if_pos he3]; rfl
  rw [hnx] at hr3
  have hge := (wget_rng b e 4).2.2.2 he3
  refine cl_rd (Reads.in (X := []) (Y := seg ++ A) (left_rd m b _ R3 hr3)) ((b.length : Int) - (e + 4 : Nat), ()) rfl ?_
  refine ifD_of (fun (h4 : (b.length : Int) - (e + 4 : Nat) > 0) => .app (.app (.of (JoinK.err (by rw [hj, if_neg (by omega), if_pos (by omega)]))))) (fun (h4 : ¬ (b.length : Int) - (e + 4 : Nat) > 0) => ?_)
  refine cl_rd (keyed_rd _ _) (decide (1 ≤ ((ByteArray.mk key.toArray).size : Int) ∧ ((ByteArray.mk key.toArray).size : Int) ≤ 255), ()) rfl ?_
  rw [strOf_size]
  by_cases h5 : 1 ≤ (key.length : Int) ∧ (key.length : Int) ≤ 255
  case neg =>
    rw [decide_eq_false h5]
    exact ifT rfl (.app (.app (.of (JoinK.err (by rw [hj, if_neg (by omega), if_pos (by omega)])))))
  rw [decide_eq_true h5]
  have hwe : IntKind.i64.wrap ((s.len : Int) - ((b.length : Int) - (e : Int))) = ((e : Nat) : Int) := by rw [hslen, w64_id (by omega) (by omega)]; omega
  simp only [hwe]
  refine ifF rfl (slc_of (l' := 0) (h' := e) (m' := s.cap) rfl rfl rfl (by omega) (by omega) (Nat.le_refl _) ?_)
  have hcut := cut_sl (hsl R3) (i := 0) (j := e) (by omega) (by omega)
  rw [List.drop_zero, Nat.sub_zero] at hcut
  refine cl_rd (check_rd _ _ (b.take e) hcut (by rw [List.length_take]; omega) (wget b e 4).1) (crcSum (b.take e) == (wget b e 4).1, ()) rfl ?_
  by_cases h6 : crcSum (b.take e) = (wget b e 4).1
  · have hjj : joinR b = (key, val, 0) := by rw [hj, if_neg (by omega), if_neg (by omega), if_neg (by simpa using h6)]
    refine ifF (by simp [h6]) (s2b_of fun n ob w hw own2 _ => ?_)
    unfold JoinK
    rw [hjj]
    refine .drop (A := [(n, ob)] ++ A) (J := R3 ++ seg) ⟨⟨w, [(n, ob)], val⟩, rfl, rfl, own2, rfl⟩ ?_
    classical
    rw [List.perm_iff_count]
    intro x
    simp only [List.append_eq, List.cons_append, List.count_append, List.count_cons, List.count_nil]
    omega
  · refine ifT (by simp [h6]) (.app (.app (.of (JoinK.err (by rw [hj, if_neg (by omega), if_neg (by omega), if_pos h6])))))
theorem rjoin_cl (A : HList) (v : SlV) (l : List PV) (h : Parts A v l) (hb : (catL l).length ≤ 1000000) (hl : l.length ≤ 1099511627776) :
    CallF PP 17 #[.slice v.a v.len v.cap] A (JoinK (catL l) A) := by
  refine CallF.of (args := [.slice v.a v.len v.cap]) noNum mixed Tryd.func17 (e17 v _) ?_
  unfold t17
  have hlen := h.len
  refine lp_of (fun z' z L' => ∃ (i : Nat) (s : SlV) (seg : HList), i ≤ l.length ∧ z' = l.length - i ∧ z = (s, (i : Int), ()) ∧ L' = seg ++ A ∧ Own s 1 eB (bvs (catL (l.take i))) seg) l.length ⟨0, ⟨none, 0, 0⟩, [], by omega, by omega, rfl, rfl, own_nil⟩ ?_
  rintro z' z _ ⟨i, s, seg, hi, rfl, rfl, rfl, own⟩
  refine ifD_of (fun (hlt : (i : Int) < (v.len : Int)) => ?_) (fun (hge : ¬ (i : Int) < (v.len : Int)) => ?_)
  · have hi' : i < l.length := by omega
    obtain ⟨a, ha, hld⟩ := h.at' hi'
    have hbl := (h.val _ (List.getElem_mem hi')).len
    have hs := catL_succ l hi'
    have hle := catL_take_le l (i + 1)
    have hsl : (catL (l.take (i + 1))).length = (catL (l.take i)).length + l[i].1.len := by rw [hs, List.length_append, hbl]
    have hol := own.sl.len
    rw [bvs_length] at hol
    refine nilc_of ha (ixn_of (show (0 : Int) ≤ (i : Int) by omega) hlt (ld_of l[i].1 (hld.mono fun x hx => List.mem_append_right _ hx) ?_))
    refine append_in elemB srcB [] A own rfl (.sl (Sl.right (h.val _ (List.getElem_mem hi')))) (bvs_plain _) (by omega) fun s' seg' hs' own' => ?_
    rw [← bvs_append, ← hs] at own'
    refine ⟨l.length - (i + 1), by omega, i + 1, s', seg', by omega, rfl, ?_, rfl, own'⟩
    rw [w64_id (by first | omega | (simp only; omega)) (by first | omega | (simp only; omega))]
    rfl
  obtain rfl : i = l.length := by omega
  rw [List.take_length] at own
  generalize catL l = b at hb own ⊢
  have hbs : BSl (seg ++ A) s b := own.sl.left
  have hslen := own.sl.len
  rw [bvs_length, Nat.mul_one] at hslen
  have hscap := own.cap
  obtain ⟨q1, q2, q3, q4⟩ := wtext_rng (b := b) (a := 0) (Nat.zero_le _)
  refine cl_rd (rtext_rd _ s b hbs hb 0 (Nat.zero_le _)) (⟨(wtext b 0).1.toArray⟩, ((wtext b 0).2.1 : Int), (wtext b 0).2.2, ()) rfl ?_
  refine ifNe_of (fun (he : (wtext b 0).2.2 ≠ 0) => .app (.of (JoinK.err (by unfold joinR; rw [if_pos he])))) (fun (he : (wtext b 0).2.2 = 0) => ?_)
  obtain ⟨w1, w2, w3, w4⟩ := wtext_rng (b := b) (a := (wtext b 0).2.1) q2
  refine cl_rd (rtext_rd _ s b hbs hb (wtext b 0).2.1 q2) (⟨(wtext b (wtext b 0).2.1).1.toArray⟩, ((wtext b (wtext b 0).2.1).2.1 : Int), (wtext b (wtext b 0).2.1).2.2, ()) rfl ?_
  refine ifNe_of (fun (he2 : (wtext b (wtext b 0).2.1).2.2 ≠ 0) => .app (.of (JoinK.err (by unfold joinR; rw [if_neg (by omega), if_pos he2])))) (fun (he2 : (wtext b (wtext b 0).2.1).2.2 = 0) => ?_)
  have hj : joinR b = if (wget b (wtext b (wtext b 0).2.1).2.1 4).2 ≠ 0 then ([], [], (wget b (wtext b (wtext b 0).2.1).2.1 4).2) else
      if b.length > (wtext b (wtext b 0).2.1).2.1 + 4 ∨ (wtext b 0).1.length < 1 ∨ (wtext b 0).1.length > 255 then ([], [], 5) else
      if crcSum (b.take (wtext b (wtext b 0).2.1).2.1) ≠ (wget b (wtext b (wtext b 0).2.1).2.1 4).1 then ([], [], 12) else
      ((wtext b 0).1, (wtext b (wtext b 0).2.1).1, 0) := by unfold joinR; rw [if_neg (by omega), if_neg (by omega)]
  generalize (wtext b 0).1 = key at q3 hj ⊢
  generalize wtext b (wtext b 0).2.1 = t2 at w2 hj ⊢
  obtain ⟨val, e, z⟩ := t2
  simp only at w2 hj ⊢
  refine cl_rd (rget_rd _ s b hbs (by omega) e 4) ((wget b e 4).1, (wget b e 4).2, ()) rfl ?_
  refine ifNe_of (fun (he3 : (wget b e 4).2 ≠ 0) => .app (.of (JoinK.err (by rw [hj, if_pos he3])))) (fun (he3 : (wget b e 4).2 = 0) => ?_)
  have hwe : IntKind.i64.wrap ((e : Int) + 4) = (e : Int) + 4 := w64_id (by omega) (by omega)
  simp only [hwe]
  refine ifD_of (fun (h4 : (s.len : Int) > (e : Int) + 4) => .app (.of (JoinK.err (by rw [hj, if_neg (by omega), if_pos (by omega)])))) (fun (h4 : ¬ (s.len : Int) > (e : Int) + 4) => ?_)
  rw [strOf_size]
  refine ifD_of (fun (h5 : (key.length : Int) < 1) => .app (.of (JoinK.err (by rw [hj, if_neg (by omega), if_pos (by omega)])))) (fun (h5 : ¬ (key.length : Int) < 1) => ?_)
  refine ifD_of (fun (h6 : (key.length : Int) > 255) => .app (.of (JoinK.err (by rw [hj, if_neg (by omega), if_pos (by omega)])))) (fun (h6 : ¬ (key.length : Int) > 255) => ?_)
  refine slc_of (l' := 0) (h' := e) (m' := s.cap) rfl rfl rfl (by omega) (by omega) (Nat.le_refl _) ?_
  have hcut := cut_sl hbs (i := 0) (j := e) (by omega) (by omega)
  rw [List.drop_zero, Nat.sub_zero] at hcut
  refine cl_rd (rsum_rd _ _ (b.take e) hcut (by rw [List.length_take]; omega)) (crcSum (b.take e), ()) rfl ?_
  refine ifNe_of (fun (h7 : (wget b e 4).1 ≠ crcSum (b.take e)) => .app (.of (JoinK.err (by rw [hj, if_neg (by omega), if_neg (by omega), if_pos (fun h => h7 h.symm)])))) (fun (h7 : (wget b e 4).1 = crcSum (b.take e)) => ?_)
  have hjj : joinR b = (key, val, 0) := by rw [hj, if_neg (by omega), if_neg (by omega), if_neg (by simpa using h7.symm)]
  refine s2b_of fun n ob w hw own2 _ => ?_
  unfold JoinK
  rw [hjj]
  refine .drop (A := [(n, ob)] ++ A) (J := seg) ⟨⟨w, [(n, ob)], val⟩, rfl, rfl, own2, rfl⟩ ?_
  classical
  rw [List.perm_iff_count]
  intro x
  simp only [List.append_eq, List.cons_append, List.count_append, List.count_cons, List.count_nil]
  omega
end Go.Proofs.YtaniefdpjommnaaDoor
