/-
  It is proved that the laws PageImages, PageParses and PageBack return true for every input. There are no further conditions than those that each theorem names.
-/
import Derived.Test.YtaniefdpjommnaaPagePlain2
set_option linter.unusedVariables false
set_option linter.unusedSimpArgs false
namespace Go.Proofs.Ytaniefdpjommnaa
open Go.HL

theorem undb : PP.underlying eB = some (.int .u8) := by kernel_rfl
theorem undHd : isStr PP 23 = true := by kernel_rfl
theorem eqHd {L : HList} (a b c d e a' b' c' d' e' : Int) {k : ShV (.lf .bool) → HP} (hk : k (decide ((a, b, c, d, e) = (a', b', c', d', e'))) L) :
    smP PP (binOp .eql 23 (.agg #[.int .i64 a, .int .i64 b, .int .i64 c, .int .i64 d, .int .i64 e]) (.agg #[.int .i64 a', .int .i64 b', .int .i64 c', .int .i64 d', .int .i64 e'])) (.lf .bool) k L := by
  refine eqS_of (r := (a == a' && (b == b' && (c == c' && (d == d' && (e == e' && true)))))) undHd (by kernel_rfl) ?_
  have e : decide ((a, b, c, d, e) = (a', b', c', d', e')) = (a == a' && (b == b' && (c == c' && (d == d' && (e == e' && true))))) := by
    rw [Bool.eq_iff_iff]; simp
  rw [e] at hk; exact hk
def h0 : Hd := (2, 0, 1, 5, 3, ())
theorem ex_ok : hErr h0 = 0 := by decide
theorem ex_img : imgR h0 [97, 98] 64 = (iAll h0 [97, 98] 64, 0) := imgR_ok (S := 64) (by decide) ex_ok (by decide)
theorem ex_bad : imgR hz [] 64 = ([], 16) := imgR_err (S := 64) (by decide) (by decide)
theorem ex_take : (iAll h0 [97, 98] 64).take 14 = [2, 0, 1, 165, 5, 0, 0, 0, 3, 0, 2, 0, 97, 98] := by
  have hB : hBytes h0 2 = [2, 0, 1, 165, 5, 0, 0, 0, 3, 0, 2, 0] := by decide
  have e : iAll h0 [97, 98] 64 = [2, 0, 1, 165, 5, 0, 0, 0, 3, 0, 2, 0, 97, 98] ++ (List.replicate (64 - 16 - 2) 0 ++ digs (crcSum (iBody h0 [97, 98] 64)).toNat 4) := by
    unfold iAll
    conv => lhs; arg 1; unfold iBody
    rw [show [(97 : UInt8), 98].length = 2 from rfl, hB, List.append_assoc]
    rfl
  rw [e]
  exact List.take_left' rfl
theorem images_rd (L : HList) : Reads PP 11 #[] L (.bool true) := by
  refine Reads.of (args := []) noNum mixed Try.func11 (e11 _) ?_
  unfold t11
  refine nw_of fun n1 _ => st_of [] _ rfl rfl (by simp) (.inl (Nat.le_refl _)) #[.int .i64 2, .int .i64 0, .int .i64 1, .int .i64 5, .int .i64 3] rfl ?_
  rw [List.nil_append]
  have l1 : ∀ {Z : HList}, (n1, Obj.cells #[.int .i64 2, .int .i64 0, .int .i64 1, .int .i64 5, .int .i64 3] 23) ∈ Z → LdAt ⟨n1, 0, none⟩ [.int .i64 2, .int .i64 0, .int .i64 1, .int .i64 5, .int .i64 3] Z := fun hm => ldB hm rfl
  generalize (n1, Obj.cells #[.int .i64 2, .int .i64 0, .int .i64 1, .int .i64 5, .int .i64 3] 23) = o1 at l1 ⊢
  refine ld_of (2, 0, 1, 5, 3, ()) (l1 List.mem_cons_self) (nw_of fun n2 _ => mark_of undB undb ?_)
  have hc : ∀ {Z : HList}, BSl ((n2, Obj.cells #[.int .u8 97, .int .u8 98] eB (2, 3)) :: Z) ⟨some ⟨n2, 0, none⟩, 2, 2⟩ [97, 98] := fun {Z} => constB (l := [97, 98]) 2 (Nat.le_refl _) List.mem_cons_self
  refine cl_in [] [] (pimage_cl ((n2, Obj.cells #[.int .u8 97, .int .u8 98] eB (2, 3)) :: o1 :: L) h0 ⟨some ⟨n2, 0, none⟩, 2, 2⟩ [97, 98] hc 64 (by decide)) (by simp) ?_
  generalize (n2, Obj.cells #[.int .u8 97, .int .u8 98] eB (2, 3)) = o2
  rintro _ _ - ⟨s1, sg1, rfl, rfl, own1⟩
  rw [ex_img] at own1 ⊢
  rw [List.append_nil, List.nil_append]
  obtain ⟨hp1, hp2⟩ := par_img ex_ok [97, 98] (S := 64) (by decide) (by decide)
  have htk := ex_take
  have hln := iAll_len (h := h0) (p := [97, 98]) (S := 64) (by decide) (by decide)
  generalize iAll h0 [97, 98] 64 = im at own1 hp1 hp2 htk hln
  have hs1 := own1.sl.len
  rw [bvs_length, hln, Nat.mul_one] at hs1
  have hcap1 := own1.cap
  refine ⟨(s1, 0, ()), rfl, cl_in [] [] (pparse_cl (sg1 ++ (o2 :: o1 :: L)) s1 im own1.sl.left (by omega)) (by simp) ?_⟩
  rintro _ _ - ⟨s2, sg2, rfl, rfl, own2⟩
  rw [hp1] at own2 ⊢
  rw [List.append_nil, List.nil_append]
  refine ⟨((2, 0, 1, 5, 3, ()), s2, 0, ()), rfl, nw_of fun n3 _ => st_of [] _ rfl rfl (by simp) (.inl (Nat.le_refl _)) #[.int .i64 2, .int .i64 0, .int .i64 1, .int .i64 5, .int .i64 3] rfl ?_⟩
  rw [List.nil_append]
  have l3 : ∀ {Z : HList}, (n3, Obj.cells #[.int .i64 2, .int .i64 0, .int .i64 1, .int .i64 5, .int .i64 3] 23) ∈ Z → LdAt ⟨n3, 0, none⟩ [.int .i64 2, .int .i64 0, .int .i64 1, .int .i64 5, .int .i64 3] Z := fun hm => ldB hm rfl
  generalize (n3, Obj.cells #[.int .i64 2, .int .i64 0, .int .i64 1, .int .i64 5, .int .i64 3] 23) = o3 at l3 ⊢
  refine cl_in [] [] (pimage_cl (o3 :: (sg2 ++ (sg1 ++ (o2 :: o1 :: L)))) hz ⟨none, 0, 0⟩ [] (Sl.nil 1) 64 (by decide)) (by simp) ?_
  rintro _ _ - ⟨s4, sg4, rfl, rfl, own4⟩
  rw [ex_bad]
  rw [List.append_nil, List.nil_append]
  have b1 : BSl (sg4 ++ (o3 :: (sg2 ++ (sg1 ++ (o2 :: o1 :: L))))) s1 im := own1.sl.left.right.cons.right
  have b2 : BSl (sg4 ++ (o3 :: (sg2 ++ (sg1 ++ (o2 :: o1 :: L))))) s2 [97, 98] := own2.sl.left.cons.right
  refine ⟨(s4, 16, ()), rfl, ifT rfl (ifT (by show ((s1.len : Int) == 64) = true; rw [hs1]; rfl) (slc_of (l' := 0) (h' := 14) (m' := s1.cap) rfl rfl rfl (by decide) (by omega) (Nat.le_refl _) ?_))⟩
  have b14 : BSl (sg4 ++ (o3 :: (sg2 ++ (sg1 ++ (o2 :: o1 :: L))))) (slcV s1 ((0 : Nat) : Int) ((14 : Nat) : Int) s1.cap 1) [2, 0, 1, 165, 5, 0, 0, 0, 3, 0, 2, 0, 97, 98] := by
    have := Sl.slc (m := s1.cap) b1 (by decide) (l := 0) (h' := 14) (by decide) (by omega) (by omega)
    rw [bvs_slc, List.drop_zero, Nat.sub_zero, htk] at this
    exact this
  refine b2s_of b14 (ifT (by simp) (ld_of (2, 0, 1, 5, 3, ()) (l3 (by simp)) (ld_of (2, 0, 1, 5, 3, ()) (l1 (by simp)) (eqHd _ _ _ _ _ _ _ _ _ _ (ifT (by decide) (b2s_of b2 (ifT (by simp) (ifT rfl (ifT rfl ?_)))))))))
  refine cl_rd (proom_rd _ 64) ((48 : Int), ()) (congrArg (Value.int .i64) (by decide)) (ifT rfl (cl_rd (proom_rd _ 63) ((0 : Int), ()) (congrArg (Value.int .i64) (by decide)) (ifT rfl (nw_of fun n5 _ => ?_))))
  have h5 : ∀ {Z : HList}, BSl ((n5, Obj.cells #[.int .u8 255] eB) :: Z) ⟨some ⟨n5, 0, none⟩, 1, 1⟩ [255] := fun {Z} => ⟨rfl, Nat.le_refl _, .inr ⟨_, rfl, ldB List.mem_cons_self rfl⟩⟩
  refine cl_rd (pblank_rd _ ⟨some ⟨n5, 0, none⟩, 1, 1⟩ [255] h5 (by decide)) (true, ()) (congrArg Value.bool (by decide +kernel)) (ifT rfl (cl_rd (pblank_rd _ s1 im b1.cons (by omega)) (false, ()) (by rw [hp2]; rfl) (ifT rfl ?_)))
  exact .cons (.app (.cons (.app (.app (.cons (.cons (.of ⟨rfl, rfl⟩)))))))
theorem law_PageImages (L : HList) (h : Hd) (v : SlV) (p : List UInt8) (hv : BSl L v p) (size : Int) (hs : -9223372036854775808 ≤ size ∧ size ≤ 9223372036854775807) :
    Reads PP 3 #[.agg #[.int .i64 h.1, .int .i64 h.2.1, .int .i64 h.2.2.1, .int .i64 h.2.2.2.1, .int .i64 h.2.2.2.2.1], .slice v.a v.len v.cap, .int .i64 size] L (.bool true) := by
  refine Reads.of (args := [.agg #[.int .i64 h.1, .int .i64 h.2.1, .int .i64 h.2.2.1, .int .i64 h.2.2.2.1, .int .i64 h.2.2.2.2.1], .slice v.a v.len v.cap, .int .i64 size]) noNum mixed Try.func3 (e3 h v size _) ?_
  unfold t3
  refine nw_of fun n1 _ => ?_
  have l1 : ∀ {Z : HList}, (n1, Obj.cells #[.int .i64 h.1, .int .i64 h.2.1, .int .i64 h.2.2.1, .int .i64 h.2.2.2.1, .int .i64 h.2.2.2.2.1] 23) ∈ Z → LdAt ⟨n1, 0, none⟩ (hEnc h) Z := fun hm => ldB hm rfl
  generalize (n1, Obj.cells #[.int .i64 h.1, .int .i64 h.2.1, .int .i64 h.2.2.1, .int .i64 h.2.2.2.1, .int .i64 h.2.2.2.2.1] 23) = o1 at l1 ⊢
  refine ifD_of (fun _ => cl_rd (images_rd _) (true, ()) rfl (.cons (.of ⟨rfl, rfl⟩))) (fun _ => ?_)
  refine ld_of h (l1 List.mem_cons_self) (cl_in [] [] (pimage_cl (o1 :: L) h v p hv.cons size hs) (by simp) ?_)
  rintro _ _ - ⟨s1, sg1, rfl, rfl, own1⟩
  rw [List.append_nil, List.nil_append]
  refine ⟨(s1, (imgR h p size).2, ()), rfl, ld_of h (l1 (by simp)) (cl_in [] [] (rimage_cl (sg1 ++ (o1 :: L)) h v p hv.cons.right size hs) (by simp) ?_)⟩
  rintro _ _ - ⟨s2, sg2, rfl, rfl, own2⟩
  rw [List.append_nil, List.nil_append]
  refine ⟨(s2, (imgR h p size).2, ()), rfl, cl_rd (same_rd _ s1 s2 _ own1.sl.left.right own2.sl.left) (true, ()) rfl (ifT rfl (ifT (by simp) ?_))⟩
  refine cl_rd (proom_rd _ size) (roomOf size, ()) rfl (cl_rd (rroom_rd _ size) (roomOf size, ()) rfl (ifT (by simp) (cl_rd (images_rd _) (true, ()) rfl (.app (.app (.cons (.of ⟨rfl, rfl⟩)))))))
theorem law_PageParses (L : HList) (v : SlV) (b : List UInt8) (hv : BSl L v b) : Reads PP 4 #[.slice v.a v.len v.cap] L (.bool true) := by
  refine Reads.of (args := [.slice v.a v.len v.cap]) noNum mixed Try.func4 (e4 v _) ?_
  unfold t4
  have hvl := hv.len
  refine ifD_of (fun _ => cl_rd (images_rd _) (true, ()) rfl (.of ⟨rfl, rfl⟩)) (fun (hl : ¬ (v.len : Int) > 1000) => ?_)
  refine cl_in [] [] (pparse_cl L v b hv (by omega)) (by simp) ?_
  rintro _ _ - ⟨s1, sg1, rfl, rfl, own1⟩
  rw [List.append_nil, List.nil_append]
  generalize hr : parR b = r at own1
  obtain ⟨hd, q, e⟩ := r
  simp only at own1 ⊢
  refine ⟨(hd, s1, e, ()), rfl, nw_of fun n1 _ => st_of [] _ rfl rfl (by simp) (.inl (Nat.le_refl _)) #[.int .i64 hd.1, .int .i64 hd.2.1, .int .i64 hd.2.2.1, .int .i64 hd.2.2.2.1, .int .i64 hd.2.2.2.2.1] rfl ?_⟩
  rw [List.nil_append]
  have l1 : ∀ {Z : HList}, (n1, Obj.cells #[.int .i64 hd.1, .int .i64 hd.2.1, .int .i64 hd.2.2.1, .int .i64 hd.2.2.2.1, .int .i64 hd.2.2.2.2.1] 23) ∈ Z → LdAt ⟨n1, 0, none⟩ (hEnc hd) Z := fun hm => ldB hm rfl
  generalize (n1, Obj.cells #[.int .i64 hd.1, .int .i64 hd.2.1, .int .i64 hd.2.2.1, .int .i64 hd.2.2.2.1, .int .i64 hd.2.2.2.2.1] 23) = o1 at l1 ⊢
  refine cl_in [] [] (rparse_cl (o1 :: (sg1 ++ L)) v b hv.right.cons (by omega)) (by simp) ?_
  rintro _ _ - ⟨s2, sg2, rfl, rfl, own2⟩
  rw [List.append_nil, List.nil_append]
  rw [hr] at own2 ⊢
  simp only at own2 ⊢
  refine ⟨(hd, s2, e, ()), rfl, nw_of fun n2 _ => st_of [] _ rfl rfl (by simp) (.inl (Nat.le_refl _)) #[.int .i64 hd.1, .int .i64 hd.2.1, .int .i64 hd.2.2.1, .int .i64 hd.2.2.2.1, .int .i64 hd.2.2.2.2.1] rfl ?_⟩
  rw [List.nil_append]
  have l2 : ∀ {Z : HList}, (n2, Obj.cells #[.int .i64 hd.1, .int .i64 hd.2.1, .int .i64 hd.2.2.1, .int .i64 hd.2.2.2.1, .int .i64 hd.2.2.2.2.1] 23) ∈ Z → LdAt ⟨n2, 0, none⟩ (hEnc hd) Z := fun hm => ldB hm rfl
  generalize (n2, Obj.cells #[.int .i64 hd.1, .int .i64 hd.2.1, .int .i64 hd.2.2.1, .int .i64 hd.2.2.2.1, .int .i64 hd.2.2.2.2.1] 23) = o2 at l2 ⊢
  refine ld_of hd (l1 (by simp)) (ld_of hd (l2 (by simp)) (eqHd _ _ _ _ _ _ _ _ _ _ (ifT (by simp) ?_)))
  refine cl_rd (same_rd _ s1 s2 _ own1.sl.left.cons.right.cons own2.sl.left.cons) (true, ()) rfl (ifT rfl (ifT (by simp) ?_))
  refine cl_rd (pblank_rd _ v b hv.right.cons.right.cons (by omega)) (pblank b, ()) rfl (cl_rd (rblank_rd _ v b hv.right.cons.right.cons (by omega)) (pblank b, ()) rfl (ifT (by simp) (cl_rd (images_rd _) (true, ()) rfl (.cons (.app (.cons (.app (.of ⟨rfl, rfl⟩))))))))
theorem law_PageBack (L : HList) (h : Hd) (v : SlV) (p : List UInt8) (hv : BSl L v p) (size : Int) (hs : -9223372036854775808 ≤ size ∧ size ≤ 9223372036854775807) (u : SlV) (b : List UInt8) (hu : BSl L u b) :
    Reads PP 5 #[.agg #[.int .i64 h.1, .int .i64 h.2.1, .int .i64 h.2.2.1, .int .i64 h.2.2.2.1, .int .i64 h.2.2.2.2.1], .slice v.a v.len v.cap, .int .i64 size, .slice u.a u.len u.cap] L (.bool true) := by
  refine Reads.of (args := [.agg #[.int .i64 h.1, .int .i64 h.2.1, .int .i64 h.2.2.1, .int .i64 h.2.2.2.1, .int .i64 h.2.2.2.2.1], .slice v.a v.len v.cap, .int .i64 size, .slice u.a u.len u.cap]) noNum mixed Try.func5 (e5 h v size u _) ?_
  unfold t5
  have hvl := hv.len
  have hul := hu.len
  refine nw_of fun n1 _ => ?_
  have l1 : ∀ {Z : HList}, (n1, Obj.cells #[.int .i64 h.1, .int .i64 h.2.1, .int .i64 h.2.2.1, .int .i64 h.2.2.2.1, .int .i64 h.2.2.2.2.1] 23) ∈ Z → LdAt ⟨n1, 0, none⟩ (hEnc h) Z := fun hm => ldB hm rfl
  generalize (n1, Obj.cells #[.int .i64 h.1, .int .i64 h.2.1, .int .i64 h.2.2.1, .int .i64 h.2.2.2.1, .int .i64 h.2.2.2.2.1] 23) = o1 at l1 ⊢
  refine ifD_of (fun _ => cl_rd (images_rd _) (true, ()) rfl (.cons (.of ⟨rfl, rfl⟩))) (fun (hl1 : ¬ (v.len : Int) > 1000) => ?_)
  refine ifD_of (fun _ => cl_rd (images_rd _) (true, ()) rfl (.cons (.of ⟨rfl, rfl⟩))) (fun (hl2 : ¬ (u.len : Int) > 1000) => ?_)
  refine cl_in [] [] (pparse_cl (o1 :: L) u b hu.cons (by omega)) (by simp) ?_
  rintro _ _ - ⟨s1, sg1, rfl, rfl, own1⟩
  rw [List.append_nil, List.nil_append]
  have hback := img_par (b := b)
  generalize parR b = r at own1 hback
  obtain ⟨hd, q, e⟩ := r
  simp only at own1 hback ⊢
  refine ⟨(hd, s1, e, ()), rfl, nw_of fun n2 _ => st_of [] _ rfl rfl (by simp) (.inl (Nat.le_refl _)) #[.int .i64 hd.1, .int .i64 hd.2.1, .int .i64 hd.2.2.1, .int .i64 hd.2.2.2.1, .int .i64 hd.2.2.2.2.1] rfl ?_⟩
  rw [List.nil_append]
  refine jn_of (fun (_ : RsV []) L' => ∃ G, L' = G ++ (n2, Obj.cells #[.int .i64 hd.1, .int .i64 hd.2.1, .int .i64 hd.2.2.1, .int .i64 hd.2.2.2.1, .int .i64 hd.2.2.2.2.1] 23) :: (sg1 ++ (o1 :: L))) ?_ ?_
  · rintro ⟨⟩ _ ⟨G, rfl⟩
    refine ld_of h (l1 (by simp)) (cl_in [] [] (pimage_cl (G ++ (n2, Obj.cells #[.int .i64 hd.1, .int .i64 hd.2.1, .int .i64 hd.2.2.1, .int .i64 hd.2.2.2.1, .int .i64 hd.2.2.2.2.1] 23) :: (sg1 ++ (o1 :: L))) h v p hv.cons.right.cons.right size hs) (by simp) ?_)
    rintro _ _ - ⟨s7, sg7, rfl, rfl, own7⟩
    rw [List.append_nil, List.nil_append]
    have fin : ∀ (X : HList) (o : Nat × Obj), HL.Ends (fun v L' => v = Value.bool true ∧ L' = L) (.bool true) (X ++ o :: (sg1 ++ (o1 :: L))) := fun X o => .app (.cons (.app (.cons (.of ⟨rfl, rfl⟩))))
    rcases imgR_cases h p size with ⟨e0, S, rfl, hS, hok, hpl, himg⟩ | ⟨e0, e1⟩
    · rw [himg] at own7 ⊢
      obtain ⟨hp1, hp2⟩ := par_img hok p hS hpl
      have hln := iAll_len (h := h) (p := p) (S := S) (by omega) hpl
      generalize iAll h p S = im at own7 hp1 hp2 hln
      have hs7 := own7.sl.len
      rw [bvs_length, hln, Nat.mul_one] at hs7
      refine ⟨(s7, 0, ()), rfl, ifF rfl (cl_in [] [] (pparse_cl (sg7 ++ (G ++ (n2, Obj.cells #[.int .i64 hd.1, .int .i64 hd.2.1, .int .i64 hd.2.2.1, .int .i64 hd.2.2.2.1, .int .i64 hd.2.2.2.2.1] 23) :: (sg1 ++ (o1 :: L)))) s7 im own7.sl.left (by omega)) (by simp) ?_)⟩
      rintro _ _ - ⟨s9, sg9, rfl, rfl, own9⟩
      rw [hp1] at own9 ⊢
      rw [List.append_nil, List.nil_append]
      simp only
      refine ⟨(h, s9, 0, ()), rfl, st_of (n := n2) (off := 0) (c := #[.int .i64 hd.1, .int .i64 hd.2.1, .int .i64 hd.2.2.1, .int .i64 hd.2.2.2.1, .int .i64 hd.2.2.2.2.1]) (T := 23) (fz := (0, 0)) (sg9 ++ (sg7 ++ G)) (sg1 ++ (o1 :: L)) rfl (by simp) (by simp) (.inl (Nat.le_refl _)) #[.int .i64 h.1, .int .i64 h.2.1, .int .i64 h.2.2.1, .int .i64 h.2.2.2.1, .int .i64 h.2.2.2.2.1] rfl ?_⟩
      have l2 : LdAt ⟨n2, 0, none⟩ (hEnc h) (sg9 ++ (sg7 ++ G) ++ (n2, Obj.cells #[.int .i64 h.1, .int .i64 h.2.1, .int .i64 h.2.2.1, .int .i64 h.2.2.2.1, .int .i64 h.2.2.2.2.1] 23) :: (sg1 ++ (o1 :: L))) := ldB (n := n2) (c := #[.int .i64 h.1, .int .i64 h.2.1, .int .i64 h.2.2.1, .int .i64 h.2.2.2.1, .int .i64 h.2.2.2.2.1]) (T := 23) (fz := (0, 0)) (by simp) rfl
      refine ld_of h l2 (ld_of h (l1 (by simp)) (eqHd _ _ _ _ _ _ _ _ _ _ (ifT (by simp) ?_)))
      refine cl_rd (same_rd _ s9 v p own9.sl.left.left (hv.cons.right.cons.right)) (true, ()) rfl (ifT rfl (ifT rfl (ifT (by show ((s7.len : Int) == (S : Int)) = true; rw [hs7]; simp) ?_)))
      have hroom : roomOf (S : Int) = ((S - 16 : Nat) : Int) := by unfold roomOf; rw [if_pos (by omega)]; omega
      refine cl_rd (proom_rd _ S) (roomOf S, ()) rfl ?_
      rw [hroom]
      exact ifP (show (v.len : Int) ≤ ((S - 16 : Nat) : Int) by omega) (cl_rd (images_rd _) (true, ()) rfl (fin _ _))
    · rw [e1] at own7
      have hs7 := own7.sl.len
      rw [bvs_length, Nat.mul_one] at hs7
      refine ⟨(s7, (imgR h p size).2, ()), rfl, ifT (by simpa using e0) (ifT (by show ((s7.len : Int) == 0) = true; rw [hs7]; rfl) (cl_rd (images_rd _) (true, ()) rfl ?_))⟩
      rw [← List.append_assoc]
      exact fin _ _
  intro j hj
  refine ifE_of (fun he => ?_) (fun he => hj _ _ ⟨[], rfl⟩)
  have he' : e = 0 := he
  obtain ⟨hS, hok, hql, hag, hbk⟩ := hback he'
  have l2 : LdAt ⟨n2, 0, none⟩ (hEnc hd) ((n2, Obj.cells #[.int .i64 hd.1, .int .i64 hd.2.1, .int .i64 hd.2.2.1, .int .i64 hd.2.2.2.1, .int .i64 hd.2.2.2.2.1] 23) :: (sg1 ++ (o1 :: L))) := ldB List.mem_cons_self rfl
  have hul' : ((u.len : Nat) : Int) = ((b.length : Nat) : Int) := by omega
  refine ld_of hd l2 ?_
  rw [hul']
  refine cl_in [] [] (pimage_cl ((n2, Obj.cells #[.int .i64 hd.1, .int .i64 hd.2.1, .int .i64 hd.2.2.1, .int .i64 hd.2.2.2.1, .int .i64 hd.2.2.2.2.1] 23) :: (sg1 ++ (o1 :: L))) hd s1 q own1.sl.left.cons (b.length : Int) (by omega)) (by simp) ?_
  rintro _ _ - ⟨s4, sg4, rfl, rfl, own4⟩
  rw [List.append_nil, List.nil_append]
  rw [imgR_ok hS hok hql, hag] at own4
  rw [imgR_ok hS hok hql]
  refine ⟨(s4, 0, ()), rfl, ifF rfl (cl_rd (same_rd _ u s4 b (hu.cons.right.cons.right) own4.sl.left) (true, ()) rfl (ifF rfl (cl_rd (pblank_rd _ u b (hu.cons.right.cons.right) (by omega)) (false, ()) (by rw [hbk]; rfl) (ifF rfl (hj _ _ ⟨sg4, rfl⟩)))))⟩
end Go.Proofs.Ytaniefdpjommnaa
