/-
  It is proved that the example of the layer flash holds, and that the law FlashNil returns true for every input. There are no further conditions.
-/
import Derived.Test.YtaniefdpjommnaaFlash6
set_option linter.unusedVariables false
set_option linter.unusedSimpArgs false
namespace Go.Proofs.Ytaniefdpjommnaa
open Go.HL

def zz : List UInt8 := List.replicate 64 0
def x0 : Dev := fresh (cfg (2, 4, 64, 3, ()))
def x1 : Dev := (prog x0 0 0 zz).2
def x2 : Dev := (prog x1 0 0 zz).2
def x3 : Dev := arm x2 1 3
def x4 : Dev := (prog x3 0 1 zz).2
def x5 : Dev := restart x4
def x6 : Dev := (eraseR x5 0).2
theorem right0 : right (2, 4, 64, 3, ()) := by unfold right; simp
theorem x0_ok : DvOk x0 := fresh_ok (cfg_ok right0)
theorem x1_ok : DvOk x1 := prog_ok x0_ok _ _ _
theorem x2_ok : DvOk x2 := prog_ok x1_ok _ _ _
theorem x3_ok : DvOk x3 := arm_ok x2_ok (by decide)
theorem x4_ok : DvOk x4 := prog_ok x3_ok _ _ _
theorem x5_ok : DvOk x5 := restart_ok x4_ok
theorem x6_ok : DvOk x6 := erase_ok x5_ok _
theorem x_0 : (prog x0 0 0 zz).1 = 0 := by decide +kernel
theorem x_1 : (prog x1 0 0 zz).1 = 9 := by decide +kernel
theorem x_3 : (prog x3 0 1 zz).1 = 11 := by decide +kernel
theorem x_4 : x4.down = true := by decide +kernel
theorem x_5 : readR x5 0 1 = (List.replicate 3 0 ++ List.replicate 61 255, 0) := by decide +kernel
theorem x_5t : x5.torn.map Tn.p = [1] := by decide +kernel
theorem x_6 : (eraseR x5 0).1 = 0 := by decide +kernel
theorem x_6d : x6.down = false := by decide +kernel
theorem x_6w : wearOf x6 0 = 1 := by decide +kernel
theorem x_6n : nextOf x6 0 = 0 := by decide +kernel
theorem x_6y : x6.bytes = 128 := by decide +kernel
theorem x_6b : badOf x6 0 = false := by decide +kernel
theorem x_6c : cfV x6.c = .agg #[.int .i64 2, .int .i64 4, .int .i64 64, .int .i64 3] := by kernel_rfl
theorem torn1 : x1.torn.length ≤ 1048576 := by decide +kernel
theorem torn2 : x2.torn.length ≤ 1048576 := by decide +kernel
theorem torn3 : x3.torn.length ≤ 1048576 := by decide +kernel
theorem torn5 : x5.torn.length ≤ 1048576 := by decide +kernel
theorem burns_rd (L : HList) : Reads PP 24 #[] L (.bool true) := by
  refine Reads.of (args := []) noNum mixed Try.func24 (e24 _) ?_
  unfold t24
  refine cl_rd (device_rd L) ((2, 4, 64, 3, ()), ()) rfl ?_
  refine cl_in [] L (new_cl (2, 4, 64, 3, ())) rfl ?_
  rintro _ A0 - (⟨hn, -, -⟩ | ⟨-, m, rfl, h0⟩)
  · exact absurd right0 hn
  rw [List.nil_append]
  refine ⟨(some ⟨m, 0, none⟩, 0, ()), rfl, ?_⟩
  refine cl_in A0 L (new_cl (0, 0, 0, 0, ())) (by simp) ?_
  rintro _ _ - (⟨-, rfl, rfl⟩ | ⟨hn, -⟩)
  case inr => exact absurd hn (by unfold right; simp)
  rw [List.append_nil]
  refine ⟨(none, 30, ()), rfl, ifF rfl (ifF rfl ?_)⟩
  refine make_of elemB (l := 64) (c := 64) (Nat.le_refl _) (by decide) fun n ob own _ _ => ?_
  rw [zeros_bvs] at own
  have hz : BSl ((n, ob) :: L) ⟨some ⟨n, 0, none⟩, 64, 64⟩ zz := own.sl.head
  have hd : ∀ A : HList, HL.Ends (fun v' L' => v' = Value.bool true ∧ L' = L) (.bool true) (A ++ ((n, ob) :: L)) := fun A => .app (.cons (.of ⟨rfl, rfl⟩))
  have hp0 : ((n, ob) :: (A0 ++ L)).Perm ((A0 ++ ((n, ob) :: L)) ++ []) := by rw [List.append_nil]; exact List.perm_middle.symm
  generalize ((n, ob) :: L) = R at hz hd hp0
  refine cl_pm (program_cl m x0 A0 R h0 x0_ok (by decide) 0 0 ⟨some ⟨n, 0, none⟩, 64, 64⟩ zz hz) hp0 ?_
  rintro _ _ ⟨A1, rfl, rfl, h1⟩
  rw [x_0]
  refine ⟨A1 ++ R, by rw [List.append_nil], (0, ()), rfl, ?_⟩
  refine cl_in [] [] (program_cl m x1 A1 R h1 x1_ok torn1 0 0 ⟨some ⟨n, 0, none⟩, 64, 64⟩ zz hz) (by simp) ?_
  rintro _ _ - ⟨A2, rfl, rfl, h2⟩
  rw [x_1, List.nil_append, List.append_nil]
  refine ⟨(9, ()), rfl, ?_⟩
  refine cl_in [] R (arm_cl m x2 A2 h2 1 3) rfl ?_
  rintro _ A3 - ⟨rfl, h3⟩
  rw [List.nil_append]
  refine ⟨(), rfl, ?_⟩
  refine cl_in [] [] (program_cl m x3 A3 R h3 x3_ok torn3 0 1 ⟨some ⟨n, 0, none⟩, 64, 64⟩ zz hz) (by simp) ?_
  rintro _ _ - ⟨A4, rfl, rfl, h4⟩
  rw [x_3, List.nil_append, List.append_nil]
  refine ⟨(11, ()), rfl, ?_⟩
  refine cl_rd (Reads.in (X := []) (Y := R) (down_rd m x4 A4 h4)) (x4.down, ()) rfl ?_
  refine cl_in [] R (restart_cl m x4 A4 h4) rfl ?_
  rintro _ A5 - ⟨rfl, h5⟩
  rw [List.nil_append]
  refine ⟨(), rfl, ?_⟩
  have h5' : FH m x5 A5 := h5
  refine cl_in [] R (read_cl m x5 A5 h5' x5_ok 0 1) rfl ?_
  rintro _ _ - ⟨g, rfl, rfl, hg, hgl⟩
  rw [x_5] at hgl ⊢
  refine ⟨(g.v, 0, ()), rfl, ?_⟩
  refine cl_in g.seg R (torn_cl m x5 A5 h5' x5_ok torn5) (by simp) ?_
  rintro _ _ - ⟨tv, tseg, ts, rfl, rfl, town, tok, tmap⟩
  refine ⟨(tv, ()), rfl, ?_⟩
  refine cl_in (g.seg ++ (tseg ++ tsegs ts)) R (erase_cl m x5 A5 h5' x5_ok 0) (by simp) ?_
  rintro _ A6 - ⟨rfl, h6⟩
  rw [x_6]
  have h6' : FH m x6 A6 := h6
  refine ⟨(0, ()), rfl, ifT rfl (ifT rfl (ifT rfl (ifT x_4 ?_)))⟩
  have hgs : BSl (g.seg ++ (tseg ++ tsegs ts) ++ A6 ++ R) g.v (List.replicate 3 0 ++ List.replicate 61 255) := by
    have : BSl g.seg g.v g.l := hg.sl
    rw [hgl] at this
    exact this.left.left.left
  have htl : ts.map PT.p = [1] := by
    have : (ts.map PT.tn).map Tn.p = [1] := by rw [tmap]; exact x_5t
    rw [List.map_map] at this
    exact this
  have hts : Sl (g.seg ++ (tseg ++ tsegs ts) ++ A6 ++ R) tv 4 (ts.flatMap PT.enc) := town.sl.left.right.left.left
  obtain ⟨t, rfl, htp⟩ : ∃ t, ts = [t] ∧ t.p = 1 := by
    cases ts with
    | nil => simp at htl
    | cons t r => cases r with
      | nil => exact ⟨t, rfl, by simpa using htl⟩
      | cons t2 r => simp at htl
  have htvl : tv.len = 1 := hts.els_len PT.enc_len (by decide)
  have hgvl : g.v.len = 64 := hgs.len
  obtain ⟨ta, hta, htld⟩ := hts.el (i := 0) PT.enc_len (by decide) (by simp)
  obtain ⟨ga, hga⟩ := hgs.some (i := 0) (by decide)
  refine cl_rd (Reads.in (X := g.seg ++ (tseg ++ tsegs [t])) (Y := R) (down_rd m x6 A6 h6')) (x6.down, ()) rfl (ifT (by rw [x_6d]; rfl) (ifT (by rw [hgvl]; rfl) ?_))
  refine nilc_of hga (ixn_of (by decide) (show (2 : Int) < g.v.len by omega) (ld_of (0 : Int) (hgs.rd (i := 2) (by decide) hga _ rfl) (ifT rfl ?_)))
  refine nilc_of hga (ixn_of (by decide) (show (3 : Int) < g.v.len by omega) (ld_of (255 : Int) (hgs.rd (i := 3) (by decide) hga _ rfl) (ifT rfl (ifT rfl (ifT (by rw [htvl]; rfl) ?_)))))
  refine nilc_of hta (ixn_of (by decide) (show (0 : Int) < tv.len by omega) (ld_of (t.p : Int) (htld.one 1 rfl) (ifT (by rw [htp]; rfl) (ifT rfl ?_))))
  refine cl_rd (Reads.in (X := g.seg ++ (tseg ++ tsegs [t])) (Y := R) (wear_rd m x6 A6 h6' x6_ok 0)) (wearOf x6 0, ()) rfl (ifT (by rw [x_6w]; rfl) ?_)
  refine cl_rd (Reads.in (X := g.seg ++ (tseg ++ tsegs [t])) (Y := R) (next_rd m x6 A6 h6' x6_ok 0)) (nextOf x6 0, ()) rfl (ifT (by rw [x_6n]; rfl) ?_)
  refine cl_rd (Reads.in (X := g.seg ++ (tseg ++ tsegs [t])) (Y := R) (bytes_rd m x6 A6 h6')) (x6.bytes, ()) rfl (ifT (by rw [x_6y]; rfl) ?_)
  refine cl_rd (Reads.in (X := g.seg ++ (tseg ++ tsegs [t])) (Y := R) (bad_rd m x6 A6 h6' x6_ok 0)) (badOf x6 0, ()) rfl (ifT (by rw [x_6b]; rfl) ?_)
  refine cl_in (g.seg ++ (tseg ++ tsegs [t])) R (config_rd m x6 A6 h6') rfl ?_
  rintro _ _ - ⟨rfl, rfl⟩
  refine ⟨((2, 4, 64, 3, ()), ()), by rw [x_6c]; rfl, ?_⟩
  refine cl_rd (device_rd _) ((2, 4, 64, 3, ()), ()) rfl (eqDv _ _ _ _ _ _ _ _ ?_)
  exact hd _

/-! ### no device -/
section
variable (L : HList) (b p n k : Int)
theorem at_nil : Reads PP 61 #[.pointer none, .int .i64 b] L (.pointer none) := by
  refine Reads.of (args := [.pointer none, .int .i64 b]) noNum mixed Try.func61 (e61 none b _) ?_
  unfold t61
  exact ifT rfl (.of ⟨rfl, rfl⟩)
theorem find_nil : Reads PP 62 #[.pointer none, .int .i64 b, .int .i64 p] L (.tuple #[.pointer none, .int .i64 1]) := by
  refine Reads.of (args := [.pointer none, .int .i64 b, .int .i64 p]) noNum mixed Try.func62 (e62 none b p _) ?_
  unfold t62
  exact ifT rfl (.of ⟨rfl, rfl⟩)
theorem arm_nil : Reads PP 34 #[.pointer none, .int .i64 n, .int .i64 k] L (.tuple #[]) := by
  refine Reads.of (args := [.pointer none, .int .i64 n, .int .i64 k]) noNum mixed Try.func34 (e34 none n k _) ?_
  unfold t34
  exact ifF rfl (.of ⟨rfl, rfl⟩)
theorem restart_nil : Reads PP 35 #[.pointer none] L (.tuple #[]) := by
  refine Reads.of (args := [.pointer none]) noNum mixed Try.func35 (e35 none _) ?_
  unfold t35
  exact ifF rfl (.of ⟨rfl, rfl⟩)
theorem read_nil : Reads PP 36 #[.pointer none, .int .i64 b, .int .i64 p] L (.tuple #[.slice none 0 0, .int .i64 1]) := by
  refine Reads.of (args := [.pointer none, .int .i64 b, .int .i64 p]) noNum mixed Try.func36 (e36 none b p _) ?_
  unfold t36
  exact cl_rd (find_nil L b p) (none, 1, ()) rfl (ifT rfl (.of ⟨rfl, rfl⟩))
theorem program_nil (u : SlV) : Reads PP 37 #[.pointer none, .int .i64 b, .int .i64 p, .slice u.a u.len u.cap] L (.int .i64 1) := by
  refine Reads.of (args := [.pointer none, .int .i64 b, .int .i64 p, .slice u.a u.len u.cap]) noNum mixed Try.func37 (e37 none b p u _) ?_
  unfold t37
  exact cl_rd (find_nil L b p) (none, 1, ()) rfl (ifT rfl (.of ⟨rfl, rfl⟩))
theorem erase_nil : Reads PP 38 #[.pointer none, .int .i64 b] L (.int .i64 1) := by
  refine Reads.of (args := [.pointer none, .int .i64 b]) noNum mixed Try.func38 (e38 none b _) ?_
  unfold t38
  exact cl_rd (find_nil L b 0) (none, 1, ()) rfl (ifT rfl (.of ⟨rfl, rfl⟩))
theorem next_nil : Reads PP 28 #[.pointer none, .int .i64 b] L (.int .i64 0) := by
  refine Reads.of (args := [.pointer none, .int .i64 b]) noNum mixed Try.func28 (e28 none b _) ?_
  unfold t28
  exact cl_rd (at_nil L b) (none, ()) rfl (ifF rfl (.of ⟨rfl, rfl⟩))
theorem wear_nil : Reads PP 29 #[.pointer none, .int .i64 b] L (.int .i64 0) := by
  refine Reads.of (args := [.pointer none, .int .i64 b]) noNum mixed Try.func29 (e29 none b _) ?_
  unfold t29
  exact cl_rd (at_nil L b) (none, ()) rfl (ifF rfl (.of ⟨rfl, rfl⟩))
theorem bad_nil : Reads PP 30 #[.pointer none, .int .i64 b] L (.bool false) := by
  refine Reads.of (args := [.pointer none, .int .i64 b]) noNum mixed Try.func30 (e30 none b _) ?_
  unfold t30
  exact cl_rd (at_nil L b) (none, ()) rfl (ifF rfl (.of ⟨rfl, rfl⟩))
theorem bytes_nil : Reads PP 26 #[.pointer none] L (.int .i64 0) := by
  refine Reads.of (args := [.pointer none]) noNum mixed Try.func26 (e26 none _) ?_
  unfold t26
  exact ifT rfl (.of ⟨rfl, rfl⟩)
theorem down_nil : Reads PP 27 #[.pointer none] L (.bool false) := by
  refine Reads.of (args := [.pointer none]) noNum mixed Try.func27 (e27 none _) ?_
  unfold t27
  exact ifF rfl (.of ⟨rfl, rfl⟩)
theorem torn_nil : Reads PP 32 #[.pointer none] L (.slice none 0 0) := by
  refine Reads.of (args := [.pointer none]) noNum mixed Try.func32 (e32 none _) ?_
  unfold t32
  exact ifT rfl (.of ⟨rfl, rfl⟩)
theorem config_nil : Reads PP 33 #[.pointer none] L (.agg #[.int .i64 0, .int .i64 0, .int .i64 0, .int .i64 0]) := by
  refine Reads.of (args := [.pointer none]) noNum mixed Try.func33 (e33 none _) ?_
  unfold t33
  refine nw_of fun q _ => ifT rfl (st_of (n := q) (off := 0) (c := #[.int .i64 0, .int .i64 0, .int .i64 0, .int .i64 0]) (T := 44) (fz := (0, 0)) [] _ rfl rfl (by simp) (.inl (Nat.le_refl _)) #[.int .i64 0, .int .i64 0, .int .i64 0, .int .i64 0] rfl ?_)
  exact ld_of (0, 0, 0, 0, ()) (ldB List.mem_cons_self rfl) (.cons (.of ⟨rfl, rfl⟩))
end
theorem law_FlashNil (L : HList) (x : FA) : Reads PP 8 #[faV x] L (.bool true) := by
  obtain ⟨kd, b, p, ⟨u, data⟩, n, kp, ⟨⟩⟩ := x
  refine Reads.of (args := [faV (kd, b, p, (u, data), n, kp, ())]) noNum mixed Try.func8 (e8 (kd, b, p, u, n, kp, ()) _) ?_
  unfold t8
  refine nw_of fun n1 _ => ?_
  generalize ho : ((n1, Obj.cells #[.int .i64 kd, .int .i64 b, .int .i64 p, .slice u.a u.len u.cap, .int .i64 n, .int .i64 kp] 55) : Nat × Obj) = o1
  have lo : LdAt ⟨n1, 0, none⟩ [.int .i64 kd, .int .i64 b, .int .i64 p, .slice u.a u.len u.cap, .int .i64 n, .int .i64 kp] (o1 :: L) := ldB (by rw [← ho]; exact List.mem_cons_self) rfl
  clear ho
  refine ld_of n (lo.one 4 rfl) (ld_of kp (lo.one 5 rfl) (cl_rd (arm_nil _ n kp) () rfl (cl_rd (restart_nil _) () rfl ?_)))
  refine ld_of b (lo.one 1 rfl) (ld_of p (lo.one 2 rfl) (cl_rd (read_nil _ b p) (⟨none, 0, 0⟩, 1, ()) rfl ?_))
  refine ld_of b (lo.one 1 rfl) (ld_of p (lo.one 2 rfl) (ld_of u (lo.one 3 rfl) (cl_rd (program_nil _ b p u) (1, ()) rfl (ifT rfl (ifT rfl ?_)))))
  refine ld_of b (lo.one 1 rfl) (cl_rd (erase_nil _ b) (1, ()) rfl (ifT rfl ?_))
  refine ld_of b (lo.one 1 rfl) (ld_of b (lo.one 1 rfl) (cl_rd (next_nil _ b) (0, ()) rfl (keep_of (lo.one 1 rfl) (cl_rd (wear_nil _ b) (0, ()) rfl (cl_rd (bytes_nil _) (0, ()) rfl (ifT (by decide) ?_))))))
  refine ld_of b (lo.one 1 rfl) (cl_rd (bad_nil _ b) (false, ()) rfl (ifT rfl (cl_rd (down_nil _) (false, ()) rfl (ifT rfl (cl_rd (torn_nil _) (⟨none, 0, 0⟩, ()) rfl (ifT rfl ?_))))))
  refine cl_rd (config_nil _) ((0, 0, 0, 0, ()), ()) rfl (eqDv _ _ _ _ _ _ _ _ (ifT (by decide) (cl_rd (burns_rd _) (true, ()) rfl (.cons (.of ⟨rfl, rfl⟩)))))
abbrev faWf (W : World) (x : FA) : Prop := intWf .i64 x.1 ∧ intWf .i64 x.2.1 ∧ intWf .i64 x.2.2.1 ∧ SlOk W (fun b => [bv b]) (fun _ => True) 1 x.2.2.2.1 ∧ intWf .i64 x.2.2.2.2.1 ∧ intWf .i64 x.2.2.2.2.2.1 ∧ True
theorem row_FlashNil (W : World) (a0 : FA) (w0 : faWf W a0) : Reads PP 8 #[.agg #[.int .i64 a0.1, .int .i64 a0.2.1, .int .i64 a0.2.2.1, .slice a0.2.2.2.1.1.a a0.2.2.2.1.1.len a0.2.2.2.1.1.cap, .int .i64 a0.2.2.2.2.1, .int .i64 a0.2.2.2.2.2.1]] (allB W) (.bool true) := law_FlashNil _ a0
end Go.Proofs.Ytaniefdpjommnaa
