/-
  It is proved what the functions that the law StoreNil reaches compute, part 6. There are no further conditions than those that each theorem names.
-/
import Derived.Test.YtbaoieipijmakaaGreatDoorMStoreNil5
set_option linter.unusedVariables false
set_option linter.unusedSimpArgs false
namespace Go.Proofs.YtbaoieipijmakaaGreatDoor
open Go.HL
theorem A11 {L : A4} {b : Nat} {l : List UInt8} {T : TypeId} {fz : Nat × Nat} (cap : Nat) (hc : l.length <= cap) (hm : (b, Obj.cells (bvs l).toArray T fz) ∈ L) : BSl L ⟨some ⟨b, 0, none⟩, l.length, cap⟩ l :=
 ⟨by rw [E6]; simp, hc, .inr ⟨_, rfl, .blk hm fun i v hv => by simpa using hv⟩⟩
theorem Ce0 : PP.underlying 27 = some (.slice 5) := by kernel_rfl
theorem Cd9 : PP.underlying 5 = some (.int .u8) := by kernel_rfl
section
variable (L : A4) (key : ByteArray)
theorem Ce9 (u : SlV) : Reads PP 17 #[.pointer none, .string key, .slice u.a u.len u.cap] L (.i 1) := by
 unfold Reads
 refine c17 none key u ?_
 unfold s17
 exact B3 (S1 L key) (1, ()) rfl (ifN (by decide) (.of ⟨rfl, rfl⟩))
theorem Cf7 : Reads PP 25 #[.pointer none, .string key] L (.tuple #[.slice none 0 0, .i 1]) := by
 unfold Reads
 refine c25 none key ?_
 unfold s25
 exact B3 (S1 L key) (1, ()) rfl (ifN (by decide) (.of ⟨rfl, rfl⟩))
theorem Bz0 : Reads PP 20 #[.pointer none, .string key] L (.tuple #[.slice none 0 0, .i 1]) := by
 unfold Reads
 refine c20 none key ?_
 unfold s20
 exact B3 (S1 L key) (1, ()) rfl (ifN (by decide) (.of ⟨rfl, rfl⟩))
theorem Bg9 : Reads PP 26 #[.pointer none, .string key] L (.tuple #[.bool false, .i 1]) := by
 unfold Reads
 refine c26 none key ?_
 unfold s26
 exact B3 (S1 L key) (1, ()) rfl (ifN (by decide) (.of ⟨rfl, rfl⟩))
theorem Cf6 : Reads PP 19 #[.pointer none, .string key] L (.i 0) := by
 unfold Reads
 refine c19 none key ?_
 unfold s19
 exact B3 (S1 L key) (1, ()) rfl (ifN (by decide) (.of ⟨rfl, rfl⟩))
theorem Bt2 : Reads PP 28 #[.pointer none, .string key] L (.i 0) := by
 unfold Reads
 refine c28 none key ?_
 unfold s28
 exact B3 (S1 L key) (1, ()) rfl (ifN (by decide) (.of ⟨rfl, rfl⟩))
theorem A76 : Reads PP 13 #[.pointer none, .string key] L (.bool false) := by
 unfold Reads
 refine c13 none key ?_
 unfold s13
 exact B3 (S1 L key) (1, ()) rfl (ifN (by decide) (.of ⟨rfl, rfl⟩))
theorem Ay0 : Reads PP 27 #[.pointer none] L (.i 1) := by
 unfold Reads
 refine c27 none ?_
 unfold s27
 exact ifT rfl (.of ⟨rfl, rfl⟩)
theorem By6 (now : Int) : Reads PP 24 #[.pointer none, .i now] L (.tuple #[]) := by
 unfold Reads
 refine c24 none now ?_
 unfold s24
 exact B3 (Bg0 L) (false, ()) rfl (ifF rfl (.of ⟨rfl, rfl⟩))
theorem A74 : Reads PP 31 #[.pointer none] L (.slice none 0 0) := by
 unfold Reads
 refine c31 none ?_
 unfold s31
 exact B3 (Bg0 L) (false, ()) rfl (ifF rfl (.of ⟨rfl, rfl⟩))
theorem Cf3 : Reads PP 29 #[.pointer none] L (.i 0) := by
 unfold Reads
 refine c29 none ?_
 unfold s29
 exact C3 fun n1 _ => A6 none (ldB List.mem_cons_self rfl) (B3 (Ao3 ⟨.func 67, #[], #[.pointer (some ⟨n1, 0, none⟩)]⟩) (0, ()) rfl (.drop (A := L) (J := [(n1, Obj.cells #[.pointer none] 28)]) ⟨rfl, rfl⟩ (pc fun z => by simp only [B7, C5, D8]; omega)))
theorem Br9 : Reads PP 30 #[.pointer none] L (.i 0) := by
 unfold Reads
 refine c30 none ?_
 unfold s30
 exact C3 fun n1 _ => A6 none (ldB List.mem_cons_self rfl) (B3 (Ao3 ⟨.func 69, #[], #[.pointer (some ⟨n1, 0, none⟩)]⟩) (0, ()) rfl (.drop (A := L) (J := [(n1, Obj.cells #[.pointer none] 28)]) ⟨rfl, rfl⟩ (pc fun z => by simp only [B7, C5, D8]; omega)))
theorem Bg1 : Reads PP 14 #[.pointer none] L (.i 0) := by
 unfold Reads
 refine c14 none ?_
 unfold s14
 exact C3 fun n1 _ => A6 none (ldB List.mem_cons_self rfl) (B3 (Ao3 ⟨.func 43, #[], #[.pointer (some ⟨n1, 0, none⟩)]⟩) (0, ()) rfl (.drop (A := L) (J := [(n1, Obj.cells #[.pointer none] 28)]) ⟨rfl, rfl⟩ (pc fun z => by simp only [B7, C5, D8]; omega)))
theorem Bg3 : Reads PP 23 #[.pointer none] L (.i 0) := by
 unfold Reads
 refine c23 none ?_
 unfold s23
 exact C3 fun n1 _ => A6 none (ldB List.mem_cons_self rfl) (B3 (Ao3 ⟨.func 55, #[], #[.pointer (some ⟨n1, 0, none⟩)]⟩) (0, ()) rfl (.drop (A := L) (J := [(n1, Obj.cells #[.pointer none] 28)]) ⟨rfl, rfl⟩ (pc fun z => by simp only [B7, C5, D8]; omega)))
theorem Aj7 : Reads PP 37 #[] L (.agg #[.i 4, .i 8, .i 64, .i 1000, .i 4, .i 4, .i 12, .i 8, .i 1000, .i 4000, .i 0]) := by
 unfold Reads
 refine c37 ?_
 unfold s37
 exact .of ⟨rfl, rfl⟩
end
def zO (n : Nat) (c : Array Value) : Nat × Obj := (n, Obj.cells c 5 (c.size, c.size + 1))
theorem exe2 : (Cs6.put kA v5).1 = Cs5 := by unfold Cs5; exact rfl
theorem exe3 : (Cs5.put kB v5).1 = Cs4 := by unfold Cs4; exact rfl
theorem exe4 : (Cs4.put kC v1).1 = Bx3 := by unfold Bx3; exact rfl
theorem exe5 : (Bx3.put kA v1).1 = C26 := by unfold C26; exact rfl
theorem exe6 : (C26.get kA).1 = Cs3 := by unfold Cs3; exact rfl
theorem exe7 : (Cs3.delete kA).1 = B85 := by unfold B85; exact rfl
theorem exe8 : B85.flush.1 = C25 := by unfold C25; exact rfl
theorem exe9 : (C25.get kA).1 = Bf2 := by unfold Bf2; exact rfl
theorem Cr9 {p : SP} {s : Sto} {g : SG} {R : A4} : Has (SL p s g ++ R) (SL p s g) := ⟨R, List.Perm.refl _⟩
theorem Aq1 (L : A4) (hT : Tab L) : Reads PP 10 #[] L (.bool true) := by
 unfold Reads
 refine c10 ?_
 unfold s10
 refine B3 (Aj7 L) (exX, ()) rfl ?_
 refine G9 (A := []) (R := L) (new_cl (4, 8, 64, 1000, ())) (List.Perm.refl _) ?_
 rintro _ A0 (⟨hn, -, -⟩ | ⟨-, m, rfl, hA0⟩)
 ·exact absurd (by decide) hn
 have hA0 : FH m exD A0 := hA0
 refine ⟨A0 ++ L, List.Perm.refl _, (some ⟨m, 0, none⟩, 0, ()), rfl, ?_⟩
 refine B3 (Aj7 _) (exX, ()) rfl ?_
 have okD : S3 exD := Cl7 (Ct3 (c := (4, 8, 64, 1000, ())) (by decide))
 refine G9 (R := L) (Cf0 m exD A0 hA0 okD (by decide) exX 0) (List.Perm.refl _) ?_
 rintro _ _ (⟨e, he, -, -, -⟩ | ⟨s, p, g, he, rfl, -, rfl, X0, I0⟩)
 ·rw [ex0] at he; cases he
 rw [ex0] at he
 injection he with he1 _
 obtain rfl := Option.some.inj he1
 refine ⟨SL p exS0 g ++ L, List.Perm.refl _, (some ⟨p.n, 0, none⟩, 0, ()), rfl, ?_⟩
 refine B3 (Aj7 _) (exX, ()) rfl (B3 (Bz1 _ exX 0) (none, 1, ()) rfl ?_)
 have hll := B49 okD
 have I1 : N3 Cs6 4096 := (N3.tick (I0.upto hll) 9).1
 have I2 : N3 Cs5 104096 := (I1.put kA v5).1
 have I3 : N3 Cs4 204096 := (I2.put kB v5).1
 have I4 : N3 Bx3 304096 := (I3.put kC v1).1
 have I5 : N3 C26 404096 := (I4.put kA v1).1
 have I6 : N3 Cs3 404096 := (I5.get kA).1
 have I7 : N3 B85 404097 := (I6.delete kA).1
 have I8 : N3 C25 404097 := I7.flush.1
 have I9 : N3 Bf2 404097 := (I8.get kA).1
 refine Y6 (fun _ L' => L' = SL p exS0 g ++ L) ?_ ?_
 ·rintro _ _ rfl
  refine G9 (Ce2 p exS0 g X0 I0.ok.bk 9) (R := L) (List.Perm.refl _) ?_
  rintro _ _ ⟨g1, hL1, X1, rfl⟩
  rw [List.append_nil] at hL1
  rw [hL1]
  have X1 : SX p Cs6 g1 := X1
  refine ⟨SL p Cs6 g1 ++ L, List.Perm.refl _, (), rfl, ?_⟩
  refine C3 fun n1 _ => A29 Ce0 Cd9 ?_
  obtain ⟨c1, hc1⟩ : ∃ c1 : Nat × Obj, c1 = zO n1 #[.int .u8 49, .int .u8 50, .int .u8 51, .int .u8 52, .int .u8 53] := ⟨_, rfl⟩
  have hb1 : ∀ {Y : A4}, BSl (c1 :: Y) ⟨some ⟨n1, 0, none⟩, 5, 5⟩ v5 := A11 (l := v5) 5 (by decide) (by rw [hc1]; exact List.mem_cons_self)
  refine Aw8 (A08 p Cs6 g1 X1 I1 (by decide) (c1 :: L) hT.cons kA ⟨some ⟨n1, 0, none⟩, 5, 5⟩ v5 hb1) (by rw [hc1]; unfold zO; exact pc fun z => by simp only [B7, C5]; omega) ?_
  rintro _ _ ⟨g2, rfl, X2, rfl⟩
  rw [exe2] at X2 ⊢
  refine ⟨((Cs6.put kA v5).2, ()), rfl, C3 fun n2 _ => A29 Ce0 Cd9 ?_⟩
  obtain ⟨c2, hc2⟩ : ∃ c2 : Nat × Obj, c2 = zO n2 #[.int .u8 49, .int .u8 50, .int .u8 51, .int .u8 52, .int .u8 53] := ⟨_, rfl⟩
  have hb2 : ∀ {Y : A4}, BSl (c2 :: Y) ⟨some ⟨n2, 0, none⟩, 5, 5⟩ v5 := A11 (l := v5) 5 (by decide) (by rw [hc2]; exact List.mem_cons_self)
  refine Aw8 (A08 p Cs5 g2 X2 I2 (by decide) (c2 :: (c1 :: L)) hT.cons.cons kB ⟨some ⟨n2, 0, none⟩, 5, 5⟩ v5 hb2) (by rw [hc2]; unfold zO; exact pc fun z => by simp only [B7, C5]; omega) ?_
  rintro _ _ ⟨g3, rfl, X3, rfl⟩
  rw [exe3] at X3 ⊢
  refine ⟨((Cs5.put kB v5).2, ()), rfl, C3 fun n3 _ => A29 Ce0 Cd9 ?_⟩
  obtain ⟨c3, hc3⟩ : ∃ c3 : Nat × Obj, c3 = zO n3 #[.int .u8 49] := ⟨_, rfl⟩
  have hb3 : ∀ {Y : A4}, BSl (c3 :: Y) ⟨some ⟨n3, 0, none⟩, 1, 1⟩ v1 := A11 (l := v1) 1 (by decide) (by rw [hc3]; exact List.mem_cons_self)
  refine Aw8 (A08 p Cs4 g3 X3 I3 (by decide) (c3 :: (c2 :: (c1 :: L))) hT.cons.cons.cons kC ⟨some ⟨n3, 0, none⟩, 1, 1⟩ v1 hb3) (by rw [hc3]; unfold zO; exact pc fun z => by simp only [B7, C5]; omega) ?_
  rintro _ _ ⟨g4, rfl, X4, rfl⟩
  rw [exe4] at X4 ⊢
  refine ⟨((Cs4.put kC v1).2, ()), rfl, ?_⟩
  refine B3 (Reads.has Cr9 (Bg6 p Bx3 g4 X4 kA)) (true, ()) (congrArg Value.bool ex4g) ?_
  refine B3 (Reads.has Cr9 (Cw1 p Bx3 g4 X4 I4.ok kB)) (1, ()) (congrArg (Value.i) ex4h) ?_
  refine C3 fun n4 _ => A29 Ce0 Cd9 ?_
  obtain ⟨c4, hc4⟩ : ∃ c4 : Nat × Obj, c4 = zO n4 #[.int .u8 49] := ⟨_, rfl⟩
  have hb4 : ∀ {Y : A4}, BSl (c4 :: Y) ⟨some ⟨n4, 0, none⟩, 1, 1⟩ v1 := A11 (l := v1) 1 (by decide) (by rw [hc4]; exact List.mem_cons_self)
  obtain ⟨R, hR⟩ : ∃ R, R = c4 :: (c3 :: (c2 :: (c1 :: L))) := ⟨_, rfl⟩
  have hTR : Tab R := by rw [hR]; exact hT.cons.cons.cons.cons
  refine Aw8 (A08 p Bx3 g4 X4 I4 (by decide) R hTR kA ⟨some ⟨n4, 0, none⟩, 1, 1⟩ v1 (by rw [hR]; exact hb4)) (by rw [hR, hc4]; unfold zO; exact pc fun z => by simp only [B7, C5]; omega) ?_
  rintro _ _ ⟨g5, rfl, X5, rfl⟩
  rw [exe5] at X5 ⊢
  refine ⟨((Bx3.put kA v1).2, ()), rfl, ?_⟩
  refine G9 (Bz7 p C26 g5 X5 I5.ok kA) (R := R) (List.Perm.refl _) ?_
  rintro _ _ ⟨g6, u6, sg6, hL6, X6, own6, rfl⟩
  rw [List.append_nil] at hL6
  rw [hL6]
  rw [exe6] at X6 ⊢
  rw [ex6] at own6 ⊢
  refine ⟨SL p Cs3 g6 ++ (sg6 ++ R), pc fun z => by simp only [B7]; omega, (u6, 0, ()), rfl, ?_⟩
  refine G9 (Bt1 p Cs3 g6 X6 I6.ok (by decide) kA) (R := sg6 ++ R) (List.Perm.refl _) ?_
  rintro _ _ ⟨g7, hL7, X7, rfl⟩
  rw [List.append_nil] at hL7
  rw [hL7]
  rw [exe7] at X7 ⊢
  rw [ex7]
  refine ⟨SL p B85 g7 ++ (sg6 ++ R), List.Perm.refl _, (true, 0, ()), rfl, ?_⟩
  refine G9 (Aq4 X7 (Nat.le_trans I7.ok.pl (by decide))) (R := sg6 ++ R) (List.Perm.refl _) ?_
  rintro _ _ ⟨u7, sg7, rfl, rfl, own7⟩
  have hu7 : u7.len = 1 := by
   have := own7.sl.els_len E1 (by decide)
   rw [exd7, if_neg (by decide), ex7p] at this
   exact this
  refine ⟨SL p B85 g7 ++ (sg7 ++ (sg6 ++ R)), pc fun z => by simp only [B7]; omega, (u7, ()), rfl, ?_⟩
  obtain ⟨R2, hR2⟩ : ∃ R2, R2 = sg7 ++ (sg6 ++ R) := ⟨_, rfl⟩
  rw [<- hR2]
  have hTR2 : Tab R2 := by rw [hR2]; exact hTR.mono fun y hy => by simp [hy]
  refine Aw8 (Bz9 p B85 g7 X7 I7.ok (by decide) R2 hTR2) (List.Perm.refl _) ?_
  rintro _ _ ⟨g8, rfl, X8, rfl⟩
  rw [exe8] at X8 ⊢
  rw [ex8]
  refine ⟨(0, ()), rfl, ?_⟩
  refine G9 (Bz7 p C25 g8 X8 I8.ok kA) (R := R2) (List.Perm.refl _) ?_
  rintro _ _ ⟨g9, u9, sg9, hL9, X9, own9, rfl⟩
  rw [List.append_nil] at hL9
  rw [hL9]
  rw [exe9] at X9 ⊢
  rw [ex9]
  obtain ⟨L9, hL9'⟩ : ∃ L9, L9 = SL p Bf2 g9 ++ (sg9 ++ R2) := ⟨_, rfl⟩
  have hp9 : L9.Perm (SL p Bf2 g9 ++ (sg9 ++ R2)) := by rw [hL9']
  refine ⟨L9, pc fun z => by rw [hL9']; simp only [B7]; omega, (u9, 8, ()), rfl, ?_⟩
  refine ifP ex2 (ifP ex3 (ifP ex4 (ifT rfl (ifP rfl (ifP ex5 ?_)))))
  refine Cb3 (l := [49]) (own6.sl.mono fun y hy => hp9.symm.subset (by rw [hR2]; simp [hy])) ?_
  refine ifP rfl (ifP rfl (ifT rfl (ifP rfl (ifP (show (u7.len : Int) = 1 by rw [hu7]; rfl) (ifP rfl ?_)))))
  have hd9 : Bf2.down = false := exd9
  have h9 : Has L9 (SL p Bf2 g9) := ⟨_, hp9⟩
  refine G9 (Aq4 X9 (Nat.le_trans I9.ok.pl (by decide))) hp9 ?_
  rintro _ _ ⟨u10, sg10, rfl, rfl, own10⟩
  have hu10 : u10.len = 0 := by
   have := own10.sl.els_len E1 (by decide)
   rw [hd9, if_neg (by decide), show Bf2.pend.length = 0 by kernel_rfl] at this
   exact this
  obtain ⟨L10, hL10'⟩ : ∃ L10, L10 = SL p Bf2 g9 ++ (sg10 ++ (sg9 ++ R2)) := ⟨_, rfl⟩
  have hp10 : L10.Perm (SL p Bf2 g9 ++ (sg10 ++ (sg9 ++ R2))) := by rw [hL10']
  have h10 : Has L10 (SL p Bf2 g9) := ⟨_, hp10⟩
  refine ⟨L10, pc fun z => by rw [hL10']; simp only [B7]; omega, (u10, ()), rfl, ?_⟩
  refine ifP (show (u10.len : Int) = 0 by rw [hu10]; rfl) (ifP rfl ?_)
  refine B3 (Ay0 L10) (1, ()) rfl (ifP rfl ?_)
  refine B3 (Reads.has h10 (By2 X9)) (2, ()) (by rw [if_neg (by rw [hd9]; decide), ex9q]; rfl) (ifP rfl ?_)
  refine B3 (Reads.has h10 (Cv8 X9)) (0, ()) (by rw [if_neg (by rw [hd9]; decide), ex9l]; rfl) (ifP rfl ?_)
  refine B3 (Reads.has h10 (Bs1 X9)) (3808, ()) (by rw [if_neg (by rw [hd9]; decide), ex9t]; rfl) ?_
  refine .drop (A := L) (J := SL p Bf2 g9 ++ (sg10 ++ (sg9 ++ (sg7 ++ (sg6 ++ (c4 :: (c3 :: (c2 :: [c1])))))))) ⟨rfl, rfl⟩ (pc fun z => by have := pcn hp10 z; rw [hR2, hR] at this; simp only [B7, C5, D8] at *; omega)
 ·intro j1 hj1
  exact ifP rfl (ifP rfl (ifP rfl (hj1 _ _ rfl)))
abbrev SAct := Int × ByteArray × (SlV × List UInt8) × Int × Int × Unit
theorem Bb0 (L : A4) (hT : Tab L) (kind : Int) (key : ByteArray) (v : SlV) (n keep : Int) : Reads PP 6 #[.agg #[.i kind, .string key, .slice v.a v.len v.cap, .i n, .i keep]] L (.bool true) := by
 unfold Reads
 refine c6 (kind, key, v, n, keep, ()) ?_
 unfold s6
 refine Y6 (fun _ L' => L' = L) ?_ ?_
 ·rintro _ _ rfl
  refine B3 (By6 _ n) () rfl (B3 (Cf7 _ key) (⟨none, 0, 0⟩, 1, ()) rfl (B3 (Bz0 _ key) (⟨none, 0, 0⟩, 1, ()) rfl (B3 (Bg9 _ key) (false, 1, ()) rfl (B3 (Ce9 _ key v) (1, ()) rfl ?_))))
  refine ifP rfl (ifP rfl (ifP rfl (ifF rfl (ifP rfl (B3 (Ay0 _) (1, ()) rfl (ifP rfl ?_))))))
  refine B3 (Cf6 _ key) (0, ()) rfl (B3 (Bt2 _ key) (0, ()) rfl (D9 (by decide) (B3 (Cf3 _) (0, ()) rfl (D9 (by decide) (B3 (Br9 _) (0, ()) rfl (D9 (by decide) (B3 (Bg1 _) (0, ()) rfl (D9 (by decide) (B3 (Bg3 _) (0, ()) rfl (D9 (by decide) (B3 (A74 _) (⟨none, 0, 0⟩, ()) rfl (D9 (by decide) ?_))))))))))))
  exact ifP rfl (B3 (A76 _ key) (false, ()) rfl (ifF rfl (B3 (Aq1 _ hT) (true, ()) rfl (.of ⟨rfl, rfl⟩))))
 ·intro j1 hj1
  exact C0 (fun _ => B3 (Aq1 _ hT) (true, ()) rfl (.of ⟨rfl, rfl⟩)) fun _ => C0 (fun _ => B3 (Aq1 _ hT) (true, ()) rfl (.of ⟨rfl, rfl⟩)) fun _ => hj1 _ _ rfl
theorem Cq5 (W : World) (hT : Tab (Cb8 W)) (x0 : SAct) (w0 : W1 .i64 x0.1 /\ x0.2.1.size <= maxLen /\ SlOk W (fun b => [bv b]) (fun _ => True) 1 x0.2.2.1 /\ W1 .i64 x0.2.2.2.1 /\ W1 .i64 x0.2.2.2.2.1 /\ True) :
  Reads PP 6 #[.agg #[.i x0.1, .string x0.2.1, .slice x0.2.2.1.1.a x0.2.2.1.1.len x0.2.2.1.1.cap, .i x0.2.2.2.1, .i x0.2.2.2.2.1]] (Cb8 W) (.bool true) :=
 Bb0 _ hT x0.1 x0.2.1 x0.2.2.1.1 x0.2.2.2.1 x0.2.2.2.2.1
end Go.Proofs.YtbaoieipijmakaaGreatDoor
