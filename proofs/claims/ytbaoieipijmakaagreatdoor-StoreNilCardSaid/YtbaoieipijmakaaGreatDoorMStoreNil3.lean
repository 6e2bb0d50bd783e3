/-
  It is proved what the functions that the law StoreNil reaches compute, part 3. There are no further conditions than those that each theorem names.
-/
import Derived.Test.YtbaoieipijmakaaGreatDoorMStoreNil2
set_option linter.unusedVariables false
set_option linter.unusedSimpArgs false
namespace Go.Proofs.YtbaoieipijmakaaGreatDoor
open Go.HL
structure Cfg where
 B : Nat
 P : Nat
 S : Nat
 W : Nat
structure C47 (c : Cfg) : Prop where
 b : 2 <= c.B /\ c.B <= 16
 p : 4 <= c.P /\ c.P <= 16
 s : 64 <= c.S /\ c.S <= 512
 w : 1 <= c.W /\ c.W <= 1048576
structure Blk where
 pages : List (List UInt8)
 next : Nat
 wear : Nat
 bad : Bool
structure Tn where
 b : Nat
 p : Nat
 meant : List UInt8
 image : List UInt8
structure Dev where
 c : Cfg
 after : Nat
 keep : Int
 down : Bool
 bs : List Blk
 bytes : Int
 torn : List Tn
def blk (n : Nat) : List UInt8 := List.replicate n 255
def V9 (d : Dev) : Bool × Dev := if d.after = 0 then (false, d) else (decide (d.after = 1), { d with after := d.after - 1, down := decide (d.after = 1) })
def R5 (k : Int) (n : Nat) : Nat := min k.toNat n
theorem Ax5 (d : Dev) : (V9 d).2.c = d.c /\ (V9 d).2.bs = d.bs /\ (V9 d).2.keep = d.keep /\ (V9 d).2.bytes = d.bytes /\ (V9 d).2.torn = d.torn := by unfold V9; split <;> exact ⟨rfl, rfl, rfl, rfl, rfl⟩
abbrev tBk : TypeId := 98
abbrev tFl : TypeId := 75
abbrev tPb : TypeId := 72
abbrev ePb : TypeId := 94
abbrev tTs : TypeId := 73
abbrev eT : TypeId := 401
theorem elemPb : S2 PP tPb ePb 1 8 [.pointer none] := M0 (by kernel_rfl) (by kernel_rfl) rfl (by decide) (by decide)
theorem srcPb : Ao1 PP tPb := .inl ⟨ePb, by kernel_rfl⟩
theorem elemTs : S2 PP tTs eT 4 64 [.i 0, .i 0, .slice none 0 0, .slice none 0 0] := M0 (by kernel_rfl) (by kernel_rfl) rfl (by decide) (by decide)
theorem srcTs : Ao1 PP tTs := .inl ⟨eT, by kernel_rfl⟩
structure PB where
 id : Nat
 v : SlV
 seg : A4
 ps : List PG
 next : Nat
 wear : Nat
 bad : Bool
def PB.blk (b : PB) : Blk := ⟨b.ps.map PG.l, b.next, b.wear, b.bad⟩
def PB.obj (b : PB) : Nat × Obj := (b.id, .cells #[.slice b.v.a b.v.len b.v.cap, .i b.next, .i b.wear, .bool b.bad] tBk)
def PB.objs (b : PB) : A4 := b.obj :: (b.seg ++ pgs b.ps)
structure PB.Ok (b : PB) : Prop where
 own : Own b.v 1 tB (b.ps.map PG.val) b.seg
 ps : ∀ g ∈ b.ps, g.Ok
def pbp (b : PB) : Value := .pointer (some ⟨b.id, 0, none⟩)
def fO (m : Nat) (d : Dev) (bv tv : SlV) : Nat × Obj :=
 (m, .cells #[.i d.after, .i d.keep, .bool d.down, .i d.c.B, .i d.c.P, .i d.c.S, .i d.c.W, .slice bv.a bv.len bv.cap, .i d.bytes, .slice tv.a tv.len tv.cap] tFl)
section
variable {L : A4} {m : Nat} {d : Dev} {bv tv : SlV} {b : PB}
theorem b_ps (h : b.obj ∈ L) : D0 ⟨b.id, 0, none⟩ [.slice b.v.a b.v.len b.v.cap] L := ldB (by unfold PB.obj at h; exact h) rfl
theorem Cb2 (h : b.obj ∈ L) : D0 ⟨b.id, 1, none⟩ [.i b.next] L := ldB (by unfold PB.obj at h; exact h) rfl
theorem b_wear (h : b.obj ∈ L) : D0 ⟨b.id, 2, none⟩ [.i b.wear] L := ldB (by unfold PB.obj at h; exact h) rfl
theorem Co2 (h : b.obj ∈ L) : D0 ⟨b.id, 3, none⟩ [.bool b.bad] L := ldB (by unfold PB.obj at h; exact h) rfl
theorem B83 (h : fO m d bv tv ∈ L) : D0 ⟨m, 0, none⟩ [.i d.after] L := ldB (by unfold fO at h; exact h) rfl
theorem f_keep (h : fO m d bv tv ∈ L) : D0 ⟨m, 1, none⟩ [.i d.keep] L := ldB (by unfold fO at h; exact h) rfl
theorem Cs2 (h : fO m d bv tv ∈ L) : D0 ⟨m, 2, none⟩ [.bool d.down] L := ldB (by unfold fO at h; exact h) rfl
theorem f_cfg (h : fO m d bv tv ∈ L) : D0 ⟨m, 3, none⟩ [.i d.c.B, .i d.c.P, .i d.c.S, .i d.c.W] L := ldB (by unfold fO at h; exact h) rfl
theorem f_P (h : fO m d bv tv ∈ L) : D0 ⟨m, 4, none⟩ [.i d.c.P] L := ldB (by unfold fO at h; exact h) rfl
theorem f_S (h : fO m d bv tv ∈ L) : D0 ⟨m, 5, none⟩ [.i d.c.S] L := ldB (by unfold fO at h; exact h) rfl
theorem f_W (h : fO m d bv tv ∈ L) : D0 ⟨m, 6, none⟩ [.i d.c.W] L := ldB (by unfold fO at h; exact h) rfl
theorem f_bs (h : fO m d bv tv ∈ L) : D0 ⟨m, 7, none⟩ [.slice bv.a bv.len bv.cap] L := ldB (by unfold fO at h; exact h) rfl
theorem C24 (h : fO m d bv tv ∈ L) : D0 ⟨m, 8, none⟩ [.i d.bytes] L := ldB (by unfold fO at h; exact h) rfl
theorem Cs1 (h : fO m d bv tv ∈ L) : D0 ⟨m, 9, none⟩ [.slice tv.a tv.len tv.cap] L := ldB (by unfold fO at h; exact h) rfl
end
theorem Y2 (L : A4) (n a b : Int) : Reads PP 90 #[.i n, .i a, .i b] L (.bool (decide (a <= n /\ n <= b))) := by
 refine Reads.of (args := [.i n, .i a, .i b]) B5 B6 Tryz.func90 (e90 n a b _) ?_
 unfold t90
 refine B9 (fun (h : n ≥ a) => .of ⟨?_, rfl⟩) (fun (h : ¬ n ≥ a) => .of ⟨?_, rfl⟩)
 ·congr 1
  by_cases h2 : n <= b
  ·rw [decide_eq_true h2, decide_eq_true (by omega)]
  ·rw [decide_eq_false h2, decide_eq_false (by omega)]
 ·congr 1
  rw [decide_eq_false (by omega)]
theorem A55 (n : Nat) (hn : n <= 1048576) : CallF PP 163 #[.i n] [] fun r L' => ∃ (g : PG), r = g.val /\ L' = g.seg /\ g.Ok /\ g.l = blk n := by
 refine CallF.of (args := [.i n]) B5 B6 Tryz.func163 (e163 n _) ?_
 unfold t163
 refine At0 Aj0 (l := n) (c := n) (Nat.le_refl _) (by omega) fun q ob own _ _ => ?_
 rw [A64] at own
 refine G0 (fun z' z L' => ∃ (i : Nat) (seg : A4), i <= n /\ z' = n - i /\ z = ((i : Int), ()) /\ L' = seg /\ Own ⟨some ⟨q, 0, none⟩, n, n⟩ 1 eB (bvs (List.replicate i 255 ++ List.replicate (n - i) 0)) seg) n ⟨0, [(q, ob)], by omega, by omega, rfl, rfl, by simpa using own⟩ ?_
 rintro z' z L ⟨i, seg, hi, rfl, rfl, rfl, own⟩
 refine B9 (fun (hlt : (i : Int) < (n : Nat)) => ?_) (fun (hge : ¬ (i : Int) < (n : Nat)) => ?_)
 ·refine A5 rfl (E0 (show (0 : Int) <= i by omega) hlt ?_)
  refine own.st (p := i) [] [] (by rw [E6, List.length_append, List.length_replicate, List.length_replicate, List.length_singleton]; omega) (by simp) rfl (by rw [Int.toNat_natCast, Nat.mul_one]) (by simp) fun seg' own' => ?_
  rw [Ah5 (by rw [E6, List.length_append, List.length_replicate, List.length_replicate]; omega)] at own'
  refine ⟨n - (i + 1), by omega, i + 1, seg', by omega, rfl, ?_, by simp, ?_⟩
  ·rw [C1 (by first | omega | (simp only; omega)) (by first | omega | (simp only; omega))]
   rfl
  ·have : (bvs (List.replicate i 255 ++ List.replicate (n - i) 0)).set i (.int .u8 255) = bvs (List.replicate (i + 1) 255 ++ List.replicate (n - (i + 1)) 0) := by
    have h1 := C35 (List.replicate i 255 ++ List.replicate (n - i) 0) i 255
    rw [show ((255 : UInt8).toNat : Int) = 255 by decide] at h1
    rw [h1]
    congr 1
    rw [List.set_append, if_neg (by simp), List.length_replicate, Nat.sub_self, show n - i = (n - (i + 1)) + 1 by omega, List.replicate_succ, List.set_cons_zero, List.replicate_succ', List.append_assoc]
    rfl
   rw [this] at own'
   exact own'
 ·obtain rfl : i = n := by omega
  refine .of ⟨⟨⟨some ⟨q, 0, none⟩, i, i⟩, L, blk i⟩, rfl, rfl, ?_, rfl⟩
  rw [Nat.sub_self, List.replicate_zero, List.append_nil] at own
  exact own
theorem Bf4 (b : PB) (hb : b.Ok) (n S : Nat) (hn : n <= b.ps.length) (hn2 : n <= 1048576) (hS : S <= 1048576) :
  CallF PP 91 #[.pointer (some ⟨b.id, 0, none⟩), .i n, .i S] b.objs fun r L' => r = .tuple #[] /\ ∃ (seg' : A4) (ps' : List PG), L' = ({ b with seg := seg', ps := ps' } : PB).objs /\ ({ b with seg := seg', ps := ps' } : PB).Ok /\ ps'.map PG.l = List.replicate n (blk S) ++ (b.ps.map PG.l).drop n := by
 refine CallF.of (args := [.pointer (some ⟨b.id, 0, none⟩), .i n, .i S]) B5 B6 Tryz.func91 (e91 (some ⟨b.id, 0, none⟩) n S _) ?_
 unfold t91
 refine G0 (fun z' z L' => ∃ (i : Nat) (seg' : A4) (D : List PG) (J : A4), i <= n /\ z' = n - i /\ z = ((i : Int), ()) /\ L' = b.obj :: (seg' ++ (pgs D ++ (J ++ pgs (b.ps.drop i)))) /\ Own b.v 1 tB ((D ++ b.ps.drop i).map PG.val) seg' /\ D.length = i /\ (∀ g ∈ D, g.Ok) /\ D.map PG.l = List.replicate i (blk S)) n
  ⟨0, b.seg, [], [], by omega, by omega, rfl, rfl, hb.own, rfl, by simp, rfl⟩ ?_
 rintro z' z L ⟨i, seg', D, J, hi, rfl, rfl, rfl, own, hD, hok, hl⟩
 have hsl : Sl (b.obj :: (seg' ++ (pgs D ++ (J ++ pgs (b.ps.drop i))))) b.v 1 ((D ++ b.ps.drop i).map PG.val) := own.sl.left.cons
 have hvl : b.v.len = b.ps.length := by
  have := own.len
  rw [List.length_map, List.length_append, List.length_drop] at this
  omega
 refine B9 (fun (hlt : (i : Int) < (n : Int)) => ?_) (fun (hge : ¬ (i : Int) < (n : Int)) => ?_)
 ·have hi' : i < b.ps.length := by omega
  have hdr : b.ps.drop i = b.ps[i] :: b.ps.drop (i + 1) := List.drop_eq_getElem_cons hi'
  refine A5 rfl (A6 b.v (b_ps List.mem_cons_self) ?_)
  refine H4 (b.obj :: (seg' ++ pgs D)) (J ++ pgs (b.ps.drop i)) (A55 S hS) (by simp) ?_
  rintro _ _ - ⟨g, rfl, rfl, hg, hgl⟩
  refine ⟨(g.v, ()), rfl, E9 (b_ps (by simp)) ?_⟩
  obtain ⟨a, ha, -⟩ := hsl.at' (i := i) (by omega) (by decide)
  refine A5 ha (E0 (show (0 : Int) <= i by omega) (show (i : Int) < b.v.len by omega) ?_)
  refine own.st (p := i) [b.obj] (pgs D ++ (g.seg ++ (J ++ pgs (b.ps.drop i)))) (by rw [List.length_map, List.length_append, List.length_drop, List.length_singleton]; omega) (by simp) ha (by rw [Int.toNat_natCast, Nat.mul_one]) (by simp) fun seg2 own2 => ?_
  rw [Ah5 (by rw [List.length_map, List.length_append, List.length_drop]; omega)] at own2
  refine ⟨n - (i + 1), by omega, i + 1, seg2, D ++ [g], J ++ b.ps[i].seg, by omega, rfl, ?_, ?_, ?_, by simp [hD], ?_, ?_⟩
  ·rw [C1 (by first | omega | (simp only; omega)) (by first | omega | (simp only; omega))]
   rfl
  ·rw [hdr, Ah7, O4, As4]; simp
  ·have : (((D ++ b.ps.drop i).map PG.val).set i g.val) = (((D ++ [g]) ++ b.ps.drop (i + 1)).map PG.val) := by
    rw [hdr, List.map_append, List.set_append, if_neg (by simp [hD]), List.length_map, hD, Nat.sub_self, List.map_cons, List.set_cons_zero]
    simp
   rw [<- this]
   exact own2
  ·intro x hx
   rcases List.mem_append.1 hx with h | h
   ·exact hok x h
   ·rw [List.mem_singleton.1 h]; exact hg
  ·rw [List.map_append, hl, List.replicate_succ', List.map_singleton, hgl]
 ·obtain rfl : i = n := by omega
  refine .drop (A := ({ b with seg := seg', ps := D ++ b.ps.drop i } : PB).objs) (J := J) ⟨rfl, seg', D ++ b.ps.drop i, rfl, ⟨own, fun x hx => ?_⟩, ?_⟩ ?_
  ·rcases List.mem_append.1 hx with h | h
   ·exact hok x h
   ·exact hb.ps x (List.mem_of_mem_drop h)
  ·rw [List.map_append, hl, List.map_drop]
  ·show (b.obj :: (seg' ++ (pgs D ++ (J ++ pgs (b.ps.drop i))))).Perm ((b.obj :: (seg' ++ pgs (D ++ b.ps.drop i))) ++ J)
   rw [O4]
   classical
   rw [List.perm_iff_count]
   intro x
   simp only [List.append_eq, List.cons_append, List.count_append, List.count_cons, List.count_nil]
   omega
theorem Cu6 (b : PB) (W : Int) (hw : b.wear <= 1048576) :
  CallF PP 298 #[.pointer (some ⟨b.id, 0, none⟩), .i W] [b.obj] fun r L' => r = .bool (decide (((b.wear + 1 : Nat) : Int) = W)) /\ L' = [({ b with next := 0, wear := b.wear + 1, bad := decide (((b.wear + 1 : Nat) : Int) = W) } : PB).obj] := by
 refine CallF.of (args := [.pointer (some ⟨b.id, 0, none⟩), .i W]) B5 B6 Tryz.func298 (e298 (some ⟨b.id, 0, none⟩) W _) ?_
 unfold t298
 have hww : IntKind.i64.wrap ((b.wear : Int) + 1) = ((b.wear + 1 : Nat) : Int) := by rw [C1 (by omega) (by omega)]; omega
 refine A5 rfl (E3 (n := b.id) (off := 1) (c := #[.slice b.v.a b.v.len b.v.cap, .i b.next, .i b.wear, .bool b.bad]) (T := tBk) (fz := (0, 0)) [] [] rfl rfl (by simp) (.inl (Nat.le_refl _)) #[.slice b.v.a b.v.len b.v.cap, .i 0, .i b.wear, .bool b.bad] rfl ?_)
 refine A5 rfl (A6 (b.wear : Int) (ldB List.mem_cons_self rfl) (A5 rfl ?_))
 simp only [hww]
 refine E3 (n := b.id) (off := 2) (T := tBk) (fz := (0, 0)) [] [] rfl rfl (by simp) (.inl (Nat.le_refl _)) #[.slice b.v.a b.v.len b.v.cap, .i 0, .i ((b.wear + 1 : Nat) : Int), .bool b.bad] rfl ?_
 refine A5 rfl (A6 ((b.wear + 1 : Nat) : Int) (ldB List.mem_cons_self rfl) (A5 rfl ?_))
 refine E3 (n := b.id) (off := 3) (T := tBk) (fz := (0, 0)) [] [] rfl rfl (by simp) (.inl (Nat.le_refl _)) #[.slice b.v.a b.v.len b.v.cap, .i 0, .i ((b.wear + 1 : Nat) : Int), .bool (decide (((b.wear + 1 : Nat) : Int) = W))] rfl ?_
 refine A5 rfl (A6 (decide (((b.wear + 1 : Nat) : Int) = W)) (ldB List.mem_cons_self rfl) ?_)
 exact .of ⟨rfl, rfl⟩
theorem Bl5 (m : Nat) (d : Dev) (bv tv : SlV) (ha : (d.after : Int) <= 9223372036854775807) :
  CallF PP 296 #[.pointer (some ⟨m, 0, none⟩)] [fO m d bv tv] fun r L' => r = .bool (V9 d).1 /\ L' = [fO m (V9 d).2 bv tv] := by
 refine CallF.of (args := [.pointer (some ⟨m, 0, none⟩)]) B5 B6 Tryz.func296 (e296 (some ⟨m, 0, none⟩) _) ?_
 unfold t296
 refine A5 rfl (A6 (d.after : Int) (B83 List.mem_cons_self) ?_)
 refine W7 (fun (h : (d.after : Int) = 0) => ?_) (fun (h : (d.after : Int) ≠ 0) => ?_)
 ·have h0 : d.after = 0 := by omega
  unfold V9
  rw [if_pos h0]
  exact .of ⟨rfl, rfl⟩
 ·have h0 : d.after ≠ 0 := by omega
  have hww : IntKind.i64.wrap ((d.after : Int) - 1) = ((d.after - 1 : Nat) : Int) := by rw [C1 (by omega) (by omega)]; omega
  have hdd : (((d.after - 1 : Nat) : Int) == 0) = decide (d.after = 1) := by
   by_cases h1 : d.after = 1
   ·rw [h1]; rfl
   ·rw [decide_eq_false h1, beq_eq_false_iff_ne]; omega
  unfold V9
  rw [if_neg h0]
  refine A5 rfl (A6 (d.after : Int) (B83 List.mem_cons_self) (A5 rfl ?_))
  simp only [hww]
  refine E3 (n := m) (off := 0) (c := #[.i d.after, .i d.keep, .bool d.down, .i d.c.B, .i d.c.P, .i d.c.S, .i d.c.W, .slice bv.a bv.len bv.cap, .i d.bytes, .slice tv.a tv.len tv.cap]) (T := tFl) (fz := (0, 0)) [] [] rfl rfl (by simp) (.inl (Nat.le_refl _))
   #[.i ((d.after - 1 : Nat) : Int), .i d.keep, .bool d.down, .i d.c.B, .i d.c.P, .i d.c.S, .i d.c.W, .slice bv.a bv.len bv.cap, .i d.bytes, .slice tv.a tv.len tv.cap] rfl ?_
  refine A5 rfl (A6 ((d.after - 1 : Nat) : Int) (ldB List.mem_cons_self rfl) (A5 rfl ?_))
  simp only [hdd]
  refine E3 (n := m) (off := 2) (T := tFl) (fz := (0, 0)) [] [] rfl rfl (by simp) (.inl (Nat.le_refl _))
   #[.i ((d.after - 1 : Nat) : Int), .i d.keep, .bool (decide (d.after = 1)), .i d.c.B, .i d.c.P, .i d.c.S, .i d.c.W, .slice bv.a bv.len bv.cap, .i d.bytes, .slice tv.a tv.len tv.cap] rfl ?_
  refine A5 rfl (A6 (decide (d.after = 1)) (ldB List.mem_cons_self rfl) ?_)
  exact .of ⟨rfl, rfl⟩
theorem B65 (k : Int) (n : Nat) : Y1 (Ab4 k 0) n = (R5 k n : Int) := by
 unfold Y1 Ab4 R5
 omega
theorem B55 (L : A4) (m : Nat) (d : Dev) (bv tv : SlV) (h : fO m d bv tv ∈ L) (n : Nat) : Reads PP 297 #[.pointer (some ⟨m, 0, none⟩), .i n] L (.i (R5 d.keep n)) := by
 refine Reads.of (args := [.pointer (some ⟨m, 0, none⟩), .i n]) B5 B6 Tryz.func297 (e297 (some ⟨m, 0, none⟩) n _) ?_
 unfold t297
 refine A5 rfl (A6 d.keep (f_keep h) ?_)
 rw [B65]
 exact .of ⟨rfl, rfl⟩
def Bf1 (l : List PB) (b : Int) : Option Addr := if 0 <= b then (l[b.toNat]?).map fun k => ⟨k.id, 0, none⟩ else none
theorem Ac1 {l : List PB} {i : Nat} (h : i < l.length) : Bf1 l (i : Int) = some ⟨l[i].id, 0, none⟩ := by
 unfold Bf1
 rw [if_pos (by omega), Int.toNat_natCast, List.getElem?_eq_getElem h]; rfl
theorem As0 {l : List PB} {b : Int} (h : ¬ (0 <= b /\ b < l.length)) : Bf1 l b = none := by
 unfold Bf1
 split
 ·rw [List.getElem?_eq_none (by omega)]; rfl
 ·rfl
theorem Co3 (L : A4) (m : Nat) (d : Dev) (bv tv : SlV) (h : fO m d bv tv ∈ L) (l : List PB) (hl : Sl L bv 1 (l.map pbp)) (hle : l.length <= 1048576) (b : Int) :
  Reads PP 45 #[.pointer (some ⟨m, 0, none⟩), .i b] L (.pointer (Bf1 l b)) := by
 refine Reads.of (args := [.pointer (some ⟨m, 0, none⟩), .i b]) B5 B6 Tryz.func45 (e45 (some ⟨m, 0, none⟩) b _) ?_
 unfold t45
 have hlen : bv.len = l.length := by have := hl.len; rw [List.length_map] at this; omega
 refine ifF rfl (A5 rfl (A6 bv (f_bs h) ?_))
 have hw : IntKind.i64.wrap ((bv.len : Int) - 1) = (l.length : Int) - 1 := by rw [C1 (by omega) (by omega)]; omega
 simp only [hw]
 refine B3 (Y2 _ b 0 ((l.length : Int) - 1)) (decide (0 <= b /\ b <= (l.length : Int) - 1), ()) rfl ?_
 by_cases hb : 0 <= b /\ b <= (l.length : Int) - 1
 ·rw [decide_eq_true hb]
  refine ifF rfl ?_
  obtain ⟨i, rfl⟩ : ∃ i : Nat, b = i := ⟨b.toNat, by omega⟩
  have hi : i < l.length := by omega
  rw [Ac1 hi]
  obtain ⟨a, ha, hld⟩ := hl.at' (i := i) (by omega) (by decide)
  refine A5 rfl (A6 bv (f_bs h) (A5 ha (E0 (show (0 : Int) <= i by omega) (show (i : Int) < bv.len by omega) (A6 (some ⟨l[i].id, 0, none⟩ : Option Addr) (hld.one ((i : Int).toNat * 1) ?_) ?_))))
  ·rw [Int.toNat_natCast, Nat.mul_one, List.getElem?_map, List.getElem?_eq_getElem hi]; rfl
  ·exact .of ⟨rfl, rfl⟩
 ·rw [decide_eq_false hb]
  refine ifT rfl (.of ⟨?_, rfl⟩)
  rw [As0 (by omega)]
def H6 (d : Dev) (b p : Int) : Int := if d.down then 11 else if ¬ (0 <= b /\ b < d.bs.length) then 2 else if ¬ (0 <= p /\ p < d.c.P) then 2 else 0
theorem Bj8 (L : A4) (m : Nat) (d : Dev) (bv tv : SlV) (h : fO m d bv tv ∈ L) (l : List PB) (hl : Sl L bv 1 (l.map pbp)) (hle : l.length <= 1048576) (hd : l.map PB.blk = d.bs) (hP : d.c.P <= 1048576) (b p : Int) :
  Reads PP 235 #[.pointer (some ⟨m, 0, none⟩), .i b, .i p] L (.tuple #[.pointer (if H6 d b p = 0 then Bf1 l b else none), .i (H6 d b p)]) := by
 refine Reads.of (args := [.pointer (some ⟨m, 0, none⟩), .i b, .i p]) B5 B6 Tryz.func235 (e235 (some ⟨m, 0, none⟩) b p _) ?_
 unfold t235
 have hbl : d.bs.length = l.length := by rw [<- hd, List.length_map]
 refine ifF rfl (A5 rfl (A6 d.down (Cs2 h) ?_))
 refine G2 (fun (hdn : d.down = true) => .of ⟨?_, rfl⟩) (fun (hdn : d.down = false) => ?_)
 ·have hE : H6 d b p = 11 := by unfold H6; rw [if_pos hdn]
  rw [hE]; rfl
 ·refine B3 (Co3 L m d bv tv h l hl hle b) (Bf1 l b, ()) rfl ?_
  by_cases hb : 0 <= b /\ b < d.bs.length
  ·obtain ⟨i, rfl⟩ : ∃ i : Nat, b = i := ⟨b.toNat, by omega⟩
   rw [Ac1 (by omega)]
   refine ifF rfl (A5 rfl (A6 (d.c.P : Int) (f_P h) ?_))
   have hw : IntKind.i64.wrap ((d.c.P : Int) - 1) = (d.c.P : Int) - 1 := C1 (by omega) (by omega)
   simp only [hw]
   refine B3 (Y2 _ p 0 ((d.c.P : Int) - 1)) (decide (0 <= p /\ p <= (d.c.P : Int) - 1), ()) rfl ?_
   by_cases hp : 0 <= p /\ p < d.c.P
   ·have hE : H6 d i p = 0 := by unfold H6; rw [hdn, if_neg (by decide), if_neg (by simpa using hb), if_neg (by simpa using hp)]
    rw [decide_eq_true (by omega), hE, if_pos rfl]
    exact ifF rfl (.of ⟨rfl, rfl⟩)
   ·have hE : H6 d i p = 2 := by unfold H6; rw [hdn, if_neg (by decide), if_neg (by simpa using hb), if_pos hp]
    rw [decide_eq_false (by omega), hE]
    exact ifT rfl (.of ⟨rfl, rfl⟩)
  ·have hE : H6 d b p = 2 := by unfold H6; rw [hdn, if_neg (by decide), if_pos hb]
   rw [hE, As0 (by omega)]
   exact ifT rfl (.of ⟨rfl, rfl⟩)
structure S3 (d : Dev) : Prop where
 c : C47 d.c
 len : d.bs.length = d.c.B
 pg : ∀ k ∈ d.bs, k.pages.length = d.c.P /\ ∀ l ∈ k.pages, l.length = d.c.S
 nx : ∀ k ∈ d.bs, k.next <= d.c.P /\ k.wear <= d.c.W /\ k.bad = decide (k.wear = d.c.W)
 after : (d.after : Int) <= 9223372036854775807
 torn : ∀ t ∈ d.torn, t.meant.length = d.c.S /\ t.image.length = d.c.S
structure PT where
 b : Nat
 p : Nat
 m : PG
 i : PG
def PT.enc (t : PT) : List Value := [.i t.b, .i t.p, t.m.val, t.i.val]
theorem PT.enc_len (t : PT) : t.enc.length = 4 := rfl
def PT.tn (t : PT) : Tn := ⟨t.b, t.p, t.m.l, t.i.l⟩
def M8 (l : List PT) : A4 := l.flatMap fun t => t.m.seg ++ t.i.seg
theorem A70 (a b : List PT) : M8 (a ++ b) = M8 a ++ M8 b := List.flatMap_append
theorem Bx7 (t : PT) : M8 [t] = t.m.seg ++ t.i.seg := by simp [M8]
def E7 (l : List PB) : A4 := l.flatMap PB.objs
theorem M1 (a b : List PB) : E7 (a ++ b) = E7 a ++ E7 b := List.flatMap_append
theorem O8 (a : PB) (b : List PB) : E7 (a :: b) = a.objs ++ E7 b := rfl
structure FHs (m : Nat) (d : Dev) (bv : SlV) (bseg : A4) (bs : List PB) (tv : SlV) (tseg : A4) (ts : List PT) : Prop where
 ob : Own bv 1 ePb (bs.map pbp) bseg
 okb : ∀ b ∈ bs, b.Ok
 hb : bs.map PB.blk = d.bs
 ot : Own tv 4 eT (ts.flatMap PT.enc) tseg
 okt : ∀ t ∈ ts, t.m.Ok /\ t.i.Ok
 ht : ts.map PT.tn = d.torn
def fL (m : Nat) (d : Dev) (bv : SlV) (bseg : A4) (bs : List PB) (tv : SlV) (tseg : A4) (ts : List PT) : A4 := fO m d bv tv :: (bseg ++ (E7 bs ++ (tseg ++ M8 ts)))
def FH (m : Nat) (d : Dev) (A : A4) : Prop := ∃ bv bseg bs tv tseg ts, A = fL m d bv bseg bs tv tseg ts /\ FHs m d bv bseg bs tv tseg ts
def Aw9 (d : Dev) (b : Int) : Option Blk := if 0 <= b then d.bs[b.toNat]? else none
def Ba2 (d : Dev) (b : Int) : Int := ((Aw9 d b).elim 0 fun k => k.next : Nat)
def A66 (d : Dev) (b : Int) : Int := ((Aw9 d b).elim 0 fun k => k.wear : Nat)
def A56 (d : Dev) (b : Int) : Bool := (Aw9 d b).elim false fun k => k.bad
theorem A57 {d : Dev} {bs : List PB} (h : bs.map PB.blk = d.bs) (b : Int) : (Bf1 bs b = none /\ Aw9 d b = none) \/ ∃ (i : Nat) (hi : i < bs.length), b = i /\ Bf1 bs b = some ⟨bs[i].id, 0, none⟩ /\ Aw9 d b = some bs[i].blk := by
 by_cases hb : 0 <= b /\ b < bs.length
 ·right
  obtain ⟨i, rfl⟩ : ∃ i : Nat, b = i := ⟨b.toNat, by omega⟩
  have hi : i < bs.length := by omega
  refine ⟨i, hi, rfl, Ac1 hi, ?_⟩
  unfold Aw9
  rw [if_pos (by omega), Int.toNat_natCast, <- h, List.getElem?_map, List.getElem?_eq_getElem hi]; rfl
 ·left
  refine ⟨As0 hb, ?_⟩
  have hl : d.bs.length = bs.length := by rw [<- h, List.length_map]
  unfold Aw9
  split
  ·rw [List.getElem?_eq_none (by omega)]
  ·rfl
theorem Cz4 {bs : List PB} {i : Nat} (hi : i < bs.length) : bs[i].obj ∈ E7 bs := List.mem_flatMap.2 ⟨bs[i], List.getElem_mem hi, List.mem_cons_self⟩
section
variable {m : Nat} {d : Dev} {bv : SlV} {bseg : A4} {bs : List PB} {tv : SlV} {tseg : A4} {ts : List PT}
theorem B84 : fO m d bv tv ∈ fL m d bv bseg bs tv tseg ts := List.mem_cons_self
theorem FHs.sl (h : FHs m d bv bseg bs tv tseg ts) : Sl (fL m d bv bseg bs tv tseg ts) bv 1 (bs.map pbp) := h.ob.sl.left.cons
theorem FHs.few (h : FHs m d bv bseg bs tv tseg ts) (ok : S3 d) : bs.length <= 16 := by
 have h1 := ok.len
 have h2 := ok.c.b
 rw [<- h.hb, List.length_map] at h1
 omega
theorem fL_b {i : Nat} (hi : i < bs.length) : bs[i].obj ∈ fL m d bv bseg bs tv tseg ts := List.mem_cons_of_mem _ (List.mem_append_right _ (List.mem_append_left _ (Cz4 hi)))
end
theorem Cz5 (m : Nat) (d : Dev) (A : A4) (h : FH m d A) (ok : S3 d) (b : Int) : Reads PP 82 #[.pointer (some ⟨m, 0, none⟩), .i b] A (.i (Ba2 d b)) := by
 obtain ⟨bv, bseg, bs, tv, tseg, ts, rfl, h⟩ := h
 refine Reads.of (args := [.pointer (some ⟨m, 0, none⟩), .i b]) B5 B6 Tryz.func82 (e82 (some ⟨m, 0, none⟩) b _) ?_
 unfold t82 Ba2
 have := h.few ok
 refine B3 (Co3 _ m d bv tv B84 bs h.sl (by omega) b) (Bf1 bs b, ()) rfl ?_
 rcases A57 h.hb b with ⟨h1, h2⟩ | ⟨i, hi, rfl, h1, h2⟩
 ·rw [h1, h2]; exact ifF rfl (.of ⟨rfl, rfl⟩)
 ·rw [h1, h2]; exact ifT rfl (A5 rfl (A6 (bs[i].next : Int) (Cb2 (fL_b hi)) (.of ⟨rfl, rfl⟩)))
theorem Cu7 (m : Nat) (d : Dev) (A : A4) (h : FH m d A) (ok : S3 d) (b : Int) : Reads PP 16 #[.pointer (some ⟨m, 0, none⟩), .i b] A (.i (A66 d b)) := by
 obtain ⟨bv, bseg, bs, tv, tseg, ts, rfl, h⟩ := h
 refine Reads.of (args := [.pointer (some ⟨m, 0, none⟩), .i b]) B5 B6 Tryz.func16 (e16 (some ⟨m, 0, none⟩) b _) ?_
 unfold t16 A66
 have := h.few ok
 refine B3 (Co3 _ m d bv tv B84 bs h.sl (by omega) b) (Bf1 bs b, ()) rfl ?_
 rcases A57 h.hb b with ⟨h1, h2⟩ | ⟨i, hi, rfl, h1, h2⟩
 ·rw [h1, h2]; exact ifF rfl (.of ⟨rfl, rfl⟩)
 ·rw [h1, h2]; exact ifT rfl (A5 rfl (A6 (bs[i].wear : Int) (b_wear (fL_b hi)) (.of ⟨rfl, rfl⟩)))
theorem Ct5 (m : Nat) (d : Dev) (A : A4) (h : FH m d A) (ok : S3 d) (b : Int) : Reads PP 15 #[.pointer (some ⟨m, 0, none⟩), .i b] A (.bool (A56 d b)) := by
 obtain ⟨bv, bseg, bs, tv, tseg, ts, rfl, h⟩ := h
 refine Reads.of (args := [.pointer (some ⟨m, 0, none⟩), .i b]) B5 B6 Tryz.func15 (e15 (some ⟨m, 0, none⟩) b _) ?_
 unfold t15 A56
 have := h.few ok
 refine B3 (Co3 _ m d bv tv B84 bs h.sl (by omega) b) (Bf1 bs b, ()) rfl ?_
 rcases A57 h.hb b with ⟨h1, h2⟩ | ⟨i, hi, rfl, h1, h2⟩
 ·rw [h1, h2]; exact ifF rfl (.of ⟨rfl, rfl⟩)
 ·rw [h1, h2]; exact ifT rfl (A5 rfl (A6 bs[i].bad (Co2 (fL_b hi)) (.of ⟨rfl, rfl⟩)))
theorem B96 (m : Nat) (d : Dev) (A : A4) (h : FH m d A) : Reads PP 18 #[.pointer (some ⟨m, 0, none⟩)] A (.bool d.down) := by
 obtain ⟨bv, bseg, bs, tv, tseg, ts, rfl, h⟩ := h
 refine Reads.of (args := [.pointer (some ⟨m, 0, none⟩)]) B5 B6 Tryz.func18 (e18 (some ⟨m, 0, none⟩) _) ?_
 unfold t18
 exact ifT rfl (A5 rfl (A6 d.down (Cs2 B84) (.of ⟨rfl, rfl⟩)))
def cfV (c : Cfg) : Value := .agg #[.i c.B, .i c.P, .i c.S, .i c.W]
theorem Aj2 (m : Nat) (d : Dev) (A : A4) (h : FH m d A) : CallF PP 93 #[.pointer (some ⟨m, 0, none⟩)] A fun r L' => r = cfV d.c /\ L' = A := by
 obtain ⟨bv, bseg, bs, tv, tseg, ts, rfl, h⟩ := h
 refine CallF.of (args := [.pointer (some ⟨m, 0, none⟩)]) B5 B6 Tryz.func93 (e93 (some ⟨m, 0, none⟩) _) ?_
 unfold t93
 refine C3 fun n _ => ifF rfl (A5 rfl ?_)
 refine A6 ((d.c.B : Int), (d.c.P : Int), (d.c.S : Int), (d.c.W : Int), ()) (f_cfg (List.mem_cons_of_mem _ B84)) ?_
 refine E3 (n := n) (off := 0) (c := #[.i 0, .i 0, .i 0, .i 0]) (T := 23) (fz := (0, 0)) [] _ rfl rfl (by simp) (.inl (Nat.le_refl _)) #[.i d.c.B, .i d.c.P, .i d.c.S, .i d.c.W] rfl ?_
 refine A6 ((d.c.B : Int), (d.c.P : Int), (d.c.S : Int), (d.c.W : Int), ()) (ldB List.mem_cons_self rfl) ?_
 exact .cons (.of ⟨rfl, rfl⟩)
def O3 (d : Dev) (b p : Int) : List UInt8 × Int :=
 if H6 d b p ≠ 0 then ([], H6 d b p) else match d.bs[b.toNat]? with
 | none => ([], 2)
 | some k => if k.bad then (blk d.c.S, 0) else (k.pages.getD p.toNat [], 0)
theorem Al2 {d : Dev} {b p : Int} (h : H6 d b p = 0) : d.down = false /\ 0 <= b /\ b < d.bs.length /\ 0 <= p /\ p < d.c.P := by
 unfold H6 at h
 split at h
 ·cases h
 ·split at h
  ·cases h
  ·split at h
   ·cases h
   ·rename_i h1 h2 h3
    refine ⟨by simpa using h1, ?_, ?_, ?_, ?_⟩ <;> omega
theorem Bh2 (m : Nat) (d : Dev) (A : A4) (h : FH m d A) (ok : S3 d) (b p : Int) :
  CallF PP 181 #[.pointer (some ⟨m, 0, none⟩), .i b, .i p] A fun r L' => ∃ g : PG, r = .tuple #[g.val, .i (O3 d b p).2] /\ L' = g.seg ++ A /\ g.Ok /\ g.l = (O3 d b p).1 := by
 obtain ⟨bv, bseg, bs, tv, tseg, ts, rfl, h⟩ := h
 refine CallF.of (args := [.pointer (some ⟨m, 0, none⟩), .i b, .i p]) B5 B6 Tryz.func181 (e181 (some ⟨m, 0, none⟩) b p _) ?_
 unfold t181
 have hfew := h.few ok
 have hP := ok.c.p
 have hS := ok.c.s
 refine B3 (Bj8 _ m d bv tv B84 bs h.sl (by omega) h.hb (by omega) b p) (if H6 d b p = 0 then Bf1 bs b else none, H6 d b p, ()) rfl ?_
 refine N1 (fun (he : H6 d b p ≠ 0) => ?_) (fun (he : H6 d b p = 0) => ?_)
 ·have hr : O3 d b p = ([], H6 d b p) := by unfold O3; rw [if_pos he]
  rw [hr]
  exact .of ⟨pg0, rfl, rfl, A96, rfl⟩
 obtain ⟨hdn, hb0, hb1, hp0, hp1⟩ := Al2 he
 obtain ⟨i, rfl⟩ : ∃ i : Nat, b = i := ⟨b.toNat, by omega⟩
 obtain ⟨q, rfl⟩ : ∃ q : Nat, p = q := ⟨p.toNat, by omega⟩
 have hbl : d.bs.length = bs.length := by rw [<- h.hb, List.length_map]
 have hi : i < bs.length := by omega
 have hk : d.bs[i]? = some bs[i].blk := by rw [<- h.hb, List.getElem?_map, List.getElem?_eq_getElem hi]; rfl
 have hmk : bs[i].blk ∈ d.bs := List.mem_of_getElem? hk
 rw [if_pos he, Ac1 hi]
 refine A5 rfl (A6 bs[i].bad (Co2 (fL_b hi)) ?_)
 refine G2 (fun (hbad : bs[i].bad = true) => ?_) (fun (hbad : bs[i].bad = false) => ?_)
 ·have hr : O3 d i q = (blk d.c.S, 0) := by
   unfold O3
   rw [if_neg (by simpa using he), Int.toNat_natCast, hk]
   show (if bs[i].bad = true then _ else _) = _
   rw [if_pos hbad]
  rw [hr]
  refine A5 rfl (A6 (d.c.S : Int) (f_S B84) ?_)
  refine H4 [] (fL m d bv bseg bs tv tseg ts) (A55 d.c.S (by omega)) rfl ?_
  rintro _ _ - ⟨g, rfl, rfl, hg, hgl⟩
  exact ⟨(g.v, ()), rfl, .of ⟨g, rfl, rfl, hg, hgl⟩⟩
 ·have hpl := (ok.pg _ hmk).1
  have hpl' : bs[i].ps.length = d.c.P := by rw [<- hpl]; simp [PB.blk]
  have hq : q < bs[i].ps.length := by omega
  have hr : O3 d i q = (bs[i].ps[q].l, 0) := by
   unfold O3
   rw [if_neg (by simpa using he), Int.toNat_natCast, Int.toNat_natCast, hk]
   show (if bs[i].bad = true then _ else ((bs[i].ps.map PG.l).getD q [], (0 : Int))) = _
   rw [if_neg (by rw [hbad]; decide), List.getD_eq_getElem?_getD, List.getElem?_map, List.getElem?_eq_getElem hq]; rfl
  rw [hr]
  have hbi := h.okb _ (List.getElem_mem hi)
  have hsub : ∀ x ∈ bs[i].objs, x ∈ fL m d bv bseg bs tv tseg ts := fun x hx => List.mem_cons_of_mem _ (List.mem_append_right _ (List.mem_append_left _ (List.mem_flatMap.2 ⟨bs[i], List.getElem_mem hi, hx⟩)))
  have hpsl : Sl (fL m d bv bseg bs tv tseg ts) bs[i].v 1 (bs[i].ps.map PG.val) := Sl.mono (hbi.own.sl.left.cons (p := bs[i].obj)) hsub
  have hgo := hbi.ps _ (List.getElem_mem hq)
  have hgsl : BSl (fL m d bv bseg bs tv tseg ts) bs[i].ps[q].v bs[i].ps[q].l := Sl.mono hgo.sl fun x hx => hsub x (List.mem_cons_of_mem _ (List.mem_append_right _ (List.mem_flatMap.2 ⟨_, List.getElem_mem hq, hx⟩)))
  have hgl : bs[i].ps[q].l.length = d.c.S := (ok.pg _ hmk).2 _ (List.mem_map.2 ⟨_, List.getElem_mem hq, rfl⟩)
  have hvl := hpsl.len
  rw [List.length_map] at hvl
  obtain ⟨a, ha, hld⟩ := hpsl.at' (i := q) (by omega) (by decide)
  refine C3 fun n _ => A5 rfl (A6 bs[i].v (b_ps (List.mem_cons_of_mem _ (fL_b hi))) (A5 ha (E0 (show (0 : Int) <= q by omega) (show (q : Int) < bs[i].v.len by omega) ?_)))
  refine A6 bs[i].ps[q].v ((hld.one ((q : Int).toNat * 1) (v := bs[i].ps[q].val) (by rw [Int.toNat_natCast, Nat.mul_one, List.getElem?_map, List.getElem?_eq_getElem hq]; rfl)).mono fun x hx => List.mem_cons_of_mem _ hx) ?_
  refine E5 Aj0 Ce8 [] (fL m d bv bseg bs tv tseg ts) Ac4 rfl (.sl hgsl.cons) (K4 _) (by rw [hgsl.len]; simp only; omega) fun v' seg' hv' own' => ?_
  rw [List.nil_append] at own' ⊢
  exact .of ⟨⟨v', seg', bs[i].ps[q].l⟩, rfl, rfl, own', rfl⟩
def Blk.put (k : Blk) (p : Nat) (l : List UInt8) : Blk := { k with pages := k.pages.set p l, next := p + 1 }
def J7 (d : Dev) : Dev := { d with bytes := IntKind.i64.wrap (d.bytes + d.c.S) }
def N5 (d : Dev) (data : List UInt8) : List UInt8 := data.take (R5 d.keep d.c.S) ++ blk (d.c.S - R5 d.keep d.c.S)
def Aw1 (d : Dev) (i p : Nat) (k : Blk) (data : List UInt8) : Int × Dev :=
 if (V9 (J7 d)).1 then (11, { (V9 (J7 d)).2 with bs := d.bs.set i (k.put p (N5 d data)), torn := d.torn ++ [⟨i, p, data, N5 d data⟩] })
 else (0, { (V9 (J7 d)).2 with bs := d.bs.set i (k.put p data) })
def prog (d : Dev) (b p : Int) (data : List UInt8) : Int × Dev :=
 if H6 d b p ≠ 0 then (H6 d b p, d) else if data.length ≠ d.c.S then (2, d) else
 match d.bs[b.toNat]? with
 | none => (2, d)
 | some k => if k.bad then (10, d) else if (k.next : Int) ≠ p then (9, d) else Aw1 d b.toNat p.toNat k data
theorem Bn0 (pre post : List PB) (x : PB) : Bf1 (pre ++ x :: post) (pre.length : Int) = some ⟨x.id, 0, none⟩ := by
 rw [Ac1 (by simp)]
 simp
theorem Bt7 (m : Nat) (d : Dev) (A R : A4) (h : FH m d A) (ok : S3 d) (hf : d.torn.length <= 1048576) (b p : Int) (u : SlV) (data : List UInt8) (hu : BSl R u data) :
  CallF PP 257 #[.pointer (some ⟨m, 0, none⟩), .i b, .i p, .slice u.a u.len u.cap] (A ++ R) fun r L' => ∃ A', L' = A' ++ R /\ r = .i (prog d b p data).1 /\ FH m (prog d b p data).2 A' := by
 have hA := h
 obtain ⟨bv, bseg, bs, tv, tseg, ts, rfl, h⟩ := h
 refine CallF.of (args := [.pointer (some ⟨m, 0, none⟩), .i b, .i p, .slice u.a u.len u.cap]) B5 B6 Tryz.func257 (e257 (some ⟨m, 0, none⟩) b p u _) ?_
 unfold t257
 have hfew := h.few ok
 have hP := ok.c.p
 have hS := ok.c.s
 have hul := hu.len
 refine B3 (Bj8 _ m d bv tv (List.mem_append_left _ B84) bs h.sl.left (by omega) h.hb (by omega) b p) (if H6 d b p = 0 then Bf1 bs b else none, H6 d b p, ()) rfl ?_
 refine N1 (fun (he : H6 d b p ≠ 0) => ?_) (fun (he : H6 d b p = 0) => ?_)
 ·have hr : prog d b p data = (H6 d b p, d) := by unfold prog; rw [if_pos he]
  rw [hr]
  exact .of ⟨_, rfl, rfl, hA⟩
 refine A5 rfl (A6 (d.c.S : Int) (f_S (List.mem_append_left _ B84)) ?_)
 refine N1 (fun (hs : (u.len : Int) ≠ (d.c.S : Int)) => ?_) (fun (hs : (u.len : Int) = (d.c.S : Int)) => ?_)
 ·have hr : prog d b p data = (2, d) := by unfold prog; rw [if_neg (by simpa using he), if_pos (by omega)]
  rw [hr]
  exact .of ⟨_, rfl, rfl, hA⟩
 have hdl : data.length = d.c.S := by omega
 obtain ⟨hdn, hb0, hb1, hp0, hp1⟩ := Al2 he
 obtain ⟨i, rfl⟩ : ∃ i : Nat, b = i := ⟨b.toNat, by omega⟩
 obtain ⟨q, rfl⟩ : ∃ q : Nat, p = q := ⟨p.toNat, by omega⟩
 have hbl : d.bs.length = bs.length := by rw [<- h.hb, List.length_map]
 have hi : i < bs.length := by omega
 obtain ⟨pre, x, post, rfl, rfl⟩ : ∃ pre x post, bs = pre ++ x :: post /\ pre.length = i := ⟨bs.take i, bs[i], bs.drop (i + 1), by rw [<- List.drop_eq_getElem_cons hi, List.take_append_drop], by rw [List.length_take]; omega⟩
 have hk : d.bs[pre.length]? = some x.blk := by rw [<- h.hb, List.getElem?_map]; simp
 have hset : ∀ y : PB, (pre ++ y :: post).map PB.blk = d.bs.set pre.length y.blk := fun y => by rw [<- h.hb]; simp
 have hmk : x.blk ∈ d.bs := List.mem_of_getElem? hk
 have hpr : prog d (pre.length : Int) (q : Int) data = if x.bad then (10, d) else if (x.next : Int) ≠ (q : Int) then (9, d) else Aw1 d pre.length q x.blk data := by
  unfold prog
  rw [if_neg (by simpa using he), if_neg (by omega), Int.toNat_natCast, Int.toNat_natCast, hk]
  rfl
 have hxm : x.obj ∈ fL m d bv bseg (pre ++ x :: post) tv tseg ts ++ R := List.mem_append_left _ (List.mem_cons_of_mem _ (List.mem_append_right _ (List.mem_append_left _ (by rw [M1, O8]; exact List.mem_append_right _ (List.mem_append_left _ List.mem_cons_self)))))
 rw [if_pos he, Bn0]
 refine A5 rfl (A6 x.bad (Co2 hxm) ?_)
 refine G2 (fun (hbad : x.bad = true) => ?_) (fun (hbad : x.bad = false) => ?_)
 ·rw [hpr, if_pos hbad]
  exact .of ⟨_, rfl, rfl, hA⟩
 refine A5 rfl (A6 (x.next : Int) (Cb2 hxm) ?_)
 refine N1 (fun (hn : (x.next : Int) ≠ (q : Int)) => ?_) (fun (hn : (x.next : Int) = (q : Int)) => ?_)
 ·rw [hpr, if_neg (by rw [hbad]; decide), if_pos hn]
  exact .of ⟨_, rfl, rfl, hA⟩
 rw [hpr, if_neg (by rw [hbad]; decide), if_neg (by omega)]
 clear hpr hA
 refine A5 rfl (A6 (d.c.S : Int) (f_S (List.mem_append_left _ B84)) ?_)
 have hok := h.okb x (by simp)
 have hpl := (ok.pg _ hmk).1
 have hpl' : x.ps.length = d.c.P := by rw [<- hpl]; simp [PB.blk]
 have hq : q < x.ps.length := by omega
 obtain ⟨D, g0, E, hps, hDl⟩ : ∃ D g0 E, x.ps = D ++ g0 :: E /\ D.length = q := ⟨x.ps.take q, x.ps[q], x.ps.drop (q + 1), by rw [<- List.drop_eq_getElem_cons hq, List.take_append_drop], by rw [List.length_take]; omega⟩
 have hL : fL m d bv bseg (pre ++ x :: post) tv tseg ts ++ R = fO m d bv tv :: (bseg ++ (E7 pre ++ (x.obj :: (x.seg ++ (pgs D ++ (g0.seg ++ (pgs E ++ (E7 post ++ (tseg ++ (M8 ts ++ R)))))))))) := by
  unfold fL
  rw [M1, O8]
  unfold PB.objs
  rw [hps, O4, Ah7]
  simp
 rw [hL]
 clear hL hxm
 refine H4 (fO m d bv tv :: (bseg ++ (E7 pre ++ (x.obj :: (x.seg ++ pgs D))))) (g0.seg ++ (pgs E ++ (E7 post ++ (tseg ++ (M8 ts ++ R))))) (A55 d.c.S (by omega)) (by simp) ?_
 rintro _ _ - ⟨g, rfl, rfl, hg, hgl⟩
 refine ⟨(g.v, ()), rfl, A5 rfl (A6 x.v (b_ps (by simp)) ?_)⟩
 have hxl := hok.own.len
 rw [List.length_map] at hxl
 have hxsl : Sl x.seg x.v 1 (x.ps.map PG.val) := hok.own.sl
 obtain ⟨xa, hxa, -⟩ := hxsl.at' (i := q) (by omega) (by decide)
 refine A5 hxa (E0 (show (0 : Int) <= q by omega) (show (q : Int) < x.v.len by omega) ?_)
 refine hok.own.st (p := q) (ws := [g.val]) (fO m d bv tv :: (bseg ++ (E7 pre ++ [x.obj]))) (pgs D ++ (g.seg ++ (g0.seg ++ (pgs E ++ (E7 post ++ (tseg ++ (M8 ts ++ R))))))) (by rw [List.length_map, List.length_singleton]; omega) (by simp) hxa (by rw [Int.toNat_natCast, Nat.mul_one]) (by simp) fun xs xown => ?_
 rw [Ah5 (by rw [List.length_map]; omega)] at xown
 have hvals : ∀ v, (x.ps.map PG.val).set q v = (D.map PG.val) ++ v :: (E.map PG.val) := by
  intro v
  rw [hps, List.map_append, List.set_append, if_neg (by simp [hDl]), List.length_map, hDl, Nat.sub_self, List.map_cons, List.set_cons_zero]
 rw [hvals] at xown
 have hnx : IntKind.i64.wrap ((x.next : Int) + 1) = ((q + 1 : Nat) : Int) := by rw [C1 (by omega) (by omega)]; omega
 refine A5 rfl (A6 (x.next : Int) (Cb2 (by simp)) (A5 rfl ?_))
 simp only [hnx]
 refine E3 (n := x.id) (off := 1) (c := #[.slice x.v.a x.v.len x.v.cap, .i x.next, .i x.wear, .bool x.bad]) (T := tBk) (fz := (0, 0)) (fO m d bv tv :: (bseg ++ E7 pre)) (xs ++ (pgs D ++ (g.seg ++ (g0.seg ++ (pgs E ++ (E7 post ++ (tseg ++ (M8 ts ++ R)))))))) rfl (by simp [PB.obj]) (by simp) (.inl (Nat.le_refl _))
  #[.slice x.v.a x.v.len x.v.cap, .i ((q + 1 : Nat) : Int), .i x.wear, .bool x.bad] rfl ?_
 have hox : ((x.id, Obj.cells #[.slice x.v.a x.v.len x.v.cap, .i ((q + 1 : Nat) : Int), .i x.wear, .bool x.bad] tBk) : Nat × Obj) = ({ x with next := q + 1 } : PB).obj := rfl
 rw [hox]
 refine A5 rfl (A5 rfl (A6 d.bytes (C24 (m := m) (bv := bv) (tv := tv) (by simp)) (A6 (d.c.S : Int) (f_S (m := m) (bv := bv) (tv := tv) (by simp)) (A5 rfl ?_))))
 refine E3 (n := m) (off := 8) (c := #[.i d.after, .i d.keep, .bool d.down, .i d.c.B, .i d.c.P, .i d.c.S, .i d.c.W, .slice bv.a bv.len bv.cap, .i d.bytes, .slice tv.a tv.len tv.cap]) (T := tFl) (fz := (0, 0)) [] (bseg ++ (E7 pre ++ (({ x with next := q + 1 } : PB).obj :: (xs ++ (pgs D ++ (g.seg ++ (g0.seg ++ (pgs E ++ (E7 post ++ (tseg ++ (M8 ts ++ R))))))))))) rfl (by simp [fO]) (by simp) (.inl (Nat.le_refl _))
  #[.i d.after, .i d.keep, .bool d.down, .i d.c.B, .i d.c.P, .i d.c.S, .i d.c.W, .slice bv.a bv.len bv.cap, .i (IntKind.i64.wrap (d.bytes + d.c.S)), .slice tv.a tv.len tv.cap] rfl (A5 rfl ?_)
 rw [List.nil_append]
 refine H4 [] (bseg ++ (E7 pre ++ (({ x with next := q + 1 } : PB).obj :: (xs ++ (pgs D ++ (g.seg ++ (g0.seg ++ (pgs E ++ (E7 post ++ (tseg ++ (M8 ts ++ R))))))))))) (Bl5 m (J7 d) bv tv ok.after) rfl ?_
 rintro _ _ - ⟨rfl, rfl⟩
 refine ⟨((V9 (J7 d)).1, ()), rfl, ?_⟩
 unfold Aw1
 obtain ⟨hc2, hb2, hk2, hy2, ht2⟩ := Ax5 (J7 d)
 generalize hd2 : V9 (J7 d) = tt at hc2 hb2 hk2 hy2 ht2 ⊢
 obtain ⟨t, d2⟩ := tt
 simp only at hc2 hb2 hk2 hy2 ht2 ⊢
 have hgv : g.v.len = d.c.S := by have := hg.sl.len; rw [E6, hgl, blk, List.length_replicate] at this; omega
 obtain ⟨ga, hga⟩ := BSl.some (L := g.seg) hg.sl (i := 0) (by rw [hgl, blk, List.length_replicate]; omega)
 unfold PG.Ok at hg
 rw [hgl] at hg
 have hus : ∀ X : A4, BSl (X ++ R) u data := fun X => hu.right
 have hfin : ∀ (l : List UInt8) (segg : A4), Own g.v 1 eB (bvs l) segg -> ({ x with seg := xs, ps := D ++ ⟨g.v, segg, l⟩ :: E, next := q + 1 } : PB).Ok := by
  intro l segg ho
  refine ⟨?_, fun y hy => ?_⟩
  ·show Own x.v 1 tB ((D ++ ⟨g.v, segg, l⟩ :: E).map PG.val) xs
   rw [List.map_append, List.map_cons]
   exact xown
  ·have hy' : y ∈ D \/ y = ⟨g.v, segg, l⟩ \/ y ∈ E := by simpa using hy
   rcases hy' with h1 | rfl | h1
   ·exact hok.ps y (by rw [hps]; simp [h1])
   ·exact ho
   ·exact hok.ps y (by rw [hps]; simp [h1])
 have hblk : ∀ (l : List UInt8) (segg : A4), ({ x with seg := xs, ps := D ++ ⟨g.v, segg, l⟩ :: E, next := q + 1 } : PB).blk = x.blk.put q l := by
  intro l segg
  unfold PB.blk Blk.put
  simp only
  rw [hps]
  congr 1
  rw [List.map_append, List.map_append, List.set_append, if_neg (by simp [hDl]), List.length_map, hDl, Nat.sub_self, List.map_cons, List.map_cons, List.set_cons_zero]
 have hokb : ∀ y : PB, y.Ok -> ∀ z ∈ pre ++ y :: post, z.Ok := by
  intro y hy z hz
  have hz' : z ∈ pre \/ z = y \/ z ∈ post := by simpa using hz
  rcases hz' with h1 | rfl | h1
  ·exact h.okb z (by simp [h1])
  ·exact hy
  ·exact h.okb z (by simp [h1])
 have hobp : ∀ y : PB, y.id = x.id -> Own bv 1 ePb ((pre ++ y :: post).map pbp) bseg := by
  intro y hy
  have : (pre ++ y :: post).map pbp = (pre ++ x :: post).map pbp := by simp [pbp, hy]
  rw [this]; exact h.ob
 cases t with
 | false =>
  refine ifT rfl ?_
  rw [if_neg (by decide)]
  refine Ap2 (T := eB) (sz := 1) (l := 0) (v := g.v) (a := ga) undB (by kernel_rfl) (fO m d2 bv tv :: (bseg ++ (E7 pre ++ (({ x with next := q + 1 } : PB).obj :: (xs ++ pgs D))))) (g0.seg ++ (pgs E ++ (E7 post ++ (tseg ++ (M8 ts ++ R))))) hg (by simp) hga (d := g.v) (by rw [hga]; rfl) (by omega) (u := u) (ws := bvs data) ?_ (K4 _) fun segg owng => ?_
  ·have := hus (fO m d2 bv tv :: (bseg ++ (E7 pre ++ (({ x with next := q + 1 } : PB).obj :: (xs ++ (pgs D ++ (g.seg ++ (g0.seg ++ (pgs E ++ (E7 post ++ (tseg ++ M8 ts)))))))))))
   simpa using this
  have hbb : Aw0 (bvs (blk d.c.S)) (0 * 1) ((bvs data).take (min u.len g.v.len * 1)) = bvs data := by
   rw [Bq6, A52, List.take_of_length_le (l := data) (by omega), Nat.zero_mul, List.take_zero, List.nil_append, List.drop_of_length_le (by rw [blk, List.length_replicate]; omega), List.append_nil]
  rw [hbb] at owng
  refine .drop (A := fL m { d2 with bs := d.bs.set pre.length (x.blk.put q data) } bv bseg (pre ++ ({ x with seg := xs, ps := D ++ ⟨g.v, segg, data⟩ :: E, next := q + 1 } : PB) :: post) tv tseg ts ++ R) (J := g0.seg)
   ⟨_, rfl, rfl, bv, bseg, _, tv, tseg, ts, rfl, hobp _ rfl, hokb _ (hfin _ _ owng), ?_, h.ot, h.okt, ?_⟩ ?_
  ·rw [hset, hblk]
  ·simp only; rw [ht2]; exact h.ht
  ·unfold fL
   rw [M1, O8]
   unfold PB.objs
   simp only
   rw [O4, Ah7]
   have ho1 : ({ x with seg := xs, ps := D ++ ⟨g.v, segg, data⟩ :: E, next := q + 1 } : PB).obj = ({ x with next := q + 1 } : PB).obj := rfl
   have ho2 : fO m { d2 with bs := d.bs.set pre.length (x.blk.put q data) } bv tv = fO m d2 bv tv := rfl
   rw [ho1, ho2]
   generalize ({ x with next := q + 1 } : PB).obj = ox
   generalize fO m d2 bv tv = of
   classical
   rw [List.perm_iff_count]
   intro z
   simp only [List.append_eq, List.cons_append, List.count_append, List.count_cons, List.count_nil]
   omega
 | true =>
  refine ifF rfl (A5 rfl (A5 rfl ?_))
  rw [if_pos rfl]
  have hcS : d2.c.S = d.c.S := by rw [hc2]; rfl
  have hkk : d2.keep = d.keep := hk2
  have ht2' : d2.torn = d.torn := ht2
  refine A6 (d2.c.S : Int) (f_S (m := m) (bv := bv) (tv := tv) (by simp)) ?_
  rw [hcS]
  refine B3 (B55 _ m d2 bv tv (by simp) d.c.S) ((R5 d2.keep d.c.S : Int), ()) rfl ?_
  rw [show R5 d2.keep d.c.S = R5 d.keep d.c.S by rw [hkk]]
  have hkp : R5 d.keep d.c.S <= d.c.S := by unfold R5; omega
  have hcap := hu.cap
  refine J5 (l' := 0) (h' := R5 d.keep d.c.S) (m' := u.cap) rfl rfl rfl (by omega) (by omega) (Nat.le_refl _) ?_
  have hss : ∀ X : A4, Sl (X ++ R) (N9 u (0 : Nat) (R5 d.keep d.c.S : Nat) (u.cap : Nat) 1) 1 (bvs (data.take (R5 d.keep d.c.S))) := by
   intro X
   have := (hus X).slc (l := 0) (h' := R5 d.keep d.c.S) (m := u.cap) (by decide) (by omega) (by omega) (by omega)
   rw [Ad2, List.drop_zero, Nat.sub_zero] at this
   exact this
  generalize N9 u (0 : Nat) (R5 d.keep d.c.S : Nat) (u.cap : Nat) 1 = us at hss ⊢
  have husl := (hss []).len
  rw [E6, List.length_take] at husl
  refine Ap2 (T := eB) (sz := 1) (l := 0) (v := g.v) (a := ga) undB (by kernel_rfl) (fO m d2 bv tv :: (bseg ++ (E7 pre ++ (({ x with next := q + 1 } : PB).obj :: (xs ++ pgs D))))) (g0.seg ++ (pgs E ++ (E7 post ++ (tseg ++ (M8 ts ++ R))))) hg (by simp) hga (d := g.v) (by rw [hga]; rfl) (by omega) (u := us) (ws := bvs (data.take (R5 d.keep d.c.S))) ?_ (K4 _) fun segg owng => ?_
  ·have := hss (fO m d2 bv tv :: (bseg ++ (E7 pre ++ (({ x with next := q + 1 } : PB).obj :: (xs ++ (pgs D ++ (g.seg ++ (g0.seg ++ (pgs E ++ (E7 post ++ (tseg ++ M8 ts)))))))))))
   simpa using this
  have hbb : Aw0 (bvs (blk d.c.S)) (0 * 1) ((bvs (data.take (R5 d.keep d.c.S))).take (min us.len g.v.len * 1)) = bvs (N5 d data) := by
   rw [Bq6, A52, List.take_of_length_le (l := data.take (R5 d.keep d.c.S)) (by rw [List.length_take]; omega), Nat.zero_mul, List.take_zero, List.nil_append, List.length_take]
   unfold N5 blk
   rw [List.drop_replicate, Nat.zero_add, Nat.min_eq_left (by omega)]
  rw [hbb] at owng
  have himl : (N5 d data).length = d.c.S := by
   unfold N5 blk
   rw [List.length_append, List.length_take, List.length_replicate]; omega
  refine A5 rfl (A6 tv (Cs1 (m := m) (d := d2) (bv := bv) (by simp)) (C3 fun n1 _ => ?_))
  have husL : BSl (fO m d2 bv tv :: (bseg ++ (E7 pre ++ (({ x with next := q + 1 } : PB).obj :: (xs ++ pgs D)))) ++ segg ++ (g0.seg ++ (pgs E ++ (E7 post ++ (tseg ++ (M8 ts ++ R)))))) u data := by
   have := hus (fO m d2 bv tv :: (bseg ++ (E7 pre ++ (({ x with next := q + 1 } : PB).obj :: (xs ++ (pgs D ++ (segg ++ (g0.seg ++ (pgs E ++ (E7 post ++ (tseg ++ M8 ts)))))))))))
   simpa using this
  have hgsL : BSl (fO m d2 bv tv :: (bseg ++ (E7 pre ++ (({ x with next := q + 1 } : PB).obj :: (xs ++ pgs D)))) ++ segg ++ (g0.seg ++ (pgs E ++ (E7 post ++ (tseg ++ (M8 ts ++ R)))))) g.v (N5 d data) := owng.sl.right.left
  have htoL : D0 ⟨m, 9, none⟩ [.slice tv.a tv.len tv.cap] (fO m d2 bv tv :: (bseg ++ (E7 pre ++ (({ x with next := q + 1 } : PB).obj :: (xs ++ pgs D)))) ++ segg ++ (g0.seg ++ (pgs E ++ (E7 post ++ (tseg ++ (M8 ts ++ R)))))) := Cs1 (m := m) (d := d2) (bv := bv) (by simp)
  generalize hLL : fO m d2 bv tv :: (bseg ++ (E7 pre ++ (({ x with next := q + 1 } : PB).obj :: (xs ++ pgs D)))) ++ segg ++ (g0.seg ++ (pgs E ++ (E7 post ++ (tseg ++ (M8 ts ++ R))))) = LL at husL hgsL htoL ⊢
  refine E5 Aj0 Ce8 [] LL Ac4 rfl (.sl husL.cons) (K4 _) (by simp only; omega) fun v5 seg5 hv5 own5 => ?_
  rw [List.nil_append] at own5 ⊢
  refine E9 (htoL.mono fun z hz => List.mem_append_right _ hz) (C3 fun n2 _ => ?_)
  refine E5 Aj0 Ce8 [] (seg5 ++ LL) Ac4 rfl (.sl hgsL.right.cons) (K4 _) (by simp only; omega) fun v6 seg6 hv6 own6 => ?_
  rw [List.nil_append] at own6 ⊢
  refine E9 (htoL.mono fun z hz => List.mem_append_right _ (List.mem_append_right _ hz)) (C3 fun n3 _ => ?_)
  subst hLL
  have htl : ts.length = d.torn.length := by rw [<- h.ht, List.length_map]
  have htvl := h.ot.sl.els_len PT.enc_len (by decide)
  refine E5 elemTs srcTs ((n3, Obj.cells #[.i pre.length, .i q, .slice v5.a v5.len v5.cap, .slice v6.a v6.len v6.cap] eT) :: (seg6 ++ (seg5 ++ (fO m d2 bv tv :: (bseg ++ (E7 pre ++ (({ x with next := q + 1 } : PB).obj :: (xs ++ (pgs D ++ (segg ++ (g0.seg ++ (pgs E ++ E7 post)))))))))))) (M8 ts ++ R) h.ot (by simp)
   (n := 1) (ws := PT.enc ⟨pre.length, q, ⟨v5, seg5, data⟩, ⟨v6, seg6, N5 d data⟩⟩) (x := .slice (some ⟨n3, 0, none⟩) 1 1) (Src.sl (v := ⟨some ⟨n3, 0, none⟩, 1, 1⟩) ⟨rfl, Nat.le_refl _, .inr ⟨_, rfl, ldB List.mem_cons_self rfl⟩⟩) rfl (by omega) fun v8 seg8 hv8 own8 => ?_
  refine A5 rfl ?_
  refine E3 (n := m) (off := 9) (c := #[.i d2.after, .i d2.keep, .bool d2.down, .i d2.c.B, .i d2.c.P, .i d2.c.S, .i d2.c.W, .slice bv.a bv.len bv.cap, .i d2.bytes, .slice tv.a tv.len tv.cap]) (T := tFl) (fz := (0, 0)) ((n3, Obj.cells #[.i pre.length, .i q, .slice v5.a v5.len v5.cap, .slice v6.a v6.len v6.cap] eT) :: (seg6 ++ seg5)) (bseg ++ (E7 pre ++ (({ x with next := q + 1 } : PB).obj :: (xs ++ (pgs D ++ (segg ++ (g0.seg ++ (pgs E ++ (E7 post ++ (seg8 ++ (M8 ts ++ R))))))))))) rfl (by simp [fO]) (by simp) (.inl (Nat.le_refl _))
   #[.i d2.after, .i d2.keep, .bool d2.down, .i d2.c.B, .i d2.c.P, .i d2.c.S, .i d2.c.W, .slice bv.a bv.len bv.cap, .i d2.bytes, .slice v8.a v8.len v8.cap] rfl ?_
  refine .drop (A := fL m { d2 with bs := d.bs.set pre.length (x.blk.put q (N5 d data)), torn := d.torn ++ [⟨pre.length, q, data, N5 d data⟩] } bv bseg (pre ++ ({ x with seg := xs, ps := D ++ ⟨g.v, segg, N5 d data⟩ :: E, next := q + 1 } : PB) :: post) v8 seg8 (ts ++ [⟨pre.length, q, ⟨v5, seg5, data⟩, ⟨v6, seg6, N5 d data⟩⟩]) ++ R) (J := (n3, Obj.cells #[.i pre.length, .i q, .slice v5.a v5.len v5.cap, .slice v6.a v6.len v6.cap] eT) :: g0.seg)
   ⟨_, rfl, rfl, bv, bseg, _, v8, seg8, _, rfl, hobp _ rfl, hokb _ (hfin _ _ owng), ?_, ?_, ?_, ?_⟩ ?_
  ·rw [hset, hblk]
  ·rw [List.flatMap_append, List.flatMap_singleton]; exact own8
  ·intro z hz
   rcases List.mem_append.1 hz with h1 | h1
   ·exact h.okt z h1
   ·rw [List.mem_singleton.1 h1]; exact ⟨own5, own6⟩
  ·rw [List.map_append, h.ht]; rfl
  ·unfold fL
   rw [M1, O8, A70, Bx7]
   unfold PB.objs
   simp only
   rw [O4, Ah7]
   have ho1 : ({ x with seg := xs, ps := D ++ ⟨g.v, segg, N5 d data⟩ :: E, next := q + 1 } : PB).obj = ({ x with next := q + 1 } : PB).obj := rfl
   have ho2 : fO m { d2 with bs := d.bs.set pre.length (x.blk.put q (N5 d data)), torn := d.torn ++ [⟨pre.length, q, data, N5 d data⟩] } bv v8 = (m, Obj.cells #[.i d2.after, .i d2.keep, .bool d2.down, .i d2.c.B, .i d2.c.P, .i d2.c.S, .i d2.c.W, .slice bv.a bv.len bv.cap, .i d2.bytes, .slice v8.a v8.len v8.cap] tFl) := rfl
   rw [ho1, ho2]
   generalize ({ x with next := q + 1 } : PB).obj = ox
   generalize (m, Obj.cells #[.i d2.after, .i d2.keep, .bool d2.down, .i d2.c.B, .i d2.c.P, .i d2.c.S, .i d2.c.W, .slice bv.a bv.len bv.cap, .i d2.bytes, .slice v8.a v8.len v8.cap] tFl) = of
   generalize (n3, Obj.cells #[.i pre.length, .i q, .slice v5.a v5.len v5.cap, .slice v6.a v6.len v6.cap] eT) = o3
   classical
   rw [List.perm_iff_count]
   intro z
   simp only [List.append_eq, List.cons_append, List.count_append, List.count_cons, List.count_nil]
   omega
def Blk.torn (k : Blk) (c : Cfg) (n : Nat) : Blk := { k with pages := List.replicate n (blk c.S) ++ k.pages.drop n, next := c.P }
def Blk.fresh (k : Blk) (c : Cfg) : Blk := ⟨List.replicate c.P (blk c.S), 0, k.wear + 1, decide (k.wear + 1 = c.W)⟩
def Am6 (d : Dev) (i : Nat) (k : Blk) : Int × Dev :=
 if (V9 d).1 then (11, { (V9 d).2 with bs := d.bs.set i (k.torn d.c (R5 d.keep d.c.P)) })
 else (if k.wear + 1 = d.c.W then 10 else 0, { (V9 d).2 with bs := d.bs.set i (k.fresh d.c) })
def J8 (d : Dev) (b : Int) : Int × Dev :=
 if H6 d b 0 ≠ 0 then (H6 d b 0, d) else
 match d.bs[b.toNat]? with
 | none => (2, d)
 | some k => if k.bad then (10, d) else Am6 d b.toNat k
theorem Cm5 (m : Nat) (d : Dev) (A : A4) (h : FH m d A) (ok : S3 d) (b : Int) :
  CallF PP 252 #[.pointer (some ⟨m, 0, none⟩), .i b] A fun r L' => r = .i (J8 d b).1 /\ FH m (J8 d b).2 L' := by
 have hA := h
 obtain ⟨bv, bseg, bs, tv, tseg, ts, rfl, h⟩ := h
 refine CallF.of (args := [.pointer (some ⟨m, 0, none⟩), .i b]) B5 B6 Tryz.func252 (e252 (some ⟨m, 0, none⟩) b _) ?_
 unfold t252
 have hfew := h.few ok
 have hP := ok.c.p
 have hS := ok.c.s
 have hW := ok.c.w
 refine B3 (Bj8 _ m d bv tv B84 bs h.sl (by omega) h.hb (by omega) b 0) (if H6 d b 0 = 0 then Bf1 bs b else none, H6 d b 0, ()) rfl ?_
 refine N1 (fun (he : H6 d b 0 ≠ 0) => ?_) (fun (he : H6 d b 0 = 0) => ?_)
 ·have hr : J8 d b = (H6 d b 0, d) := by unfold J8; rw [if_pos he]
  rw [hr]
  exact .of ⟨rfl, hA⟩
 obtain ⟨hdn, hb0, hb1, hp0, hp1⟩ := Al2 he
 obtain ⟨i, rfl⟩ : ∃ i : Nat, b = i := ⟨b.toNat, by omega⟩
 have hbl : d.bs.length = bs.length := by rw [<- h.hb, List.length_map]
 have hi : i < bs.length := by omega
 obtain ⟨pre, x, post, rfl, rfl⟩ : ∃ pre x post, bs = pre ++ x :: post /\ pre.length = i := ⟨bs.take i, bs[i], bs.drop (i + 1), by rw [<- List.drop_eq_getElem_cons hi, List.take_append_drop], by rw [List.length_take]; omega⟩
 have hk : d.bs[pre.length]? = some x.blk := by rw [<- h.hb, List.getElem?_map]; simp
 have hset : ∀ y : PB, (pre ++ y :: post).map PB.blk = d.bs.set pre.length y.blk := fun y => by rw [<- h.hb]; simp
 have hmk : x.blk ∈ d.bs := List.mem_of_getElem? hk
 have hpr : J8 d (pre.length : Int) = if x.bad then (10, d) else Am6 d pre.length x.blk := by
  unfold J8
  rw [if_neg (by simpa using he), Int.toNat_natCast, hk]
  rfl
 have hxm : x.obj ∈ fL m d bv bseg (pre ++ x :: post) tv tseg ts := (List.mem_cons_of_mem _ (List.mem_append_right _ (List.mem_append_left _ (by rw [M1, O8]; exact List.mem_append_right _ (List.mem_append_left _ List.mem_cons_self)))))
 rw [if_pos he, Bn0]
 refine A5 rfl (A6 x.bad (Co2 hxm) ?_)
 refine G2 (fun (hbad : x.bad = true) => ?_) (fun (hbad : x.bad = false) => ?_)
 ·rw [hpr, if_pos hbad]
  exact .of ⟨rfl, hA⟩
 rw [hpr, if_neg (by rw [hbad]; decide)]
 clear hpr hA hxm
 have hok := h.okb x (by simp)
 have hpl := (ok.pg _ hmk).1
 have hpl' : x.ps.length = d.c.P := by rw [<- hpl]; simp [PB.blk]
 have hxw : x.wear <= d.c.W := (ok.nx _ hmk).2.1
 have hL : fL m d bv bseg (pre ++ x :: post) tv tseg ts = fO m d bv tv :: (bseg ++ (E7 pre ++ (x.objs ++ (E7 post ++ (tseg ++ M8 ts))))) := by
  unfold fL
  rw [M1, O8]
  simp
 rw [hL]
 clear hL
 have hokb : ∀ y : PB, y.Ok -> ∀ z ∈ pre ++ y :: post, z.Ok := by
  intro y hy z hz
  have hz' : z ∈ pre \/ z = y \/ z ∈ post := by simpa using hz
  rcases hz' with h1 | rfl | h1
  ·exact h.okb z (by simp [h1])
  ·exact hy
  ·exact h.okb z (by simp [h1])
 have hobp : ∀ y : PB, y.id = x.id -> Own bv 1 ePb ((pre ++ y :: post).map pbp) bseg := by
  intro y hy
  have : (pre ++ y :: post).map pbp = (pre ++ x :: post).map pbp := by simp [pbp, hy]
  rw [this]; exact h.ob
 refine A5 rfl ?_
 refine H4 [] (bseg ++ (E7 pre ++ (x.objs ++ (E7 post ++ (tseg ++ M8 ts))))) (Bl5 m d bv tv ok.after) rfl ?_
 rintro _ _ - ⟨rfl, rfl⟩
 refine ⟨((V9 d).1, ()), rfl, ?_⟩
 unfold Am6
 obtain ⟨hc2, hb2, hk2, hy2, ht2⟩ := Ax5 d
 generalize hd2 : V9 d = tt at hc2 hb2 hk2 hy2 ht2 ⊢
 obtain ⟨t, d2⟩ := tt
 simp only at hc2 hb2 hk2 hy2 ht2 ⊢
 rw [List.nil_append]
 have hLs : [fO m d2 bv tv] ++ (bseg ++ (E7 pre ++ (x.objs ++ (E7 post ++ (tseg ++ M8 ts))))) = (fO m d2 bv tv :: (bseg ++ E7 pre)) ++ x.objs ++ (E7 post ++ (tseg ++ M8 ts)) := by simp
 rw [hLs]
 cases t with
 | true =>
  refine ifT rfl (A5 rfl (A5 rfl (A5 rfl ?_)))
  refine A6 (d.c.P : Int) (by have := f_P (m := m) (d := d2) (bv := bv) (tv := tv) (L := (fO m d2 bv tv :: (bseg ++ E7 pre)) ++ x.objs ++ (E7 post ++ (tseg ++ M8 ts))) (by simp); rw [hc2] at this; exact this) ?_
  have hls : D0 ⟨m, 5, none⟩ [.i d.c.S] ((fO m d2 bv tv :: (bseg ++ E7 pre)) ++ x.objs ++ (E7 post ++ (tseg ++ M8 ts))) := by have := f_S (m := m) (d := d2) (bv := bv) (tv := tv) (L := (fO m d2 bv tv :: (bseg ++ E7 pre)) ++ x.objs ++ (E7 post ++ (tseg ++ M8 ts))) (by simp); rw [hc2] at this; exact this
  refine A6 (d.c.S : Int) hls ?_
  refine B3 (B55 _ m d2 bv tv (by simp) d.c.P) ((R5 d2.keep d.c.P : Int), ()) rfl (E9 hls ?_)
  rw [show R5 d2.keep d.c.P = R5 d.keep d.c.P by rw [hk2]]
  have hkp : R5 d.keep d.c.P <= d.c.P := by unfold R5; omega
  refine H4 (fO m d2 bv tv :: (bseg ++ E7 pre)) (E7 post ++ (tseg ++ M8 ts)) (Bf4 x hok (R5 d.keep d.c.P) d.c.S (by omega) (by omega) (by omega)) rfl ?_
  rintro _ _ - ⟨rfl, seg', ps', rfl, hok', hps'⟩
  refine ⟨(), rfl, A5 rfl (A6 (d.c.P : Int) (by have := f_P (m := m) (d := d2) (bv := bv) (tv := tv) (L := (fO m d2 bv tv :: (bseg ++ E7 pre)) ++ ({ x with seg := seg', ps := ps' } : PB).objs ++ (E7 post ++ (tseg ++ M8 ts))) (by simp); rw [hc2] at this; exact this) (A5 rfl ?_))⟩
  refine E3 (n := x.id) (off := 1) (c := #[.slice x.v.a x.v.len x.v.cap, .i x.next, .i x.wear, .bool x.bad]) (T := tBk) (fz := (0, 0)) (fO m d2 bv tv :: (bseg ++ E7 pre)) (seg' ++ (pgs ps' ++ (E7 post ++ (tseg ++ M8 ts)))) rfl (by simp [PB.obj, PB.objs]) (by simp) (.inl (Nat.le_refl _))
   #[.slice x.v.a x.v.len x.v.cap, .i d.c.P, .i x.wear, .bool x.bad] rfl ?_
  refine .of ⟨rfl, bv, bseg, pre ++ ({ x with seg := seg', ps := ps', next := d.c.P } : PB) :: post, tv, tseg, ts, ?_, hobp _ rfl, hokb _ ⟨hok'.own, hok'.ps⟩, ?_, h.ot, h.okt, ?_⟩
  ·unfold fL
   rw [M1, O8]
   unfold PB.objs PB.obj
   simp [fO]
  ·rw [hset]
   congr 1
   unfold PB.blk Blk.torn
   simp only
   rw [hps']
  ·rw [if_pos rfl]; show _ = d2.torn; rw [ht2]; exact h.ht
 | false =>
  refine ifF rfl (A5 rfl (A5 rfl ?_))
  refine A6 (d.c.P : Int) (by have := f_P (m := m) (d := d2) (bv := bv) (tv := tv) (L := (fO m d2 bv tv :: (bseg ++ E7 pre)) ++ x.objs ++ (E7 post ++ (tseg ++ M8 ts))) (by simp); rw [hc2] at this; exact this) ?_
  have hls : D0 ⟨m, 5, none⟩ [.i d.c.S] ((fO m d2 bv tv :: (bseg ++ E7 pre)) ++ x.objs ++ (E7 post ++ (tseg ++ M8 ts))) := by have := f_S (m := m) (d := d2) (bv := bv) (tv := tv) (L := (fO m d2 bv tv :: (bseg ++ E7 pre)) ++ x.objs ++ (E7 post ++ (tseg ++ M8 ts))) (by simp); rw [hc2] at this; exact this
  refine A6 (d.c.S : Int) hls ?_
  refine H4 (fO m d2 bv tv :: (bseg ++ E7 pre)) (E7 post ++ (tseg ++ M8 ts)) (Bf4 x hok d.c.P d.c.S (by omega) (by omega) (by omega)) rfl ?_
  rintro _ _ - ⟨rfl, seg', ps', rfl, hok', hps'⟩
  refine ⟨(), rfl, A5 rfl (A6 (d.c.W : Int) (by have := f_W (m := m) (d := d2) (bv := bv) (tv := tv) (L := (fO m d2 bv tv :: (bseg ++ E7 pre)) ++ ({ x with seg := seg', ps := ps' } : PB).objs ++ (E7 post ++ (tseg ++ M8 ts))) (by simp); rw [hc2] at this; exact this) ?_)⟩
  refine H4 (fO m d2 bv tv :: (bseg ++ E7 pre)) (seg' ++ (pgs ps' ++ (E7 post ++ (tseg ++ M8 ts)))) (Cu6 ({ x with seg := seg', ps := ps' } : PB) d.c.W (by show x.wear <= 1048576; omega)) (by simp [PB.objs]) ?_
  rintro _ _ - ⟨rfl, rfl⟩
  have hwd : decide ((((({ x with seg := seg', ps := ps' } : PB).wear + 1 : Nat)) : Int) = (d.c.W : Int)) = decide (x.wear + 1 = d.c.W) := by
   show decide (((x.wear + 1 : Nat) : Int) = (d.c.W : Int)) = _
   by_cases hw1 : x.wear + 1 = d.c.W
   ·rw [decide_eq_true hw1, decide_eq_true (by omega)]
   ·rw [decide_eq_false hw1, decide_eq_false (by omega)]
  rw [hwd]
  refine ⟨(decide (x.wear + 1 = d.c.W), ()), rfl, ?_⟩
  rw [if_neg (by decide)]
  have hend : FH m { d2 with bs := d.bs.set pre.length (x.blk.fresh d.c) } ((fO m d2 bv tv :: (bseg ++ E7 pre)) ++ [({ x with seg := seg', ps := ps', next := 0, wear := x.wear + 1, bad := decide (x.wear + 1 = d.c.W) } : PB).obj] ++ (seg' ++ (pgs ps' ++ (E7 post ++ (tseg ++ M8 ts))))) := by
   refine ⟨bv, bseg, pre ++ ({ x with seg := seg', ps := ps', next := 0, wear := x.wear + 1, bad := decide (x.wear + 1 = d.c.W) } : PB) :: post, tv, tseg, ts, ?_, hobp _ rfl, hokb _ ⟨hok'.own, hok'.ps⟩, ?_, h.ot, h.okt, ?_⟩
   ·unfold fL
    rw [M1, O8]
    unfold PB.objs PB.obj
    simp [fO]
   ·rw [hset]
    congr 1
    unfold PB.blk Blk.fresh
    simp only
    rw [hps', List.drop_of_length_le (by rw [List.length_map]; omega), List.append_nil]
   ·show _ = d2.torn; rw [ht2]; exact h.ht
  refine B9 (fun (hw1 : x.wear + 1 = d.c.W) => .of ⟨?_, hend⟩) (fun (hw1 : ¬ x.wear + 1 = d.c.W) => .of ⟨?_, hend⟩)
  ·show Value.i 10 = .i (if x.wear + 1 = d.c.W then 10 else 0)
   rw [if_pos hw1]
  ·show Value.i 0 = .i (if x.wear + 1 = d.c.W then 10 else 0)
   rw [if_neg hw1]
def right (c : Int × Int × Int × Int × Unit) : Prop := 2 <= c.1 /\ c.1 <= 16 /\ 4 <= c.2.1 /\ c.2.1 <= 16 /\ 64 <= c.2.2.1 /\ c.2.2.1 <= 512 /\ 1 <= c.2.2.2.1 /\ c.2.2.2.1 <= 1048576
def cfg (c : Int × Int × Int × Int × Unit) : Cfg := ⟨c.1.toNat, c.2.1.toNat, c.2.2.1.toNat, c.2.2.2.1.toNat⟩
def blk0 (c : Cfg) : Blk := ⟨List.replicate c.P (blk c.S), 0, 0, false⟩
def fresh (c : Cfg) : Dev := ⟨c, 0, 0, false, List.replicate c.B (blk0 c), 0, []⟩
theorem Ct3 {c : Int × Int × Int × Int × Unit} (h : right c) : C47 (cfg c) := by
 unfold right at h
 refine ⟨?_, ?_, ?_, ?_⟩ <;> simp only [cfg] <;> omega
theorem Cl7 {c : Cfg} (h : C47 c) : S3 (fresh c) := by
 refine ⟨h, by simp [fresh], ?_, ?_, by simp [fresh], by simp [fresh]⟩
 ·intro k hk
  rw [List.eq_of_mem_replicate hk]
  refine ⟨by simp [blk0, fresh], fun l hl => ?_⟩
  rw [List.eq_of_mem_replicate hl]; simp [blk, fresh]
 ·intro k hk
  rw [List.eq_of_mem_replicate hk]
  have := h.w
  refine ⟨Nat.zero_le _, Nat.zero_le _, ?_⟩
  show false = decide (0 = c.W)
  rw [decide_eq_false (by omega)]
theorem Cd0 (n : Nat) : Ab1 [.slice none 0 0] n = (List.replicate n pg0).map PG.val := by
 unfold Ab1
 rw [List.map_replicate]
 induction n with
 | zero => rfl
 | succ n ih => rw [List.replicate_succ, List.replicate_succ, List.flatten_cons, ih]; rfl
theorem Cy5 (n : Nat) : pgs (List.replicate n pg0) = [] := by
 induction n with
 | zero => rfl
 | succ n ih => rw [List.replicate_succ, Ah7, ih]; rfl
theorem new_cl (c : Int × Int × Int × Int × Unit) :
  CallF PP 35 #[.agg #[.i c.1, .i c.2.1, .i c.2.2.1, .i c.2.2.2.1]] [] fun r L' => (¬ right c /\ r = .tuple #[.pointer none, .i 30] /\ L' = []) \/ (right c /\ ∃ m, r = .tuple #[.pointer (some ⟨m, 0, none⟩), .i 0] /\ FH m (fresh (cfg c)) L') := by
 refine CallF.of (args := [.agg #[.i c.1, .i c.2.1, .i c.2.2.1, .i c.2.2.2.1]]) B5 B6 Tryz.func35 (e35 c _) ?_
 unfold t35
 refine C3 fun n1 _ => ?_
 generalize ho : (n1, Obj.cells #[.i c.1, .i c.2.1, .i c.2.2.1, .i c.2.2.2.1] 23) = o1
 have lc : ∀ L : A4, o1 ∈ L -> D0 ⟨n1, 0, none⟩ [.i c.1, .i c.2.1, .i c.2.2.1, .i c.2.2.2.1] L := fun L hm => ldB (by rw [<- ho] at hm; exact hm) rfl
 clear ho
 have lB : ∀ L : A4, o1 ∈ L -> D0 ⟨n1, 0, none⟩ [.i c.1] L := fun L hm => (lc L hm).pre fun i u hu => by cases i with | zero => exact hu | succ i => exact absurd (show (none : Option Value) = some u from hu) (by simp)
 refine A6 c.1 (lB _ List.mem_cons_self) ?_
 refine B3 (Y2 _ c.1 2 16) (decide (2 <= c.1 /\ c.1 <= 16), ()) rfl ?_
 refine B9 (fun (h1 : 2 <= c.1 /\ c.1 <= 16) => ?_) (fun (h1 : ¬ (2 <= c.1 /\ c.1 <= 16)) => .cons (.of (.inl ⟨by unfold right; omega, rfl, rfl⟩)))
 refine A6 c.2.1 ((lc _ List.mem_cons_self).one 1 rfl) ?_
 refine B3 (Y2 _ c.2.1 4 16) (decide (4 <= c.2.1 /\ c.2.1 <= 16), ()) rfl ?_
 by_cases h2 : 4 <= c.2.1 /\ c.2.1 <= 16
 case neg => rw [decide_eq_false h2]; exact ifT rfl (.cons (.of (.inl ⟨by unfold right; omega, rfl, rfl⟩)))
 rw [decide_eq_true h2]
 refine ifF rfl (A6 c.2.2.1 ((lc _ List.mem_cons_self).one 2 rfl) ?_)
 refine B3 (Y2 _ c.2.2.1 64 512) (decide (64 <= c.2.2.1 /\ c.2.2.1 <= 512), ()) rfl ?_
 by_cases h3 : 64 <= c.2.2.1 /\ c.2.2.1 <= 512
 case neg => rw [decide_eq_false h3]; exact ifT rfl (.cons (.of (.inl ⟨by unfold right; omega, rfl, rfl⟩)))
 rw [decide_eq_true h3]
 refine ifF rfl (A6 c.2.2.2.1 ((lc _ List.mem_cons_self).one 3 rfl) ?_)
 refine B3 (Y2 _ c.2.2.2.1 1 1048576) (decide (1 <= c.2.2.2.1 /\ c.2.2.2.1 <= 1048576), ()) rfl ?_
 by_cases h4 : 1 <= c.2.2.2.1 /\ c.2.2.2.1 <= 1048576
 case neg => rw [decide_eq_false h4]; exact ifT rfl (.cons (.of (.inl ⟨by unfold right; omega, rfl, rfl⟩)))
 rw [decide_eq_true h4]
 refine ifF rfl ?_
 have hr : right c := by unfold right; omega
 have hck := Ct3 hr
 obtain ⟨cB, cP, cS, cW, u⟩ := c
 obtain ⟨B, rfl⟩ : ∃ B : Nat, cB = B := ⟨cB.toNat, by simp only at h1; omega⟩
 obtain ⟨Pn, rfl⟩ : ∃ B : Nat, cP = B := ⟨cP.toNat, by simp only at h2; omega⟩
 obtain ⟨S, rfl⟩ : ∃ B : Nat, cS = B := ⟨cS.toNat, by simp only at h3; omega⟩
 obtain ⟨W, rfl⟩ : ∃ B : Nat, cW = B := ⟨cW.toNat, by simp only at h4; omega⟩
 simp only at h1 h2 h3 h4
 have hcf : cfg ((B : Int), (Pn : Int), (S : Int), (W : Int), u) = ⟨B, Pn, S, W⟩ := by simp [cfg]
 rw [hcf] at hck ⊢
 refine A6 ((B : Int), (Pn : Int), (S : Int), (W : Int), ()) (lc _ List.mem_cons_self) (C3 fun m _ => ?_)
 have hm0 : ((m, Obj.cells #[.i 0, .i 0, .bool false, .i B, .i Pn, .i S, .i W, .slice none 0 0, .i 0, .slice none 0 0] tFl) : Nat × Obj) = fO m { fresh ⟨B, Pn, S, W⟩ with bs := [] } ⟨none, 0, 0⟩ ⟨none, 0, 0⟩ := rfl
 refine A6 (B : Int) (lB _ (by simp)) ?_
 refine G0 (fun z' z L' => ∃ (i : Nat) (bv : SlV) (bseg : A4) (bs : List PB) (J X Y : A4), i <= B /\ z' = B - i /\ z = ((i : Int), ()) /\ L' = X ++ fO m (fresh ⟨B, Pn, S, W⟩) bv ⟨none, 0, 0⟩ :: (bseg ++ Y) /\ (X ++ Y).Perm (E7 bs ++ (o1 :: J)) /\ Own bv 1 ePb (bs.map pbp) bseg /\ (∀ b ∈ bs, b.Ok) /\ bs.map PB.blk = List.replicate i (blk0 ⟨B, Pn, S, W⟩)) B
  ⟨0, ⟨none, 0, 0⟩, [], [], [], [], [o1], by omega, by omega, rfl, rfl, List.Perm.refl _, F7, by simp, rfl⟩ ?_
 rintro z' z L ⟨i, bv, bseg, bs, J, X, Y, hi, rfl, rfl, rfl, hp, own, hokb, hbs⟩
 have ho1 : o1 ∈ X ++ fO m (fresh ⟨B, Pn, S, W⟩) bv ⟨none, 0, 0⟩ :: (bseg ++ Y) := by
  have h5 : o1 ∈ X ++ Y := (hp.mem_iff (a := o1)).2 (by simp)
  have h6 : o1 ∈ X \/ o1 ∈ Y := by simpa using h5
  rcases h6 with h6 | h6 <;> simp [h6]
 have hbl : bs.length = i := by have := congrArg List.length hbs; rwa [List.length_map, List.length_replicate] at this
 refine B9 (fun (hlt : (i : Int) < (B : Int)) => ?_) (fun (hge : ¬ (i : Int) < (B : Int)) => ?_)
 ·refine A6 (Pn : Int) ((lc _ ho1).one 1 rfl) ?_
  refine At0 Bd3 (l := Pn) (c := Pn) (Nat.le_refl _) (by omega) fun q ob ownq _ _ => ?_
  rw [Cd0] at ownq
  refine C3 fun n3 _ => ?_
  refine A6 (Pn : Int) ((lc _ (List.mem_cons_of_mem _ (List.mem_cons_of_mem _ ho1))).one 1 rfl) (A6 (S : Int) ((lc _ (List.mem_cons_of_mem _ (List.mem_cons_of_mem _ ho1))).one 2 rfl) ?_)
  have hx0 : ({ id := n3, v := ⟨some ⟨q, 0, none⟩, Pn, Pn⟩, seg := [(q, ob)], ps := List.replicate Pn pg0, next := 0, wear := 0, bad := false } : PB).Ok := ⟨ownq, fun g hg => by rw [List.eq_of_mem_replicate hg]; exact A96⟩
  refine H4 [] (X ++ fO m (fresh ⟨B, Pn, S, W⟩) bv ⟨none, 0, 0⟩ :: (bseg ++ Y)) (Bf4 _ hx0 Pn S (by simp) (by omega) (by omega)) (by simp [PB.objs, PB.obj, Cy5]) ?_
  rintro _ _ - ⟨rfl, seg', ps', rfl, hok', hps'⟩
  refine ⟨(), rfl, ?_⟩
  rw [List.nil_append]
  generalize hx : ({ id := n3, v := ⟨some ⟨q, 0, none⟩, Pn, Pn⟩, seg := seg', ps := ps', next := 0, wear := 0, bad := false } : PB) = x at hok' ⊢
  have hxi : x.id = n3 := by rw [<- hx]
  have hxb : x.blk = blk0 ⟨B, Pn, S, W⟩ := by
   rw [<- hx]
   unfold PB.blk blk0
   simp only
   rw [hps', List.drop_of_length_le (by simp), List.append_nil]
  refine A6 bv (f_bs (m := m) (d := fresh ⟨B, Pn, S, W⟩) (tv := ⟨none, 0, 0⟩) (by simp)) (C3 fun n4 _ => ?_)
  have hbvl := own.len
  rw [List.length_map] at hbvl
  refine E5 elemPb srcPb ((n4, Obj.cells #[.pointer (some ⟨n3, 0, none⟩)] 94) :: (x.objs ++ (X ++ [fO m (fresh ⟨B, Pn, S, W⟩) bv ⟨none, 0, 0⟩]))) Y own (by simp)
   (n := 1) (ws := [pbp x]) (x := .slice (some ⟨n4, 0, none⟩) 1 1) (Src.sl (v := ⟨some ⟨n4, 0, none⟩, 1, 1⟩) ⟨rfl, Nat.le_refl _, .inr ⟨_, rfl, ldB (n := n4) (off := 0) (T := 94) (fz := (0, 0)) (c := #[.pointer (some ⟨n3, 0, none⟩)]) List.mem_cons_self (by unfold pbp; rw [hxi]; rfl)⟩⟩) rfl (by omega) fun v8 seg8 hv8 own8 => ?_
  refine E3 (n := m) (off := 7) (c := #[.i 0, .i 0, .bool false, .i B, .i Pn, .i S, .i W, .slice bv.a bv.len bv.cap, .i 0, .slice none 0 0]) (T := tFl) (fz := (0, 0)) ((n4, Obj.cells #[.pointer (some ⟨n3, 0, none⟩)] 94) :: (x.objs ++ X)) (seg8 ++ Y) rfl (by simp [fO, fresh]) (by simp) (.inl (Nat.le_refl _))
   #[.i 0, .i 0, .bool false, .i B, .i Pn, .i S, .i W, .slice v8.a v8.len v8.cap, .i 0, .slice none 0 0] rfl ?_
  refine ⟨B - (i + 1), by omega, i + 1, v8, seg8, bs ++ [x], (n4, Obj.cells #[.pointer (some ⟨n3, 0, none⟩)] 94) :: J, (n4, Obj.cells #[.pointer (some ⟨n3, 0, none⟩)] 94) :: (x.objs ++ X), Y, by omega, rfl, ?_, rfl, ?_, ?_, ?_, ?_⟩
  ·rw [C1 (by first | omega | (simp only; omega)) (by first | omega | (simp only; omega))]
   rfl
  ·generalize (n4, Obj.cells #[.pointer (some ⟨n3, 0, none⟩)] 94) = o4
   have hbo : E7 (bs ++ [x]) = E7 bs ++ x.objs := by rw [M1, O8]; simp [E7]
   rw [hbo]
   classical
   rw [List.perm_iff_count] at hp ⊢
   intro z
   have := hp z
   simp only [List.append_eq, List.cons_append, List.count_append, List.count_cons, List.count_nil] at this ⊢
   omega
  ·rw [List.map_append]; exact own8
  ·intro z hz
   rcases List.mem_append.1 hz with h5 | h5
   ·exact hokb z h5
   ·rw [List.mem_singleton.1 h5]; exact hok'
  ·rw [List.map_append, hbs, List.replicate_succ', List.map_singleton, hxb]
 ·obtain rfl : i = B := by omega
  refine .drop (A := fL m (fresh ⟨i, Pn, S, W⟩) bv bseg bs ⟨none, 0, 0⟩ [] []) (J := o1 :: J) (.inr ⟨hr, m, rfl, bv, bseg, bs, ⟨none, 0, 0⟩, [], [], rfl, own, hokb, hbs, F7, by simp, rfl⟩) ?_
  unfold fL
  have : M8 [] = [] := rfl
  rw [this]
  classical
  rw [List.perm_iff_count] at hp ⊢
  intro z
  have := hp z
  simp only [List.append_eq, List.cons_append, List.count_append, List.count_cons, List.count_nil] at this ⊢
  omega
structure C48 (c : Cfg) (k : Blk) : Prop where
 pg : k.pages.length = c.P /\ ∀ l ∈ k.pages, l.length = c.S
 nx : k.next <= c.P /\ k.wear <= c.W /\ k.bad = decide (k.wear = c.W)
theorem S3.bk {d : Dev} (h : S3 d) {k : Blk} (hk : k ∈ d.bs) : C48 d.c k := ⟨h.pg k hk, h.nx k hk⟩
theorem S3.set {d e : Dev} (h : S3 d) (hc : e.c = d.c) (i : Nat) (k : Blk) (hk : C48 d.c k) (hb : e.bs = d.bs.set i k) (ha : (e.after : Int) <= 9223372036854775807) (ht : ∀ t ∈ e.torn, t.meant.length = d.c.S /\ t.image.length = d.c.S) : S3 e := by
 have hm : ∀ x ∈ e.bs, C48 d.c x := by
  intro x hx
  rw [hb] at hx
  rcases List.mem_or_eq_of_mem_set hx with h1 | rfl
  ·exact h.bk h1
  ·exact hk
 refine ⟨hc ▸ h.c, ?_, ?_, ?_, ha, ?_⟩
 ·rw [hb, List.length_set, hc]; exact h.len
 ·intro x hx; rw [hc]; exact (hm x hx).pg
 ·intro x hx; rw [hc]; exact (hm x hx).nx
 ·rw [hc]; exact ht
theorem Ax6 (d : Dev) : (V9 d).2.after <= d.after := by
 unfold V9
 split
 ·exact Nat.le_refl _
 ·exact Nat.sub_le _ _
theorem W2 (d : Dev) : (V9 (J7 d)).2.c = d.c /\ (V9 (J7 d)).2.bs = d.bs /\ (V9 (J7 d)).2.torn = d.torn /\ (V9 (J7 d)).2.after <= d.after := by
 obtain ⟨h1, h2, h3, h4, h5⟩ := Ax5 (J7 d)
 exact ⟨h1, h2, h5, Ax6 (J7 d)⟩
theorem Cq8 {c : Cfg} {k : Blk} (hk : C48 c k) {p : Nat} (hp : p < c.P) {l : List UInt8} (hl : l.length = c.S) : C48 c (k.put p l) := by
 refine ⟨⟨?_, fun x hx => ?_⟩, ?_, hk.nx.2⟩
 ·show (k.pages.set p l).length = c.P
  rw [List.length_set]; exact hk.pg.1
 ·rcases List.mem_or_eq_of_mem_set hx with h1 | rfl
  ·exact hk.pg.2 x h1
  ·exact hl
 ·show p + 1 <= c.P
  exact hp
theorem Ap9 {d : Dev} {data : List UInt8} (h : data.length = d.c.S) : (N5 d data).length = d.c.S := by
 unfold N5 blk R5
 rw [List.length_append, List.length_take, List.length_replicate]; omega
theorem Ch8 {d : Dev} (ok : S3 d) {i p : Nat} {k : Blk} (hk : C48 d.c k) (hp : p < d.c.P) {data : List UInt8} (hl : data.length = d.c.S) : S3 (Aw1 d i p k data).2 := by
 obtain ⟨h1, h2, h3, h4⟩ := W2 d
 have ha := ok.after
 unfold Aw1
 split
 ·refine ok.set h1 i (k.put p (N5 d data)) (Cq8 hk hp (Ap9 hl)) rfl (by show ((V9 (J7 d)).2.after : Int) <= _; omega) ?_
  intro t ht
  rcases List.mem_append.1 ht with h | h
  ·exact ok.torn t h
  ·rw [List.mem_singleton.1 h]; exact ⟨hl, Ap9 hl⟩
 ·refine ok.set h1 i (k.put p data) (Cq8 hk hp hl) rfl (by show ((V9 (J7 d)).2.after : Int) <= _; omega) ?_
  intro t ht
  exact ok.torn t (by rw [<- h3]; exact ht)
theorem B22 {d : Dev} (ok : S3 d) (b p : Int) (data : List UInt8) : S3 (prog d b p data).2 := by
 unfold prog
 split
 ·exact ok
 ·rename_i he
  have he' : H6 d b p = 0 := by simpa using he
  obtain ⟨_, _, _, hp0, hp1⟩ := Al2 he'
  split
  ·exact ok
  ·rename_i hl
   split
   ·exact ok
   ·rename_i k hk
    split
    ·exact ok
    ·split
     ·exact ok
     ·exact Ch8 ok (ok.bk (List.mem_of_getElem? hk)) (by omega) (by omega)
theorem B89 {d : Dev} (ok : S3 d) {i : Nat} {k : Blk} (hk : C48 d.c k) (hb : k.bad = false) : S3 (Am6 d i k).2 := by
 obtain ⟨h1, h2, h3, h4, h5⟩ := Ax5 d
 have h6 := Ax6 d
 have ha := ok.after
 have hkp : R5 d.keep d.c.P <= d.c.P := by unfold R5; omega
 unfold Am6
 split
 ·refine ok.set h1 i (k.torn d.c (R5 d.keep d.c.P)) ⟨⟨?_, fun l hl => ?_⟩, Nat.le_refl _, hk.nx.2⟩ rfl (by show ((V9 d).2.after : Int) <= _; omega) (by intro t ht; exact ok.torn t (by rw [<- h5]; exact ht))
  ·show (List.replicate _ _ ++ _).length = _
   rw [List.length_append, List.length_replicate, List.length_drop, hk.pg.1]; omega
  ·rcases List.mem_append.1 hl with h | h
   ·rw [List.eq_of_mem_replicate h]; simp [blk]
   ·exact hk.pg.2 l (List.mem_of_mem_drop h)
 ·have hw : k.wear + 1 <= d.c.W := by
   have h7 := hk.nx.2
   rw [hb] at h7
   have := of_decide_eq_false h7.2.symm
   omega
  refine ok.set h1 i (k.fresh d.c) ⟨⟨?_, fun l hl => ?_⟩, Nat.zero_le _, hw, rfl⟩ rfl (by show ((V9 d).2.after : Int) <= _; omega) (by intro t ht; exact ok.torn t (by rw [<- h5]; exact ht))
  ·show (List.replicate _ _).length = _
   rw [List.length_replicate]
  ·rw [List.eq_of_mem_replicate hl]; simp [blk]
theorem Cm4 {d : Dev} (ok : S3 d) (b : Int) : S3 (J8 d b).2 := by
 unfold J8
 split
 ·exact ok
 ·split
  ·exact ok
  ·rename_i k hk
   split
   ·exact ok
   ·rename_i hb
    exact B89 ok (ok.bk (List.mem_of_getElem? hk)) (by simpa using hb)
theorem Bt8 (d : Dev) (i p : Nat) (k : Blk) (data : List UInt8) : (Aw1 d i p k data).2.torn.length <= d.torn.length + 1 := by
 obtain ⟨h1, h2, h3, h4⟩ := W2 d
 unfold Aw1
 split
 ·show (d.torn ++ [_]).length <= _
  rw [List.length_append]; exact Nat.le_refl _
 ·show (V9 (J7 d)).2.torn.length <= _
  rw [h3]; omega
theorem B21 (d : Dev) (b p : Int) (data : List UInt8) : (prog d b p data).2.torn.length <= d.torn.length + 1 := by
 unfold prog
 split
 ·exact Nat.le_succ _
 ·split
  ·exact Nat.le_succ _
  ·split
   ·exact Nat.le_succ _
   ·split
    ·exact Nat.le_succ _
    ·split
     ·exact Nat.le_succ _
     ·exact Bt8 _ _ _ _ _
theorem Bv5 (d : Dev) (b : Int) : (J8 d b).2.torn = d.torn := by
 obtain ⟨h1, h2, h3, h4, h5⟩ := Ax5 d
 unfold J8
 split
 ·rfl
 ·split
  ·rfl
  ·split
   ·rfl
   ·unfold Am6
    split
    ·exact h5
    ·exact h5
structure RK where
 v : SlV
 seg : A4
 l : List (List UInt8)
section
variable {L : A4} {m : Nat} {d : Dev} {pv nv wv bv tv : SlV}
end
instance (c : Int × Int × Int × Int × Unit) : Decidable (right c) := by unfold right; infer_instance
section
variable {m : Nat} {d : Dev} {pv : SlV} {pseg : A4} {rs : List RK} {nv : SlV} {nseg : A4} {wv : SlV} {wseg : A4} {bv : SlV} {bseg : A4} {tv : SlV} {tseg : A4} {ts : List PT}
end
structure DG (d : Dev) (n : Nat) : Prop where
 ok : S3 d
 few : d.torn.length + n <= 1048576
def U0 (d : Dev) (b : Int) (h : Hd) (p : List UInt8) : Int × Dev := if (At7 h p d.c.S).2 ≠ 0 then ((At7 h p d.c.S).2, d) else prog d b h.2.2.2.2.1 (At7 h p d.c.S).1
def Ag2 (d : Dev) (b ep : Int) : Int × Dev := U0 d b (1, 0, 1, ep, 0, ()) []
def Bw6 (b ep at' kind n : Int) : Dev -> Nat -> List (List UInt8) -> Int × Dev
 | d, _, [] => (0, d)
 | d, i, p :: r => if (U0 d b (kind, i, n, ep, at' + i, ()) p).1 = 0 then Bw6 b ep at' kind n (U0 d b (kind, i, n, ep, at' + i, ()) p).2 (i + 1) r else U0 d b (kind, i, n, ep, at' + i, ()) p
def Ax0 (d : Dev) (b ep at' kind : Int) (l : List (List UInt8)) : Int × Dev := if l = [] then (2, d) else Bw6 b ep at' kind l.length d 0 l
def itB (x : It) : List Int := [x.1, x.2.1, x.2.2.1]
instance (l : List Int) : Decidable (inB l) := by unfold inB; infer_instance
def Ae9 (l : List It) : List UInt8 := (l.flatMap itB).map Bx5
def Ab2 (d : Dev) (b ep at' : Int) (l : List It) : Int × Dev := if inB (l.flatMap itB) then U0 d b (4, 0, 1, ep, at', ()) (Ae9 l) else (3, d)
def N4 (d : Dev) (b : Int) : List (List UInt8) × Int := if H6 d b 0 ≠ 0 then ([], H6 d b 0) else ((List.range d.c.P).map fun (p : Nat) => (O3 d b (p : Int)).1, 0)
theorem imgR_0 {h : Hd} {p : List UInt8} {size : Int} (e : (At7 h p size).2 = 0) : Am3 h = 0 := by
 unfold At7 at e
 split at e
 ·simp at e
 ·split at e
  ·rename_i h2; exact absurd e h2
  ·rename_i h2; exact Classical.not_not.1 h2
theorem Cy4 {d : Dev} {b : Int} {h : Hd} {p : List UInt8} (e : (U0 d b h p).1 = 0) : Am3 h = 0 := by
 unfold U0 at e
 split at e
 ·rename_i h2; exact absurd e h2
 ·rename_i h2; exact imgR_0 (Classical.not_not.1 h2)
theorem Cy3 {d : Dev} {n : Nat} (g : DG d (n + 1)) (b : Int) (h : Hd) (p : List UInt8) : DG (U0 d b h p).2 n := by
 unfold U0
 split
 ·exact ⟨g.ok, by have := g.few; show d.torn.length + n <= _; omega⟩
 ·refine ⟨B22 g.ok _ _ _, ?_⟩
  have h1 := B21 d b h.2.2.2.2.1 (At7 h p d.c.S).1
  have := g.few
  omega
theorem DG.le {d : Dev} {n m : Nat} (g : DG d n) (h : m <= n) : DG d m := ⟨g.ok, by have := g.few; omega⟩
theorem p3 {A B C : A4} : (A ++ (B ++ C)).Perm (B ++ (A ++ C)) := List.perm_append_comm_assoc A B C
def DevK (H : Nat -> Dev -> A4 -> Prop) (m : Nat) (q : Int × Dev) (R : A4) (r : Value) (L' : A4) : Prop := ∃ A', L' = A' ++ R /\ r = .i q.1 /\ H m q.2 A'
theorem A19 (m : Nat) (d : Dev) (A R : A4) (h : FH m d A) (g : DG d 1) (b : Int) (hd : Hd) (u : SlV) (p : List UInt8) (hu : BSl R u p) :
  CallF PP 193 #[.pointer (some ⟨m, 0, none⟩), .i b, .agg #[.i hd.1, .i hd.2.1, .i hd.2.2.1, .i hd.2.2.2.1, .i hd.2.2.2.2.1], .slice u.a u.len u.cap] (A ++ R) (DevK FH m (U0 d b hd p) R) := by
 refine c193 (some ⟨m, 0, none⟩) b hd u ?_
 unfold s193
 have hc := g.ok.c.s
 refine B3 (Reads.in (X := []) (Y := R) (Aj2 m d A h)) ((d.c.B, d.c.P, d.c.S, d.c.W, ()), ()) rfl ?_
 refine Q2 (B25 (A ++ R) hd u p hu.right (d.c.S : Int) (by omega)) ?_
 rintro _ _ - ⟨s, sg, rfl, rfl, own⟩
 refine ⟨(s, (At7 hd p d.c.S).2, ()), rfl, C0 (fun (h0 : (At7 hd p d.c.S).2 = 0) => ?_) (fun (h0 : ¬ (At7 hd p d.c.S).2 = 0) => ?_)⟩
 ·refine Q2 (CallF.perm p3 (Bt7 m d A (sg ++ R) h g.ok (by have := g.few; omega) b hd.2.2.2.2.1 s (At7 hd p d.c.S).1 own.sl.left)) ?_
  rintro _ _ - ⟨A', rfl, rfl, h'⟩
  have e : U0 d b hd p = prog d b hd.2.2.2.2.1 (At7 hd p d.c.S).1 := by unfold U0; rw [if_neg (by simpa using h0)]
  refine ⟨((prog d b hd.2.2.2.2.1 (At7 hd p d.c.S).1).1, ()), rfl, .drop (A := A' ++ R) (J := sg) ⟨A', rfl, by rw [e], by rw [e]; exact h'⟩ ?_⟩
  exact (p3.trans List.perm_append_comm)
 ·have e : U0 d b hd p = ((At7 hd p d.c.S).2, d) := by unfold U0; rw [if_pos h0]
  exact .app (.of ⟨A, rfl, by rw [e], by rw [e]; exact h⟩)
theorem Cz0 (m : Nat) (d : Dev) (A R : A4) (h : FH m d A) (g : DG d 1) (b ep : Int) : CallF PP 254 #[.pointer (some ⟨m, 0, none⟩), .i b, .i ep] (A ++ R) (DevK FH m (Ag2 d b ep) R) := by
 refine c254 (some ⟨m, 0, none⟩) b ep ?_
 unfold s254
 refine Q2 (A19 m d A R h g b (1, 0, 1, ep, 0, ()) ⟨none, 0, 0⟩ [] (Sl.nil 1)) ?_
 rintro _ _ - ⟨A', rfl, rfl, h'⟩
 exact ⟨((Ag2 d b ep).1, ()), rfl, .of ⟨A', rfl, rfl, h'⟩⟩
theorem Cb5 (m : Nat) (d : Dev) (A R : A4) (h : FH m d A) (u : SlV) (l : List PV) (hu : U3 R u l) (hl : l.length <= 1000000) (g : DG d l.length) (b ep at' kind : Int) (hat : W1 .i64 at') :
  CallF PP 135 #[.pointer (some ⟨m, 0, none⟩), .i b, .i ep, .i at', .i kind, .slice u.a u.len u.cap] (A ++ R) (DevK FH m (Ax0 d b ep at' kind (l.map Prod.snd)) R) := by
 refine c135 (some ⟨m, 0, none⟩) b ep at' kind u ?_
 unfold s135
 have hul := hu.len
 have hat' := Bl2 hat
 refine C0 (fun (h0 : (u.len : Int) = 0) => ?_) (fun (h0 : ¬ (u.len : Int) = 0) => ?_)
 ·have e : l.map Prod.snd = [] := by rw [List.map_eq_nil_iff]; exact List.length_eq_zero_iff.1 (by omega)
  exact .of ⟨A, rfl, by unfold Ax0; rw [if_pos e], by unfold Ax0; rw [if_pos e]; exact h⟩
 have hne : l.map Prod.snd ≠ [] := fun e => h0 (by have := congrArg List.length e; rw [List.length_map, List.length_nil] at this; omega)
 have hA : Ax0 d b ep at' kind (l.map Prod.snd) = Bw6 b ep at' kind l.length d 0 (l.map Prod.snd) := by unfold Ax0; rw [if_neg hne, List.length_map]
 rw [hA]
 refine G0 (fun z' z L' => ∃ (i : Nat) (x : Int) (d' : Dev) (A' : A4), i <= l.length /\ z' = l.length - i /\ z = ((i : Int), kind, x, (l.length : Int), ep, at' + i, ()) /\ L' = A' ++ R /\ FH m d' A' /\ DG d' (l.length - i) /\ (0 < i -> at' <= 15) /\ Bw6 b ep at' kind l.length d 0 (l.map Prod.snd) = Bw6 b ep at' kind l.length d' i ((l.drop i).map Prod.snd)) l.length
  ⟨0, 0, d, A, by omega, by omega, by rw [hul]; simp, rfl, h, g, by omega, by simp⟩ ?_
 rintro z' z _ ⟨i, x, d', A', hi, rfl, rfl, rfl, h', g', h15, hst⟩
 dsimp only
 refine C0 (fun (hlt : (i : Int) < u.len) => ?_) (fun (hge : ¬ (i : Int) < u.len) => ?_)
 ·have hi' : i < l.length := by omega
  refine Cm7 (hu.sl.mono A26) rfl (by rw [List.length_map]; exact hi') fun a ha => ?_
  rw [List.getElem_map] at ha
  refine A6 l[i].1 ha (Q2 (A19 m d' A' R h' (g'.le (by omega)) b (kind, (i : Int), (l.length : Int), ep, at' + i, ()) l[i].1 l[i].2 (hu.val _ (List.getElem_mem hi'))) ?_)
  rintro _ _ - ⟨A2, rfl, rfl, h2⟩
  rw [List.drop_eq_getElem_cons hi', List.map_cons, Bw6] at hst
  refine ⟨((U0 d' b (kind, (i : Int), (l.length : Int), ep, at' + i, ()) l[i].2).1, ()), rfl, C0 (fun (h0 : (U0 d' b (kind, (i : Int), (l.length : Int), ep, at' + i, ()) l[i].2).1 = 0) => ?_) (fun (h0 : ¬ (U0 d' b (kind, (i : Int), (l.length : Int), ep, at' + i, ()) l[i].2).1 = 0) => ?_)⟩
  ·have hk := Ag4 (Cy4 h0)
   simp only at hk
   rw [if_pos h0] at hst
   refine D9 (by omega) (D9 (by omega) ⟨l.length - (i + 1), by omega, i + 1, i, _, A2, by omega, rfl, ?_, rfl, h2, Cy3 (n := l.length - (i + 1)) (g'.le (by omega)) _ _ _, fun _ => by omega, hst⟩)
   rw [show at' + (i : Int) + 1 = at' + ((i + 1 : Nat) : Int) by omega]
   rfl
  ·rw [if_neg h0] at hst
   exact .of ⟨A2, rfl, by rw [hst], by rw [hst]; exact h2⟩
 ·obtain rfl : i = l.length := by omega
  rw [List.drop_length, List.map_nil, Bw6] at hst
  exact .of ⟨A', rfl, by rw [hst], by rw [hst]; exact h'⟩
theorem C11 {a b : List Int} : inB (a ++ b) ↔ inB a /\ inB b := by
 unfold inB
 constructor
 ·exact fun h => ⟨fun n hn => h n (List.mem_append_left _ hn), fun n hn => h n (List.mem_append_right _ hn)⟩
 ·rintro ⟨h1, h2⟩ n hn
  rcases List.mem_append.1 hn with h | h
  ·exact h1 n h
  ·exact h2 n h
theorem inB_no {l : List It} {x : It} (hx : x ∈ l) (h : ¬ inB (itB x)) : ¬ inB (l.flatMap itB) := fun hh => h fun n hn => hh n (List.mem_flatMap.2 ⟨x, hx, hn⟩)
theorem Bs9 (l : List It) : (Ae9 l).length = 3 * l.length := by
 unfold Ae9
 rw [List.length_map]
 induction l with
 | nil => rfl
 | cons x r ih => rw [List.flatMap_cons, List.length_append, ih]; simp [itB]; omega
theorem Bg8 (l : List It) (x : It) : Ae9 (l ++ [x]) = Ae9 l ++ (itB x).map Bx5 := by simp [Ae9]
theorem B00 (m : Nat) (d : Dev) (A R : A4) (h : FH m d A) (u : SlV) (l : List It) (hu : Sl R u 3 (l.flatMap N7)) (hl : l.length <= 300) (g : DG d 1) (b ep at' : Int) :
  CallF PP 249 #[.pointer (some ⟨m, 0, none⟩), .i b, .i ep, .i at', .slice u.a u.len u.cap] (A ++ R) (DevK FH m (Ab2 d b ep at' l) R) := by
 refine c249 (some ⟨m, 0, none⟩) b ep at' u ?_
 unfold s249
 have hul := hu.els_len E1 (by decide)
 refine G0 (fun z' z L' => ∃ (i : Nat) (s : SlV) (sg J : A4), i <= l.length /\ z' = l.length - i /\ z = (s, (i : Int), ()) /\ L' = sg ++ (J ++ (A ++ R)) /\ Own s 1 eB (bvs (Ae9 (l.take i))) sg /\ inB ((l.take i).flatMap itB)) l.length ⟨0, ⟨none, 0, 0⟩, [], [], by omega, by omega, rfl, rfl, F7, by intro n hn; simp at hn⟩ ?_
 rintro z' z _ ⟨i, s, sg, J, hi, rfl, rfl, rfl, own, hin⟩
 dsimp only
 refine C0 (fun (hlt : (i : Int) < u.len) => ?_) (fun (hge : ¬ (i : Int) < u.len) => ?_)
 ·have hi' : i < l.length := by omega
  refine V5 E1 (by decide) (((hu.mono A26).mono A26).mono A26) rfl hi' fun a ha => ?_
  refine A6 (l[i] : It) ha (C3 fun n2 _ => ?_)
  have hlen := Bs9 (l.take i)
  rw [List.length_take] at hlen
  refine Q2 (CallF.perm List.perm_middle (Bq5 ((n2, Obj.cells #[.i l[i].1, .i l[i].2.1, .i l[i].2.2.1] 3) :: (J ++ (A ++ R))) s (Ae9 (l.take i)) sg own (by omega) ⟨some ⟨n2, 0, none⟩, 3, 3⟩ (itB l[i]) ⟨rfl, Nat.le_refl _, .inr ⟨_, rfl, ldB List.mem_cons_self rfl⟩⟩ (by simp [itB]))) ?_
  rintro _ _ - ⟨sg2, rfl, ⟨hb, v2, rfl, own2⟩ | ⟨hb, rfl⟩⟩
  ·refine ⟨(v2, true, ()), rfl, ifT rfl (D9 (by omega) ⟨l.length - (i + 1), by omega, i + 1, v2, sg2, (n2, Obj.cells #[.i l[i].1, .i l[i].2.1, .i l[i].2.2.1] 3) :: J, by omega, rfl, rfl, by simp, ?_, ?_⟩)⟩
   ·rw [List.take_succ_eq_append_getElem hi', Bg8]; exact own2
   ·rw [List.take_succ_eq_append_getElem hi', List.flatMap_append, C11, List.flatMap_singleton]; exact ⟨hin, hb⟩
  ·have e : Ab2 d b ep at' l = (3, d) := by unfold Ab2; rw [if_neg (inB_no (List.getElem_mem hi') hb)]
   exact ⟨(⟨none, 0, 0⟩, false, ()), rfl, ifF rfl (.app (.cons (.app (.of ⟨A, rfl, by rw [e], by rw [e]; exact h⟩))))⟩
 ·obtain rfl : i = l.length := by omega
  rw [List.take_length] at own hin
  refine Q2 (CallF.perm (L := A ++ (sg ++ (J ++ R))) ?_ (A19 m d A (sg ++ (J ++ R)) h g b (4, 0, 1, ep, at', ()) s (Ae9 l) own.sl.left)) ?_
  ·classical
   rw [List.perm_iff_count]
   intro z
   simp only [List.count_append]
   omega
  rintro _ _ - ⟨A2, rfl, rfl, h2⟩
  have e : Ab2 d b ep at' l = U0 d b (4, 0, 1, ep, at', ()) (Ae9 l) := by unfold Ab2; rw [if_pos hin]
  refine ⟨(_, ()), rfl, .drop (A := A2 ++ R) (J := sg ++ J) ⟨A2, rfl, by rw [e], by rw [e]; exact h2⟩ ?_⟩
  classical
  rw [List.perm_iff_count]
  intro z
  simp only [List.count_append]
  omega
def C44 (q : List (List UInt8) × Int) (A : A4) (r : Value) (L' : A4) : Prop := ∃ (v : SlV) (gs : List PG) (seg : A4), r = .tuple #[.slice v.a v.len v.cap, .i q.2] /\ L' = seg ++ (pgs gs ++ A) /\ Own v 1 tB (gs.map PG.val) seg /\ (∀ g ∈ gs, g.Ok) /\ gs.map PG.l = q.1
theorem B82 {d : Dev} {b : Int} {p : Nat} (hp : p < d.c.P) : H6 d b p = H6 d b 0 := by
 unfold H6
 have h1 : (0 <= (p : Int) /\ (p : Int) < d.c.P) := by omega
 have h2 : (0 <= (0 : Int) /\ (0 : Int) < d.c.P) := by omega
 simp only [h1, h2, and_self, not_true_eq_false, if_false]
theorem A89 {d : Dev} (ok : S3 d) (b p : Int) : (O3 d b p).2 = H6 d b p := by
 unfold O3
 split
 ·rfl
 ·rename_i h
  have h0 : H6 d b p = 0 := Classical.not_not.1 h
  have := Al2 h0
  split
  ·rename_i hn
   have hlt : b.toNat < d.bs.length := by omega
   rw [List.getElem?_eq_getElem hlt] at hn; cases hn
  ·split <;> exact h0.symm
theorem DG.pb {d : Dev} (ok : S3 d) : 4 <= d.c.P /\ d.c.P <= 16 := ok.c.p
def Bw9 (d : Dev) (b : Int) (A : A4) (i : Nat) (s : SlV) (L' : A4) : Prop := ∃ (gs : List PG) (sg J : A4), L'.Perm (sg ++ (pgs gs ++ (J ++ A))) /\ Own s 1 tB (gs.map PG.val) sg /\ (∀ g ∈ gs, g.Ok) /\ gs.map PG.l = (List.range i).map fun (p : Nat) => (O3 d b (p : Int)).1
theorem Bw9.nil (d : Dev) (b : Int) (A : A4) : Bw9 d b A 0 ⟨none, 0, 0⟩ A := ⟨[], [], [], List.Perm.refl _, F7, by simp, rfl⟩
theorem Bw9.p {d : Dev} {b : Int} {A : A4} {i : Nat} {s : SlV} {L' : A4} (h : Bw9 d b A i s L') : ∃ G : A4, L'.Perm (A ++ G) := by
 obtain ⟨gs, sg, J, hp, -⟩ := h
 exact ⟨sg ++ (pgs gs ++ J), pc fun z => by have := pcn hp z; simp only [B7] at this ⊢; omega⟩
theorem Bw9.fin {d : Dev} {b : Int} {A : A4} {s : SlV} {L' : A4} (h : Bw9 d b A d.c.P s L') (h0 : H6 d b 0 = 0) : HL.Ends (C44 (N4 d b) A) (.tuple #[.slice s.a s.len s.cap, .i 0]) L' := by
 obtain ⟨gs, sg, J, hp, own, hok, hg⟩ := h
 have e : N4 d b = ((List.range d.c.P).map fun (p : Nat) => (O3 d b (p : Int)).1, 0) := by unfold N4; rw [if_neg (by simpa using h0)]
 exact .drop (A := sg ++ (pgs gs ++ A)) (J := J) ⟨s, gs, sg, by rw [e], rfl, own, hok, by rw [e]; exact hg⟩ (pc fun z => by have := pcn hp z; simp only [B7] at this ⊢; omega)
theorem Bw9.snoc {d : Dev} {b : Int} {A : A4} {i : Nat} {s : SlV} {L' : A4} (h : Bw9 d b A i s L') (hi : i <= 16) (g : PG) (hg : g.Ok) (hl : g.l = (O3 d b i).1) {L2 : A4} (hp2 : L2.Perm (g.seg ++ L')) {k : SlV -> HP} (hk : ∀ s' L', Bw9 d b A (i + 1) s' L' -> k s' L') :
  apv PP tPs tPs tPs tB s 1 [g.val] k L2 := by
 obtain ⟨gs, sg, J, hp, own, hok, hgl⟩ := h
 have hln := congrArg List.length hgl
 rw [List.length_map, List.length_map, List.length_range] at hln
 have hsl := own.len
 rw [List.length_map] at hsl
 refine Af6 Bd3 Ce7 (Y := g.seg ++ (pgs gs ++ (J ++ A))) own (pc fun z => by have := pcn hp z; have := pcn hp2 z; simp only [B7] at *; omega) rfl rfl (by omega) fun s2 sg2 _ own2 => hk _ _ ⟨gs ++ [g], sg2, J, ?_, ?_, ?_, ?_⟩
 ·rw [O4, As4]
  exact pc fun z => by simp only [B7]; omega
 ·rw [List.map_append]; exact own2
 ·intro g' hg'
  rcases List.mem_append.1 hg' with h1 | h1
  ·exact hok g' h1
  ·rw [List.mem_singleton.1 h1]; exact hg
 ·rw [List.range_succ, List.map_append, List.map_append, hgl, List.map_singleton, List.map_singleton, hl]
theorem Bw9.err {d : Dev} {b : Int} {A : A4} {i : Nat} {s : SlV} {L' J L2 : A4} (h : Bw9 d b A i s L') (hi : i < d.c.P) {z : Int} (hz : z = H6 d b i) (hne : z ≠ 0) (hp : L2.Perm (J ++ L')) : HL.Ends (C44 (N4 d b) A) (.tuple #[.slice none 0 0, .i z]) L2 := by
 obtain ⟨G, hG⟩ := h.p
 have e : N4 d b = ([], z) := by rw [B82 hi] at hz; unfold N4; rw [<- hz, if_pos hne]
 exact .drop (A := A) (J := J ++ G) ⟨⟨none, 0, 0⟩, [], [], by rw [e], rfl, F7, by simp, by rw [e]; rfl⟩ (pc fun z => by have := pcn hG z; have := pcn hp z; simp only [B7] at *; omega)
theorem C01 (m : Nat) (d : Dev) (A : A4) (h : FH m d A) (ok : S3 d) (b : Int) : CallF PP 223 #[.pointer (some ⟨m, 0, none⟩), .i b] A (C44 (N4 d b) A) := by
 refine c223 (some ⟨m, 0, none⟩) b ?_
 unfold s223
 have hP := DG.pb ok
 refine ifF rfl (B3 (Aj2 m d A h) ((d.c.B, d.c.P, d.c.S, d.c.W, ()), ()) rfl ?_)
 refine G0 (fun z' z L' => ∃ (i : Nat) (s : SlV), i <= d.c.P /\ z' = d.c.P - i /\ z = (s, (i : Int), ()) /\ Bw9 d b A i s L' /\ (0 < i -> H6 d b 0 = 0)) d.c.P ⟨0, ⟨none, 0, 0⟩, by omega, by omega, rfl, Bw9.nil d b A, by omega⟩ ?_
 rintro z' z L1 ⟨i, s, hi, rfl, rfl, hI, h0⟩
 dsimp only
 obtain ⟨G, hG⟩ := hI.p
 refine C0 (fun (hlt : (i : Int) < d.c.P) => ?_) (fun (hge : ¬ (i : Int) < d.c.P) => ?_)
 ·have hi' : i < d.c.P := by omega
  refine G9 (Bh2 m d A h ok b i) hG ?_
  rintro _ _ ⟨g, rfl, rfl, hg, hgl⟩
  have hre := A89 ok b (i : Int)
  have hpp : ((g.seg ++ A) ++ G).Perm (g.seg ++ L1) := pc fun z => by have := pcn hG z; simp only [B7] at *; omega
  refine ⟨_, List.Perm.refl _, (g.v, (O3 d b (i : Int)).2, ()), rfl, C0 (fun (he : (O3 d b (i : Int)).2 = 0) => ?_) (fun (he : ¬ (O3 d b (i : Int)).2 = 0) => hI.err hi' hre he hpp)⟩
  exact hI.snoc (by omega) g hg hgl hpp fun s' L' hI' => D9 (by omega) ⟨d.c.P - (i + 1), by omega, i + 1, s', by omega, rfl, rfl, hI', fun _ => by rw [<- B82 hi', <- hre]; exact he⟩
 ·obtain rfl : i = d.c.P := by omega
  exact hI.fin (h0 (by omega))
theorem B46 {d : Dev} (ok : S3 d) (b : Int) : (N4 d b).1.length <= 16 /\ ∀ x ∈ (N4 d b).1, x.length <= 512 := by
 have hP := ok.c.p
 have hS := ok.c.s
 unfold N4
 split
 ·exact ⟨by simp, by simp⟩
 ·refine ⟨by simp; omega, fun x hx => ?_⟩
  simp only [List.mem_map] at hx
  obtain ⟨p, hp, rfl⟩ := hx
  have hp2 : p < d.c.P := List.mem_range.1 hp
  unfold O3
  split
  ·simp
  ·split
   ·simp
   ·rename_i k hk
    have hm : k ∈ d.bs := List.mem_of_getElem? hk
    have h1 := ok.pg k hm
    split
    ·simp [blk]; omega
    ·rw [Int.toNat_natCast, List.getD_eq_getElem?_getD, List.getElem?_eq_getElem (by omega), Option.getD_some, h1.2 _ (List.getElem_mem _)]; omega
theorem Cy7 {L : A4} {v : SlV} {gs : List PG} {seg Y : A4} (own : Own v 1 tB (gs.map PG.val) seg) (hg : ∀ g ∈ gs, g.Ok) (hp : L.Perm (seg ++ (pgs gs ++ Y))) : U3 L v (pvs gs) :=
 A20 own hg (fun x hx => hp.symm.subset (by simp [hx])) (fun x hx => hp.symm.subset (by simp [hx]))
theorem Ar8 (gs : List PG) : (pvs gs).map Prod.snd = gs.map PG.l := by unfold pvs; rw [List.map_map]; rfl
theorem Cj6 {d : Dev} (ok : S3 d) {b : Int} {gs : List PG} (hl : gs.map PG.l = (N4 d b).1) : (pvs gs).length <= 16 /\ ∀ x ∈ pvs gs, x.2.length <= 512 := by
 have h := B46 ok b
 rw [<- hl, <- Ar8, List.length_map] at h
 exact ⟨h.1, fun x hx => h.2 _ (List.mem_map_of_mem hx)⟩
def An6 (x : It) : Prop := 1 <= x.2.1 /\ x.2.1 <= 255 /\ 1 <= x.2.2.1 /\ x.2.2.1 <= 255
theorem A80 {p : List UInt8} : ∀ {n i : Nat} {nx : Int} {y : List It × Int}, 1 <= nx -> Ah3 p n i nx = some y -> (∀ x ∈ y.1, nx <= x.2.1 /\ An6 x) /\ y.1.Pairwise (fun a b => a.2.1 < b.2.1)
 | 0, i, nx, y, _, h => by obtain rfl := Option.some.inj h; simp
 | n + 1, i, nx, y, h1, h => by
  rw [Ah3] at h
  split at h
  ·rename_i hc
   rw [Option.map_eq_some_iff] at h
   obtain ⟨y2, h2, rfl⟩ := h
   have hb : ∀ k, (p.getD k 0).toNat <= 255 := fun k => by have := (p.getD k 0).toNat_lt; omega
   have e1 : (H0 p i).2.1 = ((p.getD (i * 3 + 1) 0).toNat : Int) := rfl
   have e2 : (H0 p i).2.2.1 = ((p.getD (i * 3 + 2) 0).toNat : Int) := rfl
   have h3 := hb (i * 3 + 1)
   have h4 := hb (i * 3 + 2)
   have hpos : 1 <= (H0 p i).2.2.1 := by have := hc.2.1; omega
   obtain ⟨i1, i2⟩ := A80 (by omega) h2
   refine ⟨fun x hx => ?_, ?_⟩
   ·rcases List.mem_cons.1 hx with rfl | hx
    ·exact ⟨by omega, by omega, by omega, hpos, by omega⟩
    ·have := i1 x hx
     exact ⟨by omega, this.2⟩
   ·rw [List.pairwise_cons]
    exact ⟨fun x hx => by have := (i1 x hx).1; omega, i2⟩
  ·cases h
theorem Cm2 {ps : List (List UInt8)} {ep : Int} {q : Nat} {x : It} (h : O0 ps ep q = some x) : x.2.1 = q := by
 unfold O0 at h
 split at h
 ·split at h
  ·split at h
   ·obtain rfl := Option.some.inj h; rfl
   ·cases h
  ·cases h
 ·cases h
theorem Au8 {ps : List (List UInt8)} {ep : Int} {last : Nat} (hl : last <= 15) : ∀ {k p : Nat}, 1 <= p -> (∀ x ∈ Ac8 (O0 ps ep) last k p, (p : Int) <= x.2.1 /\ An6 x) /\ (Ac8 (O0 ps ep) last k p).Pairwise (fun a b => a.2.1 < b.2.1)
 | 0, p, _ => by simp [Ac8]
 | k + 1, p, h1 => by
  rw [Ac8]
  split
  ·rename_i hp
   cases hf : O0 ps ep p with
   | none =>
    obtain ⟨i1, i2⟩ := Au8 (ps := ps) (ep := ep) hl (k := k) (p := p + 1) (by omega)
    exact ⟨fun x hx => by have := i1 x hx; exact ⟨by omega, this.2⟩, i2⟩
   | some x0 =>
    have h2 := Cm2 hf
    have h3 := Bc2 hf
    obtain ⟨i1, i2⟩ := Au8 (ps := ps) (ep := ep) hl (k := k) (p := p + x0.2.2.1.toNat) (by omega)
    refine ⟨fun x hx => ?_, ?_⟩
    ·rcases List.mem_cons.1 hx with rfl | hx
     ·exact ⟨by omega, by omega, by omega, by omega, by omega⟩
     ·have := i1 x hx
      exact ⟨by omega, this.2⟩
    ·rw [List.pairwise_cons]
     exact ⟨fun x hx => by have := (i1 x hx).1; omega, i2⟩
  ·simp
theorem B01 {p : List UInt8} {last : Nat} {l : List It} (h : Av7 p last = some l) : (∀ x ∈ l, An6 x) /\ l.Pairwise (fun a b => a.2.1 < b.2.1) := by
 unfold Av7 at h
 split at h
 ·cases h
 ·split at h
  ·rename_i y hy
   split at h
   ·obtain rfl := Option.some.inj h
    obtain ⟨h1, h2⟩ := A80 (by omega) hy
    exact ⟨fun x hx => (h1 x hx).2, h2⟩
   ·cases h
  ·cases h
theorem B03 (ps : List (List UInt8)) : (∀ x ∈ (S0 ps).1.2.2, An6 x) /\ (S0 ps).1.2.2.Pairwise (fun a b => a.2.1 < b.2.1) := by
 unfold S0
 split
 ·simp
 ·split
  ·split
   ·rename_i l hl
    split at hl
    ·unfold A10 at hl
     rw [Option.bind_eq_some_iff] at hl
     obtain ⟨p, -, hp⟩ := hl
     exact B01 hp
    ·cases hl
   ·have hla : K7 ps <= 15 := by have := A34 ps (min ps.length 16 - 1); unfold K7; omega
    obtain ⟨h1, h2⟩ := Au8 (ps := ps) (ep := epR ps) hla (k := 17) (p := 1) (by omega)
    exact ⟨fun x hx => (h1 x hx).2, h2⟩
  ·simp
theorem Cg2 (ps : List (List UInt8)) : 0 <= (S0 ps).1.1 /\ (S0 ps).1.1 <= 1073741824 := by
 have h : ∀ l, Z7 ps 0 (1, 0, 1, epR ps, 0, ()) = some l -> 0 <= epR ps /\ epR ps <= 1073741824 := by
  intro l hl
  unfold Z7 at hl
  split at hl
  ·split at hl
   ·split at hl
    ·rename_i b hb hc
     have h1 := Ag4 (Bn3 hc.1)
     rw [hc.2] at h1
     simp only at h1
     omega
    ·cases hl
   ·cases hl
  ·cases hl
 unfold S0
 split
 ·simp
 ·split
  ·rename_i hs
   have := h _ hs
   split
   ·exact this
   ·exact this
  ·simp
def Cc4 (b : List UInt8) (s : ByteArray) : List UInt8 × Int := if 65536 < s.size then ([], 4) else (b ++ V6 s.size 4 ++ s.data.toList, 0)
def TxtK (b : List UInt8) (s : ByteArray) (A : A4) (v : Value) (L' : A4) : Prop := ∃ (u : SlV) (seg : A4), v = .tuple #[.slice u.a u.len u.cap, .i (Cc4 b s).2] /\ L' = seg ++ A /\ Own u 1 eB (bvs (Cc4 b s).1) seg
theorem Bz3 (s : ByteArray) : s.data.toList.length = s.size := by rw [Array.length_toList]; rfl
theorem wput4 (b : List UInt8) (n : Nat) (h : n <= 65536) : Ap7 b n 4 = (b ++ V6 n 4, 0) := by
 have := Af7 (b := b) (n := n) (w := 4) (by omega) (by omega) (by simp; omega)
 simpa using this
theorem Cv4 (s : ByteArray) : (s.data.toList.map fun b => Value.int .u8 b.toNat) = bvs s.data.toList := rfl
theorem Bx4 (A : A4) (v : SlV) (b : List UInt8) (hb : BSl A v b) (hl : b.length <= 1000000) (s : ByteArray) (hs : s.size <= maxLen) :
  CallF PP 177 #[.slice v.a v.len v.cap, .string s] A (TxtK b s A) := by
 refine CallF.of (args := [.slice v.a v.len v.cap, .string s]) B5 B6 Tryz.func177 (e177 v s _) ?_
 unfold t177
 refine B9 (fun (h1 : (s.size : Int) > 65536) => .of ?_) (fun (h1 : ¬ (s.size : Int) > 65536) => ?_)
 ·have e : Cc4 b s = ([], 4) := by unfold Cc4; rw [if_pos (by omega)]
  exact ⟨⟨none, 0, 0⟩, [], by rw [e], rfl, by rw [e]; exact F7⟩
 ·have e : Cc4 b s = (b ++ V6 s.size 4 ++ s.data.toList, 0) := by unfold Cc4; rw [if_neg (by omega)]
  refine H4 [] [] (A06 A v b hb hl s.size 4 (by omega)) (by simp) ?_
  rintro w A' - ⟨u, seg, rfl, rfl, own⟩
  rw [wput4 b s.size (by omega)] at own ⊢
  refine ⟨(u, 0, ()), rfl, ?_⟩
  have hul := own.sl.len
  rw [E6, List.length_append, Aa1] at hul
  refine E5 Aj0 srcS [] A own (by simp) (.str s) (K4 _) (by first | omega | (simp only; omega)) fun u' seg' hu' own' => ?_
  rw [Cv4, <- Ae2] at own'
  exact .of ⟨u', seg', by rw [e], rfl, by rw [e]; exact own'⟩
def RD (m : Nat) (b : List UInt8) (at' : Nat) (A : A4) : Prop := ∃ (s : SlV) (seg : A4), A = (m, Obj.cells #[.slice s.a s.len s.cap, .i at'] 389) :: seg /\ Own s 1 eB (bvs b) seg /\ at' <= b.length /\ b.length <= 1000000
theorem Cg7 (A : A4) (v : SlV) (b : List UInt8) (hb : BSl A v b) (hl : b.length <= 1000000) :
  CallF PP 240 #[.slice v.a v.len v.cap] A fun r L' => ∃ m R, r = .pointer (some ⟨m, 0, none⟩) /\ L' = R ++ A /\ RD m b 0 R := by
 refine CallF.of (args := [.slice v.a v.len v.cap]) B5 B6 Tryz.func240 (e240 v _) ?_
 unfold t240
 have hlen := hb.len
 refine C3 fun q _ => E5 Aj0 Ce8 [] A Ac4 (by simp) (.sl hb.cons) (K4 _) (by first | omega | (simp only; omega)) fun s seg hs own => ?_
 rw [List.nil_append] at own
 exact C3 fun m _ => .of ⟨m, _ :: seg, rfl, by simp, s, seg, rfl, own, by omega, hl⟩
def Ay4 (b : List UInt8) (a : Nat) (w : Int) : Nat := if (T2 b a w).2 = 0 then a + w.toNat else a
theorem B13 {b : List UInt8} {a : Nat} {w : Int} (h : a <= b.length) : Ay4 b a w <= b.length := by
 unfold Ay4
 split
 ·rename_i h1
  have := (Ah0 b a w).2.2.2 h1
  omega
 ·exact h
theorem num_cl (m : Nat) (b : List UInt8) (a : Nat) (A : A4) (h : RD m b a A) (w : Int) :
  CallF PP 243 #[.pointer (some ⟨m, 0, none⟩), .i w] A fun r L' => r = .tuple #[.i (T2 b a w).1, .i (T2 b a w).2] /\ RD m b (Ay4 b a w) L' := by
 obtain ⟨s, seg, rfl, own, ha, hl⟩ := h
 refine CallF.of (args := [.pointer (some ⟨m, 0, none⟩), .i w]) B5 B6 Tryz.func243 (e243 (some ⟨m, 0, none⟩) w _) ?_
 unfold t243
 have hsl : BSl ((m, Obj.cells #[.slice s.a s.len s.cap, .i a] 389) :: seg) s b := own.sl.cons
 refine ifF rfl (A5 rfl (A5 rfl (A6 s (ldB List.mem_cons_self rfl) (A6 (a : Int) (ldB List.mem_cons_self rfl) ?_))))
 have hr := Ah0 b a w
 have hn := B13 (w := w) ha
 unfold Ay4 at hn ⊢
 refine B3 (A07 _ s b hsl (by omega) a w) ((T2 b a w).1, (T2 b a w).2, ()) rfl ?_
 generalize T2 b a w = g at hr hn ⊢
 refine W7 (fun (he : g.2 = 0) => ?_) (fun (he : g.2 ≠ 0) => .of ⟨rfl, by rw [if_neg he]; exact ⟨s, seg, rfl, own, ha, hl⟩⟩)
 obtain ⟨u, rfl⟩ : ∃ u : Nat, w = u := ⟨w.toNat, by have := hr.2.2.2 he; omega⟩
 have h7 := hr.2.2.2 he
 have hw : IntKind.i64.wrap ((a : Int) + u) = ((a + u : Nat) : Int) := by rw [C1 (by omega) (by omega)]; omega
 refine A5 rfl (A6 (a : Int) (ldB List.mem_cons_self rfl) (A5 rfl (E3 [] seg rfl rfl (by simp) (.inl (Nat.le_refl _)) #[.slice s.a s.len s.cap, .i ((a + u : Nat) : Int)] (by rw [hw]; rfl) (.of ⟨rfl, ?_⟩))))
 rw [if_pos he, Int.toNat_natCast] at hn ⊢
 exact ⟨s, seg, rfl, own, hn, hl⟩
theorem B51 (m : Nat) (b : List UInt8) (a : Nat) (A : A4) (h : RD m b a A) : Reads PP 242 #[.pointer (some ⟨m, 0, none⟩)] A (.i ((b.length : Int) - a)) := by
 obtain ⟨s, seg, rfl, own, ha, hl⟩ := h
 refine Reads.of (args := [.pointer (some ⟨m, 0, none⟩)]) B5 B6 Tryz.func242 (e242 (some ⟨m, 0, none⟩) _) ?_
 unfold t242
 have hlen := own.sl.len
 rw [E6, Nat.mul_one] at hlen
 refine ifF rfl (A5 rfl (A5 rfl (A6 s (ldB List.mem_cons_self rfl) (A6 (a : Int) (ldB List.mem_cons_self rfl) (.of ⟨?_, rfl⟩)))))
 rw [hlen, C1 (by omega) (by omega)]
def F9 (b : List UInt8) (a : Nat) : List UInt8 × Nat × Int :=
 if (T2 b a 4).2 ≠ 0 then ([], a, (T2 b a 4).2) else if 65536 < (T2 b a 4).1 then ([], a, 4) else if (b.length : Int) < a + 4 + (T2 b a 4).1 then ([], a, 6)
 else ((b.drop (a + 4)).take (T2 b a 4).1.toNat, a + 4 + (T2 b a 4).1.toNat, 0)
def Cv6 (l : List UInt8) : Value := .string ⟨l.toArray⟩
theorem Bq2 {L : A4} {s : SlV} {b : List UInt8} (h : BSl L s b) {i j : Nat} (h1 : i <= j) (h2 : j <= b.length) : BSl L (N9 s i j s.cap 1) ((b.drop i).take (j - i)) := by
 have hl := h.len
 have hc := h.cap
 have := Sl.slc (m := s.cap) h (by omega) h1 (by omega) (by omega)
 rwa [Ad2] at this
theorem Bx9 (m : Nat) (b : List UInt8) (a : Nat) (A : A4) (h : RD m b a A) :
  CallF PP 241 #[.pointer (some ⟨m, 0, none⟩)] A fun r L' => r = .tuple #[Cv6 (F9 b a).1, .i (F9 b a).2.2] /\ RD m b (F9 b a).2.1 L' := by
 obtain ⟨s, seg, rfl, own, ha, hl⟩ := h
 refine CallF.of (args := [.pointer (some ⟨m, 0, none⟩)]) B5 B6 Tryz.func241 (e241 (some ⟨m, 0, none⟩) _) ?_
 unfold t241
 have hsl : ∀ {o : Obj}, BSl ((m, o) :: seg) s b := own.sl.cons
 have hlen := own.sl.len
 rw [E6, Nat.mul_one] at hlen
 have hcap := own.cap
 refine ifF rfl (A5 rfl (A5 rfl (A6 s (ldB List.mem_cons_self rfl) (A6 (a : Int) (ldB List.mem_cons_self rfl) ?_))))
 have hr := Ah0 b a 4
 unfold F9
 refine B3 (A07 _ s b hsl (by omega) a 4) ((T2 b a 4).1, (T2 b a 4).2, ()) rfl ?_
 generalize T2 b a 4 = g at hr ⊢
 refine N1 (fun (he : g.2 ≠ 0) => .of ?_) (fun (he : g.2 = 0) => ?_)
 ·rw [if_pos he]; exact ⟨rfl, s, seg, rfl, own, ha, hl⟩
 have h4 := hr.2.2.2 he
 have hw : IntKind.i64.wrap ((a : Int) + 4) = ((a + 4 : Nat) : Int) := by rw [C1 (by omega) (by omega)]; omega
 rw [if_neg (by omega)]
 refine A5 rfl (A6 (a : Int) (ldB List.mem_cons_self rfl) ?_)
 simp only [hw]
 refine B9 (fun (h5 : g.1 > 65536) => .of ?_) (fun (h5 : ¬ g.1 > 65536) => ?_)
 ·rw [if_pos h5]; exact ⟨rfl, s, seg, rfl, own, ha, hl⟩
 rw [if_neg h5]
 refine A5 rfl (A6 s (ldB List.mem_cons_self rfl) ?_)
 rw [C1 (n := (s.len : Int) - ((a + 4 : Nat) : Int)) (by omega) (by omega)]
 refine B9 (fun (h6 : g.1 > (s.len : Int) - ((a + 4 : Nat) : Int)) => .of ?_) (fun (h6 : ¬ g.1 > (s.len : Int) - ((a + 4 : Nat) : Int)) => ?_)
 ·rw [if_pos (by omega)]; exact ⟨rfl, s, seg, rfl, own, ha, hl⟩
 rw [if_neg (by omega)]
 obtain ⟨u, hu⟩ : ∃ u : Nat, g.1 = u := ⟨g.1.toNat, by omega⟩
 have hw2 : IntKind.i64.wrap (((a + 4 : Nat) : Int) + g.1) = ((a + 4 + u : Nat) : Int) := by rw [hu, C1 (by omega) (by omega)]; omega
 rw [hw2, hu, Int.toNat_natCast]
 refine A5 rfl (E3 [] seg rfl rfl (by simp) (.inl (Nat.le_refl _)) #[.slice s.a s.len s.cap, .i ((a + 4 + u : Nat) : Int)] rfl ?_)
 refine A5 rfl (A5 rfl (A6 s (ldB List.mem_cons_self rfl) (A6 ((a + 4 + u : Nat) : Int) (ldB List.mem_cons_self rfl) ?_)))
 refine J5 (l' := a + 4) (h' := a + 4 + u) (m' := s.cap) rfl rfl rfl (by omega) (by omega) (Nat.le_refl _) ?_
 have hc := Bq2 (hsl (o := Obj.cells #[.slice s.a s.len s.cap, .i ((a + 4 + u : Nat) : Int)] 389)) (i := a + 4) (j := a + 4 + u) (by omega) (by omega)
 rw [show a + 4 + u - (a + 4) = u by omega] at hc
 exact Cb3 hc (.of ⟨rfl, s, seg, rfl, own, (show a + 4 + u <= b.length by omega), hl⟩)
abbrev Tab (L : A4) : Prop := D0 ⟨0, 0, none⟩ [.i 1, .i 2, .i 4, .i 8] L
theorem Tab.mono {A L : A4} (h : Tab A) (hs : ∀ p ∈ A, p ∈ L) : Tab L := D0.mono h hs
theorem Tab.cons {L : A4} {p : Nat × Obj} (h : Tab L) : Tab (p :: L) := D0.mono h fun _ hp => List.mem_cons_of_mem _ hp
def Bk3 : List Int -> Int -> Int -> Int
 | [], _, _ => 0
 | k :: r, n, p => if k ≥ n /\ k <= p - 2 then k else Bk3 r n p
def cls (n p : Int) : Int := if n < 1 \/ p < 2 then 0 else Bk3 [1, 2, 4, 8] n p
theorem Cn1 (L : A4) (hT : Tab L) (n p : Int) (hp : p <= 9223372036854775807) : Reads PP 108 #[.i n, .i p] L (.i (cls n p)) := by
 refine Reads.of (args := [.i n, .i p]) B5 B6 Tryz.func108 (e108 n p _) ?_
 unfold t108 cls
 refine B9 (fun (h1 : n < 1) => .of ⟨by rw [if_pos (.inl h1)], rfl⟩) (fun (h1 : ¬ n < 1) => ?_)
 refine B9 (fun (h2 : p < 2) => .of ⟨by rw [if_pos (.inr h2)], rfl⟩) (fun (h2 : ¬ p < 2) => ?_)
 rw [if_neg (by omega)]
 refine A6 (1, 2, 4, 8, ()) hT ?_
 refine G0 (fun z' z L' => L' = L /\ ∃ i : Nat, i <= 4 /\ z' = 4 - i /\ z = ((i : Int), ()) /\ Bk3 (([1, 2, 4, 8] : List Int).drop i) n p = Bk3 [1, 2, 4, 8] n p) 4 ⟨rfl, 0, by omega, by omega, rfl, rfl⟩ ?_
 rintro z' z L1 ⟨hL1, i, hi, rfl, rfl, hc⟩
 rw [hL1]
 have hw : IntKind.i64.wrap (p - 2) = p - 2 := C1 (by omega) (by omega)
 refine B9 (fun (hlt : (i : Int) < 4) => ?_) (fun (hge : ¬ (i : Int) < 4) => ?_)
 ·obtain ⟨k, r, hdr, hrun, hdr2⟩ : ∃ (k : Int) (r : List Int), ([1, 2, 4, 8] : List Int).drop i = k :: r /\ (∀ w, (Instr.index 266 (.agg #[.i 1, .i 2, .i 4, .i 8]) (.i (i : Int))).run PP w = .ok (.i k) w) /\ ([1, 2, 4, 8] : List Int).drop (i + 1) = r := by
   have h4 : i = 0 \/ i = 1 \/ i = 2 \/ i = 3 := by omega
   rcases h4 with rfl | rfl | rfl | rfl
   ·exact ⟨1, [2, 4, 8], rfl, fun w => by kernel_rfl, rfl⟩
   ·exact ⟨2, [4, 8], rfl, fun w => by kernel_rfl, rfl⟩
   ·exact ⟨4, [8], rfl, fun w => by kernel_rfl, rfl⟩
   ·exact ⟨8, [], rfl, fun w => by kernel_rfl, rfl⟩
  rw [hdr, show Bk3 (k :: r) n p = (if k ≥ n /\ k <= p - 2 then k else Bk3 r n p) from rfl] at hc
  have hnext : ¬ (k ≥ n /\ k <= p - 2) -> ∃ k', k' < 4 - i /\ L = L /\ ∃ j : Nat, j <= 4 /\ k' = 4 - j /\ ((IntKind.i64.wrap ((i : Int) + 1), ()) : Int × Unit) = ((j : Int), ()) /\ Bk3 (([1, 2, 4, 8] : List Int).drop j) n p = Bk3 [1, 2, 4, 8] n p := by
   intro hn
   refine ⟨4 - (i + 1), by omega, rfl, i + 1, by omega, rfl, ?_, ?_⟩
   ·rw [C1 (by first | omega | (simp only; omega)) (by first | omega | (simp only; omega))]
    rfl
   ·rw [hdr2]
    rw [if_neg hn] at hc
    exact hc
  refine ⟨k, hrun, ?_⟩
  simp only [hw]
  refine B9 (fun (h3 : k ≥ n) => ?_) (fun (h3 : ¬ k ≥ n) => hnext fun h => h3 h.1)
  refine B9 (fun (h4 : k <= p - 2) => .of ⟨?_, rfl⟩) (fun (h4 : ¬ k <= p - 2) => hnext fun h => h4 h.2)
  rw [if_pos ⟨h3, h4⟩] at hc
  rw [hc]
 ·obtain rfl : i = 4 := by omega
  refine .of ⟨?_, rfl⟩
  rw [<- hc]; rfl
theorem C32 (n p : Int) : 0 <= cls n p /\ cls n p <= 8 := by
 unfold cls
 split
 ·exact ⟨by decide, by decide⟩
 ·simp only [Bk3]
  repeat' split
  all_goals omega
theorem cls_ge {n p : Int} (h : cls n p ≠ 0) : n <= cls n p /\ cls n p <= p - 2 /\ 1 <= cls n p /\ cls (cls n p) p = cls n p := by
 unfold cls at h
 split at h
 ·exact absurd rfl h
 ·rename_i h0
  have hc : cls n p = Bk3 [1, 2, 4, 8] n p := by unfold cls; rw [if_neg h0]
  rw [hc]
  simp only [Bk3] at h ⊢
  split at h
  ·rename_i h1
   rw [if_pos h1]
   exact ⟨h1.1, h1.2, by decide, by unfold cls; rw [if_neg (by omega)]; simp only [Bk3]; rw [if_pos (by omega)]⟩
  ·rename_i h1
   rw [if_neg h1]
   split at h
   ·rename_i h2
    rw [if_pos h2]
    exact ⟨h2.1, h2.2, by decide, by unfold cls; rw [if_neg (by omega)]; simp only [Bk3]; rw [if_neg (by omega), if_pos (by omega)]⟩
   ·rename_i h2
    rw [if_neg h2]
    split at h
    ·rename_i h3
     rw [if_pos h3]
     exact ⟨h3.1, h3.2, by decide, by unfold cls; rw [if_neg (by omega)]; simp only [Bk3]; rw [if_neg (by omega), if_neg (by omega), if_pos (by omega)]⟩
    ·rename_i h3
     rw [if_neg h3]
     split at h
     ·rename_i h4
      rw [if_pos h4]
      exact ⟨h4.1, h4.2, by decide, by unfold cls; rw [if_neg (by omega)]; simp only [Bk3]; rw [if_neg (by omega), if_neg (by omega), if_neg (by omega), if_pos (by omega)]⟩
     ·exact absurd rfl h
theorem A36 (L : A4) (n : Int) : Reads PP 107 #[.i n] L (.bool (decide (1 <= n /\ n <= 255))) := by
 refine Reads.of (args := [.i n]) B5 B6 Tryz.func107 (e107 n _) ?_
 unfold t107
 refine B9 (fun (h : n ≥ 1) => .of ⟨?_, rfl⟩) (fun (h : ¬ n ≥ 1) => .of ⟨by rw [decide_eq_false (by omega)], rfl⟩)
 congr 1
 rw [decide_eq_decide]
 omega
abbrev Cf := Int × Int × Int × Int × Unit
def H1 (key value : Int) (c : Cf) : Int :=
 if key < 1 \/ key > 255 \/ value < 0 \/ value > 65536 \/ D7 c.2.2.1 = 0 then 0 else cls ((key + value + 12 + D7 c.2.2.1 - 1) / D7 c.2.2.1) c.2.1
theorem Ad6 {n : Int} (h : D7 n ≠ 0) : 48 <= D7 n /\ D7 n <= 496 := by
 unfold D7 at h ⊢
 split at h
 ·rename_i h1; rw [if_pos h1]; omega
 ·exact absurd rfl h
theorem Bn4 (L : A4) (hT : Tab L) (key value : Int) (c : Cf) (hc : c.2.1 <= 9223372036854775807) : Reads PP 47 #[.i key, .i value, .agg #[.i c.1, .i c.2.1, .i c.2.2.1, .i c.2.2.2.1]] L (.i (H1 key value c)) := by
 refine Reads.of (args := [.i key, .i value, .agg #[.i c.1, .i c.2.1, .i c.2.2.1, .i c.2.2.2.1]]) B5 B6 Tryz.func47 (e47 key value c _) ?_
 unfold t47
 refine C3 fun n1 _ => ?_
 generalize ho : (n1, Obj.cells #[.i c.1, .i c.2.1, .i c.2.2.1, .i c.2.2.2.1] 23) = o1
 have lc : D0 ⟨n1, 0, none⟩ [.i c.1, .i c.2.1, .i c.2.2.1, .i c.2.2.2.1] (o1 :: L) := ldB (by rw [<- ho]; exact List.mem_cons_self) rfl
 clear ho
 refine A6 c.2.2.1 (lc.one 2 rfl) (B3 (Ad8 _ c.2.2.1) (D7 c.2.2.1, ()) rfl (B3 (A36 _ key) (decide (1 <= key /\ key <= 255), ()) rfl ?_))
 have hno : (key < 1 \/ key > 255 \/ value < 0 \/ value > 65536 \/ D7 c.2.2.1 = 0) -> HL.Ends (fun v' L' => v' = Value.i (H1 key value c) /\ L' = L) (.i 0) (o1 :: L) := fun h => .cons (.of ⟨by unfold H1; rw [if_pos h], rfl⟩)
 by_cases hk : 1 <= key /\ key <= 255
 case neg => rw [decide_eq_false hk]; exact ifT rfl (hno (by omega))
 rw [decide_eq_true hk]
 refine ifF rfl (B9 (fun (h1 : value < 0) => hno (by omega)) (fun (h1 : ¬ value < 0) => B9 (fun (h2 : value > 65536) => hno (by omega)) (fun (h2 : ¬ value > 65536) => ?_)))
 refine W7 (fun (h3 : D7 c.2.2.1 = 0) => hno (by omega)) (fun (h3 : D7 c.2.2.1 ≠ 0) => Y3 h3 ?_)
 have hr := Ad6 h3
 have hp : H1 key value c = cls ((key + value + 12 + D7 c.2.2.1 - 1) / D7 c.2.2.1) c.2.1 := by unfold H1; rw [if_neg (by omega)]
 have e1 : IntKind.i64.wrap (key + value) = key + value := C1 (by omega) (by omega)
 have e2 : IntKind.i64.wrap (key + value + 12) = key + value + 12 := C1 (by omega) (by omega)
 have e3 : IntKind.i64.wrap (key + value + 12 + D7 c.2.2.1) = key + value + 12 + D7 c.2.2.1 := C1 (by omega) (by omega)
 have e4 : IntKind.i64.wrap (key + value + 12 + D7 c.2.2.1 - 1) = key + value + 12 + D7 c.2.2.1 - 1 := C1 (by omega) (by omega)
 have e5 : Int.tdiv (key + value + 12 + D7 c.2.2.1 - 1) (D7 c.2.2.1) = (key + value + 12 + D7 c.2.2.1 - 1) / D7 c.2.2.1 := Int.tdiv_eq_ediv_of_nonneg (by omega)
 have e6 : IntKind.i64.wrap ((key + value + 12 + D7 c.2.2.1 - 1) / D7 c.2.2.1) = (key + value + 12 + D7 c.2.2.1 - 1) / D7 c.2.2.1 := by
  have h1 := Int.ediv_le_self (D7 c.2.2.1) (show 0 <= key + value + 12 + D7 c.2.2.1 - 1 by omega)
  have h2 := Int.ediv_nonneg (show 0 <= key + value + 12 + D7 c.2.2.1 - 1 by omega) (show 0 <= D7 c.2.2.1 by omega)
  exact C1 (by omega) (by omega)
 simp only [e1, e2, e3, e4, e5, e6]
 refine A6 c.2.1 (lc.one 1 rfl) (B3 (Cn1 _ hT.cons _ c.2.1 hc) (cls ((key + value + 12 + D7 c.2.2.1 - 1) / D7 c.2.2.1) c.2.1, ()) rfl (.cons (.of ⟨by rw [hp], rfl⟩)))
theorem C18 (n : Nat) (hn : n <= 1099511627776) : CallF PP 290 #[.slice none 0 0, .i n] [] fun r L' => ∃ (s : SlV) (seg : A4), r = .slice s.a s.len s.cap /\ L' = seg /\ Own s 1 eB [] seg := by
 refine CallF.of (args := [.slice none 0 0, .i n]) B5 B6 Tryz.func290 (e290 ⟨none, 0, 0⟩ n _) ?_
 unfold t290
 refine Y6 (fun y L' => L' = []) ?_ (fun j hj => ifN (show ¬ (n : Int) < 0 by omega) (hj _ _ rfl))
 rintro _ _ rfl
 have e0 : IntKind.i64.wrap (((0 : Nat) : Int) - ((0 : Nat) : Int)) = 0 := by decide
 have e1 : IntKind.i64.wrap ((n : Int) - 0) = n := C1 (by omega) (by omega)
 simp only [e0, e1]
 refine B9 (fun (h : (n : Int) > 0) => ?_) (fun (h : ¬ (n : Int) > 0) => .of ⟨⟨none, 0, 0⟩, [], rfl, rfl, F7⟩)
 refine J5 (l' := 0) (h' := 0) (m' := 0) rfl rfl rfl (by decide) (by decide) (by decide) ?_
 have hs0 : N9 ⟨none, 0, 0⟩ ((0 : Nat) : Int) ((0 : Nat) : Int) ((0 : Nat) : Int) 1 = ⟨none, 0, 0⟩ := by simp [N9]
 rw [hs0]
 refine Cl4 (n := n) (ik := .i64) Aj0 (by kernel_rfl) (by omega) (by omega) fun q cap ob hcap own => ?_
 refine J5 (l' := 0) (h' := 0) (m' := cap) rfl rfl rfl (by omega) (by omega) (Nat.le_refl _) ?_
 have hs : N9 ⟨some ⟨q, 0, none⟩, n, cap⟩ ((0 : Nat) : Int) ((0 : Nat) : Int) (cap : Int) 1 = ⟨some ⟨q, 0, none⟩, 0, cap⟩ := by
  simp only [N9]
  rw [if_neg (by omega)]
  simp [Addr.add]
 rw [hs]
 exact .of ⟨⟨some ⟨q, 0, none⟩, 0, cap⟩, [(q, ob)], rfl, rfl, own⟩
theorem Ca1 (A : A4) (v : SlV) (l : List PV) (h : U3 A v l) (hb : (Ae7 l).length <= 1099511627776) (hl : l.length <= 1099511627776) :
  CallF PP 233 #[.slice v.a v.len v.cap] A fun r L' => ∃ (s : SlV) (seg : A4), r = .slice s.a s.len s.cap /\ L' = seg ++ A /\ Own s 1 eB (bvs (Ae7 l)) seg := by
 refine CallF.of (args := [.slice v.a v.len v.cap]) B5 B6 Tryz.func233 (e233 v _) ?_
 unfold t233
 have hlen := h.len
 refine G0 (fun z' z L' => L' = A /\ ∃ i : Nat, i <= l.length /\ z' = l.length - i /\ z = (((Ae7 (l.take i)).length : Int), (i : Int), ())) l.length ⟨rfl, 0, by omega, by omega, rfl⟩ ?_
 rintro z' z L1 ⟨hL1, i, hi, rfl, rfl⟩
 rw [hL1]
 refine B9 (fun (hlt : (i : Int) < (v.len : Int)) => ?_) (fun (hge : ¬ (i : Int) < (v.len : Int)) => ?_)
 ·have hi' : i < l.length := by omega
  obtain ⟨a, ha, hld⟩ := h.at' hi'
  have hbl := (h.val _ (List.getElem_mem hi')).len
  have hs := Be0 l hi'
  have hle := Am9 l (i + 1)
  have hsl : (Ae7 (l.take (i + 1))).length = (Ae7 (l.take i)).length + l[i].1.len := by rw [hs, List.length_append, hbl]
  refine A5 ha (E0 (show (0 : Int) <= (i : Int) by omega) hlt (A6 l[i].1 hld ?_))
  have e1 : IntKind.i64.wrap (((Ae7 (l.take i)).length : Int) + (l[i].1.len : Int)) = ((Ae7 (l.take (i + 1))).length : Int) := by rw [C1 (by omega) (by omega), hsl]; omega
  simp only [e1]
  refine ifN (show ¬ ((Ae7 (l.take (i + 1))).length : Int) < 0 by omega) ⟨l.length - (i + 1), by omega, rfl, i + 1, by omega, rfl, ?_⟩
  rw [C1 (by first | omega | (simp only; omega)) (by first | omega | (simp only; omega))]
  rfl
 ·obtain rfl : i = l.length := by omega
  rw [List.take_length]
  refine H4 [] A (C18 (Ae7 l).length hb) rfl ?_
  rintro _ seg0 - ⟨s0, _, rfl, rfl, own0⟩
  refine ⟨(s0, ()), rfl, ?_⟩
  rw [List.nil_append]
  refine G0 (fun z' z L' => ∃ (i : Nat) (s : SlV) (seg : A4), i <= l.length /\ z' = l.length - i /\ z = (s, (i : Int), ()) /\ L' = seg ++ A /\ Own s 1 eB (bvs (Ae7 (l.take i))) seg) l.length ⟨0, s0, seg0, by omega, by omega, rfl, rfl, own0⟩ ?_
  rintro z' z _ ⟨i, s, seg, hi, rfl, rfl, rfl, own⟩
  refine B9 (fun (hlt : (i : Int) < (v.len : Int)) => ?_) (fun (hge : ¬ (i : Int) < (v.len : Int)) => ?_)
  ·have hi' : i < l.length := by omega
   obtain ⟨a, ha, hld⟩ := h.at' hi'
   have hbl := (h.val _ (List.getElem_mem hi')).len
   have hs := Be0 l hi'
   have hle := Am9 l (i + 1)
   have hsl : (Ae7 (l.take (i + 1))).length = (Ae7 (l.take i)).length + l[i].1.len := by rw [hs, List.length_append, hbl]
   have hol := own.sl.len
   rw [E6] at hol
   refine A5 ha (E0 (show (0 : Int) <= (i : Int) by omega) hlt (A6 l[i].1 (hld.mono fun x hx => List.mem_append_right _ hx) ?_))
   refine E5 Aj0 Ce8 [] A own rfl (.sl (Sl.right (h.val _ (List.getElem_mem hi')))) (K4 _) (by omega) fun s' seg' hs' own' => ?_
   rw [<- Ae2, <- hs] at own'
   refine ⟨l.length - (i + 1), by omega, i + 1, s', seg', by omega, rfl, ?_, rfl, own'⟩
   rw [C1 (by first | omega | (simp only; omega)) (by first | omega | (simp only; omega))]
   rfl
  ·obtain rfl : i = l.length := by omega
   rw [List.take_length] at own
   exact .of ⟨s, seg, rfl, rfl, own⟩
theorem At3 (A : A4) (v : SlV) (l : List PV) (h : U3 A v l) (hb : (Ae7 l).length <= 1099511627776) (hl : l.length <= 1099511627776) :
  CallF PP 178 #[.slice v.a v.len v.cap] A fun r L' => ∃ (s : SlV) (seg : A4), r = .slice s.a s.len s.cap /\ L' = seg ++ A /\ Own s 1 eB (bvs (Ae7 l)) seg := by
 refine CallF.of (args := [.slice v.a v.len v.cap]) B5 B6 Tryz.func178 (e178 v _) ?_
 unfold t178
 refine H4 [] [] (Ca1 A v l h hb hl) (by simp) ?_
 rintro _ _ - ⟨s, seg, rfl, rfl, own⟩
 refine ⟨(s, ()), rfl, ?_⟩
 rw [List.nil_append, List.append_nil]
 exact .of ⟨s, seg, rfl, rfl, own⟩
def Bk0 (key val : List UInt8) : List UInt8 := V6 key.length 4 ++ key ++ (V6 val.length 4 ++ val)
def encA (key val : List UInt8) : List UInt8 := Bk0 key val ++ V6 (K0 (Bk0 key val)).toNat 4
theorem Bp9 (key val : List UInt8) : (Bk0 key val).length = key.length + val.length + 8 := by
 unfold Bk0
 simp only [List.length_append, Aa1]; omega
theorem Cm6 (key val : List UInt8) : (encA key val).length = key.length + val.length + 12 := by
 unfold encA
 rw [List.length_append, Bp9, Aa1]
def Am8 (n r : Nat) (b : List UInt8) : List (List UInt8) := (List.range n).map fun i => (b.drop (i * r)).take r
theorem Bk4 (n r : Nat) (b : List UInt8) : Am8 (n + 1) r b = Am8 n r b ++ [(b.drop (n * r)).take r] := by simp [Am8, List.range_succ]
def T0 (key val : List UInt8) (c : Cf) : List (List UInt8) × Int :=
 if key.length < 1 \/ key.length > 255 then ([], 2) else if val.length > 65536 then ([], 4) else
 if H1 key.length val.length c = 0 then ([], 14) else (Am8 (H1 key.length val.length c).toNat (D7 c.2.2.1).toNat (encA key val), 0)
def C46 (key val : List UInt8) (c : Cf) (A : A4) (r : Value) (L' : A4) : Prop := ∃ (ov : SlV) (oseg : A4) (gs : List PG), r = .tuple #[.slice ov.a ov.len ov.cap, .i (T0 key val c).2] /\ L' = oseg ++ (pgs gs ++ A) /\ Own ov 1 tB (gs.map PG.val) oseg /\ (∀ g ∈ gs, g.Ok) /\ gs.map PG.l = (T0 key val c).1
theorem C46.err {key val : List UInt8} {c : Cf} {A : A4} {e : Int} (h : T0 key val c = ([], e)) : C46 key val c A (.tuple #[.slice none 0 0, .i e]) A :=
 ⟨⟨none, 0, 0⟩, [], [], by rw [h], rfl, F7, by simp, by rw [h]; rfl⟩
theorem Ay7 {key value : Int} {c : Cf} (h : H1 key value c ≠ 0) : 1 <= key /\ key <= 255 /\ 0 <= value /\ value <= 65536 /\ D7 c.2.2.1 ≠ 0 /\ 1 <= H1 key value c /\ H1 key value c <= 8 /\ H1 key value c <= c.2.1 - 2 /\ key + value + 12 <= H1 key value c * D7 c.2.2.1 /\ cls (H1 key value c) c.2.1 = H1 key value c := by
 unfold H1 at h ⊢
 split at h
 ·exact absurd rfl h
 ·rename_i h0
  rw [if_neg h0]
  obtain ⟨h1, h2, h3, h4⟩ := cls_ge h
  have h5 := C32 ((key + value + 12 + D7 c.2.2.1 - 1) / D7 c.2.2.1) c.2.1
  have hr := Ad6 (show D7 c.2.2.1 ≠ 0 by omega)
  refine ⟨by omega, by omega, by omega, by omega, by omega, h3, h5.2, h2, ?_, h4⟩
  generalize D7 c.2.2.1 = room at *
  generalize hq : (key + value + 12 + room - 1) / room = q at *
  have hq2 : key + value + 12 + room - 1 < (q + 1) * room := by rw [<- hq]; exact Int.lt_ediv_add_one_mul_self _ (by omega)
  rw [Int.add_mul, Int.one_mul] at hq2
  have := Int.mul_le_mul_of_nonneg_right h1 (show 0 <= room by omega)
  omega
theorem Br8 (s : ByteArray) : s.data.toList.length = s.size := Bz3 s
theorem Ct1 (A : A4) (hT : Tab A) (key : ByteArray) (hk : key.size <= maxLen) (u : SlV) (val : List UInt8) (hu : BSl A u val) (c : Cf) (hc : c.2.1 <= 9223372036854775807) :
  CallF PP 111 #[.string key, .slice u.a u.len u.cap, .agg #[.i c.1, .i c.2.1, .i c.2.2.1, .i c.2.2.2.1]] A (C46 key.data.toList val c A) := by
 refine CallF.of (args := [.string key, .slice u.a u.len u.cap, .agg #[.i c.1, .i c.2.1, .i c.2.2.1, .i c.2.2.2.1]]) B5 B6 Tryz.func111 (e111 key u c _) ?_
 unfold t111
 have hul := hu.len
 have hks := Br8 key
 refine C3 fun n1 _ => ?_
 generalize ho : (n1, Obj.cells #[.i c.1, .i c.2.1, .i c.2.2.1, .i c.2.2.2.1] 23) = o1
 have lc : ∀ L : A4, o1 ∈ L -> D0 ⟨n1, 0, none⟩ [.i c.1, .i c.2.1, .i c.2.2.1, .i c.2.2.2.1] L := fun L hm => ldB (by rw [<- ho] at hm; exact hm) rfl
 clear ho
 refine B3 (A36 _ key.size) (decide (1 <= (key.size : Int) /\ (key.size : Int) <= 255), ()) rfl ?_
 by_cases h1 : 1 <= (key.size : Int) /\ (key.size : Int) <= 255
 case neg =>
  rw [decide_eq_false h1]
  exact ifT rfl (.cons (.of (C46.err (by unfold T0; rw [if_pos (by omega)]))))
 rw [decide_eq_true h1]
 refine ifF rfl (B9 (fun (h2 : (u.len : Int) > 65536) => .cons (.of (C46.err (by unfold T0; rw [if_neg (by omega), if_pos (by omega)])))) (fun (h2 : ¬ (u.len : Int) > 65536) => ?_))
 have hpe : H1 (key.size : Int) (u.len : Int) c = H1 (key.data.toList.length : Int) (val.length : Int) c := by rw [hks, hul]
 refine A6 c (lc _ List.mem_cons_self) (B3 (Bn4 _ hT.cons key.size u.len c hc) (H1 key.size u.len c, ()) rfl ?_)
 rw [hpe]
 refine W7 (fun (h3 : H1 (key.data.toList.length : Int) (val.length : Int) c = 0) => .cons (.of (C46.err (by unfold T0; rw [if_neg (by omega), if_neg (by omega), if_pos h3])))) (fun (h3 : H1 (key.data.toList.length : Int) (val.length : Int) c ≠ 0) => ?_)
 have hcr : T0 key.data.toList val c = (Am8 (H1 key.data.toList.length val.length c).toNat (D7 c.2.2.1).toNat (encA key.data.toList val), 0) := by unfold T0; rw [if_neg (by omega), if_neg (by omega), if_neg h3]
 obtain ⟨_, _, _, _, hr0, hn1, hn8, _, htot, _⟩ := Ay7 h3
 have hrr := Ad6 hr0
 unfold C46
 rw [hcr]
 generalize hN : H1 (key.data.toList.length : Int) (val.length : Int) c = N at hn1 hn8 htot
 obtain ⟨n, rfl⟩ : ∃ n : Nat, N = n := ⟨N.toNat, by omega⟩
 obtain ⟨room, hroom⟩ : ∃ r : Nat, D7 c.2.2.1 = r := ⟨(D7 c.2.2.1).toNat, by omega⟩
 rw [hroom] at hrr
 simp only [hroom, Int.toNat_natCast]
 refine H4 [] [] (Bx4 (o1 :: A) ⟨none, 0, 0⟩ [] (Sl.nil 1) (by decide) key hk) (by simp) ?_
 rintro _ _ - ⟨s1, sg1, rfl, rfl, own1⟩
 have hw1 : Cc4 [] key = (V6 key.data.toList.length 4 ++ key.data.toList, 0) := by unfold Cc4; rw [if_neg (by omega), hks]; rfl
 rw [hw1] at own1 ⊢
 rw [List.nil_append, List.append_nil]
 refine ⟨(s1, 0, ()), rfl, Cb3 (v := u) (l := val) (Sl.right (R := sg1) (Sl.cons hu)) ?_⟩
 have hvs : (ByteArray.mk val.toArray).size = val.length := by show val.toArray.size = _; simp
 refine H4 [] [] (Bx4 (sg1 ++ (o1 :: A)) ⟨none, 0, 0⟩ [] (Sl.nil 1) (by decide) ⟨val.toArray⟩ (by rw [hvs]; show val.length <= 9223372036854775807; omega)) (by simp) ?_
 rintro _ _ - ⟨s2, sg2, rfl, rfl, own2⟩
 have hw2 : Cc4 [] ⟨val.toArray⟩ = (V6 val.length 4 ++ val, 0) := by
  unfold Cc4
  rw [hvs, if_neg (by omega)]; simp
 rw [hw2] at own2 ⊢
 rw [List.nil_append, List.append_nil]
 refine ⟨(s2, 0, ()), rfl, C3 fun n2 _ => ?_⟩
 have hparts : U3 ((n2, Obj.cells #[.slice s1.a s1.len s1.cap, .slice s2.a s2.len s2.cap] 27) :: (sg2 ++ (sg1 ++ (o1 :: A)))) ⟨some ⟨n2, 0, none⟩, 2, 2⟩ [(s1, V6 key.data.toList.length 4 ++ key.data.toList), (s2, V6 val.length 4 ++ val)] := by
  refine ⟨⟨rfl, Nat.le_refl _, .inr ⟨_, rfl, ldB List.mem_cons_self rfl⟩⟩, fun x hx => ?_⟩
  have hx' : x = (s1, V6 key.data.toList.length 4 ++ key.data.toList) \/ x = (s2, V6 val.length 4 ++ val) := by simpa using hx
  rcases hx' with rfl | rfl
  ·exact own1.sl.left.right.cons
  ·exact own2.sl.left.cons
 have hcat : Ae7 [((s1, V6 key.data.toList.length 4 ++ key.data.toList) : PV), (s2, V6 val.length 4 ++ val)] = Bk0 key.data.toList val := by simp [Ae7, Bk0]
 have hel := Bp9 key.data.toList val
 refine H4 [] [] (At3 _ ⟨some ⟨n2, 0, none⟩, 2, 2⟩ _ hparts (by rw [hcat]; omega) (by simp)) (by simp) ?_
 rintro _ _ - ⟨s3, sg3, rfl, rfl, own3⟩
 rw [hcat] at own3
 rw [List.nil_append, List.append_nil]
 refine ⟨(s3, ()), rfl, ?_⟩
 generalize (n2, Obj.cells #[.slice s1.a s1.len s1.cap, .slice s2.a s2.len s2.cap] 27) = o2
 refine B3 (By4 _ s3 (Bk0 key.data.toList val) own3.sl.left (by omega)) (K0 (Bk0 key.data.toList val), ()) rfl ?_
 have hcs : 0 <= K0 (Bk0 key.data.toList val) /\ K0 (Bk0 key.data.toList val) < 4294967296 := R7 0 _
 refine H4 [] [] (A06 (sg3 ++ (o2 :: (sg2 ++ (sg1 ++ (o1 :: A))))) s3 (Bk0 key.data.toList val) own3.sl.left (by omega) (K0 (Bk0 key.data.toList val)) 4 (by omega)) (by simp) ?_
 rintro _ _ - ⟨s4, sg4, rfl, rfl, own4⟩
 have hw4 : Ap7 (Bk0 key.data.toList val) (K0 (Bk0 key.data.toList val)) 4 = (encA key.data.toList val, 0) := by
  rw [Af7 (by decide) (by omega) (by show (K0 (Bk0 key.data.toList val)).toNat < 4294967296; omega)]
  rfl
 rw [hw4] at own4 ⊢
 rw [List.nil_append, List.append_nil]
 refine ⟨(s4, 0, ()), rfl, ?_⟩
 have hal := Cm6 key.data.toList val
 generalize encA key.data.toList val = E at own4 hal
 have hbase : ∃ J0, sg4 ++ (sg3 ++ (o2 :: (sg2 ++ (sg1 ++ (o1 :: A))))) = J0 ++ A /\ o1 ∈ J0 /\ BSl J0 s4 E := ⟨sg4 ++ (sg3 ++ (o2 :: (sg2 ++ (sg1 ++ [o1])))), by simp, by simp, own4.sl.left⟩
 obtain ⟨J0, hJ0, ho1, hE0⟩ := hbase
 rw [hJ0]
 clear hJ0 own4 own3 own2 own1 hparts hcat hel hcs hw4 hw1 hw2
 refine G0 (fun z' z L' => ∃ (i : Nat) (s v : SlV) (seg : A4) (gs : List PG) (J X Y : A4), i <= n /\ z' = n - i /\ z = (s, v, (i : Int), ()) /\ L' = X ++ seg ++ Y /\ (X ++ Y).Perm (pgs gs ++ (J ++ (J0 ++ A))) /\ BSl J0 s (E.drop (i * room)) /\
   Own v 1 tB (gs.map PG.val) seg /\ (∀ g ∈ gs, g.Ok) /\ gs.map PG.l = Am8 i room E) n
  ⟨0, s4, ⟨none, 0, 0⟩, [], [], [], [], J0 ++ A, by omega, by omega, rfl, rfl, List.Perm.refl _, by rw [Nat.zero_mul, List.drop_zero]; exact hE0, F7, by simp, rfl⟩ ?_
 rintro z' z L ⟨i, s, v, seg, gs, J, X, Y, hi, rfl, rfl, rfl, hp, hs, own, hok, hgs⟩
 have hsub : ∀ x ∈ J0, x ∈ X ++ seg ++ Y := by
  intro x hx
  have h5 : x ∈ X ++ Y := (hp.mem_iff (a := x)).2 (by simp [hx])
  have h6 : x ∈ X \/ x ∈ Y := by simpa using h5
  rcases h6 with h6 | h6 <;> simp [h6]
 have hgl : gs.length = i := by have := congrArg List.length hgs; rw [List.length_map, Am8, List.length_map, List.length_range] at this; exact this
 have hvl := own.len
 rw [List.length_map] at hvl
 refine B9 (fun (hlt : (i : Int) < (n : Int)) => ?_) (fun (hge : ¬ (i : Int) < (n : Int)) => ?_)
 ·refine A6 c.2.2.1 ((lc _ (hsub _ ho1)).one 2 rfl) (B3 (Ad8 _ c.2.2.1) (D7 c.2.2.1, ()) rfl ?_)
  rw [hroom]
  have hsl := hs.len
  have hscap := hs.cap
  have him : Y1 (s.len : Int) (room : Int) = ((min s.len room : Nat) : Int) := by unfold Y1; omega
  simp only [him]
  have hsL : BSl (X ++ seg ++ Y) s (E.drop (i * room)) := Sl.mono hs hsub
  refine J5 (l' := 0) (h' := min s.len room) (m' := s.cap) rfl rfl rfl (by omega) (by omega) (Nat.le_refl _) ?_
  have hcut := Bq2 hsL (i := 0) (j := min s.len room) (by omega) (by omega)
  have hct : ((E.drop (i * room)).drop 0).take (min s.len room - 0) = (E.drop (i * room)).take room := by
   rw [List.drop_zero, Nat.sub_zero, hsl, Nat.min_comm]
   exact (List.take_eq_take_min).symm
  rw [hct] at hcut
  generalize N9 s ((0 : Nat) : Int) ((min s.len room : Nat) : Int) (s.cap : Int) 1 = c1 at hcut ⊢
  refine C3 fun n3 _ => ?_
  have hparts : U3 ((n3, Obj.cells #[.slice c1.a c1.len c1.cap] 27) :: (X ++ seg ++ Y)) ⟨some ⟨n3, 0, none⟩, 1, 1⟩ [(c1, (E.drop (i * room)).take room)] := by
   refine ⟨⟨rfl, Nat.le_refl _, .inr ⟨_, rfl, ldB List.mem_cons_self rfl⟩⟩, fun x hx => ?_⟩
   have hx' : x = (c1, (E.drop (i * room)).take room) := by simpa using hx
   subst hx'
   exact Sl.cons hcut
  have hcat : Ae7 [((c1, (E.drop (i * room)).take room) : PV)] = (E.drop (i * room)).take room := by simp [Ae7]
  refine H4 [] [] (At3 _ ⟨some ⟨n3, 0, none⟩, 1, 1⟩ _ hparts (by rw [hcat, List.length_take]; omega) (by simp)) (by simp) ?_
  rintro _ _ - ⟨s9, sg9, rfl, rfl, own9⟩
  rw [hcat] at own9
  rw [List.nil_append, List.append_nil]
  refine ⟨(s9, ()), rfl, C3 fun n4 _ => ?_⟩
  generalize (n3, Obj.cells #[.slice c1.a c1.len c1.cap] 27) = o3
  refine E5 Bd3 Ce7 ((n4, Obj.cells #[.slice s9.a s9.len s9.cap] 27) :: (sg9 ++ (o3 :: X))) Y own (by simp) (n := 1) (ws := [PG.val ⟨s9, sg9, (E.drop (i * room)).take room⟩]) (x := .slice (some ⟨n4, 0, none⟩) 1 1) (Src.sl (v := ⟨some ⟨n4, 0, none⟩, 1, 1⟩) ⟨rfl, Nat.le_refl _, .inr ⟨_, rfl, ldB List.mem_cons_self rfl⟩⟩) rfl (by omega) fun v8 seg8 hv8 own8 => ?_
  generalize (n4, Obj.cells #[.slice s9.a s9.len s9.cap] 27) = o4
  refine J5 (l' := min s.len room) (h' := s.len) (m' := s.cap) rfl rfl rfl (by omega) (by omega) (Nat.le_refl _) ?_
  have hcut2 := Bq2 hs (i := min s.len room) (j := s.len) (by omega) (by omega)
  have hct2 : ((E.drop (i * room)).drop (min s.len room)).take (s.len - min s.len room) = E.drop ((i + 1) * room) := by
   rw [List.take_of_length_le (by rw [List.length_drop, <- hsl]; omega), List.drop_drop]
   rcases Nat.le_total room s.len with h9 | h9
   ·rw [Nat.min_eq_right h9, Nat.add_mul, Nat.one_mul]
   ·rw [List.length_drop] at hsl
    rw [Nat.min_eq_left h9, List.drop_of_length_le (by omega), List.drop_of_length_le (by rw [Nat.add_mul]; omega)]
  rw [hct2] at hcut2
  refine ⟨n - (i + 1), by omega, i + 1, _, v8, seg8, gs ++ [⟨s9, sg9, (E.drop (i * room)).take room⟩], o4 :: o3 :: J, _, _, by omega, rfl, ?_, rfl, ?_, hcut2, ?_, ?_, ?_⟩
  ·rw [C1 (by first | omega | (simp only; omega)) (by first | omega | (simp only; omega))]
   rfl
  ·rw [O4, As4]
   classical
   rw [List.perm_iff_count] at hp ⊢
   intro z
   have := hp z
   simp only [List.append_eq, List.cons_append, List.count_append, List.count_cons, List.count_nil] at this ⊢
   omega
  ·rw [List.map_append]; exact own8
  ·intro z hz
   rcases List.mem_append.1 hz with h5 | h5
   ·exact hok z h5
   ·rw [List.mem_singleton.1 h5]; exact own9
  ·rw [List.map_append, hgs, Bk4]; rfl
 ·obtain rfl : i = n := by omega
  refine .drop (A := seg ++ (pgs gs ++ A)) (J := J ++ J0) ⟨v, seg, gs, rfl, rfl, own, hok, hgs⟩ ?_
  classical
  rw [List.perm_iff_count] at hp ⊢
  intro z
  have := hp z
  simp only [List.append_eq, List.cons_append, List.count_append, List.count_cons, List.count_nil] at this ⊢
  omega
def Ae5 (b : List UInt8) : List UInt8 × List UInt8 × Int :=
 if (F9 b 0).2.2 ≠ 0 then ([], [], (F9 b 0).2.2) else
 if (F9 b (F9 b 0).2.1).2.2 ≠ 0 then ([], [], (F9 b (F9 b 0).2.1).2.2) else
 if (T2 b (F9 b (F9 b 0).2.1).2.1 4).2 ≠ 0 then ([], [], (T2 b (F9 b (F9 b 0).2.1).2.1 4).2) else
 if b.length > (F9 b (F9 b 0).2.1).2.1 + 4 \/ (F9 b 0).1.length < 1 \/ (F9 b 0).1.length > 255 then ([], [], 5) else
 if K0 (b.take (F9 b (F9 b 0).2.1).2.1) ≠ (T2 b (F9 b (F9 b 0).2.1).2.1 4).1 then ([], [], 12) else
 ((F9 b 0).1, (F9 b (F9 b 0).2.1).1, 0)
def Ax1 (b : List UInt8) (A : A4) (r : Value) (L' : A4) : Prop := ∃ g : PG, r = .tuple #[Cv6 (Ae5 b).1, g.val, .i (Ae5 b).2.2] /\ L' = g.seg ++ A /\ g.Ok /\ g.l = (Ae5 b).2.1
theorem Ax1.err {b : List UInt8} {A : A4} {e : Int} (h : Ae5 b = ([], [], e)) : Ax1 b A (.tuple #[.string ⟨#[]⟩, .slice none 0 0, .i e]) A := ⟨pg0, by rw [h]; rfl, rfl, A96, by rw [h]; rfl⟩
theorem Ag9 {b : List UInt8} {a : Nat} (h : a <= b.length) : a <= (F9 b a).2.1 /\ (F9 b a).2.1 <= b.length /\ (F9 b a).1.length <= 65536 /\ ((F9 b a).2.2 = 0 -> (F9 b a).2.1 = a + 4 + (F9 b a).1.length) := by
 have hg := Ah0 b a 4
 unfold F9
 split
 ·rename_i h1
  exact ⟨Nat.le_refl _, h, by simp, fun h2 => absurd h2 h1⟩
 ·split
  ·exact ⟨Nat.le_refl _, h, by simp, fun h => absurd h (by simp)⟩
  ·split
   ·exact ⟨Nat.le_refl _, h, by simp, fun h => absurd h (by simp)⟩
   ·rename_i h1 h2 h3
    simp only
    rw [List.length_take, List.length_drop]
    omega
theorem Bs0 (l : List UInt8) : (ByteArray.mk l.toArray).size = l.length := by show l.toArray.size = _; simp
theorem C04 (A : A4) (v : SlV) (l : List PV) (h : U3 A v l) (hb : (Ae7 l).length <= 1000000) (hl : l.length <= 1099511627776) :
  CallF PP 183 #[.slice v.a v.len v.cap] A (Ax1 (Ae7 l) A) := by
 refine CallF.of (args := [.slice v.a v.len v.cap]) B5 B6 Tryz.func183 (e183 v _) ?_
 unfold t183
 refine H4 [] [] (At3 A v l h (by omega) hl) (by simp) ?_
 rintro _ _ - ⟨s, seg, rfl, rfl, own⟩
 rw [List.nil_append, List.append_nil]
 generalize Ae7 l = b at hb own ⊢
 refine ⟨(s, ()), rfl, H4 [] [] (Cg7 (seg ++ A) s b own.sl.left hb) (by simp) ?_⟩
 rintro _ _ - ⟨m, R0, rfl, rfl, hr0⟩
 rw [List.nil_append, List.append_nil]
 have hsl : ∀ R : A4, BSl (R ++ (seg ++ A)) s b := fun R => own.sl.left.right
 have hslen := own.sl.len
 rw [E6, Nat.mul_one] at hslen
 have hscap := own.cap
 refine ⟨(some ⟨m, 0, none⟩, ()), rfl, H4 [] (seg ++ A) (Bx9 m b 0 R0 hr0) rfl ?_⟩
 rintro _ R1 - ⟨rfl, hr1⟩
 rw [List.nil_append]
 obtain ⟨q1, q2, q3, q4⟩ := Ag9 (b := b) (a := 0) (Nat.zero_le _)
 refine ⟨(⟨(F9 b 0).1.toArray⟩, (F9 b 0).2.2, ()), rfl, ?_⟩
 refine N1 (fun (he : (F9 b 0).2.2 ≠ 0) => .app (.app (.of (Ax1.err (by unfold Ae5; rw [if_pos he]))))) (fun (he : (F9 b 0).2.2 = 0) => ?_)
 refine H4 [] (seg ++ A) (Bx9 m b (F9 b 0).2.1 R1 hr1) rfl ?_
 rintro _ R2 - ⟨rfl, hr2⟩
 rw [List.nil_append]
 obtain ⟨w1, w2, w3, w4⟩ := Ag9 (b := b) (a := (F9 b 0).2.1) q2
 refine ⟨(⟨(F9 b (F9 b 0).2.1).1.toArray⟩, (F9 b (F9 b 0).2.1).2.2, ()), rfl, ?_⟩
 refine N1 (fun (he2 : (F9 b (F9 b 0).2.1).2.2 ≠ 0) => .app (.app (.of (Ax1.err (by unfold Ae5; rw [if_neg (by omega), if_pos he2]))))) (fun (he2 : (F9 b (F9 b 0).2.1).2.2 = 0) => ?_)
 have hj : Ae5 b = if (T2 b (F9 b (F9 b 0).2.1).2.1 4).2 ≠ 0 then ([], [], (T2 b (F9 b (F9 b 0).2.1).2.1 4).2) else
   if b.length > (F9 b (F9 b 0).2.1).2.1 + 4 \/ (F9 b 0).1.length < 1 \/ (F9 b 0).1.length > 255 then ([], [], 5) else
   if K0 (b.take (F9 b (F9 b 0).2.1).2.1) ≠ (T2 b (F9 b (F9 b 0).2.1).2.1 4).1 then ([], [], 12) else
   ((F9 b 0).1, (F9 b (F9 b 0).2.1).1, 0) := by unfold Ae5; rw [if_neg (by omega), if_neg (by omega)]
 refine B3 (Reads.in (X := []) (Y := seg ++ A) (B51 m b _ R2 hr2)) ((b.length : Int) - (F9 b (F9 b 0).2.1).2.1, ()) rfl ?_
 generalize (F9 b 0).1 = key at q3 hj ⊢
 generalize F9 b (F9 b 0).2.1 = t2 at hr2 w2 hj ⊢
 obtain ⟨val, e, z⟩ := t2
 simp only at hr2 w2 hj ⊢
 refine H4 [] (seg ++ A) (num_cl m b e R2 hr2 4) rfl ?_
 rintro _ R3 - ⟨rfl, hr3⟩
 rw [List.nil_append]
 refine ⟨((T2 b e 4).1, (T2 b e 4).2, ()), rfl, ?_⟩
 refine N1 (fun (he3 : (T2 b e 4).2 ≠ 0) => .app (.app (.of (Ax1.err (by rw [hj, if_pos he3]))))) (fun (he3 : (T2 b e 4).2 = 0) => ?_)
 have hnx : Ay4 b e 4 = e + 4 := by unfold Ay4; rw [if_pos he3]; rfl
 rw [hnx] at hr3
 have hge := (Ah0 b e 4).2.2.2 he3
 refine B3 (Reads.in (X := []) (Y := seg ++ A) (B51 m b _ R3 hr3)) ((b.length : Int) - (e + 4 : Nat), ()) rfl ?_
 refine B9 (fun (h4 : (b.length : Int) - (e + 4 : Nat) > 0) => .app (.app (.of (Ax1.err (by rw [hj, if_neg (by omega), if_pos (by omega)]))))) (fun (h4 : ¬ (b.length : Int) - (e + 4 : Nat) > 0) => ?_)
 refine B3 (A36 _ _) (decide (1 <= ((ByteArray.mk key.toArray).size : Int) /\ ((ByteArray.mk key.toArray).size : Int) <= 255), ()) rfl ?_
 rw [Bs0]
 by_cases h5 : 1 <= (key.length : Int) /\ (key.length : Int) <= 255
 case neg =>
  rw [decide_eq_false h5]
  exact ifT rfl (.app (.app (.of (Ax1.err (by rw [hj, if_neg (by omega), if_pos (by omega)])))))
 rw [decide_eq_true h5]
 have hwe : IntKind.i64.wrap ((s.len : Int) - ((b.length : Int) - (e : Int))) = ((e : Nat) : Int) := by rw [hslen, C1 (by omega) (by omega)]; omega
 simp only [hwe]
 refine ifF rfl (J5 (l' := 0) (h' := e) (m' := s.cap) rfl rfl rfl (by omega) (by omega) (Nat.le_refl _) ?_)
 have hcut := Bq2 (hsl R3) (i := 0) (j := e) (by omega) (by omega)
 rw [List.drop_zero, Nat.sub_zero] at hcut
 refine B3 (Bq4 _ _ (b.take e) hcut (by rw [List.length_take]; omega) (T2 b e 4).1) (K0 (b.take e) == (T2 b e 4).1, ()) rfl ?_
 by_cases h6 : K0 (b.take e) = (T2 b e 4).1
 ·have hjj : Ae5 b = (key, val, 0) := by rw [hj, if_neg (by omega), if_neg (by omega), if_neg (by simpa using h6)]
  refine ifF (by simp [h6]) (Cq2 fun n ob w hw own2 _ => ?_)
  unfold Ax1
  rw [hjj]
  refine .drop (A := [(n, ob)] ++ A) (J := R3 ++ seg) ⟨⟨w, [(n, ob)], val⟩, rfl, rfl, own2, rfl⟩ ?_
  classical
  rw [List.perm_iff_count]
  intro x
  simp only [List.append_eq, List.cons_append, List.count_append, List.count_cons, List.count_nil]
  omega
 ·refine ifT (by simp [h6]) (.app (.app (.of (Ax1.err (by rw [hj, if_neg (by omega), if_neg (by omega), if_pos h6])))))
theorem A88 {d : Dev} (ok : S3 d) (b p : Int) : (O3 d b p).1.length <= 512 := by
 have hS := ok.c.s
 unfold O3
 split
 ·simp
 ·split
  ·simp
  ·rename_i k hk
   split
   ·show (blk d.c.S).length <= 512
    unfold blk
    rw [List.length_replicate]; omega
   ·show (k.pages.getD p.toNat []).length <= 512
    rw [List.getD_eq_getElem?_getD]
    cases h : k.pages[p.toNat]? with
    | none => simp
    | some l => have := (ok.pg k (List.mem_of_getElem? hk)).2 l (List.mem_of_getElem? h); simp only [Option.getD_some]; omega
def Q5 (d : Dev) (b pg : Int) : Hd × List UInt8 × Int :=
 if (O3 d b pg).2 = 0 then if (H5 (O3 d b pg).1).2.2 = 0 then H5 (O3 d b pg).1 else (hz, [], 8) else (hz, [], 8)
theorem Ay5 {d : Dev} (ok : S3 d) (b pg : Int) : (Q5 d b pg).2.1.length <= 512 := by
 unfold Q5
 split
 ·split
  ·exact Nat.le_trans (Ao8 _) (A88 ok b pg)
  ·simp
 ·simp
def Q0 (d : Dev) (b pg : Int) : Nat -> Option (List (List UInt8))
 | 0 => some []
 | n + 1 => match Q0 d b pg n with
  | some l => if (Q5 d b (pg + n)).2.2 = 0 then some (l ++ [(Q5 d b (pg + n)).2.1]) else none
  | none => none
theorem Al8 {d : Dev} {b pg : Int} : ∀ {n m : Nat}, n <= m -> Q0 d b pg n = none -> Q0 d b pg m = none
  | n, m, h, hn => by
    induction m with
    | zero => obtain rfl : n = 0 := by omega
              exact hn
    | succ m ih =>
      rcases Nat.lt_or_ge m n with h1 | h1
      · obtain rfl : n = m + 1 := by omega
        exact hn
      · rw [Q0, ih h1]
theorem As3 {d : Dev} (ok : S3 d) {b pg : Int} : ∀ {n : Nat} {l : List (List UInt8)}, Q0 d b pg n = some l -> l.length = n /\ ∀ x ∈ l, x.length <= 512
 | 0, l, h => by obtain rfl := Option.some.inj h; exact ⟨rfl, by simp⟩
 | n + 1, l, h => by
  rw [Q0] at h
  split at h
  ·rename_i l' hl'
   split at h
   ·obtain rfl := Option.some.inj h
    obtain ⟨h1, h2⟩ := As3 ok hl'
    refine ⟨by simp [h1], fun x hx => ?_⟩
    rcases List.mem_append.1 hx with hx | hx
    ·exact h2 x hx
    ·rw [List.mem_singleton.1 hx]; exact Ay5 ok _ _
   ·cases h
  ·cases h
theorem Al9 {d : Dev} {b pg : Int} {n : Nat} {l : List (List UInt8)} (h : Q0 d b pg n = some l) (h0 : 0 < n) : (Q5 d b pg).2.2 = 0 := by
 cases h1 : Q0 d b pg 1 with
 | none => rw [Al8 h0 h1] at h; cases h
 | some l1 =>
  rw [Q0, Q0] at h1
  simp only [Int.natCast_zero, Int.add_zero] at h1
  split at h1
  ·assumption
  ·cases h1
def Au0 (p : It) (h : Hd) : Prop := h.1 = 2 /\ h.2.1 = 0 /\ h.2.2.2.1 = p.2.2.1 /\ h.2.2.2.2.1 = p.2.1
instance (p : It) (h : Hd) : Decidable (Au0 p h) := by unfold Au0; infer_instance
def C7 (d : Dev) (p : It) : List UInt8 × List UInt8 × Int :=
 if (O3 d p.1 0).2 ≠ 0 then ([], [], (O3 d p.1 0).2) else
 if (Q5 d p.1 p.2.1).2.2 = 0 /\ Au0 p (Q5 d p.1 p.2.1).1 then
  match Q0 d p.1 p.2.1 (Q5 d p.1 p.2.1).1.2.2.1.toNat with
  | some l => Ae5 l.flatten
  | none => ([], [], 8)
 else ([], [], 8)
def Ad4 (q : List UInt8 × List UInt8 × Int) (A : A4) (r : Value) (L' : A4) : Prop := ∃ g : PG, r = .tuple #[Cv6 q.1, g.val, .i q.2.2] /\ L' = g.seg ++ A /\ g.Ok /\ g.l = q.2.1
theorem Ad4.err {q : List UInt8 × List UInt8 × Int} {A : A4} {e : Int} (h : q = ([], [], e)) : Ad4 q A (.tuple #[.string ⟨#[]⟩, .slice none 0 0, .i e]) A := ⟨pg0, by rw [h]; rfl, rfl, A96, by rw [h]; rfl⟩
theorem Ad4.no {q : List UInt8 × List UInt8 × Int} {A J L2 : A4} {e : Int} (h : q = ([], [], e)) (hp : L2.Perm (A ++ J)) : HL.Ends (Ad4 q A) (.tuple #[.string ⟨#[]⟩, .slice none 0 0, .i e]) L2 := .drop (Ad4.err h) hp
theorem Am4 (gs : List PG) : Ae7 (pvs gs) = (gs.map PG.l).flatten := by
 induction gs with
 | nil => rfl
 | cons g r ih => simp only [Ae7, pvs, List.map_cons, List.flatMap_cons, List.flatten_cons] at ih ⊢; rw [ih]
theorem Bp3 : ∀ (l : List (List UInt8)), (∀ x ∈ l, x.length <= 512) -> l.flatten.length <= l.length * 512
 | [], _ => by simp
 | x :: r, h => by
  have h1 := Bp3 r fun y hy => h y (by simp [hy])
  have h2 := h x (by simp)
  simp only [List.flatten_cons, List.length_append, List.length_cons]
  omega
theorem A47 (m : Nat) (d : Dev) (A : A4) (h : FH m d A) (ok : S3 d) (p : It) (hp1 : W1 .i64 p.2.1) : CallF PP 118 #[.pointer (some ⟨m, 0, none⟩), .agg #[.i p.1, .i p.2.1, .i p.2.2.1]] A (Ad4 (C7 d p) A) := by
 refine c118 (some ⟨m, 0, none⟩) p ?_
 unfold s118
 have hpw := Bl2 hp1
 have hP := DG.pb ok
 refine Q2 (Bh2 m d A h ok p.1 0) ?_
 rintro _ _ - ⟨g0, rfl, rfl, -, -⟩
 refine ⟨(g0.v, (O3 d p.1 0).2, ()), rfl, C0 (fun (h0 : (O3 d p.1 0).2 = 0) => ?_) (fun (h0 : ¬ (O3 d p.1 0).2 = 0) => Ad4.no (by unfold C7; rw [if_pos h0]) List.perm_append_comm)⟩
 have hno : ¬ ((Q5 d p.1 p.2.1).2.2 = 0 /\ Au0 p (Q5 d p.1 p.2.1).1) -> C7 d p = ([], [], 8) := fun hh => by unfold C7; rw [if_neg (by simpa using h0), if_neg hh]
 refine G0 (fun z' z L' => ∃ (gs : List PG) (s : SlV) (sg J : A4) (n : Nat), z = (s, (n : Int), ()) /\ z' = 20 - gs.length /\ L'.Perm (sg ++ (pgs gs ++ (J ++ A))) /\ Own s 1 tB (gs.map PG.val) sg /\ (∀ g ∈ gs, g.Ok) /\ gs.length <= n /\ n <= 16 /\ Q0 d p.1 p.2.1 gs.length = some (gs.map PG.l) /\
  ((gs = [] /\ n = 1) \/ (0 < gs.length /\ 0 <= p.2.1 /\ p.2.1 <= 16 /\ Au0 p (Q5 d p.1 p.2.1).1 /\ (Q5 d p.1 p.2.1).1.2.2.1 = n))) 20
  ⟨[], ⟨none, 0, 0⟩, [], g0.seg, 1, rfl, rfl, List.Perm.refl _, F7, by simp, by simp, by omega, rfl, .inl ⟨rfl, rfl⟩⟩ ?_
 rintro z' z L1 ⟨gs, s, sg, J, n, rfl, rfl, hpm, own, hok, hgn, hn16, hpc, hst⟩
 dsimp only
 have hsl := own.sl.len
 rw [List.length_map] at hsl
 refine C0 (fun (hlt : (s.len : Int) < n) => ?_) (fun (hge : ¬ (s.len : Int) < n) => ?_)
 ·have hadd : -9223372036854775808 <= p.2.1 + (s.len : Int) /\ p.2.1 + (s.len : Int) <= 9223372036854775807 := by
   rcases hst with ⟨rfl, -⟩ | ⟨-, h1, h2, -⟩
   ·simp at hsl; omega
   ·omega
  refine D9 hadd (G9 (Bh2 m d A h ok p.1 (p.2.1 + s.len)) (R := sg ++ (pgs gs ++ J)) (pc fun z => by have := pcn hpm z; simp only [B7] at *; omega) ?_)
  have hse : p.2.1 + (s.len : Int) = p.2.1 + (gs.length : Int) := by omega
  rw [hse]
  rintro _ _ ⟨g1, rfl, rfl, hg1, hgl1⟩
  have hbad : (Q5 d p.1 (p.2.1 + (gs.length : Int))).2.2 ≠ 0 -> C7 d p = ([], [], 8) := by
   intro hh
   rcases hst with ⟨rfl, -⟩ | ⟨hgp, -, -, hhd, hnn⟩
   ·exact hno fun h => hh (by simpa using h.1)
   ·have h3 : Q0 d p.1 p.2.1 (gs.length + 1) = none := by rw [Q0, hpc]; simp only; rw [if_neg hh]
    have h4 := Al9 hpc hgp
    unfold C7
    rw [if_neg (by simpa using h0), if_pos ⟨h4, hhd⟩, hnn, Int.toNat_natCast, Al8 (show gs.length + 1 <= n by omega) h3]
  refine ⟨_, List.Perm.refl _, (g1.v, (O3 d p.1 (p.2.1 + (gs.length : Int))).2, ()), rfl, C0 (fun (he : (O3 d p.1 (p.2.1 + (gs.length : Int))).2 = 0) => ?_) (fun (he : ¬ (O3 d p.1 (p.2.1 + (gs.length : Int))).2 = 0) => Ad4.no (J := g1.seg ++ (sg ++ (pgs gs ++ J))) (hbad (by unfold Q5; rw [if_neg he]; decide)) (pc fun z => by simp only [B7] at *; omega))⟩
  refine G9 (As2 (g1.seg ++ A) g1.v (O3 d p.1 (p.2.1 + (gs.length : Int))).1 (by rw [<- hgl1]; exact Sl.left hg1.sl) (by have := A88 ok p.1 (p.2.1 + (gs.length : Int)); omega)) (List.Perm.refl _) ?_
  rintro _ _ ⟨s2, sg2, rfl, rfl, own2⟩
  generalize hq : H5 (O3 d p.1 (p.2.1 + (gs.length : Int))).1 = q at own2
  refine ⟨_, List.Perm.refl _, (q.1, s2, q.2.2, ()), rfl, C0 (fun (he2 : q.2.2 = 0) => ?_) (fun (he2 : ¬ q.2.2 = 0) => Ad4.no (J := sg2 ++ (g1.seg ++ (sg ++ (pgs gs ++ J)))) (hbad (by unfold Q5; rw [if_pos he, if_neg (by rw [hq]; exact he2)]; decide)) (pc fun z => by simp only [B7] at *; omega))⟩
  have hpq : Q5 d p.1 (p.2.1 + (gs.length : Int)) = q := by unfold Q5; rw [if_pos he, hq, if_pos he2]
  have hqk := Ag4 (Bn3 (b := (O3 d p.1 (p.2.1 + (gs.length : Int))).1) (by rw [hq]; exact he2))
  rw [hq] at hqk
  have hql : q.2.1.length <= 512 := by rw [<- hpq]; exact Ay5 ok _ _
  refine Y6 (fun y L' => L' = sg2 ++ (g1.seg ++ A) ++ (sg ++ (pgs gs ++ J)) /\ ∃ n' : Nat, y = ((n' : Int), ()) /\ gs.length < n' /\ n' <= 16 /\ 0 <= p.2.1 /\ p.2.1 <= 16 /\ Au0 p (Q5 d p.1 p.2.1).1 /\ (Q5 d p.1 p.2.1).1.2.2.1 = n') ?_ ?_
  ·rintro _ _ ⟨rfl, n', rfl, hn1, hn2, hp0, hp16, hhd, hnn⟩
   refine Af6 Bd3 Ce7 own (Y := sg2 ++ (g1.seg ++ A) ++ (pgs gs ++ J)) (ws := [pvV (s2, q.2.1)]) (pc fun z => by simp only [B7] at *; omega) rfl rfl (by omega) fun s3 sg3 hs3 own3 => ?_
   refine ⟨20 - (gs.length + 1), by omega, gs ++ [⟨s2, sg2, q.2.1⟩], s3, sg3, g1.seg ++ J, n', rfl, by simp, ?_, ?_, ?_, by simp; omega, hn2, ?_, .inr ⟨by simp, hp0, hp16, hhd, hnn⟩⟩
   ·rw [O4, As4]
    exact pc fun z => by simp only [B7] at *; omega
   ·rw [List.map_append]; exact own3
   ·intro g hg
    rcases List.mem_append.1 hg with hg | hg
    ·exact hok g hg
    ·rw [List.mem_singleton.1 hg]; exact own2
   ·rw [List.length_append, List.length_singleton, Q0, hpc]
    simp only
    rw [hpq, if_pos he2, List.map_append]; rfl
  ·intro j hj
   refine C0 (fun (hl0 : (s.len : Int) = 0) => ?_) (fun (hl0 : ¬ (s.len : Int) = 0) => ?_)
   ·have hg0 : gs.length = 0 := by omega
    have hpq0 : Q5 d p.1 p.2.1 = q := by rw [<- hpq, hg0]; simp
    have hne : ¬ Au0 p q.1 -> HL.Ends (Ad4 (C7 d p) A) (.tuple #[.string ⟨#[]⟩, .slice none 0 0, .i 8]) (sg2 ++ (g1.seg ++ A) ++ (sg ++ (pgs gs ++ J))) := fun hh =>
     Ad4.no (J := sg2 ++ (g1.seg ++ (sg ++ (pgs gs ++ J)))) (hno fun hx => hh (by rw [<- hpq0]; exact hx.2)) (pc fun z => by simp only [B7] at *; omega)
    refine C0 (fun (e1 : q.1.1 = 2) => ?_) (fun e1 => hne fun hx => e1 hx.1)
    refine C0 (fun (e2 : q.1.2.1 = 0) => ?_) (fun e2 => hne fun hx => e2 hx.2.1)
    refine C0 (fun (e3 : q.1.2.2.2.1 = p.2.2.1) => ?_) (fun e3 => hne fun hx => e3 hx.2.2.1)
    refine C0 (fun (e4 : q.1.2.2.2.2.1 = p.2.1) => ?_) (fun e4 => hne fun hx => e4 hx.2.2.2)
    have hf := Al2 (by rw [<- A89 ok]; exact he)
    rw [hg0] at hf
    exact hj _ _ ⟨rfl, q.1.2.2.1.toNat, by rw [Int.toNat_of_nonneg (by omega)], by omega, by omega, by omega, by omega, by rw [hpq0]; exact ⟨e1, e2, e3, e4⟩, by rw [hpq0]; omega⟩
   ·rcases hst with ⟨rfl, -⟩ | ⟨-, hp0, hp16, hhd, hnn⟩
    ·simp at hsl; omega
    ·exact hj _ _ ⟨rfl, n, rfl, by omega, hn16, hp0, hp16, hhd, hnn⟩
 ·rcases hst with ⟨rfl, rfl⟩ | ⟨hgp, hp0, hp16, hhd, hnn⟩
  ·simp at hsl; omega
  have hgn' : gs.length = n := by omega
  have hb := As3 ok hpc
  have hcat : (Ae7 (pvs gs)).length <= 1000000 := by
   rw [Am4]
   have := Bp3 _ hb.2
   rw [hb.1] at this
   omega
  refine Q2 (C04 L1 s (pvs gs) (A20 own hok (Bt6 hpm) fun x hx => hpm.symm.subset (by simp [hx])) hcat (by simp [pvs]; omega)) ?_
  rintro _ _ - ⟨g, rfl, rfl, hg, hgl⟩
  have hfe : C7 d p = Ae5 (Ae7 (pvs gs)) := by
   unfold C7
   rw [if_neg (by simpa using h0), if_pos ⟨Al9 hpc hgp, hhd⟩, hnn, Int.toNat_natCast, <- hgn', hpc, Am4]
  refine ⟨(⟨(Ae5 (Ae7 (pvs gs))).1.toArray⟩, g.v, (Ae5 (Ae7 (pvs gs))).2.2, ()), rfl, .drop (A := g.seg ++ A) (J := sg ++ (pgs gs ++ J)) ⟨g, by rw [hfe]; rfl, rfl, hg, by rw [hfe]; exact hgl⟩ (pc fun z => by have := pcn hpm z; simp only [B7] at *; omega)⟩
set_option linter.unusedSectionVars false
end Go.Proofs.YtbaoieipijmakaaGreatDoor
namespace Go.HL
section
variable {P : Program} {L A Y : A4}
theorem own_st {v : SlV} {sz : Nat} {T : TypeId} {vs ws : List Value} {seg : A4} (own : Own v sz T vs seg) {p : Nat} (hp : p + ws.length <= vs.length) (hws : 0 < ws.length) {a ad : Addr} (ha : v.a = some a) (had : ad = Addr.add a p) {k : HP}
  (hL : L.Perm (seg ++ Y)) (hk : ∀ seg' L', L'.Perm (seg' ++ Y) -> Own v sz T (Aw0 vs p ws) seg' -> k L') : st ad ws k L := by
 subst had
 rcases own.row with ⟨ha', _, _⟩ | ⟨b, off, c, fz, ha', rfl, hsz, hfz, hc⟩
 ·rw [ha] at ha'; cases ha'
 ·rw [ha] at ha'
  obtain rfl := Option.some.inj ha'
  have hlen := own.len
  have hcap := own.cap
  have hle := Nat.mul_le_mul_right sz hcap
  refine Bs2 (n := b) (off := off + p) (c := c) (T := T) (fz := fz) (Y := Y) hL (N2 (ad := ⟨b, off, none⟩) rfl p) (by omega) (by omega) _ rfl fun L' hL' => ?_
  refine hk [(b, Obj.cells (wr c (off + p) ws) T fz)] L' hL' ⟨by rw [A15 _ _ _ hp]; exact hlen, hcap, .inr ⟨b, off, _, fz, ha, rfl, by rw [M2]; exact hsz, by rw [M2]; exact hfz, fun i u hu => ?_⟩⟩
  rw [Ah6 _ _ _ hp] at hu
  rw [Aa6 _ _ _ _ (by omega)]
  split at hu
  ·rw [if_pos (by omega), show off + i - (off + p) = i - p by omega]; exact hu
  ·rw [if_neg (by omega)]; exact hc i u hu
theorem Ch7 {α : Type} {enc : α -> List Value} {sz : Nat} (hsz : ∀ x, (enc x).length = sz) (hpos : 0 < sz) {l : List α} {n : Nat} (hn : n < l.length) (x : α) : Aw0 (l.flatMap enc) (n * sz) (enc x) = (l.set n x).flatMap enc := by
 have hfl := M7 hsz l
 have hfl2 := M7 hsz (l.set n x)
 rw [List.length_set] at hfl2
 have h0 : n * sz + sz <= l.length * sz := by rw [<- Nat.succ_mul]; exact Nat.mul_le_mul_right sz hn
 apply List.ext_getElem?
 intro i
 rw [Ah6 _ _ _ (by rw [hsz, hfl]; exact h0), hsz]
 by_cases hi : i < l.length * sz
 ·have hq : i / sz < l.length := by rw [Nat.div_lt_iff_lt_mul hpos]; exact hi
  have hr : i % sz < sz := Nat.mod_lt _ hpos
  have hi2 : i = i / sz * sz + i % sz := by rw [Nat.mul_comm]; exact (Nat.div_add_mod i sz).symm
  generalize i / sz = q at hq hi2
  generalize i % sz = r at hr hi2
  subst hi2
  rw [A41 hsz (l.set n x) q (by simpa using hq) r hr, A41 hsz l q hq r hr, List.getElem_set]
  by_cases hqn : n = q
  ·subst hqn
   rw [if_pos (by omega), if_pos rfl]
   congr 1; omega
  ·rw [if_neg, if_neg hqn]
   intro hc
   rcases Nat.lt_or_ge n q with h | h
   ·have := Nat.mul_le_mul_right sz (show n + 1 <= q by omega)
    rw [Nat.succ_mul] at this
    omega
   ·have := Nat.mul_le_mul_right sz (show q + 1 <= n by omega)
    rw [Nat.succ_mul] at this
    omega
 ·rw [if_neg (by omega), List.getElem?_eq_none (by omega), List.getElem?_eq_none (by omega)]
theorem Au7 {α : Type} {enc : α -> List Value} {sz : Nat} (hsz : ∀ x, (enc x).length = sz) (hpos : 0 < sz) {v : SlV} {T : TypeId} {l : List α} {seg : A4} (own : Own v sz T (l.flatMap enc) seg) (hs : ∀ p ∈ seg, p ∈ L) {i : Int} {n : Nat} (hi : i = n) (hn : n < l.length) {k : Addr -> HP}
  (hk : ∀ b, v.a = some b -> D0 (Addr.add b (n * sz)) (enc l[n]) L -> k (Addr.add b (n * sz)) L) : elp v.a v.len i sz k L := by
 subst hi
 obtain ⟨a, ha, hl⟩ := own.sl.el hsz hpos hn
 refine A5 ha (E0 (by omega) (by have := own.sl.els_len hsz hpos; omega) ?_)
 rw [Int.toNat_natCast]
 exact hk a ha (hl.mono hs)
theorem By7 {α : Type} {enc : α -> List Value} {sz : Nat} (hsz : ∀ x, (enc x).length = sz) (hpos : 0 < sz) {v : SlV} {T : TypeId} {l : List α} {seg : A4} (own : Own v sz T (l.flatMap enc) seg) {b : Addr} (hb : v.a = some b) {n : Nat} (hn : n < l.length) (x : α) (hL : L.Perm (seg ++ Y)) {k : HP}
  (hk : ∀ seg' L', L'.Perm (seg' ++ Y) -> Own v sz T ((l.set n x).flatMap enc) seg' -> k L') : st (Addr.add b (n * sz)) (enc x) k L := by
 have h0 : n * sz + sz <= l.length * sz := by rw [<- Nat.succ_mul]; exact Nat.mul_le_mul_right sz hn
 refine own_st own (p := n * sz) (by rw [hsz, M7 hsz]; exact h0) (by rw [hsz]; exact hpos) hb rfl hL fun seg' L' hL' o => hk seg' L' hL' ?_
 rw [Ch7 hsz hpos hn] at o; exact o
variable {κ : Type} [DecidableEq κ]
theorem Ah1 {t kt et : TypeId} {kv : κ -> Value} {z : Value} (hT : Cc2 P t kt et kv z) {r : Nat} {es : Array MapEntry} {clock : Nat} {m : List (κ × Value)} (hL : L.Perm ((r, Obj.map es clock) :: Y)) (h : Mp kv es m) (k : κ) (v : Value) {K : HP}
  (hk : ∀ es' clock' L', Mp kv es' (Aw3 m k v) -> L'.Perm ((r, Obj.map es' clock') :: Y) -> K L') : smU P (Instr.mapUpdate t (.map (some r)) (kv k) v) K L := by
 obtain ⟨A2, B2, rfl⟩ := List.append_of_mem (hL.symm.subset List.mem_cons_self)
 refine A67 hT A2 B2 rfl h k v fun es' clock' hm => hk es' clock' _ hm ?_
 exact List.perm_middle.trans (((List.perm_cons _).1 (List.perm_middle.symm.trans hL)).cons _)
theorem Bd5 {t t2 ty kt et : TypeId} {kv : κ -> Value} {z : Value} (hT : Cc2 P t kt et kv z) {r : Nat} {es : Array MapEntry} {clock : Nat} {m : List (κ × Value)} (hL : L.Perm ((r, Obj.map es clock) :: Y)) (h : Mp kv es m) (k : κ) {K : RsV [] -> HP}
  (hk : ∀ es' clock' L', Mp kv es' (A62 m k) -> L'.Perm ((r, Obj.map es' clock') :: Y) -> K () L') : smW P (Builtin.delete_ #[t, t2] ty #[.map (some r), kv k]) [] K L := by
 obtain ⟨A2, B2, rfl⟩ := List.append_of_mem (hL.symm.subset List.mem_cons_self)
 refine Bd6 hT A2 B2 rfl h k fun es' clock' hm => hk es' clock' _ hm ?_
 exact List.perm_middle.trans (((List.perm_cons _).1 (List.perm_middle.symm.trans hL)).cons _)
theorem Cj2 (k : κ) : As8 ([] : List (κ × Value)) k = none := rfl
theorem P6 (p : κ × Value) (m : List (κ × Value)) (k : κ) : As8 (p :: m) k = if k = p.1 then some p.2 else As8 m k := by
 unfold As8
 by_cases h : k = p.1
 ·rw [if_pos h, List.find?_cons_of_pos (by simpa using h)]; rfl
 ·rw [if_neg h, List.find?_cons_of_neg (by simpa using h)]
theorem As7 : ∀ (m : List (κ × Value)) (k : κ) (v : Value) (k' : κ), As8 (Aw3 m k v) k' = if k' = k then some v else As8 m k'
 | [], k, v, k' => by rw [Aw3, P6]
 | p :: r, k, v, k' => by
  rw [Aw3]
  by_cases h : k = p.1
  ·rw [if_pos h, P6, P6]
   by_cases h2 : k' = k
   ·subst h2; simp
   ·simp only [h2, if_false]; rw [if_neg (fun e => h2 (e.trans h.symm))]
  ·rw [if_neg h, P6, P6, As7 r k v k']
   by_cases h2 : k' = p.1
   ·rw [if_pos h2, if_pos h2, if_neg (fun e => h (e.symm.trans h2))]
   ·rw [if_neg h2, if_neg h2]
theorem Ba4 : ∀ (m : List (κ × Value)) (k : κ) (v : Value), (m.map Prod.fst).Nodup -> ((Aw3 m k v).map Prod.fst).Nodup /\ ∀ x, x ∈ (Aw3 m k v).map Prod.fst ↔ x = k \/ x ∈ m.map Prod.fst
 | [], k, v, _ => by simp [Aw3]
 | p :: r, k, v, h => by
  rw [Aw3]
  rw [List.map_cons, List.nodup_cons] at h
  by_cases hk : k = p.1
  ·rw [if_pos hk]
   subst hk
   refine ⟨by simpa using h, fun x => by simp⟩
  ·rw [if_neg hk]
   obtain ⟨h1, h2⟩ := Ba4 r k v h.2
   refine ⟨?_, fun x => ?_⟩
   ·rw [List.map_cons, List.nodup_cons]
    exact ⟨fun hx => ((h2 _).1 hx).elim (fun e => hk e.symm) h.1, h1⟩
   ·rw [List.map_cons, List.mem_cons, h2, List.map_cons, List.mem_cons]
    constructor
    ·rintro (a | a | a) <;> simp [a]
    ·rintro (a | a | a) <;> simp [a]
theorem B42 {m : List (κ × Value)} {k : κ} (h : k ∉ m.map Prod.fst) : As8 m k = none := by
 induction m with
 | nil => rfl
 | cons p r ih =>
  rw [List.map_cons, List.mem_cons, not_or] at h
  rw [P6, if_neg h.1, ih h.2]
theorem Ba5 : ∀ (m : List (κ × Value)) (k k' : κ), (m.map Prod.fst).Nodup -> As8 (A62 m k) k' = if k' = k then none else As8 m k'
 | [], k, k', _ => by simp [A62, Cj2]
 | p :: r, k, k', h => by
  rw [A62]
  rw [List.map_cons, List.nodup_cons] at h
  by_cases hk : k = p.1
  ·rw [if_pos hk, P6]
   by_cases h2 : k' = k
   ·rw [if_pos h2, h2, hk]; exact B42 h.1
   ·rw [if_neg h2, if_neg (fun e => h2 (e.trans hk.symm))]
  ·rw [if_neg hk, P6, P6, Ba5 r k k' h.2]
   by_cases h2 : k' = p.1
   ·rw [if_pos h2, if_pos h2, if_neg (fun e => hk (e.symm.trans h2))]
   ·rw [if_neg h2, if_neg h2]
theorem Ba7 : ∀ (m : List (κ × Value)) (k : κ), (m.map Prod.fst).Nodup -> ((A62 m k).map Prod.fst).Nodup /\ ∀ x, x ∈ (A62 m k).map Prod.fst -> x ∈ m.map Prod.fst
 | [], k, _ => by simp [A62]
 | p :: r, k, h => by
  rw [A62]
  rw [List.map_cons, List.nodup_cons] at h
  by_cases hk : k = p.1
  ·rw [if_pos hk]
   exact ⟨h.2, fun x hx => by simp [hx]⟩
  ·rw [if_neg hk]
   obtain ⟨h1, h2⟩ := Ba7 r k h.2
   refine ⟨?_, fun x hx => ?_⟩
   ·rw [List.map_cons, List.nodup_cons]
    exact ⟨fun hx => h.1 (h2 _ hx), h1⟩
   ·rw [List.map_cons, List.mem_cons] at hx ⊢
    exact hx.imp id (h2 x)
end
end Go.HL
namespace Go.Proofs.YtbaoieipijmakaaGreatDoor
open Go.HL
section
variable {α : Type} (key : α -> Int)
def Aw5 : List α -> α -> List α
 | [], x => [x]
 | y :: r, x => if key x < key y then y :: Aw5 r x else x :: y :: r
def An7 (l : List α) : List α := (l.foldl (Aw5 key) []).reverse
theorem Bc0 : ∀ (r : List α) (x : α), (Aw5 key r x).Perm (x :: r)
 | [], x => List.Perm.refl _
 | y :: r, x => by
  rw [Aw5]
  split
  ·exact ((Bc0 r x).cons y).trans (List.Perm.swap x y r)
  ·exact List.Perm.refl _
theorem V4 : ∀ (l acc : List α), (l.foldl (Aw5 key) acc).Perm (l ++ acc)
 | [], acc => List.Perm.refl _
 | x :: l, acc => by
  rw [List.foldl_cons]
  refine (V4 l _).trans ?_
  exact ((Bc0 key acc x).append_left l).trans (List.perm_middle)
theorem Q7 (l : List α) : (An7 key l).Perm l := by
 unfold An7
 refine (List.reverse_perm _).trans ?_
 have := V4 key l []
 rwa [List.append_nil] at this
theorem Bo3 {β : Type} (f : α -> β) (kb : β -> Int) (h : ∀ x, kb (f x) = key x) : ∀ (r : List α) (x : α), (Aw5 key r x).map f = Aw5 kb (r.map f) (f x)
 | [], x => rfl
 | y :: r, x => by
  rw [Aw5, List.map_cons, Aw5, h, h]
  split
  ·rw [List.map_cons, Bo3 f kb h r x]
  ·rfl
theorem Af5 {β : Type} (f : α -> β) (kb : β -> Int) (h : ∀ x, kb (f x) = key x) : ∀ (l acc : List α), (l.foldl (Aw5 key) acc).map f = (l.map f).foldl (Aw5 kb) (acc.map f)
 | [], acc => rfl
 | x :: l, acc => by rw [List.foldl_cons, List.map_cons, List.foldl_cons, Af5 f kb h l, Bo3 key f kb h]
theorem B62 {β : Type} (f : α -> β) (kb : β -> Int) (h : ∀ x, kb (f x) = key x) (l : List α) : (An7 key l).map f = An7 kb (l.map f) := by
 unfold An7
 rw [List.map_reverse, Af5 key f kb h, List.map_nil]
end
abbrev HD := Int × Int × List It
structure HE where
 b : Int
 ep : Int
 v : SlV
 seg : A4
 l : List It
def HE.enc (h : HE) : List Value := [.i h.b, .i h.ep, .slice h.v.a h.v.len h.v.cap]
def HE.Ok (h : HE) : Prop := Own h.v 3 Bv6 (h.l.flatMap N7) h.seg
def HE.dat (h : HE) : HD := (h.b, h.ep, h.l)
theorem HE.enc_len (h : HE) : h.enc.length = 3 := rfl
def R6 (l : List HE) : A4 := l.flatMap HE.seg
theorem B71 (a b : List HE) : R6 (a ++ b) = R6 a ++ R6 b := List.flatMap_append
theorem B70 (a : HE) : R6 [a] = a.seg := by simp [R6]
theorem Au5 {α : Type} (f : α -> A4) {a b : List α} (h : a.Perm b) (z : Nat × Obj) : cnt (a.flatMap f) z = cnt (b.flatMap f) z := by
 induction h with
 | nil => rfl
 | cons x _ ih => simp only [List.flatMap_cons, B7, ih]
 | swap x y l => simp only [List.flatMap_cons, B7]; omega
 | trans _ _ i1 i2 => rw [i1, i2]
abbrev eHl : TypeId := 154
abbrev tHl : TypeId := 143
theorem elemHl : S2 PP tHl eHl 3 40 [.i 0, .i 0, .slice none 0 0] := M0 (by kernel_rfl) (by kernel_rfl) rfl (by decide) (by decide)
theorem srcHl : Ao1 PP tHl := .inl ⟨eHl, by kernel_rfl⟩
abbrev tPPs : TypeId := 243
theorem C29 : S2 PP tPPs tPs 1 24 [.slice none 0 0] := M0 (by kernel_rfl) (by kernel_rfl) rfl (by decide) (by decide)
theorem srcPPs : Ao1 PP tPPs := .inl ⟨tPs, by kernel_rfl⟩
theorem cmp_rd (L : A4) (x y : HE) (hx : 0 <= x.ep /\ x.ep <= 4294967296) (hy : 0 <= y.ep /\ y.ep <= 4294967296) :
  Reads PP 226 #[.agg #[.i x.b, .i x.ep, .slice x.v.a x.v.len x.v.cap], .agg #[.i y.b, .i y.ep, .slice y.v.a y.v.len y.v.cap]] L (.i (x.ep - y.ep)) := by
 unfold Reads
 refine c226 (x.b, x.ep, x.v, ()) (y.b, y.ep, y.v, ()) ?_
 unfold s226
 exact D9 (by simp only; omega) (.of ⟨rfl, rfl⟩)
theorem Ck3 (v : SlV) (hs : List HE) (seg R : A4) (own : Own v 3 eHl (hs.flatMap HE.enc) seg) (hep : ∀ h ∈ hs, 0 <= h.ep /\ h.ep <= 4294967296) (hlen : hs.length <= 1000) :
  CallF PP 321 #[.slice v.a v.len v.cap, .i 0, .i hs.length, .func (.func 226) #[] #[]] (seg ++ R) fun r L' => ∃ seg', r = .tuple #[] /\ L' = seg' ++ R /\ Own v 3 eHl ((An7 HE.ep hs).flatMap HE.enc) seg' := by
 refine c321 v 0 hs.length ⟨.func 226, #[], #[]⟩ ?_
 unfold s321
 refine D9 (by omega) ?_
 refine G0 (fun z' z L' => ∃ (i : Nat) (acc : List HE) (sg : A4), z = ((i : Int), ()) /\ z' = 2000 - i /\ 1 <= i /\ i <= max 1 hs.length /\ acc = (hs.take i).foldl (Aw5 HE.ep) [] /\ L'.Perm (sg ++ R) /\ Own v 3 eHl ((acc.reverse ++ hs.drop i).flatMap HE.enc) sg) 1999
  ⟨1, _, seg, rfl, rfl, by omega, by omega, rfl, List.Perm.refl _, ?_⟩ ?_
 ·cases hs with
  | nil => exact own
  | cons h t => exact own
 rintro z' z L1 ⟨i, acc, sg, rfl, rfl, hi1, hi2, hacc, hp, own1⟩
 dsimp only
 have hap : acc.Perm (hs.take i) := by rw [hacc]; have := V4 HE.ep (hs.take i) []; rwa [List.append_nil] at this
 have hal : acc.length = min i hs.length := by rw [hap.length_eq, List.length_take]
 refine C0 (fun (hlt : (i : Int) < hs.length) => ?_) (fun (hge : ¬ (i : Int) < hs.length) => ?_)
 ·have hi : i < hs.length := by omega
  have hdr : hs.drop i = hs[i] :: hs.drop (i + 1) := List.drop_eq_getElem_cons hi
  generalize hx : hs[i] = x at hdr
  have hxe : 0 <= x.ep /\ x.ep <= 4294967296 := hep x (by rw [<- hx]; exact List.getElem_mem hi)
  have hst : ∀ acc', acc' = Aw5 HE.ep acc x -> acc' = (hs.take (i + 1)).foldl (Aw5 HE.ep) [] := fun acc' h => by
   rw [h, List.take_succ_eq_append_getElem hi, List.foldl_append, <- hacc, hx]; rfl
  rw [hdr] at own1
  have hdone : ∀ (r p : List HE) (sg' L' : A4), L'.Perm (sg' ++ R) -> Own v 3 eHl ((r.reverse ++ x :: (p ++ hs.drop (i + 1))).flatMap HE.enc) sg' -> Aw5 HE.ep acc x = p.reverse ++ x :: r ->
    ∃ k', k' < 2000 - i /\ ∃ (i' : Nat) (acc : List HE) (sg : A4), ((((i : Int) + 1 : Int), ()) : RsV [lI]) = ((i' : Int), ()) /\ k' = 2000 - i' /\ 1 <= i' /\ i' <= max 1 hs.length /\ acc = (hs.take i').foldl (Aw5 HE.ep) [] /\ L'.Perm (sg ++ R) /\ Own v 3 eHl ((acc.reverse ++ hs.drop i').flatMap HE.enc) sg := by
   intro r p sg' L' hp' own' he
   refine ⟨2000 - (i + 1), by omega, i + 1, Aw5 HE.ep acc x, sg', rfl, rfl, by omega, by omega, hst _ rfl, hp', ?_⟩
   rw [he, List.reverse_append, List.reverse_cons, List.reverse_reverse]
   simpa [List.append_assoc] using own'
  refine G0 (fun z' z L' => ∃ (r p : List HE) (sg : A4), z = ((r.length : Int), ()) /\ z' = r.length /\ acc = p.reverse ++ r /\ Aw5 HE.ep acc x = p.reverse ++ Aw5 HE.ep r x /\ L'.Perm (sg ++ R) /\ Own v 3 eHl ((r.reverse ++ x :: (p ++ hs.drop (i + 1))).flatMap HE.enc) sg) acc.length
   ⟨acc, [], sg, by rw [hal, Nat.min_eq_left (by omega)], rfl, rfl, rfl, hp, own1⟩ ?_
  rintro z' z L2 ⟨r, p, sg2, rfl, rfl, hrp, hins, hp2, own2⟩
  dsimp only
  have hrl : r.length <= 1000 := by have := congrArg List.length hrp; rw [List.length_append] at this; omega
  refine Y6 (fun _ L' => L' = L2 /\ ∃ y r', r = y :: r' /\ x.ep < y.ep) ?_ ?_
  ·rintro _ _ ⟨rfl, y, r', rfl, hlt2⟩
   have hln : ((y :: r').length : Int) - 1 = (r'.length : Int) := by simp
   have hfl : (y :: r').reverse ++ x :: (p ++ hs.drop (i + 1)) = r'.reverse ++ y :: (x :: (p ++ hs.drop (i + 1))) := by simp
   rw [hfl] at own2
   have hn1 : r'.length < (r'.reverse ++ y :: (x :: (p ++ hs.drop (i + 1)))).length := by simp
   have hn2 : r'.length + 1 < (r'.reverse ++ y :: (x :: (p ++ hs.drop (i + 1)))).length := by simp
   have g1 : (r'.reverse ++ y :: (x :: (p ++ hs.drop (i + 1))))[r'.length]'hn1 = y := by rw [List.getElem_append_right (by simp)]; simp
   have g2 : (r'.reverse ++ y :: (x :: (p ++ hs.drop (i + 1))))[r'.length + 1]'hn2 = x := by rw [List.getElem_append_right (by simp)]; simp
   refine D9 (by simp only [hln]; omega) (D9 (by simp only [hln]; omega) ?_)
   rw [hln]
   refine Au7 HE.enc_len (by decide) own2 (Bt6 hp2) rfl hn1 fun b0 hb0 ha3 => ?_
   refine Au7 HE.enc_len (by decide) own2 (Bt6 hp2) (n := r'.length + 1) (by simp) hn2 fun b1 hb1 ha4 => ?_
   rw [g1] at ha3
   rw [g2] at ha4
   refine A6 (y.b, y.ep, y.v, ()) ha3 (A6 (x.b, x.ep, x.v, ()) ha4 ?_)
   refine By7 HE.enc_len (by decide) own2 hb1 hn2 y hp2 fun sg3 L3 hp3 own3 => ?_
   have e3 : (r'.reverse ++ y :: (x :: (p ++ hs.drop (i + 1)))).set (r'.length + 1) y = r'.reverse ++ y :: (y :: (p ++ hs.drop (i + 1))) := by
    rw [List.set_append_right _ _ (by simp)]; simp
   rw [e3] at own3
   refine Au7 HE.enc_len (by decide) own3 (Bt6 hp3) (n := r'.length) rfl (by simp) fun b2 hb2 ha5 => ?_
   refine By7 HE.enc_len (by decide) own3 hb2 (by simp) x hp3 fun sg4 L4 hp4 own4 => ?_
   have e4 : (r'.reverse ++ y :: (y :: (p ++ hs.drop (i + 1)))).set r'.length x = r'.reverse ++ x :: ((y :: p) ++ hs.drop (i + 1)) := by
    rw [List.set_append_right _ _ (by simp)]; simp
   rw [e4] at own4
   refine D9 (by omega) ⟨r'.length, by simp, r', y :: p, sg4, rfl, rfl, ?_, ?_, hp4, own4⟩
   ·rw [hrp]; simp
   ·rw [hins, Aw5, if_pos hlt2]; simp
  ·intro j hj
   refine C0 (fun (h0 : (r.length : Int) > 0) => ?_) (fun (h0 : ¬ (r.length : Int) > 0) => ?_)
   ·obtain ⟨y, r', rfl⟩ : ∃ y r', r = y :: r' := by
     cases r with
     | nil => simp at h0
     | cons y r' => exact ⟨y, r', rfl⟩
    have hln : ((y :: r').length : Int) - 1 = (r'.length : Int) := by simp
    have hfl : (y :: r').reverse ++ x :: (p ++ hs.drop (i + 1)) = r'.reverse ++ y :: (x :: (p ++ hs.drop (i + 1))) := by simp
    have own2' := own2
    rw [hfl] at own2'
    have hn1 : r'.length < (r'.reverse ++ y :: (x :: (p ++ hs.drop (i + 1)))).length := by simp
    have hn2 : r'.length + 1 < (r'.reverse ++ y :: (x :: (p ++ hs.drop (i + 1)))).length := by simp
    have g1 : (r'.reverse ++ y :: (x :: (p ++ hs.drop (i + 1))))[r'.length]'hn1 = y := by rw [List.getElem_append_right (by simp)]; simp
    have g2 : (r'.reverse ++ y :: (x :: (p ++ hs.drop (i + 1))))[r'.length + 1]'hn2 = x := by rw [List.getElem_append_right (by simp)]; simp
    have hye : 0 <= y.ep /\ y.ep <= 4294967296 := hep y (List.mem_of_mem_take (hap.subset (by rw [hrp]; simp)))
    refine Au7 HE.enc_len (by decide) own2' (Bt6 hp2) (n := r'.length + 1) (by simp) hn2 fun b1 hb1 ha1 => ?_
    refine D9 (by simp only [hln]; omega) ?_
    rw [hln]
    refine Au7 HE.enc_len (by decide) own2' (Bt6 hp2) rfl hn1 fun b2 hb2 ha2 => ?_
    rw [g2] at ha1
    rw [g1] at ha2
    refine A6 (x.b, x.ep, x.v, ()) ha1 (A6 (y.b, y.ep, y.v, ()) ha2 ?_)
    refine V7 (by kernel_rfl) (B3 (cmp_rd L2 x y hxe hye) (x.ep - y.ep, ()) rfl (C0 (fun (hc : x.ep - y.ep < 0) => hj _ _ ⟨rfl, y, r', rfl, by omega⟩) (fun (hc : ¬ x.ep - y.ep < 0) => D9 (by omega) ?_)))
    refine hdone (y :: r') p sg2 L2 hp2 own2 ?_
    rw [hins, Aw5, if_neg (by omega)]
   ·obtain rfl : r = [] := by
     cases r with
     | nil => rfl
     | cons y r' => simp at h0
    exact D9 (by omega) (hdone [] p sg2 L2 hp2 own2 hins)
 ·have e : acc.reverse ++ hs.drop i = An7 HE.ep hs := by
   rw [List.drop_eq_nil_of_le (by omega), List.append_nil, hacc, List.take_of_length_le (by omega)]; rfl
  rw [e] at own1
  exact .drop (A := sg ++ R) (J := []) ⟨sg, rfl, rfl, own1⟩ (by simpa using hp)
theorem Ce5 (v : SlV) (hs : List HE) (seg R : A4) (own : Own v 3 eHl (hs.flatMap HE.enc) seg) (hep : ∀ h ∈ hs, 0 <= h.ep /\ h.ep <= 4294967296) (hlen : hs.length <= 19) :
  CallF PP 225 #[.slice v.a v.len v.cap, .func (.func 226) #[] #[]] (seg ++ R) fun r L' => ∃ seg', r = .tuple #[] /\ L' = seg' ++ R /\ Own v 3 eHl ((An7 HE.ep hs).flatMap HE.enc) seg' := by
 refine c225 v ⟨.func 226, #[], #[]⟩ ?_
 unfold s225
 have hvl := own.sl.els_len HE.enc_len (by decide)
 have key : CallF PP 288 #[.slice v.a v.len v.cap, .i v.len, .func (.func 226) #[] #[]] (seg ++ R) fun r L' => ∃ seg', r = .tuple #[] /\ L' = seg' ++ R /\ Own v 3 eHl ((An7 HE.ep hs).flatMap HE.enc) seg' := by
  refine c288 v v.len ⟨.func 226, #[], #[]⟩ ?_
  unfold s288
  refine G0 (fun z' z L' => z' = 0 /\ z = (0, 20, ()) /\ L' = seg ++ R) 0 ⟨rfl, rfl, rfl⟩ ?_
  rintro z' z _ ⟨rfl, rfl, rfl⟩
  dsimp only
  refine ifN (show ¬ ((20 : Int) <= v.len) by omega) ?_
  have hcall := Ck3 v hs seg R own hep (by omega)
  rw [<- hvl] at hcall
  refine Q2 hcall ?_
  rintro _ _ - ⟨seg', rfl, rfl, own'⟩
  refine ⟨(), rfl, G0 (fun z' z L' => z' = 0 /\ z = (20, ()) /\ L' = seg' ++ R) 0 ⟨rfl, rfl, rfl⟩ ?_⟩
  rintro z' z _ ⟨rfl, rfl, rfl⟩
  dsimp only
  exact ifN (show ¬ ((20 : Int) < v.len) by omega) (.of ⟨seg', rfl, rfl, own'⟩)
 refine Q2 key ?_
 rintro _ _ - ⟨seg', rfl, rfl, own'⟩
 exact ⟨(), rfl, .of ⟨seg', rfl, rfl, own'⟩⟩
structure BP where
 v : SlV
 gs : List PG
 seg : A4
def BP.val (b : BP) : Value := .slice b.v.a b.v.len b.v.cap
def BP.all (b : BP) : A4 := b.seg ++ pgs b.gs
def BP.ls (b : BP) : List (List UInt8) := b.gs.map PG.l
structure BP.Ok (b : BP) : Prop where
 own : Own b.v 1 tB (b.gs.map PG.val) b.seg
 ok : ∀ g ∈ b.gs, g.Ok
 few : b.gs.length <= 16
 small : ∀ g ∈ b.gs, g.l.length <= 512
def Aa4 (l : List BP) : A4 := l.flatMap BP.all
theorem Be3 (a b : List BP) : Aa4 (a ++ b) = Aa4 a ++ Aa4 b := List.flatMap_append
theorem Be2 (a : BP) : Aa4 [a] = a.all := by simp [Aa4]
theorem BP.Ok.parts {L Y : A4} {b : BP} (h : b.Ok) (hp : L.Perm (b.all ++ Y)) : U3 L b.v (pvs b.gs) :=
 Cy7 h.own h.ok (Y := Y) (hp.trans (pc fun z => by simp only [BP.all, B7]; omega))
theorem BP.Ok.bnd {b : BP} (h : b.Ok) : (pvs b.gs).length <= 1000000 /\ ∀ x ∈ pvs b.gs, x.2.length <= 1000000 := by
 refine ⟨by have := h.few; simp [pvs]; omega, fun x hx => ?_⟩
 simp only [pvs, List.mem_map] at hx
 obtain ⟨g, hg, rfl⟩ := hx
 have := h.small g hg
 simp only; omega
def Bx0 (d : Dev) (b : Nat) : Option HD := if (S0 (N4 d b).1).2 then some ((b : Int), (S0 (N4 d b).1).1.1, (S0 (N4 d b).1).1.2.2) else none
def A90 (d : Dev) (n : Nat) : List HD := (List.range n).filterMap (Bx0 d)
def epK (h : HD) : Int := h.2.1
def K8 (d : Dev) : List HD := An7 epK (A90 d d.c.B)
theorem A87 {d : Dev} {b : Nat} {x : HD} (h : Bx0 d b = some x) : x.1 = b /\ (0 <= x.2.1 /\ x.2.1 <= 1073741824) /\ (∀ y ∈ x.2.2, An6 y) /\ x.2.2.Pairwise (fun a b => a.2.1 < b.2.1) := by
 unfold Bx0 at h
 split at h
 ·obtain rfl := Option.some.inj h
  have h1 := B03 (N4 d b).1
  exact ⟨rfl, Cg2 _, h1.1, h1.2⟩
 ·cases h
theorem A13 {d : Dev} {n : Nat} {x : HD} (h : x ∈ A90 d n) : ∃ b : Nat, b < n /\ Bx0 d b = some x := by
 unfold A90 at h
 rw [List.mem_filterMap] at h
 obtain ⟨b, hb, hx⟩ := h
 exact ⟨b, List.mem_range.1 hb, hx⟩
theorem Ar4 (d : Dev) (n : Nat) : A90 d (n + 1) = A90 d n ++ (Bx0 d n).toList := by
 unfold A90
 rw [List.range_succ, List.filterMap_append]
 congr 1
theorem Ao7 (d : Dev) (n : Nat) : (A90 d n).length <= n := by
 have := List.length_filterMap_le (Bx0 d) (List.range n)
 rw [List.length_range] at this; exact this
structure P3 (d : Dev) (lv : SlV) (hs : List HE) (hseg : A4) (pv : SlV) (bs : List BP) (pseg : A4) : Prop where
 own : Own lv 3 eHl (hs.flatMap HE.enc) hseg
 ok : ∀ h ∈ hs, h.Ok
 dat : hs.map HE.dat = K8 d
 pown : Own pv 1 tPs (bs.map BP.val) pseg
 pok : ∀ b ∈ bs, b.Ok
 pdat : bs.map BP.ls = (List.range d.c.B).map fun (b : Nat) => (N4 d b).1
def HoldK (d : Dev) (A : A4) (r : Value) (L' : A4) : Prop := ∃ (lv : SlV) (hs : List HE) (hseg : A4) (pv : SlV) (bs : List BP) (pseg : A4), r = .tuple #[.slice lv.a lv.len lv.cap, .slice pv.a pv.len pv.cap, .i 0] /\
 L' = hseg ++ (R6 hs ++ (pseg ++ (Aa4 bs ++ A))) /\ P3 d lv hs hseg pv bs pseg
theorem Cj7 {d : Dev} (ok : S3 d) (hdn : d.down = false) {b : Nat} (hb : b < d.c.B) : (N4 d b).2 = 0 := by
 have hP := ok.c.p
 have hl := ok.len
 have : H6 d b 0 = 0 := by
  unfold H6
  rw [if_neg (by simp [hdn]), if_neg (by omega), if_neg (by omega)]
 unfold N4
 rw [if_neg (by simp [this])]
theorem C15 (m : Nat) (d : Dev) (A : A4) (h : FH m d A) (ok : S3 d) (hdn : d.down = false) : CallF PP 165 #[.pointer (some ⟨m, 0, none⟩)] A (HoldK d A) := by
 refine c165 (some ⟨m, 0, none⟩) ?_
 unfold s165
 have hB := ok.c.b
 refine B3 (Aj2 m d A h) ((d.c.B, d.c.P, d.c.S, d.c.W, ()), ()) rfl ?_
 refine G0 (fun z' z L' => ∃ (i : Nat) (lv : SlV) (hs : List HE) (hseg : A4) (pv : SlV) (bs : List BP) (pseg J : A4), i <= d.c.B /\ z' = d.c.B - i /\ z = (lv, pv, (i : Int), ()) /\ L'.Perm (hseg ++ (R6 hs ++ (pseg ++ (Aa4 bs ++ (J ++ A))))) /\
   Own lv 3 eHl (hs.flatMap HE.enc) hseg /\ (∀ h ∈ hs, h.Ok) /\ hs.map HE.dat = A90 d i /\ Own pv 1 tPs (bs.map BP.val) pseg /\ (∀ b ∈ bs, b.Ok) /\ bs.map BP.ls = (List.range i).map fun (b : Nat) => (N4 d b).1) d.c.B
  ⟨0, ⟨none, 0, 0⟩, [], [], ⟨none, 0, 0⟩, [], [], [], by omega, by omega, rfl, List.Perm.refl _, F7, by simp, rfl, F7, by simp, rfl⟩ ?_
 rintro z' z L1 ⟨i, lv, hs, hseg, pv, bs, pseg, J, hi, rfl, rfl, hp, own, hok, hdat, pown, pok, pdat⟩
 dsimp only
 have hbl : bs.length = i := by have := congrArg List.length pdat; rw [List.length_map, List.length_map, List.length_range] at this; exact this
 have hhl : hs.length <= i := by have := congrArg List.length hdat; rw [List.length_map] at this; have h2 := Ao7 d i; omega
 have hlv := own.sl.els_len HE.enc_len (by decide)
 have hpv := pown.sl.len
 rw [List.length_map] at hpv
 refine C0 (fun (hlt : (i : Int) < d.c.B) => ?_) (fun (hge : ¬ (i : Int) < d.c.B) => ?_)
 ·have hi' : i < d.c.B := by omega
  refine G9 (C01 m d A h ok i) (R := hseg ++ (R6 hs ++ (pseg ++ (Aa4 bs ++ J)))) (pc fun z => by have := pcn hp z; simp only [B7] at *; omega) ?_
  rintro _ _ ⟨v, gs, seg, rfl, rfl, gown, gok, gl⟩
  have hbn := Cj6 ok gl
  have hbo : BP.Ok ⟨v, gs, seg⟩ := ⟨gown, gok, by simpa [pvs] using hbn.1, fun g hg => hbn.2 (g.v, g.l) (List.mem_map_of_mem (f := fun g : PG => (g.v, g.l)) hg)⟩
  rw [Cj7 ok hdn hi']
  refine ⟨_, List.Perm.refl _, (v, 0, ()), rfl, ifT rfl ?_⟩
  refine Af6 C29 srcPPs pown (Y := seg ++ (pgs gs ++ A) ++ (hseg ++ (R6 hs ++ (Aa4 bs ++ J)))) (ws := [BP.val (⟨v, gs, seg⟩ : BP)]) (pc fun z => by simp only [B7]; omega) rfl rfl (by omega) fun pv2 pseg2 hpl2 pown2 => ?_
  refine Q2 (Cw9 _ v (pvs gs) (hbo.parts (b := ⟨v, gs, seg⟩) (Y := pseg2 ++ (A ++ (hseg ++ (R6 hs ++ (Aa4 bs ++ J))))) (pc fun z => by simp only [BP.all, B7]; omega)) hbo.bnd.1 hbo.bnd.2) ?_
  rintro _ _ - ⟨w, wseg, rfl, rfl, wown⟩
  have hls : (pvs gs).map Prod.snd = (N4 d i).1 := by rw [Ar8, gl]
  rw [hls] at wown ⊢
  have hpd : (bs ++ [(⟨v, gs, seg⟩ : BP)]).map BP.ls = (List.range (i + 1)).map fun (b : Nat) => (N4 d b).1 := by rw [List.map_append, pdat, List.range_succ, List.map_append, List.map_singleton, List.map_singleton]; exact congrArg (fun t => _ ++ [t]) gl
  have hpok : ∀ b ∈ bs ++ [(⟨v, gs, seg⟩ : BP)], BP.Ok b := fun b hb => by
   rcases List.mem_append.1 hb with hb | hb
   ·exact pok b hb
   ·rw [List.mem_singleton.1 hb]; exact hbo
  have hpo : Own pv2 1 tPs ((bs ++ [(⟨v, gs, seg⟩ : BP)]).map BP.val) pseg2 := by rw [List.map_append]; exact pown2
  refine ⟨(((S0 (N4 d i).1).1.1, (S0 (N4 d i).1).1.2.1, w, ()), (S0 (N4 d i).1).2, ()), rfl, G2 (fun (hs2 : (S0 (N4 d i).1).2 = true) => ?_) (fun (hs2 : (S0 (N4 d i).1).2 = false) => ?_)⟩
  ·have hreg : Bx0 d i = some ((i : Int), (S0 (N4 d i).1).1.1, (S0 (N4 d i).1).1.2.2) := by unfold Bx0; rw [if_pos hs2]
   refine Af6 elemHl srcHl own (Y := wseg ++ (pseg2 ++ (seg ++ (pgs gs ++ A) ++ ((R6 hs ++ (Aa4 bs ++ J)))))) (ws := HE.enc ⟨i, (S0 (N4 d i).1).1.1, w, wseg, (S0 (N4 d i).1).1.2.2⟩) (pc fun z => by simp only [B7]; omega) rfl rfl (by omega) fun lv2 hseg2 hl2 own2 => ?_
   refine D9 (by omega) ⟨d.c.B - (i + 1), by omega, i + 1, lv2, hs ++ [⟨i, (S0 (N4 d i).1).1.1, w, wseg, (S0 (N4 d i).1).1.2.2⟩], hseg2, pv2, bs ++ [(⟨v, gs, seg⟩ : BP)], pseg2, J, by omega, rfl, rfl, ?_, ?_, ?_, ?_, hpo, hpok, hpd⟩
   ·rw [B71, B70, Be3, Be2]
    exact pc fun z => by simp only [BP.all, B7]; omega
   ·rw [List.flatMap_append, List.flatMap_singleton]; exact own2
   ·intro x hx
    rcases List.mem_append.1 hx with hx | hx
    ·exact hok x hx
    ·rw [List.mem_singleton.1 hx]; exact wown
   ·rw [Ar4, hreg, List.map_append, hdat]; rfl
  ·have hreg : Bx0 d i = none := by unfold Bx0; rw [if_neg (by simp [hs2])]
   refine D9 (by omega) ⟨d.c.B - (i + 1), by omega, i + 1, lv, hs, hseg, pv2, bs ++ [(⟨v, gs, seg⟩ : BP)], pseg2, J ++ wseg, by omega, rfl, rfl, ?_, own, hok, ?_, hpo, hpok, hpd⟩
   ·rw [Be3, Be2]
    exact pc fun z => by simp only [BP.all, B7]; omega
   ·rw [Ar4, hreg, hdat]; simp
 ·obtain rfl : i = d.c.B := by omega
  have hep : ∀ x ∈ hs, 0 <= x.ep /\ x.ep <= 4294967296 := by
   intro x hx
   have hm : x.dat ∈ A90 d d.c.B := by rw [<- hdat]; exact List.mem_map_of_mem hx
   obtain ⟨b, -, hb⟩ := A13 hm
   have h1 := (A87 hb).2.1
   have h2 : x.dat.2.1 = x.ep := rfl
   omega
  refine Q2 (CallF.perm hp.symm (Ce5 lv hs hseg (R6 hs ++ (pseg ++ (Aa4 bs ++ (J ++ A)))) own hep (by omega))) ?_
  rintro _ _ - ⟨hseg2, rfl, rfl, own2⟩
  refine ⟨(), rfl, .drop (A := hseg2 ++ (R6 (An7 HE.ep hs) ++ (pseg ++ (Aa4 bs ++ A)))) (J := J) ⟨lv, An7 HE.ep hs, hseg2, pv, bs, pseg, rfl, rfl, own2, fun x hx => hok x ((Q7 HE.ep hs).subset hx), ?_, pown, pok, pdat⟩ ?_⟩
  ·rw [B62 HE.ep HE.dat epK (fun _ => rfl), hdat]; rfl
  ·exact pc fun z => by have := Au5 HE.seg (Q7 HE.ep hs) z; simp only [R6, B7]; omega
def A59 (kind : Int) (h : HE) (l : List It) : List (HE × It) := (l.filter fun x => decide (x.1 = kind)).map fun x => (h, x)
def A60 (kind : Int) (hs : List HE) : List (HE × It) := hs.flatMap fun h => A59 kind h h.l
theorem Ao4 (kind : Int) (h : HE) (a b : List It) : A59 kind h (a ++ b) = A59 kind h a ++ A59 kind h b := by simp [A59]
theorem Bm3 {kind : Int} {h : HE} {x : It} (e : x.1 = kind) : A59 kind h [x] = [(h, x)] := by simp [A59, e]
theorem Cw2 {kind : Int} {h : HE} {x : It} (e : ¬ x.1 = kind) : A59 kind h [x] = [] := by simp [A59, e]
theorem A09 (kind : Int) (a b : List HE) : A60 kind (a ++ b) = A60 kind a ++ A60 kind b := List.flatMap_append
theorem Bm4 (kind : Int) (h : HE) : A60 kind [h] = A59 kind h h.l := by simp [A60]
theorem Bm5 {kind : Int} {hs : List HE} {q : HE × It} (h : q ∈ A60 kind hs) : q.1 ∈ hs /\ q.2 ∈ q.1.l /\ q.2.1 = kind := by
 unfold A60 A59 at h
 simp only [List.mem_flatMap, List.mem_map, List.mem_filter, decide_eq_true_eq] at h
 obtain ⟨a, ha, x, ⟨hx, he⟩, rfl⟩ := h
 exact ⟨ha, hx, he⟩
theorem Bl8 {α : Type} (l : List α) {i : Nat} (hi : i < l.length) : l = l.take i ++ l[i] :: l.drop (i + 1) := by
 rw [<- List.drop_eq_getElem_cons hi, List.take_append_drop]
theorem U6 {α : Type} (l : List α) {i : Nat} (hi : i < l.length) : l.take (i + 1) = l.take i ++ [l[i]] := by rw [List.take_succ_eq_append_getElem hi]
theorem B93 (v : SlV) (hs : List HE) (kind : Int) (fn : FnV) (I : List (HE × It) -> A4 -> Prop) (hlen : hs.length <= 1000000) (hb : ∀ h ∈ hs, h.l.length <= 1000000)
  (hI : ∀ done L, I done L -> Sl L v 3 (hs.flatMap HE.enc) /\ ∀ h ∈ hs, Sl L h.v 3 (h.l.flatMap N7))
  (step : ∀ (done rest : List (HE × It)) (h : HE) (x : It) (L : A4) (k : RsV [] -> HP), A60 kind hs = done ++ (h, x) :: rest -> I done L -> (∀ L', I (done ++ [(h, x)]) L' -> k () L') ->
   clv PP fn.fn (fn.first ++ #[.agg #[.i h.b, .i h.ep, .slice h.v.a h.v.len h.v.cap], .agg #[.i x.1, .i x.2.1, .i x.2.2.1]]) fn.captured [] k L)
  {L : A4} (h0 : I [] L) : CallF PP 166 #[.slice v.a v.len v.cap, .i kind, .func fn.fn fn.first fn.captured] L fun r L' => r = .tuple #[] /\ I (A60 kind hs) L' := by
 refine c166 v kind fn ?_
 unfold s166
 have hvl := (hI _ _ h0).1.els_len HE.enc_len (by decide)
 refine G0 (fun z' z L' => ∃ i : Nat, i <= hs.length /\ z' = hs.length - i /\ z = ((i : Int), ()) /\ I (A60 kind (hs.take i)) L') hs.length ⟨0, by omega, by omega, rfl, h0⟩ ?_
 rintro z' z L1 ⟨i, hi, rfl, rfl, hI1⟩
 dsimp only
 refine C0 (fun (hlt : (i : Int) < v.len) => ?_) (fun (hge : ¬ (i : Int) < v.len) => ?_)
 ·have hi' : i < hs.length := by omega
  refine V5 HE.enc_len (by decide) (hI _ _ hI1).1 rfl hi' fun a ha => ?_
  have hmem : hs[i] ∈ hs := List.getElem_mem hi'
  have hsp := Bl8 hs hi'
  have htk := U6 hs hi'
  generalize hs[i] = h at ha hmem hsp htk
  refine A6 (h.b, h.ep, h.v, ()) ha ?_
  dsimp only
  have hhl := ((hI _ _ hI1).2 h hmem).els_len E1 (by decide)
  have hhb := hb h hmem
  refine G0 (fun z' z L' => ∃ j : Nat, j <= h.l.length /\ z' = h.l.length - j /\ z = ((j : Int), ()) /\ I (A60 kind (hs.take i) ++ A59 kind h (h.l.take j)) L') h.l.length ⟨0, by omega, by omega, rfl, by simpa [A59] using hI1⟩ ?_
  rintro z' z L2 ⟨j, hj, rfl, rfl, hI2⟩
  dsimp only
  refine C0 (fun (hlt2 : (j : Int) < h.v.len) => ?_) (fun (hge2 : ¬ (j : Int) < h.v.len) => ?_)
  ·have hj' : j < h.l.length := by omega
   refine V5 E1 (by decide) ((hI _ _ hI2).2 h hmem) rfl hj' fun a2 ha2 => ?_
   have hsp2 := Bl8 h.l hj'
   have htk2 := U6 h.l hj'
   generalize h.l[j] = x at ha2 hsp2 htk2
   refine A6 x ha2 (C0 (fun (hk : x.1 = kind) => ?_) (fun (hk : ¬ x.1 = kind) => ?_))
   ·refine step (A60 kind (hs.take i) ++ A59 kind h (h.l.take j)) (A59 kind h (h.l.drop (j + 1)) ++ A60 kind (hs.drop (i + 1))) h x L2 _ ?_ hI2 fun L' hI3 => ?_
    ·conv => lhs; rw [hsp]
     rw [A09, show h :: hs.drop (i + 1) = [h] ++ hs.drop (i + 1) from rfl, A09, Bm4]
     conv => lhs; rw [hsp2]
     rw [Ao4, show x :: h.l.drop (j + 1) = [x] ++ h.l.drop (j + 1) from rfl, Ao4, Bm3 hk]
     simp [List.append_assoc]
    ·refine D9 (by omega) ⟨h.l.length - (j + 1), by omega, j + 1, by omega, rfl, rfl, ?_⟩
     rw [htk2, Ao4, Bm3 hk, <- List.append_assoc]; exact hI3
   ·refine D9 (by omega) ⟨h.l.length - (j + 1), by omega, j + 1, by omega, rfl, rfl, ?_⟩
    rw [htk2, Ao4, Cw2 hk, List.append_nil]; exact hI2
  ·obtain rfl : j = h.l.length := by omega
   refine D9 (by omega) ⟨hs.length - (i + 1), by omega, i + 1, by omega, rfl, rfl, ?_⟩
   rw [htk, A09, Bm4]
   rw [List.take_length] at hI2
   exact hI2
 ·obtain rfl : i = hs.length := by omega
  rw [List.take_length] at hI1
  exact .of ⟨rfl, hI1⟩
abbrev LE := ByteArray × It
def LE.enc (x : LE) : List Value := [.string x.1, .i x.2.1, .i x.2.2.1, .i x.2.2.2.1]
theorem LE.enc_len (x : LE) : (LE.enc x).length = 4 := rfl
def An5 (l : List UInt8) : ByteArray := ⟨l.toArray⟩
def Ci0 (h : HD) (x : It) : It := (h.1, x.2.1, h.2.1, ())
def W6 (d : Dev) (q : HD × It) : Option LE := if (C7 d (Ci0 q.1 q.2)).2.2 = 0 then some (An5 (C7 d (Ci0 q.1 q.2)).1, Ci0 q.1 q.2) else none
def Ac5 (d : Dev) (q : HD × It) : List It := (Af1 (N4 d q.1.1).1 q.2).flatMap fun b => (Y5 b).1
def Ct0 (q : HE × It) : HD × It := (q.1.dat, q.2)
abbrev eLv : TypeId := 162
theorem Cs8 : S2 PP 144 eLv 4 40 [.string ⟨#[]⟩, .i 0, .i 0, .i 0] := M0 (by kernel_rfl) (by kernel_rfl) rfl (by decide) (by decide)
theorem srcLv : Ao1 PP 144 := .inl ⟨eLv, by kernel_rfl⟩
def plV (p : It) : Value := .agg #[.i p.1, .i p.2.1, .i p.2.2.1]
theorem mapL : Cc2 PP 246 9 102 Value.string (plV (0, 0, 0, ())) := A30 (by kernel_rfl) (Cr7 (by kernel_rfl)) (by kernel_rfl)
theorem B90 (x y : It) : Bj9 PP 100 Av5 (N7 x) (N7 y) = some (decide (x = y)) := by
 have h : Bj9 PP 100 Av5 [.i x.1, .i x.2.1, .i x.2.2.1] [.i y.1, .i y.2.1, .i y.2.2.1] = some (x.1 == y.1 && (x.2.1 == y.2.1 && (x.2.2.1 == y.2.2.1 && true))) := by kernel_rfl
 unfold N7
 rw [h]
 clear h
 refine congrArg some ?_
 obtain ⟨a, b, c, ⟨⟩⟩ := x
 obtain ⟨a', b', c', ⟨⟩⟩ := y
 rw [Bool.eq_iff_iff]; simp
theorem Cx0 (a : It) : Instr.sameBits 10000 (plV a) (plV a) = true := by
 have h : ∀ n, Instr.sameBits (n + 1) (plV a) (plV a) = true := by intro n; simp [plV, Instr.sameBits]
 have h2 := h 9999
 rw [show 9999 + 1 = 10000 from rfl] at h2
 exact h2
theorem mapK : Cc2 PP 249 102 4 plV (.bool false) := A30 (by kernel_rfl) (B54 N7 (fun _ => rfl) Cp3 B90 Cx0) (by kernel_rfl)
def Bj1 (l : List LE) : List (ByteArray × Value) := l.foldl (fun m x => Aw3 m x.1 (plV x.2)) []
def Bu7 (l : List It) : List (It × Value) := l.foldl (fun m p => Aw3 m p (.bool true)) []
theorem Ay9 (l : List LE) (x : LE) : Bj1 (l ++ [x]) = Aw3 (Bj1 l) x.1 (plV x.2) := by simp [Bj1]
theorem Az0 (l : List It) (x : It) : Bu7 (l ++ [x]) = Aw3 (Bu7 l) x (.bool true) := by simp [Bu7]
def I1 (n6 n7 : Nat) (F : A4) (all : List LE) (L : A4) : Prop := ∃ (av : SlV) (aseg : A4) (es : Array MapEntry) (ck : Nat) (J : A4), L.Perm ((n6, Obj.cells #[.slice av.a av.len av.cap] 144) :: ((n7, Obj.map es ck) :: (aseg ++ (J ++ F)))) /\
 Own av 4 eLv (all.flatMap LE.enc) aseg /\ Mp Value.string es (Bj1 all)
theorem I1.sub {n6 n7 : Nat} {F : A4} {all : List LE} {L : A4} (h : I1 n6 n7 F all L) : ∀ x ∈ F, x ∈ L := by
 obtain ⟨av, aseg, es, ck, J, hL, -⟩ := h
 exact fun x hx => hL.symm.subset (by simp [hx])
theorem Cg6 (m : Nat) (d : Dev) (A : A4) (h : FH m d A) (ok : S3 d) (n1 n6 n7 n8 : Nat) (T1 : TypeId) (R F : A4) (hF : F.Perm (A ++ R)) (h1 : (n1, Obj.cells #[.pointer (some ⟨m, 0, none⟩)] T1) ∈ F) (h8 : (n8, Obj.cells #[.map (some n7)] 246) ∈ F)
  (all : List LE) (hal : all.length <= 1000000) (he : HE) (x : It) (hx : An6 x) (L : A4) (hL : I1 n6 n7 F all L) :
  CallF PP 167 #[.agg #[.i he.b, .i he.ep, .slice he.v.a he.v.len he.v.cap], .agg #[.i x.1, .i x.2.1, .i x.2.2.1], .pointer (some ⟨n1, 0, none⟩), .pointer (some ⟨n6, 0, none⟩), .pointer (some ⟨n8, 0, none⟩)] L
   fun r L' => r = .tuple #[] /\ I1 n6 n7 F (all ++ (W6 d (he.dat, x)).toList) L' := by
 refine c167 (he.b, he.ep, he.v, ()) x (some ⟨n1, 0, none⟩) (some ⟨n6, 0, none⟩) (some ⟨n8, 0, none⟩) ?_
 unfold s167
 dsimp only
 have hx' := hx
 unfold An6 at hx'
 have hpl : Ci0 he.dat x = (he.b, x.2.1, he.ep, ()) := rfl
 refine A5 rfl (A6 (some ⟨m, 0, none⟩) (ldB (hL.sub _ h1) rfl) ?_)
 have hL0 := hL
 obtain ⟨av, aseg, es, ck, J, hp, own, hm⟩ := hL
 have hfe := A47 m d A h ok (Ci0 he.dat x) (A65 (by rw [hpl]; simp only; omega))
 refine G9 (R := (n6, Obj.cells #[.slice av.a av.len av.cap] 144) :: ((n7, Obj.map es ck) :: (aseg ++ (J ++ R)))) hfe (pc fun z => by have := pcn hp z; have := pcn hF z; simp only [B7, C5] at *; omega) ?_
 rintro _ _ ⟨g, rfl, rfl, hg, hgl⟩
 generalize hq : C7 d (Ci0 he.dat x) = q
 have hI1 : I1 n6 n7 F all (g.seg ++ A ++ ((n6, Obj.cells #[.slice av.a av.len av.cap] 144) :: ((n7, Obj.map es ck) :: (aseg ++ (J ++ R))))) :=
  ⟨av, aseg, es, ck, g.seg ++ J, pc fun z => by have := pcn hF z; simp only [B7, C5] at *; omega, own, hm⟩
 refine ⟨_, List.Perm.refl _, (An5 q.1, g.v, q.2.2, ()), rfl, C0 (fun (h0 : q.2.2 = 0) => ?_) (fun (h0 : ¬ q.2.2 = 0) => ?_)⟩
 ·have hlo : W6 d (he.dat, x) = some (An5 q.1, Ci0 he.dat x) := by unfold W6; simp only; rw [hq, if_pos h0]
  rw [hlo]
  obtain ⟨av, aseg, es, ck, J, hp, own, hm⟩ := hI1
  have hl := own.sl.els_len LE.enc_len (by decide)
  refine A5 rfl (A6 av (ldB (hp.symm.subset List.mem_cons_self) rfl) ?_)
  refine Af6 Cs8 srcLv own (Y := (n6, Obj.cells #[.slice av.a av.len av.cap] 144) :: ((n7, Obj.map es ck) :: (J ++ F))) (ws := LE.enc (An5 q.1, Ci0 he.dat x)) (pc fun z => by have := pcn hp z; simp only [B7, C5] at *; omega) rfl rfl (by omega) fun av2 aseg2 hl2 own2 => ?_
  refine Bs2 (n := n6) (off := 0) (c := #[.slice av.a av.len av.cap]) (T := 144) (fz := (0, 0)) (Y := (n7, Obj.map es ck) :: (aseg2 ++ (J ++ F))) (pc fun z => by simp only [B7, C5]; omega) rfl (by simp) (.inl (Nat.le_refl _)) #[.slice av2.a av2.len av2.cap] rfl fun L2 hp2 => ?_
  refine A5 rfl (A6 (some n7) (ldB (c := #[.map (some n7)]) (T := 246) (fz := (0, 0)) (hp2.symm.subset (by simp [h8])) rfl) ?_)
  refine Ah1 mapL (es := es) (clock := ck) (Y := (n6, Obj.cells #[.slice av2.a av2.len av2.cap] 144) :: (aseg2 ++ (J ++ F))) (pc fun z => by have := pcn hp2 z; simp only [B7, C5] at *; omega) hm (An5 q.1) (plV (Ci0 he.dat x)) fun es2 ck2 L3 hm2 hp3 => ?_
  refine .of ⟨rfl, av2, aseg2, es2, ck2, J, pc fun z => by have := pcn hp3 z; simp only [B7, C5] at *; omega, ?_, ?_⟩
  ·rw [Option.toList_some, List.flatMap_append, List.flatMap_singleton]; exact own2
  ·rw [Option.toList_some, Ay9]; exact hm2
 ·have hlo : W6 d (he.dat, x) = none := by unfold W6; simp only; rw [hq, if_neg h0]
  rw [hlo, Option.toList_none, List.append_nil]
  exact .of ⟨rfl, hI1⟩
def I2 (n9 : Nat) (F : A4) (ks : List It) (L : A4) : Prop := ∃ (es : Array MapEntry) (ck : Nat) (J : A4), L.Perm ((n9, Obj.map es ck) :: (J ++ F)) /\ Mp plV es (Bu7 ks)
theorem I2.sub {n9 : Nat} {F : A4} {ks : List It} {L : A4} (h : I2 n9 F ks L) : ∀ x ∈ F, x ∈ L := by
 obtain ⟨es, ck, J, hL, -⟩ := h
 exact fun x hx => hL.symm.subset (by simp [hx])
theorem I2.more {n9 : Nat} {F X : A4} {ks : List It} {L L' : A4} (h : I2 n9 F ks L) (hp : L'.Perm (X ++ L)) : I2 n9 (X ++ F) ks L' := by
 obtain ⟨es, ck, J, hL, hm⟩ := h
 exact ⟨es, ck, J, pc fun z => by have := pcn hL z; have := pcn hp z; simp only [B7, C5] at *; omega, hm⟩
theorem I2.less {n9 : Nat} {F X : A4} {ks : List It} {L : A4} (h : I2 n9 (X ++ F) ks L) : I2 n9 F ks L := by
 obtain ⟨es, ck, J, hL, hm⟩ := h
 exact ⟨es, ck, J ++ X, pc fun z => by have := pcn hL z; simp only [B7, C5] at *; omega, hm⟩
theorem Bu6 (p : List UInt8) : (Y5 p).1.length <= p.length := by
 unfold Y5
 split
 ·simp
 ·split
  ·simp only [B24]; omega
  ·simp
theorem Ay6 {ps : List (List UInt8)} (hb : ∀ x ∈ ps, x.length <= 512) {pg : Int} : ∀ {n : Nat} {l : List (List UInt8)}, Q6 ps pg n = some l -> ∀ x ∈ l, x.length <= 512
 | 0, l, h => by obtain rfl := Option.some.inj h; simp
 | n + 1, l, h => by
  rw [Q6] at h
  split at h
  ·rename_i l' hl'
   split at h
   ·cases h
   ·split at h
    ·obtain rfl := Option.some.inj h
     intro x hx
     rcases List.mem_append.1 hx with hx | hx
     ·exact Ay6 hb hl' x hx
     ·rw [List.mem_singleton.1 hx]
      refine Nat.le_trans (Ao8 _) ?_
      rw [List.getD_eq_getElem?_getD]
      cases hg : ps[pg.toNat + n]? with
      | none => simp
      | some b => exact hb b (List.mem_of_getElem? hg)
    ·cases h
  ·cases h
theorem Bu0 {ps : List (List UInt8)} (hb : ∀ x ∈ ps, x.length <= 512) (x : It) : (Af1 ps x).length <= x.2.2.1.toNat /\ ∀ p ∈ Af1 ps x, p.length <= 512 := by
 unfold Af1
 cases h : Q6 ps x.2.1 x.2.2.1.toNat with
 | none => simp
 | some l => exact ⟨by simp [(Ak5 h).1], Ay6 hb h⟩
theorem Cg5 (d : Dev) (n3 n9 n10 : Nat) (F pseg : A4) (pv : SlV) (bs : List BP) (pown : Own pv 1 tPs (bs.map BP.val) pseg) (pok : ∀ b ∈ bs, b.Ok) (pdat : bs.map BP.ls = (List.range d.c.B).map fun (b : Nat) => (N4 d b).1)
  (hpF : ∀ x ∈ pseg, x ∈ F) (hbF : ∀ x ∈ Aa4 bs, x ∈ F) (h3 : (n3, Obj.cells #[.slice pv.a pv.len pv.cap] 243) ∈ F) (h10 : (n10, Obj.cells #[.map (some n9)] 249) ∈ F)
  (ks : List It) (he : HE) (b : Nat) (hb : he.b = b) (hbB : b < d.c.B) (x : It) (hx : An6 x) (L : A4) (hL : I2 n9 F ks L) :
  CallF PP 168 #[.agg #[.i he.b, .i he.ep, .slice he.v.a he.v.len he.v.cap], .agg #[.i x.1, .i x.2.1, .i x.2.2.1], .pointer (some ⟨n3, 0, none⟩), .pointer (some ⟨n10, 0, none⟩)] L
   fun r L' => r = .tuple #[] /\ I2 n9 F (ks ++ Ac5 d (he.dat, x)) L' := by
 refine c168 (he.b, he.ep, he.v, ()) x (some ⟨n3, 0, none⟩) (some ⟨n10, 0, none⟩) ?_
 unfold s168
 dsimp only
 have hx' := hx
 unfold An6 at hx'
 have hbl : bs.length = d.c.B := by have := congrArg List.length pdat; rw [List.length_map, List.length_map, List.length_range] at this; exact this
 have hi : b < bs.length := by omega
 refine A5 rfl (A6 pv (ldB (hL.sub _ h3) rfl) ?_)
 refine Cm7 (pown.sl.mono fun y hy => hL.sub _ (hpF y hy)) hb (by rw [List.length_map]; exact hi) fun a ha => ?_
 rw [List.getElem_map] at ha
 have hbm : bs[b] ∈ bs := List.getElem_mem hi
 have hls : bs[b].ls = (N4 d b).1 := by
  have h1 : (bs.map BP.ls)[b]? = some bs[b].ls := by rw [List.getElem?_map, List.getElem?_eq_getElem hi]; rfl
  rw [pdat, List.getElem?_map, List.getElem?_range hbB] at h1
  exact (Option.some.inj h1).symm
 generalize bs[b] = q at ha hbm hls
 have hq := pok q hbm
 have hqF : ∀ y ∈ q.all, y ∈ F := fun y hy => hbF y (List.mem_flatMap.2 ⟨q, hbm, hy⟩)
 have hqp : U3 L q.v (pvs q.gs) := A20 hq.own hq.ok (fun y hy => hL.sub _ (hqF y (List.mem_append_left _ hy))) (fun y hy => hL.sub _ (hqF y (List.mem_append_right _ hy)))
 refine A6 q.v ha (Q2 (Bh5 L q.v (pvs q.gs) hqp hq.bnd.1 hq.bnd.2 x ⟨A65 (by omega), A65 (by omega)⟩) ?_)
 rintro _ _ - ⟨v2, gs2, seg2, rfl, rfl, own2, ok2, l2⟩
 have hsn : (pvs q.gs).map Prod.snd = (N4 d b).1 := by rw [Ar8]; exact hls
 rw [hsn] at l2
 have hko : Ac5 d (he.dat, x) = gs2.flatMap fun g => (Y5 g.l).1 := by
  unfold Ac5
  show (Af1 (N4 d he.b).1 x).flatMap _ = _
  rw [hb, <- l2, List.flatMap_map]
 have hpb := Bu0 (ps := (N4 d b).1) (by
  intro y hy
  rw [<- hls] at hy
  unfold BP.ls at hy
  simp only [List.mem_map] at hy
  obtain ⟨g, hg, rfl⟩ := hy
  exact hq.small g hg) x
 rw [<- l2, List.length_map] at hpb
 have hvl := own2.sl.len
 rw [List.length_map] at hvl
 refine ⟨(v2, ()), rfl, ?_⟩
 dsimp only
 refine G0 (fun z' z L' => ∃ i : Nat, i <= gs2.length /\ z' = gs2.length - i /\ z = ((i : Int), ()) /\ I2 n9 ((seg2 ++ pgs gs2) ++ F) (ks ++ (gs2.take i).flatMap fun g => (Y5 g.l).1) L') gs2.length
  ⟨0, by omega, by omega, rfl, by simpa using hL.more (X := seg2 ++ pgs gs2) (pc fun z => by simp only [B7]; omega)⟩ ?_
 rintro z' z L2 ⟨i, hi2, rfl, rfl, hI2⟩
 dsimp only
 refine C0 (fun (hlt : (i : Int) < v2.len) => ?_) (fun (hge : ¬ (i : Int) < v2.len) => ?_)
 ·have hi' : i < gs2.length := by omega
  refine Cm7 (own2.sl.mono fun y hy => hI2.sub _ (by simp [hy])) rfl (by rw [List.length_map]; exact hi') fun a2 ha2 => ?_
  rw [List.getElem_map] at ha2
  have hgm : gs2[i] ∈ gs2 := List.getElem_mem hi'
  have htk := U6 gs2 hi'
  generalize gs2[i] = g at ha2 hgm htk
  have hgl : g.l.length <= 512 := hpb.2 _ (List.mem_map_of_mem hgm)
  have hkl := Bu6 g.l
  refine A6 g.v ha2 (Q2 (Ck1 L2 g.v g.l (Sl.mono (ok2 g hgm).sl fun y hy => hI2.sub _ (by simp only [List.mem_append]; exact .inl (.inr (List.mem_flatMap.2 ⟨g, hgm, hy⟩)))) (by omega)) ?_)
  rintro _ _ - ⟨kv, kseg, rfl, rfl, kown⟩
  generalize hkr : Y5 g.l = kr at kown hkl
  have hkvl := kown.sl.els_len E1 (by decide)
  refine ⟨(kv, kr.2, ()), rfl, ?_⟩
  dsimp only
  refine G0 (fun z' z L' => ∃ j : Nat, j <= kr.1.length /\ z' = kr.1.length - j /\ z = ((j : Int), ()) /\ I2 n9 (kseg ++ ((seg2 ++ pgs gs2) ++ F)) ((ks ++ (gs2.take i).flatMap fun g => (Y5 g.l).1) ++ kr.1.take j) L') kr.1.length
   ⟨0, by omega, by omega, rfl, by simpa using hI2.more (X := kseg) (List.Perm.refl _)⟩ ?_
  rintro z' z L3 ⟨j, hj, rfl, rfl, hI3⟩
  dsimp only
  refine C0 (fun (hlt2 : (j : Int) < kv.len) => ?_) (fun (hge2 : ¬ (j : Int) < kv.len) => ?_)
  ·have hj' : j < kr.1.length := by omega
   refine V5 E1 (by decide) (kown.sl.mono fun y hy => hI3.sub _ (by simp [hy])) rfl hj' fun a3 ha3 => ?_
   have htk2 := U6 kr.1 hj'
   generalize kr.1[j] = p at ha3 htk2
   refine A6 p ha3 (A5 rfl (A6 (some n9) (ldB (c := #[.map (some n9)]) (T := 249) (fz := (0, 0)) (hI3.sub _ (by simp [h10])) rfl) ?_))
   obtain ⟨es, ck, J, hp3, hm3⟩ := hI3
   refine Ah1 mapK hp3 hm3 p (.bool true) fun es2 ck2 L4 hm4 hp4 => ?_
   refine D9 (by omega) ⟨kr.1.length - (j + 1), by omega, j + 1, by omega, rfl, rfl, es2, ck2, J, hp4, ?_⟩
   rw [htk2, <- List.append_assoc, Az0]; exact hm4
  ·obtain rfl : j = kr.1.length := by omega
   rw [List.take_length] at hI3
   refine D9 (by omega) ⟨gs2.length - (i + 1), by omega, i + 1, by omega, rfl, rfl, ?_⟩
   rw [htk, List.flatMap_append, List.flatMap_singleton, hkr, <- List.append_assoc]
   exact hI3.less
 ·obtain rfl : i = gs2.length := by omega
  rw [List.take_length, <- hko] at hI2
  exact .of ⟨rfl, hI2.less⟩
def P8 (l : List LE) (k : ByteArray) : Option It := (l.reverse.find? fun x => decide (x.1 = k)).map Prod.snd
theorem Bj0 (l : List LE) (x : LE) (k : ByteArray) : P8 (l ++ [x]) k = if k = x.1 then some x.2 else P8 l k := by
 unfold P8
 rw [List.reverse_append, List.reverse_singleton, List.singleton_append]
 by_cases h : k = x.1
 ·rw [if_pos h, List.find?_cons_of_pos (by simp [h])]; rfl
 ·rw [if_neg h, List.find?_cons_of_neg (by simpa using fun e => h e.symm)]
theorem Bb1 (l : List LE) (k : ByteArray) : As8 (Bj1 l) k = (P8 l k).map plV /\ ((Bj1 l).map Prod.fst).Nodup := by
 obtain ⟨r, rfl⟩ : ∃ r, l = r.reverse := ⟨l.reverse, by simp⟩
 induction r with
 | nil => exact ⟨rfl, List.nodup_nil⟩
 | cons x r ih =>
  rw [List.reverse_cons, Ay9, Bj0]
  refine ⟨?_, (Ba4 _ _ _ ih.2).1⟩
  rw [As7, ih.1]
  split <;> rfl
theorem B53 (l : List It) (p : It) : As8 (Bu7 l) p = if p ∈ l then some (.bool true) else none := by
 obtain ⟨r, rfl⟩ : ∃ r, l = r.reverse := ⟨l.reverse, by simp⟩
 induction r with
 | nil => rfl
 | cons x r ih =>
  rw [List.reverse_cons, Az0, As7, ih]
  by_cases h : p = x
  ·simp [h]
  ·simp [h]
theorem Ay8 {l : List LE} {x : LE} (h : x ∈ l) : ∃ p, P8 l x.1 = some p := by
 unfold P8
 cases hf : l.reverse.find? fun y => decide (y.1 = x.1) with
 | some y => exact ⟨y.2, rfl⟩
 | none =>
  rw [List.find?_eq_none] at hf
  exact (hf x (by simpa using h) (by simp)).elim
def liveR (l : List LE) (ks : List It) : List LE := l.filter fun x => decide (P8 l x.1 = some x.2 /\ x.2 ∉ ks)
def Bs8 (kind : Int) (l : List HD) : List (HD × It) := l.flatMap fun h => (h.2.2.filter fun x => decide (x.1 = kind)).map fun x => (h, x)
def Co4 (d : Dev) (l : List HD) : List LE := (Bs8 2 l).filterMap (W6 d)
def allK (d : Dev) (l : List HD) : List It := (Bs8 3 l).flatMap (Ac5 d)
def R8 (d : Dev) : List LE := liveR (Co4 d (K8 d)) (allK d (K8 d))
def A28 (l : List HD) : Int := l.foldl (fun a h => Ab4 a h.2.1) 0
theorem Bg7 (kind : Int) (hs : List HE) : (A60 kind hs).map Ct0 = Bs8 kind (hs.map HE.dat) := by
 unfold A60 Bs8 A59
 rw [List.map_flatMap, List.flatMap_map]
 congr 1
 funext h
 rw [List.map_map]
 rfl
theorem B45 (l : List HD) (h : HD) : A28 (l ++ [h]) = Ab4 (A28 l) h.2.1 := by simp [A28]
theorem eqPlc {L : A4} (x y : It) {k : ShV (.lf .bool) -> HP} (hk : k (decide (x = y)) L) :
  smP PP (binOp .eql Av5 (.agg #[.i x.1, .i x.2.1, .i x.2.2.1]) (.agg #[.i y.1, .i y.2.1, .i y.2.2.1])) (.lf .bool) k L :=
 Cs7 (r := decide (x = y)) Cp3 (B90 x y) hk
theorem Bi2 : ∀ (l : List It) (a : Int), (∀ x ∈ l, a <= x.2.1 /\ x.2.1 <= 255) -> l.Pairwise (fun x y => x.2.1 < y.2.1) -> a <= 256 -> (l.length : Int) <= 256 - a
 | [], a, _, _, ha => by simp; omega
 | x :: r, a, h, hp, ha => by
  rw [List.pairwise_cons] at hp
  have h1 := h x (by simp)
  have h2 := Bi2 r (x.2.1 + 1) (fun y hy => ⟨by have := hp.1 y hy; omega, (h y (by simp [hy])).2⟩) hp.2 (by omega)
  simp only [List.length_cons]
  omega
structure Fnd (d : Dev) (lv : SlV) (hs : List HE) (hseg : A4) (vv : SlV) (vseg : A4) : Prop where
 own : Own lv 3 eHl (hs.flatMap HE.enc) hseg
 ok : ∀ h ∈ hs, h.Ok
 dat : hs.map HE.dat = K8 d
 vown : Own vv 4 eLv ((R8 d).flatMap LE.enc) vseg
def FndK (d : Dev) (A : A4) (r : Value) (L' : A4) : Prop := ∃ (lv : SlV) (hs : List HE) (hseg : A4) (vv : SlV) (vseg : A4),
 r = .tuple #[.agg #[.slice lv.a lv.len lv.cap, .slice vv.a vv.len vv.cap, .i (A28 (K8 d))], .i 0] /\ L' = hseg ++ (R6 hs ++ (vseg ++ A)) /\ Fnd d lv hs hseg vv vseg
theorem B12 (m : Nat) (d : Dev) (A : A4) (h : FH m d A) (hdn : d.down = true) : CallF PP 95 #[.pointer (some ⟨m, 0, none⟩)] A fun r L' => r = .tuple #[.agg #[.slice none 0 0, .slice none 0 0, .i 0], .i 11] /\ L' = A := by
 refine c95 (some ⟨m, 0, none⟩) ?_
 unfold s95
 refine C3 fun n1 _ => A6 (some ⟨m, 0, none⟩) (ldB List.mem_cons_self rfl) (ifF rfl (A6 (some ⟨m, 0, none⟩) (ldB List.mem_cons_self rfl) ?_))
 refine G9 (R := [(n1, Obj.cells #[.pointer (some ⟨m, 0, none⟩)] 29)]) (B96 m d A h) (pc fun z => by simp only [B7, C5, D8]; omega) ?_
 rintro _ A' ⟨rfl, hA'⟩
 rw [hA']
 refine ⟨_, List.Perm.refl _, (d.down, ()), rfl, ifT hdn ?_⟩
 exact .drop (A := A) (J := [(n1, Obj.cells #[.pointer (some ⟨m, 0, none⟩)] 29)]) ⟨rfl, rfl⟩ (pc fun z => by simp only [B7, C5, D8])
theorem Bo8 {d : Dev} {x : HD} (h : x ∈ K8 d) : ∃ b : Nat, b < d.c.B /\ Bx0 d b = some x := A13 ((Q7 epK _).subset h)
theorem B72 {d : Dev} {hs : List HE} (hdat : hs.map HE.dat = K8 d) {h : HE} (hm : h ∈ hs) : (∃ b : Nat, h.b = b /\ b < d.c.B) /\ (0 <= h.ep /\ h.ep <= 1073741824) /\ (∀ y ∈ h.l, An6 y) /\ h.l.Pairwise (fun a b => a.2.1 < b.2.1) /\ h.l.length <= 255 := by
 have h1 : h.dat ∈ K8 d := by rw [<- hdat]; exact List.mem_map_of_mem hm
 obtain ⟨b, hb, h2⟩ := Bo8 h1
 obtain ⟨e1, e2, e3, e4⟩ := A87 h2
 refine ⟨⟨b, e1, hb⟩, e2, e3, e4, ?_⟩
 have := Bi2 h.l 1 (fun y hy => ⟨(e3 y hy).1, (e3 y hy).2.1⟩) e4 (by omega)
 omega
theorem Cf8 (kind : Int) (hs : List HE) (h : ∀ x ∈ hs, x.l.length <= 255) : (A60 kind hs).length <= hs.length * 255 := by
 induction hs with
 | nil => simp [A60]
 | cons a r ih =>
  have h1 := ih fun x hx => h x (by simp [hx])
  have h2 := h a (by simp)
  have h3 : (A59 kind a a.l).length <= a.l.length := by unfold A59; rw [List.length_map]; exact List.length_filter_le _ _
  unfold A60 at h1 ⊢
  rw [List.flatMap_cons, List.length_append, List.length_cons]
  omega
def Bx2 (all : List LE) (ks : List It) (i : Nat) (k : ByteArray) : Option Value :=
 if (∃ x ∈ all.take i, x.1 = k) /\ (∃ p, P8 all k = some p /\ p ∈ ks) then none else (P8 all k).map plV
theorem gone_0 (all : List LE) (ks : List It) (k : ByteArray) : Bx2 all ks 0 k = (P8 all k).map plV := by
 unfold Bx2
 rw [if_neg]
 rintro ⟨⟨x, hx, -⟩, -⟩
 simp at hx
theorem Cl5 {all : List LE} {ks : List It} {i : Nat} (hi : i < all.length) : ∃ p, P8 all all[i].1 = some p /\ (Bx2 all ks i all[i].1 = none /\ p ∈ ks \/ Bx2 all ks i all[i].1 = some (plV p)) := by
 obtain ⟨p, hp⟩ := Ay8 (List.getElem_mem hi)
 refine ⟨p, hp, ?_⟩
 unfold Bx2
 split
 ·rename_i hc
  obtain ⟨-, p', hp', hk⟩ := hc
  rw [hp] at hp'
  obtain rfl := Option.some.inj hp'
  exact .inl ⟨rfl, hk⟩
 ·rw [hp]; exact .inr rfl
theorem B74 {all : List LE} {ks : List It} {i : Nat} (hi : i < all.length) {p : It} (hp : P8 all all[i].1 = some p) (k : ByteArray) :
  Bx2 all ks (i + 1) k = if k = all[i].1 /\ p ∈ ks then none else Bx2 all ks i k := by
 have htk := U6 all hi
 generalize all[i] = x at hp htk
 unfold Bx2
 rw [htk]
 by_cases h1 : k = x.1
 ·subst h1
  by_cases h2 : p ∈ ks
  ·rw [if_pos ⟨⟨x, by simp, rfl⟩, p, hp, h2⟩, if_pos ⟨rfl, h2⟩]
  ·have hno : ¬ ∃ p', P8 all x.1 = some p' /\ p' ∈ ks := by
    rintro ⟨p', h3, h4⟩
    rw [hp] at h3
    obtain rfl := Option.some.inj h3
    exact h2 h4
   rw [if_neg (fun h => hno h.2), if_neg (fun h => h2 h.2), if_neg (fun h => hno h.2)]
 ·rw [if_neg (show ¬ (k = x.1 /\ p ∈ ks) from fun h => h1 h.1)]
  have : (∃ y ∈ all.take i ++ [x], y.1 = k) ↔ ∃ y ∈ all.take i, y.1 = k := by
   constructor
   ·rintro ⟨y, hy, he⟩
    rcases List.mem_append.1 hy with hy | hy
    ·exact ⟨y, hy, he⟩
    ·rw [List.mem_singleton.1 hy] at he; exact absurd he.symm h1
   ·rintro ⟨y, hy, he⟩
    exact ⟨y, by simp [hy], he⟩
  by_cases hc : (∃ y ∈ all.take i, y.1 = k) /\ ∃ p, P8 all k = some p /\ p ∈ ks
  ·rw [if_pos ⟨this.2 hc.1, hc.2⟩, if_pos hc]
  ·rw [if_neg (fun h => hc ⟨this.1 h.1, h.2⟩), if_neg hc]
theorem Cl6 {all : List LE} {ks : List It} {x : LE} (hx : x ∈ all) {p : It} (hp : P8 all x.1 = some p) : Bx2 all ks all.length x.1 = if p ∈ ks then none else some (plV p) := by
 unfold Bx2
 rw [List.take_length]
 by_cases h : p ∈ ks
 ·rw [if_pos ⟨⟨x, hx, rfl⟩, p, hp, h⟩, if_pos h]
 ·rw [if_neg, if_neg h, hp]
  ·rfl
  ·rintro ⟨-, p', h3, h4⟩
   rw [hp] at h3
   obtain rfl := Option.some.inj h3
   exact h h4
theorem filt1 {α : Type} (p : α -> Bool) (x : α) : [x].filter p = if p x = true then [x] else [] := by cases h : p x <;> simp [h]
theorem Cg4 (m : Nat) (d : Dev) (A : A4) (h : FH m d A) (ok : S3 d) (hdn : d.down = false) : CallF PP 95 #[.pointer (some ⟨m, 0, none⟩)] A (FndK d A) := by
 refine c95 (some ⟨m, 0, none⟩) ?_
 unfold s95
 have hB := ok.c.b
 refine C3 fun n1 _ => ?_
 obtain ⟨c1, hc1⟩ : ∃ c1 : Nat × Obj, c1 = (n1, Obj.cells #[.pointer (some ⟨m, 0, none⟩)] 29) := ⟨_, rfl⟩
 rw [<- hc1]
 have l1 : ∀ L : A4, c1 ∈ L -> D0 ⟨n1, 0, none⟩ [.pointer (some ⟨m, 0, none⟩)] L := fun L hm => ldB (by rw [hc1] at hm; exact hm) rfl
 refine A6 (some ⟨m, 0, none⟩) (l1 _ List.mem_cons_self) (ifF rfl (A6 (some ⟨m, 0, none⟩) (l1 _ List.mem_cons_self) ?_))
 refine G9 (R := [c1]) (B96 m d A h) (pc fun z => by simp only [B7, C5, D8]; omega) ?_
 rintro _ A' ⟨rfl, hA'⟩
 rw [hA']
 refine ⟨_, List.Perm.refl _, (d.down, ()), rfl, ifF hdn (A6 (some ⟨m, 0, none⟩) (l1 _ (by simp)) ?_)⟩
 refine G9 (C15 m d A h ok hdn) (List.Perm.refl _) ?_
 rintro _ _ ⟨lv, hs, hseg, pv, bs, pseg, rfl, rfl, H⟩
 refine ⟨_, List.Perm.refl _, (lv, pv, 0, ()), rfl, C3 fun n3 _ => ?_⟩
 obtain ⟨own, hok, hdat, pown, pok, pdat⟩ := H
 refine Bs2 (n := n3) (off := 0) (c := #[.slice none 0 0]) (T := 243) (fz := (0, 0)) (Y := c1 :: (hseg ++ (R6 hs ++ (pseg ++ (Aa4 bs ++ A))))) (pc fun z => by simp only [B7, C5, D8]; omega) rfl (by simp) (.inl (Nat.le_refl _)) #[.slice pv.a pv.len pv.cap] rfl fun L1 hp1 => ?_
 refine ifT rfl ?_
 have hvl := own.sl.els_len HE.enc_len (by decide)
 have hhl : hs.length <= 16 := by
  have h1 := congrArg List.length hdat
  rw [List.length_map] at h1
  have h2 := (Q7 epK (A90 d d.c.B)).length_eq
  have h3 := Ao7 d d.c.B
  unfold K8 at h1
  omega
 obtain ⟨F0, hF0⟩ : ∃ F0 : A4, F0 = (n3, Obj.cells #[.slice pv.a pv.len pv.cap] 243) :: (c1 :: (hseg ++ (R6 hs ++ (pseg ++ (Aa4 bs ++ A))))) := ⟨_, rfl⟩
 have hp1' : L1.Perm F0 := by rw [hF0]; exact hp1
 have f3 : (n3, Obj.cells #[.slice pv.a pv.len pv.cap] 243) ∈ F0 := by rw [hF0]; simp
 have f1 : c1 ∈ F0 := by rw [hF0]; simp
 have fh : ∀ x ∈ hseg, x ∈ F0 := fun x hx => by rw [hF0]; simp [hx]
 have fhs : ∀ x ∈ R6 hs, x ∈ F0 := fun x hx => by rw [hF0]; simp [hx]
 have fp : ∀ x ∈ pseg, x ∈ F0 := fun x hx => by rw [hF0]; simp [hx]
 have fb : ∀ x ∈ Aa4 bs, x ∈ F0 := fun x hx => by rw [hF0]; simp [hx]
 have slF : ∀ L : A4, (∀ x ∈ F0, x ∈ L) -> Sl L lv 3 (hs.flatMap HE.enc) /\ ∀ h ∈ hs, Sl L h.v 3 (h.l.flatMap N7) := fun L hL =>
  ⟨own.sl.mono fun x hx => hL x (fh x hx), fun h hh => Sl.mono (Own.sl (hok h hh)) fun x hx => hL x (fhs x (List.mem_flatMap.2 ⟨h, hh, hx⟩))⟩
 refine G0 (fun z' z L' => ∃ i : Nat, i <= hs.length /\ z' = hs.length - i /\ z = ((i : Int), A28 ((hs.take i).map HE.dat), ()) /\ L' = L1) hs.length ⟨0, by omega, by omega, rfl, rfl⟩ ?_
 rintro z' z L' ⟨i, hi, rfl, rfl, hL'⟩
 rw [hL']
 dsimp only
 refine C0 (fun (hlt : (i : Int) < lv.len) => ?_) (fun (hge : ¬ (i : Int) < lv.len) => ?_)
 ·have hi' : i < hs.length := by omega
  refine V5 HE.enc_len (by decide) (slF _ fun x hx => hp1'.symm.subset hx).1 rfl hi' fun a ha => ?_
  have htk := U6 hs hi'
  generalize hs[i] = x at ha htk
  refine A6 (x.b, x.ep, x.v, ()) ha (D9 (by omega) ⟨hs.length - (i + 1), by omega, i + 1, by omega, rfl, ?_, rfl⟩)
  rw [htk, List.map_append, List.map_singleton, B45]; rfl
 obtain rfl : i = hs.length := by omega
 have hme : A28 ((hs.take hs.length).map HE.dat) = A28 (K8 d) := by rw [List.take_length, hdat]
 rw [hme]
 clear hge hi hme
 refine C3 fun n6 _ => C3 fun n7 _ => C3 fun n8 _ => ?_
 refine Bs2 (n := n8) (off := 0) (c := #[.map none]) (T := 246) (fz := (0, 0)) (Y := (n7, Obj.map #[] 0) :: ((n6, Obj.cells #[.slice none 0 0] 144) :: L1)) (pc fun z => by simp only [B7, C5, D8]) rfl (by simp) (.inl (Nat.le_refl _)) #[.map (some n7)] rfl fun L2 hp2 => ?_
 obtain ⟨F1, hF1⟩ : ∃ F1 : A4, F1 = (n8, Obj.cells #[.map (some n7)] 246) :: F0 := ⟨_, rfl⟩
 have i10 : I1 n6 n7 F1 [] L2 := ⟨⟨none, 0, 0⟩, [], #[], 0, [], pc fun z => by have := pcn hp2 z; have := pcn hp1' z; rw [hF1]; simp only [B7, C5, D8] at *; omega, F7, rfl⟩
 have f8 : (n8, Obj.cells #[.map (some n7)] 246) ∈ F1 := by rw [hF1]; exact List.mem_cons_self
 have f01 : ∀ x ∈ F0, x ∈ F1 := fun x hx => by rw [hF1]; exact List.mem_cons_of_mem _ hx
 have hbig := fun kind => Cf8 kind hs fun x hx => (B72 hdat hx).2.2.2.2
 have hFA : F1.Perm (A ++ ((n8, Obj.cells #[.map (some n7)] 246) :: ((n3, Obj.cells #[.slice pv.a pv.len pv.cap] 243) :: (c1 :: (hseg ++ (R6 hs ++ (pseg ++ Aa4 bs))))))) := pc fun z => by rw [hF1, hF0]; simp only [B7, C5, D8]; omega
 refine Q2 (B93 lv hs 2 ⟨.func 167, #[], #[.pointer (some ⟨n1, 0, none⟩), .pointer (some ⟨n6, 0, none⟩), .pointer (some ⟨n8, 0, none⟩)]⟩ (fun done L => I1 n6 n7 F1 ((done.map Ct0).filterMap (W6 d)) L) (by omega) (fun x hx => by have := (B72 hdat hx).2.2.2.2; omega)
  (fun done L hI => slF L fun x hx => hI.sub x (f01 x hx)) ?_ (L := L2) i10) ?_
 ·intro done rest he x L k hsel hI hk
  have hq := Bm5 (kind := 2) (hs := hs) (q := (he, x)) (by rw [hsel]; simp)
  have hdl : done.length <= 16 * 255 := by
   have h1 := congrArg List.length hsel
   rw [List.length_append, List.length_cons] at h1
   have h2 := hbig 2
   have h3 := Nat.mul_le_mul_right 255 hhl
   omega
  refine V7 (by kernel_rfl) (Q2 (Cg6 m d A h ok n1 n6 n7 n8 29 _ F1 hFA (by rw [<- hc1]; exact f01 _ f1) f8 _ ?_ he x ((B72 hdat hq.1).2.2.1 x hq.2.1) L hI) ?_)
  ·have := List.length_filterMap_le (W6 d) (done.map Ct0)
   rw [List.length_map] at this
   omega
  ·rintro _ L' - ⟨rfl, hI'⟩
   refine ⟨(), rfl, hk L' ?_⟩
   rw [List.map_append, List.filterMap_append]
   have e : ([(he, x)].map Ct0).filterMap (W6 d) = (W6 d (he.dat, x)).toList := by
    simp only [List.map_cons, List.map_nil, Ct0, List.filterMap_cons, List.filterMap_nil]
    cases W6 d (he.dat, x) <;> rfl
   rw [e]; exact hI'
 rintro _ L3 - ⟨rfl, hI3⟩
 rw [Bg7, hdat] at hI3
 have hall : (Bs8 2 (K8 d)).filterMap (W6 d) = Co4 d (K8 d) := rfl
 rw [hall] at hI3
 have hal : (Co4 d (K8 d)).length <= 16 * 255 := by
  have h1 := List.length_filterMap_le (W6 d) (Bs8 2 (K8 d))
  have h2 := congrArg List.length (Bg7 2 hs)
  rw [List.length_map, hdat] at h2
  have h3 := hbig 2
  have h4 := Nat.mul_le_mul_right 255 hhl
  unfold Co4
  omega
 generalize hallE : Co4 d (K8 d) = all at *
 obtain ⟨av, aseg, es, ck, J, hp3, aown, hm3⟩ := hI3
 refine ⟨(), rfl, C3 fun n9 _ => C3 fun n10 _ => ?_⟩
 refine Bs2 (n := n10) (off := 0) (c := #[.map none]) (T := 249) (fz := (0, 0)) (Y := (n9, Obj.map #[] 0) :: L3) (List.Perm.refl _) rfl (by simp) (.inl (Nat.le_refl _)) #[.map (some n9)] rfl fun L4 hp4 => ?_
 obtain ⟨F2, hF2⟩ : ∃ F2 : A4, F2 = (n10, Obj.cells #[.map (some n9)] 249) :: ((n6, Obj.cells #[.slice av.a av.len av.cap] 144) :: ((n7, Obj.map es ck) :: (aseg ++ (J ++ F1)))) := ⟨_, rfl⟩
 have i20 : I2 n9 F2 [] L4 := ⟨#[], 0, [], pc fun z => by have := pcn hp3 z; have := pcn hp4 z; rw [hF2]; simp only [B7, C5, D8] at *; omega, rfl⟩
 have f12 : ∀ x ∈ F1, x ∈ F2 := fun x hx => by rw [hF2]; simp [hx]
 have f02 : ∀ x ∈ F0, x ∈ F2 := fun x hx => f12 x (f01 x hx)
 have f10 : (n10, Obj.cells #[.map (some n9)] 249) ∈ F2 := by rw [hF2]; exact List.mem_cons_self
 refine Q2 (B93 lv hs 3 ⟨.func 168, #[], #[.pointer (some ⟨n3, 0, none⟩), .pointer (some ⟨n10, 0, none⟩)]⟩ (fun done L => I2 n9 F2 ((done.map Ct0).flatMap (Ac5 d)) L) (by omega) (fun x hx => by have := (B72 hdat hx).2.2.2.2; omega)
  (fun done L hI => slF L fun x hx => hI.sub x (f02 x hx)) ?_ (L := L4) i20) ?_
 ·intro done rest he x L k hsel hI hk
  have hq := Bm5 (kind := 3) (hs := hs) (q := (he, x)) (by rw [hsel]; simp)
  obtain ⟨⟨b, hb, hbB⟩, -, hir, -⟩ := B72 hdat hq.1
  refine V7 (by kernel_rfl) (Q2 (Cg5 d n3 n9 n10 F2 pseg pv bs pown pok pdat (fun y hy => f02 y (fp y hy)) (fun y hy => f02 y (fb y hy)) (f02 _ f3) f10 _ he b hb hbB x (hir x hq.2.1) L hI) ?_)
  rintro _ L' - ⟨rfl, hI'⟩
  refine ⟨(), rfl, hk L' ?_⟩
  rw [List.map_append, List.flatMap_append]
  have e : ([(he, x)].map Ct0).flatMap (Ac5 d) = Ac5 d (he.dat, x) := by simp [Ct0]
  rw [e]; exact hI'
 rintro _ L5 - ⟨rfl, hI5⟩
 rw [Bg7, hdat] at hI5
 have hkk : (Bs8 3 (K8 d)).flatMap (Ac5 d) = allK d (K8 d) := rfl
 rw [hkk] at hI5
 generalize hksE : allK d (K8 d) = ks at *
 refine ⟨(), rfl, ?_⟩
 obtain ⟨es9, ck9, J9, hp5, hm9⟩ := hI5
 obtain ⟨G, hG⟩ : ∃ G : A4, G = (n9, Obj.map es9 ck9) :: ((n10, Obj.cells #[.map (some n9)] 249) :: ((n6, Obj.cells #[.slice av.a av.len av.cap] 144) :: (aseg ++ (J ++ (J9 ++ F1))))) := ⟨_, rfl⟩
 have hp6 : L5.Perm ((n7, Obj.map es ck) :: G) := pc fun z => by have := pcn hp5 z; rw [hG]; rw [hF2] at this; simp only [B7, C5, D8] at *; omega
 have g9 : (n9, Obj.map es9 ck9) ∈ G := by rw [hG]; simp
 have g10 : (n10, Obj.cells #[.map (some n9)] 249) ∈ G := by rw [hG]; simp
 have g6 : (n6, Obj.cells #[.slice av.a av.len av.cap] 144) ∈ G := by rw [hG]; simp
 have g8 : (n8, Obj.cells #[.map (some n7)] 246) ∈ G := by rw [hG]; simp [f8]
 have ga : ∀ x ∈ aseg, x ∈ G := fun x hx => by rw [hG]; simp [hx]
 have havl := aown.sl.els_len LE.enc_len (by decide)
 have kil : ∀ p : It, (As8 (Bu7 ks) p).getD (.bool false) = .bool (decide (p ∈ ks)) := fun p => by
  rw [B53]
  by_cases hk : p ∈ ks
  ·simp [hk]
  ·simp [hk]
 refine A6 av (ldB (c := #[.slice av.a av.len av.cap]) (T := 144) (fz := (0, 0)) (hp6.symm.subset (by simp [g6])) rfl) ?_
 refine G0 (fun z' z L' => ∃ (i : Nat) (es7 : Array MapEntry) (ck7 : Nat) (mm : List (ByteArray × Value)), i <= all.length /\ z' = all.length - i /\ z = ((i : Int), ()) /\ L'.Perm ((n7, Obj.map es7 ck7) :: G) /\ Mp Value.string es7 mm /\ (mm.map Prod.fst).Nodup /\ ∀ k, As8 mm k = Bx2 all ks i k) all.length
  ⟨0, es, ck, Bj1 all, by omega, by omega, rfl, hp6, hm3, (Bb1 all ⟨#[]⟩).2, fun k => by rw [gone_0]; exact (Bb1 all k).1⟩ ?_
 rintro z' z L6 ⟨i, es7, ck7, mm, hi, rfl, rfl, hp7, hm7, hnd, hgo⟩
 dsimp only
 have hsub : ∀ x ∈ G, x ∈ L6 := fun x hx => hp7.symm.subset (List.mem_cons_of_mem _ hx)
 have h7 : (n7, Obj.map es7 ck7) ∈ L6 := hp7.symm.subset List.mem_cons_self
 refine C0 (fun (hlt : (i : Int) < av.len) => ?_) (fun (hge : ¬ (i : Int) < av.len) => ?_)
 ·have hi' : i < all.length := by omega
  refine V5 LE.enc_len (by decide) (aown.sl.mono fun x hx => hsub x (ga x hx)) rfl hi' fun a2 ha2 => ?_
  obtain ⟨p, hlo, hcur⟩ := Cl5 (ks := ks) hi'
  have hgs := fun k => B74 (ks := ks) hi' hlo k
  generalize all[i] = x at ha2 hlo hcur hgs
  refine A6 x ha2 (A6 (some n9) (ldB (c := #[.map (some n9)]) (T := 249) (fz := (0, 0)) (hsub _ g10) rfl) (A6 (some n7) (ldB (c := #[.map (some n7)]) (T := 246) (fz := (0, 0)) (hsub _ g8) rfl) ?_))
  obtain ⟨cur, hcv, hck⟩ : ∃ cur : It, (As8 mm x.1).getD (plV (0, 0, 0, ())) = plV cur /\ (p ∈ ks /\ Bx2 all ks i x.1 = none \/ cur = p) := by
   rw [hgo]
   rcases hcur with ⟨h1, h2⟩ | h1
   ·exact ⟨(0, 0, 0, ()), by rw [h1]; rfl, .inl ⟨h2, h1⟩⟩
   ·exact ⟨p, by rw [h1]; rfl, .inr rfl⟩
  have lk := Ai2 (P := PP) mapL h7 hm7 x.1
  rw [hcv] at lk
  refine ⟨(cur, ()), lk, ?_⟩
  have lk2 := Ai2 (P := PP) mapK (hsub _ g9) hm9 cur
  rw [kil] at lk2
  refine ⟨(decide (cur ∈ ks), ()), lk2, C0 (fun (hk : cur ∈ ks) => ?_) (fun (hk : cur ∉ ks) => ?_)⟩
  ·have hpk : p ∈ ks := by
    rcases hck with h1 | rfl
    ·exact h1.1
    ·exact hk
   refine A6 (some n7) (ldB (c := #[.map (some n7)]) (T := 246) (fz := (0, 0)) (hsub _ g8) rfl) ?_
   refine Bd5 mapL hp7 hm7 x.1 fun es8 ck8 L7 hm8 hp8 => ?_
   refine D9 (by omega) ⟨all.length - (i + 1), by omega, i + 1, es8, ck8, A62 mm x.1, by omega, rfl, rfl, hp8, hm8, (Ba7 _ _ hnd).1, fun k => ?_⟩
   rw [Ba5 _ _ _ hnd, hgs, hgo]
   by_cases he : k = x.1
   ·rw [if_pos he, if_pos ⟨he, hpk⟩]
   ·rw [if_neg he, if_neg fun h => he h.1]
  ·refine D9 (by omega) ⟨all.length - (i + 1), by omega, i + 1, es7, ck7, mm, by omega, rfl, rfl, hp7, hm7, hnd, fun k => ?_⟩
   rw [hgs, hgo]
   by_cases he : k = x.1 /\ p ∈ ks
   ·rw [if_pos he]
    rcases hck with h1 | rfl
    ·rw [he.1]; exact h1.2
    ·exact absurd he.2 hk
   ·rw [if_neg he]
 ·obtain rfl : i = all.length := by omega
  refine A6 av (ldB (c := #[.slice av.a av.len av.cap]) (T := 144) (fz := (0, 0)) (hsub _ g6) rfl) ?_
  have hlk : ∀ x ∈ all, ∃ p, P8 all x.1 = some p /\ As8 mm x.1 = if p ∈ ks then none else some (plV p) := fun x hx => by
   obtain ⟨p, hp⟩ := Ay8 hx
   exact ⟨p, hp, by rw [hgo, Cl6 hx hp]⟩
  refine G0 (fun z' z L' => ∃ (i : Nat) (ov : SlV) (oseg : A4), i <= all.length /\ z' = all.length - i /\ z = ((i : Int), ov, A28 (K8 d), ()) /\ L'.Perm (oseg ++ L6) /\ Own ov 4 eLv (((all.take i).filter fun x => decide (P8 all x.1 = some x.2 /\ x.2 ∉ ks)).flatMap LE.enc) oseg) all.length
   ⟨0, ⟨none, 0, 0⟩, [], by omega, by omega, rfl, List.Perm.refl _, F7⟩ ?_
  rintro z' z L7 ⟨i, ov, oseg, hi2, rfl, rfl, hp8, oown⟩
  dsimp only
  have hsub2 : ∀ x ∈ L6, x ∈ L7 := fun x hx => hp8.symm.subset (by simp [hx])
  have hol := oown.sl.els_len LE.enc_len (by decide)
  have hol2 := List.length_filter_le (fun x : LE => decide (P8 all x.1 = some x.2 /\ x.2 ∉ ks)) (all.take i)
  rw [List.length_take] at hol2
  refine C0 (fun (hlt : (i : Int) < av.len) => ?_) (fun (hge : ¬ (i : Int) < av.len) => ?_)
  ·have hi' : i < all.length := by omega
   refine V5 LE.enc_len (by decide) (aown.sl.mono fun x hx => hsub2 _ (hsub x (ga x hx))) rfl hi' fun a3 ha3 => ?_
   obtain ⟨p, hlo, hmg⟩ := hlk all[i] (List.getElem_mem hi')
   have htk := U6 all hi'
   generalize all[i] = x at ha3 hlo hmg htk
   refine A6 x ha3 (A6 (some n7) (ldB (c := #[.map (some n7)]) (T := 246) (fz := (0, 0)) (hsub2 _ (hsub _ g8)) rfl) ?_)
   have lk := Bu5 (P := PP) mapL (hsub2 _ h7) hm7 x.1
   rw [hmg] at lk
   have hno : ¬ (P8 all x.1 = some x.2 /\ x.2 ∉ ks) -> ∃ k', k' < all.length - i /\ ∃ (i' : Nat) (ov' : SlV) (oseg' : A4), i' <= all.length /\ k' = all.length - i' /\ (((i : Int) + 1, ov, A28 (K8 d), ()) : RsV [lI, .lf .sl, lI]) = ((i' : Int), ov', A28 (K8 d), ()) /\ L7.Perm (oseg' ++ L6) /\ Own ov' 4 eLv (((all.take i').filter fun x => decide (P8 all x.1 = some x.2 /\ x.2 ∉ ks)).flatMap LE.enc) oseg' := fun hh => by
    refine ⟨all.length - (i + 1), by omega, i + 1, ov, oseg, by omega, rfl, rfl, hp8, ?_⟩
    rw [htk, List.filter_append, filt1, if_neg (by simpa using hh), List.append_nil]; exact oown
   by_cases hpk : p ∈ ks
   ·rw [if_pos hpk] at lk
    refine ⟨((0, 0, 0, ()), false, ()), lk, ifF rfl (D9 (by omega) (hno fun hh => ?_))⟩
    rw [hlo] at hh
    exact hh.2 (by rw [<- Option.some.inj hh.1]; exact hpk)
   ·rw [if_neg hpk] at lk
    refine ⟨(p, true, ()), lk, ifT rfl (eqPlc p x.2 (C0 (fun (he : p = x.2) => ?_) (fun (he : ¬ p = x.2) => ?_)))⟩
    ·have hyes : P8 all x.1 = some x.2 /\ x.2 ∉ ks := ⟨by rw [hlo, he], by rw [<- he]; exact hpk⟩
     refine Af6 Cs8 srcLv oown hp8 (ws := LE.enc x) rfl rfl (by omega) fun ov2 oseg2 hol3 oown2 => ?_
     refine D9 (by omega) ⟨all.length - (i + 1), by omega, i + 1, ov2, oseg2, by omega, rfl, rfl, List.Perm.refl _, ?_⟩
     rw [htk, List.filter_append, filt1, if_pos (by simpa using hyes), List.flatMap_append, List.flatMap_singleton]; exact oown2
    ·refine D9 (by omega) (hno fun hh => he ?_)
     rw [hlo] at hh
     exact Option.some.inj hh.1
  ·obtain rfl : i = all.length := by omega
   rw [List.take_length] at oown
   refine .drop (A := hseg ++ (R6 hs ++ (oseg ++ A))) (J := (n7, Obj.map es7 ck7) :: ((n9, Obj.map es9 ck9) :: ((n10, Obj.cells #[.map (some n9)] 249) :: ((n6, Obj.cells #[.slice av.a av.len av.cap] 144) :: (aseg ++ (J ++ (J9 ++ ((n8, Obj.cells #[.map (some n7)] 246) :: ((n3, Obj.cells #[.slice pv.a pv.len pv.cap] 243) :: (c1 :: (pseg ++ Aa4 bs)))))))))))
    ⟨lv, hs, hseg, ov, oseg, rfl, rfl, own, hok, hdat, ?_⟩ (pc fun z => ?_)
   ·unfold R8 liveR
    rw [hallE, hksE]; exact oown
   ·have e1 := pcn hp8 z
    have e2 := pcn hp7 z
    rw [hG, hF1, hF0] at e2
    simp only [B7, C5, D8] at *
    omega
structure C9 where
 part : Int
 b : Int
 p : Int
 e : Int
 freq : Int
abbrev Al6 := Int × Int × Int × Int
def C9.nm (s : C9) : Al6 := (s.part, s.b, s.p, s.e)
def Ag3 (s : C9) : List Value := [.i s.part, .i s.b, .i s.p, .i s.e, .i s.freq]
theorem J4 (s : C9) : (Ag3 s).length = 5 := rfl
theorem Az2 (l : List C9) : (l.flatMap Ag3).all Q4 = true := by
 induction l with
 | nil => rfl
 | cons e r ih => rw [List.flatMap_cons, List.all_append, ih]; rfl
def isz : C9 := ⟨0, 0, 0, 0, 0⟩
abbrev tyIs : TypeId := 216
abbrev eIs : TypeId := 204
abbrev tyIr : TypeId := 219
theorem B91 : S2 PP tyIs eIs 5 40 [.i 0, .i 0, .i 0, .i 0, .i 0] := M0 (by kernel_rfl) (by kernel_rfl) rfl (by decide) (by decide)
theorem srcIs : Ao1 PP tyIs := .inl ⟨eIs, by kernel_rfl⟩
theorem undNm : Aw4 PP 202 = true := by kernel_rfl
theorem eqNm {L : A4} (a b c d a' b' c' d' : Int) {k : ShV (.lf .bool) -> HP} (hk : k (decide ((a, b, c, d) = (a', b', c', d'))) L) :
  smP PP (binOp .eql 202 (.agg #[.i a, .i b, .i c, .i d]) (.agg #[.i a', .i b', .i c', .i d'])) (.lf .bool) k L := by
 refine Cs7 (r := (a == a' && ((b == b' && (c == c' && (d == d' && true))) && true))) undNm (by kernel_rfl) ?_
 have e : decide ((a, b, c, d) = (a', b', c', d')) = (a == a' && ((b == b' && (c == c' && (d == d' && true))) && true)) := by
  rw [Bool.eq_iff_iff]; simp
 rw [e] at hk; exact hk
def Q8 (h : Nat) : Int := ((h / 2 ^ 48 : Nat) : Int)
theorem C08 (L : A4) (h k : Nat) (hh : h < 2 ^ 64) (h1 : 1 <= k) (h2 : k <= 1000) : Reads PP 194 #[.int .u64 h, .i k] L (.i ((h % k : Nat) : Int)) := by
 refine Reads.of (args := [.int .u64 h, .i k]) B5 B6 Tryz.func194 (e194 h k _) ?_
 unfold t194
 have hm := Nat.mod_lt h (show k > 0 by omega)
 have hw : IntKind.u64.wrap (k : Int) = k := Cu2 (by omega) (by omega)
 refine ifN (show ¬ (k : Int) < 1 by omega) (Y3 (by rw [hw]; omega) (.of ⟨?_, rfl⟩))
 rw [hw, <- Int.ofNat_tmod, C1 (by omega) (by omega)]
theorem Bo2 (L : A4) (h : Nat) (hh : h < 2 ^ 64) : Reads PP 180 #[.int .u64 h] L (.i (Q8 h)) := by
 refine Reads.of (args := [.int .u64 h]) B5 B6 Tryz.func180 (e180 h _) ?_
 unfold t180
 refine Y3 (by decide) (.of ⟨?_, rfl⟩)
 have e : Int.fdiv (h : Int) (2 ^ (min (48 : Int).toNat IntKind.u64.bits)) = ((h / 2 ^ 48 : Nat) : Int) := by
  rw [show (2 : Int) ^ (min (48 : Int).toNat IntKind.u64.bits) = ((2 ^ 48 : Nat) : Int) from rfl, Int.fdiv_eq_ediv_of_nonneg _ (by omega)]
  rfl
 rw [e, C1 (by omega) (by omega)]
 rfl
abbrev Pl := Int × Int × Int × Unit
def inm (h : Nat) (p : Pl) : Al6 := (Q8 h, p.1, p.2.1, p.2.2.1)
theorem Bb8 (L : A4) (h : Nat) (hh : h < 2 ^ 64) (p : Pl) : Reads PP 184 #[.int .u64 h, .agg #[.i p.1, .i p.2.1, .i p.2.2.1]] L (.agg #[.i (Q8 h), .i p.1, .i p.2.1, .i p.2.2.1]) := by
 refine Reads.of (args := [.int .u64 h, .agg #[.i p.1, .i p.2.1, .i p.2.2.1]]) B5 B6 Tryz.func184 (e184 h p _) ?_
 unfold t184
 refine C3 fun n1 _ => C3 fun n2 _ => A6 p (ldB (n := n1) (c := #[.i p.1, .i p.2.1, .i p.2.2.1]) (T := 102) (fz := (0, 0)) (by simp) rfl) ?_
 refine B3 (Bo2 _ h hh) (Q8 h, ()) rfl (E9 (ldB (n := n1) (c := #[.i p.1, .i p.2.1, .i p.2.2.1]) (T := 102) (fz := (0, 0)) (by simp) rfl) ?_)
 refine E3 [] _ rfl rfl (by simp) (.inl (Nat.le_refl _)) #[.i (Q8 h), .i p.1, .i p.2.1, .i p.2.2.1] rfl ?_
 exact A6 (Q8 h, p) (ldB List.mem_cons_self rfl) (.cons (.cons (.of ⟨rfl, rfl⟩)))
theorem Cd8 (L : A4) (s : C9) (ad : Addr) (nm : Al6) (hl : D0 ad [.i nm.1, .i nm.2.1, .i nm.2.2.1, .i nm.2.2.2] L) :
  Reads PP 232 #[.agg #[.i s.part, .i s.b, .i s.p, .i s.e, .i s.freq], .pointer (some ad)] L (.bool (decide (s.nm = nm))) := by
 refine Reads.of (args := [.agg #[.i s.part, .i s.b, .i s.p, .i s.e, .i s.freq], .pointer (some ad)]) B5 B6 Tryz.func232 (e232 (s.part, s.b, s.p, s.e, s.freq, ()) (some ad) _) ?_
 unfold t232
 refine C3 fun n1 _ => A6 (s.part, s.b, s.p, s.e, ()) (ldB List.mem_cons_self rfl) (A5 rfl (A6 (nm.1, nm.2.1, nm.2.2.1, nm.2.2.2, ()) (hl.mono fun _ hx => List.mem_cons_of_mem _ hx) (eqNm _ _ _ _ _ _ _ _ (.cons (.of ⟨rfl, rfl⟩)))))
theorem Cl0 (L : A4) (v : SlV) (l : List C9) (h : Sl L v 5 (l.flatMap Ag3)) (hb : l.length <= 1000) (ad : Addr) (nm : Al6) (hl : D0 ad [.i nm.1, .i nm.2.1, .i nm.2.2.1, .i nm.2.2.2] L) :
  Reads PP 231 #[.slice v.a v.len v.cap, .func (.func 232) #[] #[.pointer (some ad)]] L
   (.i (match l.findIdx? (fun s => decide (s.nm = nm)) with | some i => (i : Int) | none => -1)) := by
 refine Reads.of (args := [.slice v.a v.len v.cap, .func (.func 232) #[] #[.pointer (some ad)]]) B5 B6 Tryz.func231 (e231 v ⟨.func 232, #[], #[.pointer (some ad)]⟩ _) ?_
 unfold t231
 have hlen := h.els_len J4 (by decide)
 refine G0 (fun k z L' => L' = L /\ ∃ i : Nat, i <= l.length /\ k = l.length - i /\ z = ((i : Int), ()) /\ ∀ s ∈ l.take i, s.nm ≠ nm) l.length ⟨rfl, 0, by omega, by omega, rfl, by simp⟩ ?_
 rintro k z L' ⟨rfl, i, hi, rfl, rfl, hn⟩
 refine B9 (fun (hlt : (i : Int) < v.len) => ?_) (fun (hge : ¬ (i : Int) < v.len) => ?_)
 ·have hi' : i < l.length := by omega
  obtain ⟨a, ha, hld⟩ := h.el J4 (by decide) hi'
  refine A5 ha (E0 (show (0 : Int) <= i by omega) hlt (A6 (l[i].part, l[i].b, l[i].p, l[i].e, l[i].freq, ()) (by rw [Int.toNat_natCast]; exact hld) ?_))
  refine V7 (by kernel_rfl) (B3 (Cd8 _ l[i] ad nm hl) (decide (l[i].nm = nm), ()) rfl ?_)
  refine B9 (fun (he : l[i].nm = nm) => .of ⟨?_, rfl⟩) (fun (he : ¬ l[i].nm = nm) => ?_)
  ·have : l.findIdx? (fun s => decide (s.nm = nm)) = some i := by
    rw [List.findIdx?_eq_some_iff_getElem]
    refine ⟨hi', by simpa using he, fun j hj => ?_⟩
    have := hn l[j] (by rw [List.mem_take_iff_getElem]; exact ⟨j, by omega, rfl⟩)
    simpa using this
   rw [this]
  ·refine ⟨l.length - (i + 1), by omega, rfl, i + 1, by omega, rfl, ?_, fun e hx => ?_⟩
   ·rw [C1 (by first | omega | (simp only; omega)) (by first | omega | (simp only; omega))]
    rfl
   ·rw [List.take_succ_eq_append_getElem hi'] at hx
    rcases List.mem_append.1 hx with hx | hx
    ·exact hn e hx
    ·rw [List.mem_singleton.1 hx]; exact he
 ·obtain rfl : i = l.length := by omega
  rw [List.take_length] at hn
  have : l.findIdx? (fun s => decide (s.nm = nm)) = none := by
   rw [List.findIdx?_eq_none_iff]
   intro s hs
   simpa using hn s hs
  rw [this]
  exact .of ⟨rfl, rfl⟩
theorem B68 (v : SlV) (l : List C9) (seg : A4) (own : Own v 5 eIs (l.flatMap Ag3) seg) (hb : l.length <= 1000) (k : Nat) (hk : k < l.length) :
  CallF PP 229 #[.slice v.a v.len v.cap, .i k, .i ((k : Int) + 1)] seg fun r L' => ∃ s, r = .slice s.a s.len s.cap /\ Own s 5 eIs ((l.take k ++ l.drop (k + 1)).flatMap Ag3) L' := by
 refine CallF.of (args := [.slice v.a v.len v.cap, .i k, .i ((k : Int) + 1)]) B5 B6 Tryz.func229 (e229 v k ((k : Int) + 1) _) ?_
 unfold t229
 have hlen := own.sl.els_len J4 (by decide)
 have hcap := own.cap
 refine J5 (l' := k) (h' := k + 1) (m' := v.len) rfl rfl rfl (by omega) (by omega) hcap ?_
 refine W7 (fun (he : (k : Int) = (k : Int) + 1) => absurd he (by omega)) (fun _ => ?_)
 refine J5 (l' := 0) (h' := k) (m' := v.cap) rfl rfl rfl (by omega) (by omega) (Nat.le_refl _) ?_
 refine J5 (l' := k + 1) (h' := v.len) (m' := v.cap) rfl rfl rfl (by omega) hcap (Nat.le_refl _) ?_
 have own2 := own.slc (l := 0) (h := k) (by omega) (by omega)
 have src2 := Sl.slc (m := v.cap) own.sl (by omega) (l := k + 1) (h' := v.len) (by omega) (Nat.le_refl _) hcap
 rw [Ap1 J4] at own2 src2
 refine Ae4 B91 srcIs [] [] own2 (by simp) (.sl src2) (Az2 _) (by simp only [N9, Int.toNat_natCast]; omega) fun s seg' hs _ hcap' own' => ?_
 rw [<- List.flatMap_append] at own'
 have e1 : (l.drop 0).take (k - 0) = l.take k := by simp
 have e2 : (l.drop (k + 1)).take (v.len - (k + 1)) = l.drop (k + 1) := by rw [hlen]; exact List.take_of_length_le (by rw [List.length_drop]; omega)
 rw [e1, e2] at own'
 simp only [N9, Int.toNat_natCast] at hs hcap'
 have hsc := own'.cap
 refine J5 (l' := s.len) (h' := v.len) (m' := s.cap) rfl rfl rfl (by omega) (by omega) (Nat.le_refl _) ?_
 refine Ad1 B91 rfl [] [] own' (by simp) (h := v.len) (by omega) (by omega) rfl fun seg2 own2 => ?_
 exact .of ⟨s, rfl, by simpa using own2⟩
abbrev A63 := SlV × List C9 × A4
def A91 (r : A63) : List Value := [.slice r.1.a r.1.len r.1.cap]
theorem M5 (r : A63) : (A91 r).length = 1 := rfl
def N0 (rows : List A63) : A4 := rows.flatMap fun r => r.2.2
theorem W4 (p s : List A63) (r : A63) : N0 (p ++ r :: s) = N0 p ++ (r.2.2 ++ N0 s) := by simp [N0]
def iO (m : Nat) (ways : Int) (sv : SlV) : Nat × Obj := (m, Obj.cells #[.i ways, .slice sv.a sv.len sv.cap] 221)
def IA (m : Nat) (ways : Int) (sv : SlV) (oseg : A4) (rows : List A63) : A4 := iO m ways sv :: (oseg ++ N0 rows)
structure IOk (sv : SlV) (oseg : A4) (rows : List A63) : Prop where
 own : Own sv 1 tyIs (rows.flatMap A91) oseg
 row : ∀ r ∈ rows, Own r.1 5 eIs (r.2.1.flatMap Ag3) r.2.2
 few : ∀ r ∈ rows, r.2.1.length <= 100
 pos : 1 <= rows.length /\ rows.length <= 64
def V1 (rows : List A63) : List (List C9) := rows.map fun r => r.2.1
def IX (m : Nat) (ways : Int) (ss : List (List C9)) (A : A4) : Prop := ∃ sv oseg rows, A = IA m ways sv oseg rows /\ IOk sv oseg rows /\ ss = V1 rows
section
variable {L : A4} {m : Nat} {ways : Int} {sv : SlV}
theorem i_ways (h : iO m ways sv ∈ L) : D0 ⟨m, 0, none⟩ [.i ways] L := ldB (by unfold iO at h; exact h) rfl
theorem Bo6 (h : iO m ways sv ∈ L) : D0 ⟨m, 1, none⟩ [.slice sv.a sv.len sv.cap] L := ldB (by unfold iO at h; exact h) rfl
end
theorem Ae1 (L : A4) (m : Nat) (ways : Int) (sv : SlV) (hm : iO m ways sv ∈ L) (a : Addr) (ha : sv.a = some a) (h1 : 1 <= sv.len) (h2 : sv.len <= 1000) (h : Nat) (hh : h < 2 ^ 64) :
  Reads PP 137 #[.pointer (some ⟨m, 0, none⟩), .int .u64 h] L (.pointer (some (a.add (h % sv.len)))) := by
 refine Reads.of (args := [.pointer (some ⟨m, 0, none⟩), .int .u64 h]) B5 B6 Tryz.func137 (e137 (some ⟨m, 0, none⟩) h _) ?_
 unfold t137
 have hm2 := Nat.mod_lt h (show sv.len > 0 by omega)
 refine A5 rfl (A5 rfl (A6 sv (Bo6 hm) (A6 sv (Bo6 hm) (B3 (C08 _ h sv.len hh h1 h2) (((h % sv.len : Nat) : Int), ()) rfl (E9 (Bo6 hm) (A5 ha (E0 (show (0 : Int) <= ((h % sv.len : Nat) : Int) by omega) (show ((h % sv.len : Nat) : Int) < sv.len by omega) ?_)))))))
 rw [Int.toNat_natCast, Nat.mul_one]
 exact .of ⟨rfl, rfl⟩
def isi (ss : List (List C9)) (h : Nat) : Nat := h % ss.length
def O2 (ss : List (List C9)) (h : Nat) : List C9 := ss.getD (isi ss h) []
def iset (ss : List (List C9)) (h : Nat) (row : List C9) : List (List C9) := ss.set (isi ss h) row
def P2 (ss : List (List C9)) (h : Nat) (p : Pl) : Option C9 := (O2 ss h).find? fun s => decide (s.nm = inm h p)
def G3 (l : List C9) (nm : Al6) : List C9 := l.eraseP fun s => decide (s.nm = nm)
theorem S9 (l : List C9) (nm : Al6) : (l.findIdx? (fun s => decide (s.nm = nm)) = none /\ l.find? (fun s => decide (s.nm = nm)) = none /\ G3 l nm = l) \/
  ∃ (j : Nat) (hj : j < l.length), l.findIdx? (fun s => decide (s.nm = nm)) = some j /\ l.find? (fun s => decide (s.nm = nm)) = some l[j] /\ l[j].nm = nm /\ G3 l nm = l.take j ++ l.drop (j + 1) := by
 cases h : l.findIdx? (fun s => decide (s.nm = nm)) with
 | none =>
  rw [List.findIdx?_eq_none_iff] at h
  refine .inl ⟨rfl, ?_, List.eraseP_of_forall_not (fun a ha => by have := h a ha; simp only [this]; decide)⟩
  rw [List.find?_eq_none]
  intro x hx
  rw [h x hx]; decide
 | some j =>
  rw [List.findIdx?_eq_some_iff_getElem] at h
  obtain ⟨hj, h1, h2⟩ := h
  have hl : l = l.take j ++ l[j] :: l.drop (j + 1) := by rw [<- List.drop_eq_getElem_cons hj, List.take_append_drop]
  have hb : ∀ b ∈ l.take j, ¬ decide (b.nm = nm) = true := by
   intro b hb
   obtain ⟨i, hi, rfl⟩ := List.mem_take_iff_getElem.1 hb
   have := h2 i (by omega)
   simpa using this
  refine .inr ⟨j, hj, rfl, ?_, by simpa using h1, ?_⟩
  ·rw [List.find?_eq_some_iff_append]
   exact ⟨h1, l.take j, l.drop (j + 1), hl, fun a ha => by have := hb a ha; simpa using this⟩
  ·unfold G3
   conv => lhs; rw [hl]
   rw [List.eraseP_append_right _ hb, List.eraseP_cons_of_pos (p := fun s : C9 => decide (s.nm = nm)) h1]
theorem IX.split {m : Nat} {ways : Int} {ss : List (List C9)} {A : A4} (h : IX m ways ss A) (hs : Nat) : ∃ sv oseg p r s a, A = IA m ways sv oseg (p ++ r :: s) /\ IOk sv oseg (p ++ r :: s) /\ sv.a = some a /\ 1 <= sv.len /\ sv.len <= 64 /\ hs % sv.len = p.length /\ O2 ss hs = r.2.1 /\
  (∀ row', iset ss hs row' = V1 p ++ row' :: V1 s) := by
 obtain ⟨sv, oseg, rows, rfl, ok, rfl⟩ := h
 have hlen := ok.own.sl.els_len M5 (by decide)
 have hpos := ok.pos
 have hi : hs % rows.length < rows.length := Nat.mod_lt _ (by omega)
 have hl : rows = rows.take (hs % rows.length) ++ rows[hs % rows.length] :: rows.drop (hs % rows.length + 1) := by rw [<- List.drop_eq_getElem_cons hi, List.take_append_drop]
 have hsl : (V1 rows).length = rows.length := List.length_map ..
 obtain ⟨a, ha⟩ : ∃ a, sv.a = some a := by
  obtain ⟨a, ha, _⟩ := ok.own.sl.el M5 (by decide) (i := 0) (by omega)
  exact ⟨a, ha⟩
 refine ⟨sv, oseg, rows.take (hs % rows.length), rows[hs % rows.length], rows.drop (hs % rows.length + 1), a, by rw [<- hl], by rw [<- hl]; exact ok, ha, by omega, by omega, by rw [hlen, List.length_take]; omega, ?_, fun row' => ?_⟩
 ·unfold O2 isi
  rw [hsl, List.getD_eq_getElem?_getD]
  unfold V1
  rw [List.getElem?_map, List.getElem?_eq_getElem hi]; rfl
 ·unfold iset isi
  rw [hsl]
  unfold V1
  rw [List.set_eq_take_append_cons_drop, if_pos (by rw [List.length_map]; exact hi), List.map_take, List.map_drop]
theorem IX.same {m : Nat} {ways : Int} {ss : List (List C9)} {A : A4} (h : IX m ways ss A) (hs : Nat) : iset ss hs (O2 ss hs) = ss := by
 obtain ⟨sv, oseg, rows, rfl, ok, rfl⟩ := h
 have hsl : (V1 rows).length = rows.length := List.length_map ..
 have hi : hs % (V1 rows).length < (V1 rows).length := Nat.mod_lt _ (by have := ok.pos; omega)
 unfold iset O2 isi
 rw [List.getD_eq_getElem?_getD, List.getElem?_eq_getElem hi]
 exact List.set_getElem_self ..
section
variable {L : A4} {m : Nat} {ways : Int} {sv : SlV} {oseg : A4} {p s : List A63} {r : A63} {a : Addr}
theorem Bv1 (ok : IOk sv oseg (p ++ r :: s)) (ha : sv.a = some a) (hL : ∀ x ∈ oseg, x ∈ L) : D0 (a.add p.length) [.slice r.1.a r.1.len r.1.cap] L := by
 obtain ⟨a', ha', hl⟩ := ok.own.sl.el M5 (by decide) (i := p.length) (by simp)
 rw [ha] at ha'
 obtain rfl := Option.some.inj ha'
 rw [show (p ++ r :: s)[p.length]'(by simp) = r by simp, Nat.mul_one] at hl
 exact hl.mono hL
theorem Al0 (ok : IOk sv oseg (p ++ r :: s)) (hL : ∀ x ∈ r.2.2, x ∈ L) : Sl L r.1 5 (r.2.1.flatMap Ag3) := (ok.row r (by simp)).sl.mono hL
theorem rput (p s : List A63) (r r' : A63) : Aw0 ((p ++ r :: s).flatMap A91) p.length (A91 r') = (p ++ r' :: s).flatMap A91 := by
 have hp : (p.flatMap A91).length = p.length := by rw [M7 M5, Nat.mul_one]
 rw [List.flatMap_append, List.flatMap_append, List.flatMap_cons, List.flatMap_cons]
 unfold Aw0
 rw [List.take_left' hp, M5, <- List.drop_drop, List.drop_left' hp]
 rw [List.append_assoc]
 rfl
theorem Cl2 (ok : IOk sv oseg (p ++ r :: s)) (r' : A63) {seg' : A4} (own' : Own sv 1 tyIs (Aw0 ((p ++ r :: s).flatMap A91) p.length (A91 r')) seg') (h : Own r'.1 5 eIs (r'.2.1.flatMap Ag3) r'.2.2) (hf : r'.2.1.length <= 100) : IOk sv seg' (p ++ r' :: s) := by
 rw [rput] at own'
 refine ⟨own', fun x hx => ?_, fun x hx => ?_, by have := ok.pos; rw [List.length_append, List.length_cons] at this ⊢; exact this⟩
 ·rcases List.mem_append.1 hx with h1 | h1
  ·exact ok.row x (by simp [h1])
  ·rcases List.mem_cons.1 h1 with rfl | h2
   ·exact h
   ·exact ok.row x (by simp [h2])
 ·rcases List.mem_append.1 hx with h1 | h1
  ·exact ok.few x (by simp [h1])
  ·rcases List.mem_cons.1 h1 with rfl | h2
   ·exact hf
   ·exact ok.few x (by simp [h2])
end
theorem Ae0 (p s : List A63) (r : A63) : V1 (p ++ r :: s) = V1 p ++ r.2.1 :: V1 s := by simp [V1]
theorem Ap0 (m : Nat) (ways : Int) (ss : List (List C9)) (A : A4) (hA : IX m ways ss A) (h : Nat) (hh : h < 2 ^ 64) (pl : Pl) :
  CallF PP 176 #[.pointer (some ⟨m, 0, none⟩), .int .u64 h, .agg #[.i pl.1, .i pl.2.1, .i pl.2.2.1]] A
   fun v L' => (∃ x : C9, v = .tuple #[.agg #[.i x.part, .i x.b, .i x.p, .i x.e, .i x.freq], .bool (P2 ss h pl).isSome] /\ x = (P2 ss h pl).getD isz) /\ IX m ways (iset ss h (G3 (O2 ss h) (inm h pl))) L' := by
 have hsame := hA.same h
 obtain ⟨sv, oseg, p, r, s, a, rfl, ok, ha, hl1, hl2, hp, hrow, hset⟩ := hA.split h
 refine CallF.of (args := [.pointer (some ⟨m, 0, none⟩), .int .u64 h, .agg #[.i pl.1, .i pl.2.1, .i pl.2.2.1]]) B5 B6 Tryz.func176 (e176 (some ⟨m, 0, none⟩) h pl _) ?_
 unfold t176
 have hg : iO m ways sv ∈ IA m ways sv oseg (p ++ r :: s) := List.mem_cons_self
 have hos : ∀ {X : A4}, (∀ x ∈ oseg, x ∈ X ++ IA m ways sv oseg (p ++ r :: s)) := fun x hx => by unfold IA; simp [hx]
 have hrs : ∀ {X : A4}, (∀ x ∈ r.2.2, x ∈ X ++ IA m ways sv oseg (p ++ r :: s)) := fun x hx => by unfold IA N0; simp [hx]
 have hb := ok.few r (by simp)
 refine C3 fun n1 _ => C3 fun n2 _ => ifF rfl ?_
 generalize ho1 : (n1, Obj.cells #[.i pl.1, .i pl.2.1, .i pl.2.2.1] 102) = o1
 generalize ho2 : (n2, Obj.cells #[.i 0, .i 0, .i 0, .i 0, .i 0] 204) = o2
 have l1 : ∀ {Z : A4}, D0 ⟨n1, 0, none⟩ [.i pl.1, .i pl.2.1, .i pl.2.2.1] (o2 :: o1 :: Z) := by subst ho1; exact ldB (n := n1) (c := #[.i pl.1, .i pl.2.1, .i pl.2.2.1]) (T := 102) (fz := (0, 0)) (by simp) rfl
 refine A6 pl l1 (B3 (Ae1 _ m ways sv (by simp [hg]) a ha hl1 (by omega) h hh) (some (a.add (h % sv.len)), ()) rfl (E9 l1 ?_))
 rw [hp]
 refine B3 (Bb8 _ h hh pl) ((Q8 h, pl.1, pl.2.1, pl.2.2.1, ()), ()) rfl (C3 fun n3 _ => E3 [] _ rfl rfl (by simp) (.inl (Nat.le_refl _)) #[.i (Q8 h), .i pl.1, .i pl.2.1, .i pl.2.2.1] rfl ?_)
 rw [List.nil_append]
 generalize ho3 : (n3, Obj.cells #[.i (Q8 h), .i pl.1, .i pl.2.1, .i pl.2.2.1] 202) = o3
 have l3 : ∀ {Z : A4}, D0 ⟨n3, 0, none⟩ [.i (inm h pl).1, .i (inm h pl).2.1, .i (inm h pl).2.2.1, .i (inm h pl).2.2.2] (o3 :: Z) := by subst ho3; exact ldB List.mem_cons_self rfl
 have lr : D0 (a.add p.length) [.slice r.1.a r.1.len r.1.cap] (o3 :: o2 :: o1 :: IA m ways sv oseg (p ++ r :: s)) := Bv1 ok ha (hos (X := [o3, o2, o1]))
 have lsl : Sl (o3 :: o2 :: o1 :: IA m ways sv oseg (p ++ r :: s)) r.1 5 (r.2.1.flatMap Ag3) := Al0 ok (hrs (X := [o3, o2, o1]))
 refine A5 rfl (A6 r.1 lr (B3 (Cl0 _ r.1 r.2.1 lsl (by omega) ⟨n3, 0, none⟩ (inm h pl) l3) (_, ()) rfl ?_))
 rcases S9 r.2.1 (inm h pl) with ⟨e1, e2, e3⟩ | ⟨j, hj, e1, e2, e4, e3⟩
 ·rw [e1]
  refine ifP (show (-1 : Int) < 0 by decide) ?_
  subst ho2
  refine E3 [o3] _ rfl rfl (by simp) (.inl (Nat.le_refl _)) #[.i 0, .i 0, .i 0, .i 0, .i 0] rfl ?_
  refine A6 (0, 0, 0, 0, 0, ()) (ldB (n := n2) (c := #[.i 0, .i 0, .i 0, .i 0, .i 0]) (T := 204) (fz := (0, 0)) (by simp) rfl) (.cons (.cons (.cons (.of ⟨?_, ?_⟩))))
  ·have : P2 ss h pl = none := by unfold P2; rw [hrow, e2]
   rw [this]
   exact ⟨isz, rfl, rfl⟩
  ·rw [hrow, e3, <- hrow, hsame]
   exact ⟨sv, oseg, _, rfl, ok, by rw [Ae0, <- hset, <- hrow, hsame]⟩
 ·rw [e1]
  have hlen := lsl.els_len J4 (by decide)
  have hj0 : (0 : Int) <= (j : Int) := by omega
  have hj1 : (j : Int) < r.1.len := by omega
  refine ifN (show ¬ (j : Int) < 0 by omega) ?_
  obtain ⟨b, hb', hld⟩ := lsl.el J4 (by decide) hj
  have hld2 : D0 (b.add ((j : Int).toNat * 5)) (Ag3 r.2.1[j]) (o3 :: o2 :: o1 :: IA m ways sv oseg (p ++ r :: s)) := by rw [Int.toNat_natCast]; exact hld
  refine A5 rfl (A6 r.1 lr (A5 hb' (E0 hj0 hj1 (A6 (r.2.1[j].part, r.2.1[j].b, r.2.1[j].p, r.2.1[j].e, r.2.1[j].freq, ()) hld2 ?_))))
  clear hld hld2
  generalize hx : r.2.1[j] = x at *
  refine C3 fun n4 _ => E3 [] _ rfl rfl (by simp) (.inl (Nat.le_refl _)) #[.i x.part, .i x.b, .i x.p, .i x.e, .i x.freq] rfl ?_
  rw [List.nil_append]
  generalize ho4 : (n4, Obj.cells #[.i x.part, .i x.b, .i x.p, .i x.e, .i x.freq] 204) = o4
  have l4 : ∀ {Z : A4}, D0 ⟨n4, 0, none⟩ [.i x.part, .i x.b, .i x.p, .i x.e, .i x.freq] (o4 :: Z) := by subst ho4; exact ldB List.mem_cons_self rfl
  have hw : IntKind.i64.wrap ((j : Int) + 1) = (j : Int) + 1 := C1 (by omega) (by omega)
  refine A5 rfl (A6 r.1 (lr.mono fun _ hx => List.mem_cons_of_mem _ hx) ?_)
  simp only [hw]
  refine H4 (o4 :: o3 :: o2 :: o1 :: iO m ways sv :: (oseg ++ N0 p)) (N0 s) (B68 r.1 r.2.1 r.2.2 (ok.row r (by simp)) (by omega) j hj) (by unfold IA; rw [W4]; simp) ?_
  rintro _ seg2 - ⟨v2, rfl, own2⟩
  refine ⟨(v2, ()), rfl, A5 rfl ?_⟩
  rw [<- e3] at own2
  refine ok.own.st (o4 :: o3 :: o2 :: o1 :: [iO m ways sv]) (N0 p ++ seg2 ++ N0 s) (p := p.length) (ws := A91 (v2, G3 r.2.1 (inm h pl), seg2)) (by rw [M7 M5, M5]; simp) (by rw [M5]; omega) ha rfl (by simp) fun oseg' own' => ?_
  have ok' := Cl2 ok (v2, G3 r.2.1 (inm h pl), seg2) own' own2 (Nat.le_trans (List.length_eraseP_le ..) hb)
  refine A6 (x.part, x.b, x.p, x.e, x.freq, ()) l4 ?_
  subst ho2
  refine E3 [o4, o3] _ rfl rfl (by simp) (.inl (Nat.le_refl _)) #[.i x.part, .i x.b, .i x.p, .i x.e, .i x.freq] rfl ?_
  refine A6 (x.part, x.b, x.p, x.e, x.freq, ()) (ldB (n := n2) (c := #[.i x.part, .i x.b, .i x.p, .i x.e, .i x.freq]) (T := 204) (fz := (0, 0)) (by simp) rfl) (.cons (.cons (.cons (.cons (.of ⟨?_, ?_⟩)))))
  ·have : P2 ss h pl = some x := by unfold P2; rw [hrow, e2]
   rw [this]
   exact ⟨x, rfl, rfl⟩
  ·rw [hrow]
   refine ⟨sv, oseg', _, ?_, ok', by rw [hset, Ae0]⟩
   unfold IA
   rw [W4]
   simp
theorem Bb3 (m : Nat) (ways : Int) (ss : List (List C9)) (A : A4) (hA : IX m ways ss A) (h : Nat) (hh : h < 2 ^ 64) (x : C9) (hf : (O2 ss h).length < 100) :
  CallF PP 230 #[.pointer (some ⟨m, 0, none⟩), .int .u64 h, .agg #[.i x.part, .i x.b, .i x.p, .i x.e, .i x.freq]] A
   fun v L' => v = .tuple #[] /\ IX m ways (iset ss h (O2 ss h ++ [x])) L' := by
 obtain ⟨sv, oseg, p, r, s, a, rfl, ok, ha, hl1, hl2, hp, hrow, hset⟩ := hA.split h
 refine CallF.of (args := [.pointer (some ⟨m, 0, none⟩), .int .u64 h, .agg #[.i x.part, .i x.b, .i x.p, .i x.e, .i x.freq]]) B5 B6 Tryz.func230 (e230 (some ⟨m, 0, none⟩) h (x.part, x.b, x.p, x.e, x.freq, ()) _) ?_
 unfold t230
 refine C3 fun n1 _ => ?_
 rw [hrow] at hf ⊢
 have hlen := (ok.row r (by simp)).sl.els_len J4 (by decide)
 refine B3 (Ae1 _ m ways sv (by unfold IA; simp) a ha hl1 (by omega) h hh) (some (a.add (h % sv.len)), ()) rfl ?_
 rw [hp]
 refine A5 rfl (A6 r.1 (Bv1 ok ha (fun x hx => by unfold IA; simp [hx])) (A6 (x.part, x.b, x.p, x.e, x.freq, ()) (ldB List.mem_cons_self rfl) (C3 fun n2 _ => ?_)))
 generalize ho1 : (n1, Obj.cells #[.i x.part, .i x.b, .i x.p, .i x.e, .i x.freq] 204) = o1
 have hsrc : ∀ {Z : A4}, Sl ((n2, Obj.cells #[.i x.part, .i x.b, .i x.p, .i x.e, .i x.freq] eIs) :: Z) ⟨some ⟨n2, 0, none⟩, 1, 1⟩ 5 ([x].flatMap Ag3) := fun {Z} => ⟨rfl, Nat.le_refl _, .inr ⟨_, rfl, ldB List.mem_cons_self rfl⟩⟩
 refine E5 B91 srcIs ((n2, Obj.cells #[.i x.part, .i x.b, .i x.p, .i x.e, .i x.freq] eIs) :: o1 :: iO m ways sv :: (oseg ++ N0 p)) (N0 s) (ok.row r (by simp)) (by unfold IA; rw [W4]; simp) (.sl hsrc) (Az2 _) (by simp only; omega) fun v2 seg2 hv2 own2 => ?_
 rw [<- List.flatMap_append] at own2
 refine A5 rfl (ok.own.st ((n2, Obj.cells #[.i x.part, .i x.b, .i x.p, .i x.e, .i x.freq] eIs) :: o1 :: [iO m ways sv]) (N0 p ++ seg2 ++ N0 s) (p := p.length) (ws := A91 (v2, r.2.1 ++ [x], seg2)) (by rw [M7 M5, M5]; simp) (by rw [M5]; omega) ha rfl (by simp) fun oseg' own' => ?_)
 have ok' := Cl2 ok (v2, r.2.1 ++ [x], seg2) own' own2 (by rw [List.length_append]; simp only [List.length_cons, List.length_nil]; omega)
 refine .cons (.cons (.of ⟨rfl, sv, oseg', _, ?_, ok', by rw [hset, Ae0]⟩))
 unfold IA
 rw [W4]
 simp
end Go.Proofs.YtbaoieipijmakaaGreatDoor
