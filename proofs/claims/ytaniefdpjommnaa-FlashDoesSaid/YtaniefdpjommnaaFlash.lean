/-
  It is proved what the inner functions of the layer flash compute. There are no further conditions than those that each theorem names.
-/
import Derived.Test.YtaniefdpjommnaaHL22
import Derived.Test.YtaniefdpjommnaaWireGet
set_option linter.unusedVariables false
set_option linter.unusedSimpArgs false
namespace Go.Proofs.Ytaniefdpjommnaa
open Go.HL

/-! ### a device as plain data -/
structure Cfg where
  B : Nat
  P : Nat
  S : Nat
  W : Nat
structure CfgOk (c : Cfg) : Prop where
  b : 2 ≤ c.B ∧ c.B ≤ 16
  p : 4 ≤ c.P ∧ c.P ≤ 16
  s : 64 ≤ c.S ∧ c.S ≤ 512
  w : 1 ≤ c.W ∧ c.W ≤ 1048576
structure Blk where
  pages : List (List UInt8)
  next : Nat
  wear : Nat
  bad : Bool
structure Tn where
  b : Nat
  p : Nat
  meant : List UInt8
  image : List UInt8
structure Dev where
  c : Cfg
  after : Nat
  keep : Int
  down : Bool
  bs : List Blk
  bytes : Int
  torn : List Tn
def blk (n : Nat) : List UInt8 := List.replicate n 255
/-- The operation is torn, or is not. -/
def tear (d : Dev) : Bool × Dev := if d.after = 0 then (false, d) else (decide (d.after = 1), { d with after := d.after - 1, down := decide (d.after = 1) })
def keptN (k : Int) (n : Nat) : Nat := min k.toNat n
theorem tear_c (d : Dev) : (tear d).2.c = d.c ∧ (tear d).2.bs = d.bs ∧ (tear d).2.keep = d.keep ∧ (tear d).2.bytes = d.bytes ∧ (tear d).2.torn = d.torn := by unfold tear; split <;> exact ⟨rfl, rfl, rfl, rfl, rfl⟩

/-! ### what a device is in memory -/
abbrev tBk : TypeId := 97
abbrev tFl : TypeId := 93
abbrev tPs : TypeId := 95
abbrev tPb : TypeId := 91
abbrev ePb : TypeId := 94
abbrev tTs : TypeId := 60
abbrev eT : TypeId := 76
theorem undPs : PP.underlying tPs = some (.slice tB) := by kernel_rfl
theorem elemPs : ElemT PP tPs tB 1 24 [.slice none 0 0] := elemT_of (by kernel_rfl) (by kernel_rfl) rfl (by decide) (by decide)
theorem elemPb : ElemT PP tPb ePb 1 8 [.pointer none] := elemT_of (by kernel_rfl) (by kernel_rfl) rfl (by decide) (by decide)
theorem srcPb : SrcT PP tPb := .inl ⟨ePb, by kernel_rfl⟩
theorem elemTs : ElemT PP tTs eT 4 64 [.int .i64 0, .int .i64 0, .slice none 0 0, .slice none 0 0] := elemT_of (by kernel_rfl) (by kernel_rfl) rfl (by decide) (by decide)
theorem srcTs : SrcT PP tTs := .inl ⟨eT, by kernel_rfl⟩
/-- Bytes with their own place. -/
structure PG where
  v : SlV
  seg : HList
  l : List UInt8
def PG.Ok (g : PG) : Prop := Own g.v 1 eB (bvs g.l) g.seg
def PG.val (g : PG) : Value := .slice g.v.a g.v.len g.v.cap
def pgs (l : List PG) : HList := l.flatMap PG.seg
theorem pgs_append (a b : List PG) : pgs (a ++ b) = pgs a ++ pgs b := List.flatMap_append
theorem pgs_cons (a : PG) (b : List PG) : pgs (a :: b) = a.seg ++ pgs b := rfl
theorem pgs_one (a : PG) : pgs [a] = a.seg := by simp [pgs]
theorem vals_plain (l : List PG) : (l.map PG.val).all plainV = true := by
  induction l with
  | nil => rfl
  | cons e r ih => rw [List.map_cons, List.all_cons, ih]; rfl
def pg0 : PG := ⟨⟨none, 0, 0⟩, [], []⟩
theorem pg0_ok : pg0.Ok := own_nil
structure PB where
  id : Nat
  v : SlV
  seg : HList
  ps : List PG
  next : Nat
  wear : Nat
  bad : Bool
def PB.blk (b : PB) : Blk := ⟨b.ps.map PG.l, b.next, b.wear, b.bad⟩
def PB.obj (b : PB) : Nat × Obj := (b.id, .cells #[.slice b.v.a b.v.len b.v.cap, .int .i64 b.next, .int .i64 b.wear, .bool b.bad] tBk)
def PB.objs (b : PB) : HList := b.obj :: (b.seg ++ pgs b.ps)
structure PB.Ok (b : PB) : Prop where
  own : Own b.v 1 tB (b.ps.map PG.val) b.seg
  ps : ∀ g ∈ b.ps, g.Ok
def pbp (b : PB) : Value := .pointer (some ⟨b.id, 0, none⟩)
def fO (m : Nat) (d : Dev) (bv tv : SlV) : Nat × Obj :=
  (m, .cells #[.int .i64 d.after, .int .i64 d.keep, .bool d.down, .int .i64 d.c.B, .int .i64 d.c.P, .int .i64 d.c.S, .int .i64 d.c.W, .slice bv.a bv.len bv.cap, .int .i64 d.bytes, .slice tv.a tv.len tv.cap] tFl)
section
variable {L : HList} {m : Nat} {d : Dev} {bv tv : SlV} {b : PB}
theorem b_ps (h : b.obj ∈ L) : LdAt ⟨b.id, 0, none⟩ [.slice b.v.a b.v.len b.v.cap] L := ldB (by unfold PB.obj at h; exact h) rfl
theorem b_next (h : b.obj ∈ L) : LdAt ⟨b.id, 1, none⟩ [.int .i64 b.next] L := ldB (by unfold PB.obj at h; exact h) rfl
theorem b_wear (h : b.obj ∈ L) : LdAt ⟨b.id, 2, none⟩ [.int .i64 b.wear] L := ldB (by unfold PB.obj at h; exact h) rfl
theorem b_bad (h : b.obj ∈ L) : LdAt ⟨b.id, 3, none⟩ [.bool b.bad] L := ldB (by unfold PB.obj at h; exact h) rfl
theorem f_after (h : fO m d bv tv ∈ L) : LdAt ⟨m, 0, none⟩ [.int .i64 d.after] L := ldB (by unfold fO at h; exact h) rfl
theorem f_keep (h : fO m d bv tv ∈ L) : LdAt ⟨m, 1, none⟩ [.int .i64 d.keep] L := ldB (by unfold fO at h; exact h) rfl
theorem f_down (h : fO m d bv tv ∈ L) : LdAt ⟨m, 2, none⟩ [.bool d.down] L := ldB (by unfold fO at h; exact h) rfl
theorem f_cfg (h : fO m d bv tv ∈ L) : LdAt ⟨m, 3, none⟩ [.int .i64 d.c.B, .int .i64 d.c.P, .int .i64 d.c.S, .int .i64 d.c.W] L := ldB (by unfold fO at h; exact h) rfl
theorem f_P (h : fO m d bv tv ∈ L) : LdAt ⟨m, 4, none⟩ [.int .i64 d.c.P] L := ldB (by unfold fO at h; exact h) rfl
theorem f_S (h : fO m d bv tv ∈ L) : LdAt ⟨m, 5, none⟩ [.int .i64 d.c.S] L := ldB (by unfold fO at h; exact h) rfl
theorem f_W (h : fO m d bv tv ∈ L) : LdAt ⟨m, 6, none⟩ [.int .i64 d.c.W] L := ldB (by unfold fO at h; exact h) rfl
theorem f_bs (h : fO m d bv tv ∈ L) : LdAt ⟨m, 7, none⟩ [.slice bv.a bv.len bv.cap] L := ldB (by unfold fO at h; exact h) rfl
theorem f_bytes (h : fO m d bv tv ∈ L) : LdAt ⟨m, 8, none⟩ [.int .i64 d.bytes] L := ldB (by unfold fO at h; exact h) rfl
theorem f_torn (h : fO m d bv tv ∈ L) : LdAt ⟨m, 9, none⟩ [.slice tv.a tv.len tv.cap] L := ldB (by unfold fO at h; exact h) rfl
end

/-! ### the inner functions -/
theorem within_rd (L : HList) (n a b : Int) : Reads PP 52 #[.int .i64 n, .int .i64 a, .int .i64 b] L (.bool (decide (a ≤ n ∧ n ≤ b))) := by
  refine Reads.of (args := [.int .i64 n, .int .i64 a, .int .i64 b]) noNum mixed Try.func52 (e52 n a b _) ?_
  unfold t52
  refine ifD_of (fun (h : n ≥ a) => .of ⟨?_, rfl⟩) (fun (h : ¬ n ≥ a) => .of ⟨?_, rfl⟩)
  · congr 1
    by_cases h2 : n ≤ b
    · rw [decide_eq_true h2, decide_eq_true (by omega)]
    · rw [decide_eq_false h2, decide_eq_false (by omega)]
  · congr 1
    rw [decide_eq_false (by omega)]
theorem blank_cl (n : Nat) (hn : n ≤ 1048576) : CallF PP 63 #[.int .i64 n] [] fun r L' => ∃ (g : PG), r = g.val ∧ L' = g.seg ∧ g.Ok ∧ g.l = blk n := by
  refine CallF.of (args := [.int .i64 n]) noNum mixed Try.func63 (e63 n _) ?_
  unfold t63
  refine make_of elemB (l := n) (c := n) (Nat.le_refl _) (by omega) fun q ob own _ _ => ?_
  rw [zeros_bvs] at own
  refine lp_of (fun z' z L' => ∃ (i : Nat) (seg : HList), i ≤ n ∧ z' = n - i ∧ z = ((i : Int), ()) ∧ L' = seg ∧ Own ⟨some ⟨q, 0, none⟩, n, n⟩ 1 eB (bvs (List.replicate i 255 ++ List.replicate (n - i) 0)) seg) n ⟨0, [(q, ob)], by omega, by omega, rfl, rfl, by simpa using own⟩ ?_
  rintro z' z L ⟨i, seg, hi, rfl, rfl, rfl, own⟩
  refine ifD_of (fun (hlt : (i : Int) < (n : Nat)) => ?_) (fun (hge : ¬ (i : Int) < (n : Nat)) => ?_)
  · refine nilc_of rfl (ixn_of (show (0 : Int) ≤ i by omega) hlt ?_)
    refine own.st (p := i) [] [] (by rw [bvs_length, List.length_append, List.length_replicate, List.length_replicate, List.length_singleton]; omega) (by simp) rfl (by rw [Int.toNat_natCast, Nat.mul_one]) (by simp) fun seg' own' => ?_
    rw [putL_one (by rw [bvs_length, List.length_append, List.length_replicate, List.length_replicate]; omega)] at own'
    refine ⟨n - (i + 1), by omega, i + 1, seg', by omega, rfl, ?_, by simp, ?_⟩
    · rw [w64_id (by first | omega | (simp only; omega)) (by first | omega | (simp only; omega))]
      rfl
    · have : (bvs (List.replicate i 255 ++ List.replicate (n - i) 0)).set i (.int .u8 255) = bvs (List.replicate (i + 1) 255 ++ List.replicate (n - (i + 1)) 0) := by
        have h1 := bvs_set (List.replicate i 255 ++ List.replicate (n - i) 0) i 255
        rw [show ((255 : UInt8).toNat : Int) = 255 by decide] at h1
        rw [h1]
        congr 1
        rw [List.set_append, if_neg (by simp), List.length_replicate, Nat.sub_self, show n - i = (n - (i + 1)) + 1 by omega, List.replicate_succ, List.set_cons_zero, List.replicate_succ', List.append_assoc]
        rfl
      rw [this] at own'
      exact own'
  · obtain rfl : i = n := by omega
    refine .of ⟨⟨⟨some ⟨q, 0, none⟩, i, i⟩, L, blk i⟩, rfl, rfl, ?_, rfl⟩
    rw [Nat.sub_self, List.replicate_zero, List.append_nil] at own
    exact own
theorem wipe_cl (b : PB) (hb : b.Ok) (n S : Nat) (hn : n ≤ b.ps.length) (hn2 : n ≤ 1048576) (hS : S ≤ 1048576) :
    CallF PP 53 #[.pointer (some ⟨b.id, 0, none⟩), .int .i64 n, .int .i64 S] b.objs fun r L' => r = .tuple #[] ∧ ∃ (seg' : HList) (ps' : List PG), L' = ({ b with seg := seg', ps := ps' } : PB).objs ∧ ({ b with seg := seg', ps := ps' } : PB).Ok ∧ ps'.map PG.l = List.replicate n (blk S) ++ (b.ps.map PG.l).drop n := by
  refine CallF.of (args := [.pointer (some ⟨b.id, 0, none⟩), .int .i64 n, .int .i64 S]) noNum mixed Try.func53 (e53 (some ⟨b.id, 0, none⟩) n S _) ?_
  unfold t53
  refine lp_of (fun z' z L' => ∃ (i : Nat) (seg' : HList) (D : List PG) (J : HList), i ≤ n ∧ z' = n - i ∧ z = ((i : Int), ()) ∧ L' = b.obj :: (seg' ++ (pgs D ++ (J ++ pgs (b.ps.drop i)))) ∧ Own b.v 1 tB ((D ++ b.ps.drop i).map PG.val) seg' ∧ D.length = i ∧ (∀ g ∈ D, g.Ok) ∧ D.map PG.l = List.replicate i (blk S)) n
    ⟨0, b.seg, [], [], by omega, by omega, rfl, rfl, hb.own, rfl, by simp, rfl⟩ ?_
  rintro z' z L ⟨i, seg', D, J, hi, rfl, rfl, rfl, own, hD, hok, hl⟩
  have hsl : Sl (b.obj :: (seg' ++ (pgs D ++ (J ++ pgs (b.ps.drop i))))) b.v 1 ((D ++ b.ps.drop i).map PG.val) := own.sl.left.cons
  have hvl : b.v.len = b.ps.length := by
    have := own.len
    rw [List.length_map, List.length_append, List.length_drop] at this
    omega
  refine ifD_of (fun (hlt : (i : Int) < (n : Int)) => ?_) (fun (hge : ¬ (i : Int) < (n : Int)) => ?_)
  · have hi' : i < b.ps.length := by omega
    have hdr : b.ps.drop i = b.ps[i] :: b.ps.drop (i + 1) := List.drop_eq_getElem_cons hi'
    refine nilc_of rfl (ld_of b.v (b_ps List.mem_cons_self) ?_)
    refine cl_in (b.obj :: (seg' ++ pgs D)) (J ++ pgs (b.ps.drop i)) (blank_cl S hS) (by simp) ?_
    rintro _ _ - ⟨g, rfl, rfl, hg, hgl⟩
    refine ⟨(g.v, ()), rfl, keep_of (b_ps (by simp)) ?_⟩
    obtain ⟨a, ha, -⟩ := hsl.at' (i := i) (by omega) (by decide)
    refine nilc_of ha (ixn_of (show (0 : Int) ≤ i by omega) (show (i : Int) < b.v.len by omega) ?_)
    refine own.st (p := i) [b.obj] (pgs D ++ (g.seg ++ (J ++ pgs (b.ps.drop i)))) (by rw [List.length_map, List.length_append, List.length_drop, List.length_singleton]; omega) (by simp) ha (by rw [Int.toNat_natCast, Nat.mul_one]) (by simp) fun seg2 own2 => ?_
    rw [putL_one (by rw [List.length_map, List.length_append, List.length_drop]; omega)] at own2
    refine ⟨n - (i + 1), by omega, i + 1, seg2, D ++ [g], J ++ b.ps[i].seg, by omega, rfl, ?_, ?_, ?_, by simp [hD], ?_, ?_⟩
    · rw [w64_id (by first | omega | (simp only; omega)) (by first | omega | (simp only; omega))]
      rfl
    · rw [hdr, pgs_cons, pgs_append, pgs_one]; simp
    · have : (((D ++ b.ps.drop i).map PG.val).set i g.val) = (((D ++ [g]) ++ b.ps.drop (i + 1)).map PG.val) := by
        rw [hdr, List.map_append, List.set_append, if_neg (by simp [hD]), List.length_map, hD, Nat.sub_self, List.map_cons, List.set_cons_zero]
        simp
      rw [← this]
      exact own2
    · intro x hx
      rcases List.mem_append.1 hx with h | h
      · exact hok x h
      · rw [List.mem_singleton.1 h]; exact hg
    · rw [List.map_append, hl, List.replicate_succ', List.map_singleton, hgl]
  · obtain rfl : i = n := by omega
    refine .drop (A := ({ b with seg := seg', ps := D ++ b.ps.drop i } : PB).objs) (J := J) ⟨rfl, seg', D ++ b.ps.drop i, rfl, ⟨own, fun x hx => ?_⟩, ?_⟩ ?_
    · rcases List.mem_append.1 hx with h | h
      · exact hok x h
      · exact hb.ps x (List.mem_of_mem_drop h)
    · rw [List.map_append, hl, List.map_drop]
    · show (b.obj :: (seg' ++ (pgs D ++ (J ++ pgs (b.ps.drop i))))).Perm ((b.obj :: (seg' ++ pgs (D ++ b.ps.drop i))) ++ J)
      rw [pgs_append]
      classical
      rw [List.perm_iff_count]
      intro x
      simp only [List.append_eq, List.cons_append, List.count_append, List.count_cons, List.count_nil]
      omega
theorem worn_cl (b : PB) (W : Int) (hw : b.wear ≤ 1048576) :
    CallF PP 66 #[.pointer (some ⟨b.id, 0, none⟩), .int .i64 W] [b.obj] fun r L' => r = .bool (decide (((b.wear + 1 : Nat) : Int) = W)) ∧ L' = [({ b with next := 0, wear := b.wear + 1, bad := decide (((b.wear + 1 : Nat) : Int) = W) } : PB).obj] := by
  refine CallF.of (args := [.pointer (some ⟨b.id, 0, none⟩), .int .i64 W]) noNum mixed Try.func66 (e66 (some ⟨b.id, 0, none⟩) W _) ?_
  unfold t66
  have hww : IntKind.i64.wrap ((b.wear : Int) + 1) = ((b.wear + 1 : Nat) : Int) := by rw [w64_id (by omega) (by omega)]; omega
  refine nilc_of rfl (st_of (n := b.id) (off := 1) (c := #[.slice b.v.a b.v.len b.v.cap, .int .i64 b.next, .int .i64 b.wear, .bool b.bad]) (T := tBk) (fz := (0, 0)) [] [] rfl rfl (by simp) (.inl (Nat.le_refl _)) #[.slice b.v.a b.v.len b.v.cap, .int .i64 0, .int .i64 b.wear, .bool b.bad] rfl ?_)
  refine nilc_of rfl (ld_of (b.wear : Int) (ldB List.mem_cons_self rfl) (nilc_of rfl ?_))
  simp only [hww]
  refine st_of (n := b.id) (off := 2) (T := tBk) (fz := (0, 0)) [] [] rfl rfl (by simp) (.inl (Nat.le_refl _)) #[.slice b.v.a b.v.len b.v.cap, .int .i64 0, .int .i64 ((b.wear + 1 : Nat) : Int), .bool b.bad] rfl ?_
  refine nilc_of rfl (ld_of ((b.wear + 1 : Nat) : Int) (ldB List.mem_cons_self rfl) (nilc_of rfl ?_))
  refine st_of (n := b.id) (off := 3) (T := tBk) (fz := (0, 0)) [] [] rfl rfl (by simp) (.inl (Nat.le_refl _)) #[.slice b.v.a b.v.len b.v.cap, .int .i64 0, .int .i64 ((b.wear + 1 : Nat) : Int), .bool (decide (((b.wear + 1 : Nat) : Int) = W))] rfl ?_
  refine nilc_of rfl (ld_of (decide (((b.wear + 1 : Nat) : Int) = W)) (ldB List.mem_cons_self rfl) ?_)
  exact .of ⟨rfl, rfl⟩
theorem tears_cl (m : Nat) (d : Dev) (bv tv : SlV) (ha : (d.after : Int) ≤ 9223372036854775807) :
    CallF PP 64 #[.pointer (some ⟨m, 0, none⟩)] [fO m d bv tv] fun r L' => r = .bool (tear d).1 ∧ L' = [fO m (tear d).2 bv tv] := by
  refine CallF.of (args := [.pointer (some ⟨m, 0, none⟩)]) noNum mixed Try.func64 (e64 (some ⟨m, 0, none⟩) _) ?_
  unfold t64
  refine nilc_of rfl (ld_of (d.after : Int) (f_after List.mem_cons_self) ?_)
  refine ifE_of (fun (h : (d.after : Int) = 0) => ?_) (fun (h : (d.after : Int) ≠ 0) => ?_)
  · have h0 : d.after = 0 := by omega
    unfold tear
    rw [if_pos h0]
    exact .of ⟨rfl, rfl⟩
  · have h0 : d.after ≠ 0 := by omega
    have hww : IntKind.i64.wrap ((d.after : Int) - 1) = ((d.after - 1 : Nat) : Int) := by rw [w64_id (by omega) (by omega)]; omega
    have hdd : (((d.after - 1 : Nat) : Int) == 0) = decide (d.after = 1) := by
      by_cases h1 : d.after = 1
      · rw [h1]; rfl
      · rw [decide_eq_false h1, beq_eq_false_iff_ne]; omega
    unfold tear
    rw [if_neg h0]
    refine nilc_of rfl (ld_of (d.after : Int) (f_after List.mem_cons_self) (nilc_of rfl ?_))
    simp only [hww]
    refine st_of (n := m) (off := 0) (c := #[.int .i64 d.after, .int .i64 d.keep, .bool d.down, .int .i64 d.c.B, .int .i64 d.c.P, .int .i64 d.c.S, .int .i64 d.c.W, .slice bv.a bv.len bv.cap, .int .i64 d.bytes, .slice tv.a tv.len tv.cap]) (T := tFl) (fz := (0, 0)) [] [] rfl rfl (by simp) (.inl (Nat.le_refl _))
      #[.int .i64 ((d.after - 1 : Nat) : Int), .int .i64 d.keep, .bool d.down, .int .i64 d.c.B, .int .i64 d.c.P, .int .i64 d.c.S, .int .i64 d.c.W, .slice bv.a bv.len bv.cap, .int .i64 d.bytes, .slice tv.a tv.len tv.cap] rfl ?_
    refine nilc_of rfl (ld_of ((d.after - 1 : Nat) : Int) (ldB List.mem_cons_self rfl) (nilc_of rfl ?_))
    simp only [hdd]
    refine st_of (n := m) (off := 2) (T := tFl) (fz := (0, 0)) [] [] rfl rfl (by simp) (.inl (Nat.le_refl _))
      #[.int .i64 ((d.after - 1 : Nat) : Int), .int .i64 d.keep, .bool (decide (d.after = 1)), .int .i64 d.c.B, .int .i64 d.c.P, .int .i64 d.c.S, .int .i64 d.c.W, .slice bv.a bv.len bv.cap, .int .i64 d.bytes, .slice tv.a tv.len tv.cap] rfl ?_
    refine nilc_of rfl (ld_of (decide (d.after = 1)) (ldB List.mem_cons_self rfl) ?_)
    exact .of ⟨rfl, rfl⟩
theorem imin_kept (k : Int) (n : Nat) : imin (imax k 0) n = (keptN k n : Int) := by
  unfold imin imax keptN
  omega
theorem kept_rd (L : HList) (m : Nat) (d : Dev) (bv tv : SlV) (h : fO m d bv tv ∈ L) (n : Nat) : Reads PP 65 #[.pointer (some ⟨m, 0, none⟩), .int .i64 n] L (.int .i64 (keptN d.keep n)) := by
  refine Reads.of (args := [.pointer (some ⟨m, 0, none⟩), .int .i64 n]) noNum mixed Try.func65 (e65 (some ⟨m, 0, none⟩) n _) ?_
  unfold t65
  refine nilc_of rfl (ld_of d.keep (f_keep h) ?_)
  rw [imin_kept]
  exact .of ⟨rfl, rfl⟩
/-- The block that has a number. -/
def ptAt (l : List PB) (b : Int) : Option Addr := if 0 ≤ b then (l[b.toNat]?).map fun k => ⟨k.id, 0, none⟩ else none
theorem ptAt_some {l : List PB} {i : Nat} (h : i < l.length) : ptAt l (i : Int) = some ⟨l[i].id, 0, none⟩ := by
  unfold ptAt
  rw [if_pos (by omega), Int.toNat_natCast, List.getElem?_eq_getElem h]; rfl
theorem ptAt_none {l : List PB} {b : Int} (h : ¬ (0 ≤ b ∧ b < l.length)) : ptAt l b = none := by
  unfold ptAt
  split
  · rw [List.getElem?_eq_none (by omega)]; rfl
  · rfl
theorem at_rd (L : HList) (m : Nat) (d : Dev) (bv tv : SlV) (h : fO m d bv tv ∈ L) (l : List PB) (hl : Sl L bv 1 (l.map pbp)) (hle : l.length ≤ 1048576) (b : Int) :
    Reads PP 61 #[.pointer (some ⟨m, 0, none⟩), .int .i64 b] L (.pointer (ptAt l b)) := by
  refine Reads.of (args := [.pointer (some ⟨m, 0, none⟩), .int .i64 b]) noNum mixed Try.func61 (e61 (some ⟨m, 0, none⟩) b _) ?_
  unfold t61
  have hlen : bv.len = l.length := by have := hl.len; rw [List.length_map] at this; omega
  refine ifF rfl (nilc_of rfl (ld_of bv (f_bs h) ?_))
  have hw : IntKind.i64.wrap ((bv.len : Int) - 1) = (l.length : Int) - 1 := by rw [w64_id (by omega) (by omega)]; omega
  simp only [hw]
  refine cl_rd (within_rd _ b 0 ((l.length : Int) - 1)) (decide (0 ≤ b ∧ b ≤ (l.length : Int) - 1), ()) rfl ?_
  by_cases hb : 0 ≤ b ∧ b ≤ (l.length : Int) - 1
  · rw [decide_eq_true hb]
    refine ifF rfl ?_
    obtain ⟨i, rfl⟩ : ∃ i : Nat, b = i := ⟨b.toNat, by omega⟩
    have hi : i < l.length := by omega
    rw [ptAt_some hi]
    obtain ⟨a, ha, hld⟩ := hl.at' (i := i) (by omega) (by decide)
    refine nilc_of rfl (ld_of bv (f_bs h) (nilc_of ha (ixn_of (show (0 : Int) ≤ i by omega) (show (i : Int) < bv.len by omega) (ld_of (some ⟨l[i].id, 0, none⟩ : Option Addr) (hld.one ((i : Int).toNat * 1) ?_) ?_))))
    · rw [Int.toNat_natCast, Nat.mul_one, List.getElem?_map, List.getElem?_eq_getElem hi]; rfl
    · exact .of ⟨rfl, rfl⟩
  · rw [decide_eq_false hb]
    refine ifT rfl (.of ⟨?_, rfl⟩)
    rw [ptAt_none (by omega)]
/-- Why there is no such page; 0: there is. -/
def findE (d : Dev) (b p : Int) : Int := if d.down then 11 else if ¬ (0 ≤ b ∧ b < d.bs.length) then 2 else if ¬ (0 ≤ p ∧ p < d.c.P) then 2 else 0
theorem find_rd (L : HList) (m : Nat) (d : Dev) (bv tv : SlV) (h : fO m d bv tv ∈ L) (l : List PB) (hl : Sl L bv 1 (l.map pbp)) (hle : l.length ≤ 1048576) (hd : l.map PB.blk = d.bs) (hP : d.c.P ≤ 1048576) (b p : Int) :
    Reads PP 62 #[.pointer (some ⟨m, 0, none⟩), .int .i64 b, .int .i64 p] L (.tuple #[.pointer (if findE d b p = 0 then ptAt l b else none), .int .i64 (findE d b p)]) := by
  refine Reads.of (args := [.pointer (some ⟨m, 0, none⟩), .int .i64 b, .int .i64 p]) noNum mixed Try.func62 (e62 (some ⟨m, 0, none⟩) b p _) ?_
  unfold t62
  have hbl : d.bs.length = l.length := by rw [← hd, List.length_map]
  refine ifF rfl (nilc_of rfl (ld_of d.down (f_down h) ?_))
  refine ifB_of (fun (hdn : d.down = true) => .of ⟨?_, rfl⟩) (fun (hdn : d.down = false) => ?_)
  · have hE : findE d b p = 11 := by unfold findE; rw [if_pos hdn]
    rw [hE]; rfl
  · refine cl_rd (at_rd L m d bv tv h l hl hle b) (ptAt l b, ()) rfl ?_
    by_cases hb : 0 ≤ b ∧ b < d.bs.length
    · obtain ⟨i, rfl⟩ : ∃ i : Nat, b = i := ⟨b.toNat, by omega⟩
      rw [ptAt_some (by omega)]
      refine ifF rfl (nilc_of rfl (ld_of (d.c.P : Int) (f_P h) ?_))
      have hw : IntKind.i64.wrap ((d.c.P : Int) - 1) = (d.c.P : Int) - 1 := w64_id (by omega) (by omega)
      simp only [hw]
      refine cl_rd (within_rd _ p 0 ((d.c.P : Int) - 1)) (decide (0 ≤ p ∧ p ≤ (d.c.P : Int) - 1), ()) rfl ?_
      by_cases hp : 0 ≤ p ∧ p < d.c.P
      · have hE : findE d i p = 0 := by unfold findE; rw [hdn, if_neg (by decide), if_neg (by simpa using hb), if_neg (by simpa using hp)]
        rw [decide_eq_true (by omega), hE, if_pos rfl]
        exact ifF rfl (.of ⟨rfl, rfl⟩)
      · have hE : findE d i p = 2 := by unfold findE; rw [hdn, if_neg (by decide), if_neg (by simpa using hb), if_pos hp]
        rw [decide_eq_false (by omega), hE]
        exact ifT rfl (.of ⟨rfl, rfl⟩)
    · have hE : findE d b p = 2 := by unfold findE; rw [hdn, if_neg (by decide), if_pos hb]
      rw [hE, ptAt_none (by omega)]
      exact ifT rfl (.of ⟨rfl, rfl⟩)
end Go.Proofs.Ytaniefdpjommnaa
