/-
  It is proved what the document's answer for the layer flash computes: Right, blank, there, tears, Read, Arm, Restart. There are no further conditions than those that each theorem names.
-/
import Derived.Test.YtaniefdpjommnaaFlash9
set_option linter.unusedVariables false
set_option linter.unusedSimpArgs false
namespace Go.Proofs.Ytaniefdpjommnaa
open Go.HL

abbrev tSs : TypeId := 57
abbrev tSt : TypeId := 99
abbrev eSg : TypeId := 9
abbrev tIn : TypeId := 58
abbrev eIn : TypeId := 3
abbrev tBo : TypeId := 59
abbrev eBo : TypeId := 4
abbrev tRf : TypeId := 62
theorem elemSs : ElemT PP tSs tSt 1 24 [.slice none 0 0] := elemT_of (by kernel_rfl) (by kernel_rfl) rfl (by decide) (by decide)
theorem srcSs : SrcT PP tSs := .inl ⟨tSt, by kernel_rfl⟩
theorem elemSt : ElemT PP tSt eSg 1 16 [.string ByteArray.empty] := elemT_of (by kernel_rfl) (by kernel_rfl) rfl (by decide) (by decide)
theorem srcSt : SrcT PP tSt := .inl ⟨eSg, by kernel_rfl⟩
theorem elemIn : ElemT PP tIn eIn 1 8 [.int .i64 0] := elemT_of (by kernel_rfl) (by kernel_rfl) rfl (by decide) (by decide)
theorem srcIn : SrcT PP tIn := .inl ⟨eIn, by kernel_rfl⟩
theorem elemBo : ElemT PP tBo eBo 1 1 [.bool false] := elemT_of (by kernel_rfl) (by kernel_rfl) rfl (by decide) (by decide)
theorem srcBo : SrcT PP tBo := .inl ⟨eBo, by kernel_rfl⟩
def strV (l : List UInt8) : Value := .string ⟨l.toArray⟩
theorem strs_plain (l : List (List UInt8)) : (l.map strV).all plainV = true := by
  induction l with
  | nil => rfl
  | cons e r ih => rw [List.map_cons, List.all_cons, ih]; rfl
structure RK where
  v : SlV
  seg : HList
  l : List (List UInt8)
def RK.Ok (g : RK) : Prop := Own g.v 1 eSg (g.l.map strV) g.seg
def RK.val (g : RK) : Value := .slice g.v.a g.v.len g.v.cap
def rsegs (l : List RK) : HList := l.flatMap RK.seg
theorem rsegs_append (a b : List RK) : rsegs (a ++ b) = rsegs a ++ rsegs b := List.flatMap_append
theorem rsegs_cons (a : RK) (b : List RK) : rsegs (a :: b) = a.seg ++ rsegs b := rfl
theorem rvals_plain (l : List RK) : (l.map RK.val).all plainV = true := by
  induction l with
  | nil => rfl
  | cons e r ih => rw [List.map_cons, List.all_cons, ih]; rfl
def bos (l : List Bool) : List Value := l.map Value.bool
def nexts (d : Dev) : List Int := d.bs.map fun k => (k.next : Int)
def wears (d : Dev) : List Int := d.bs.map fun k => (k.wear : Int)
def bads (d : Dev) : List Bool := d.bs.map fun k => k.bad
def rO (m : Nat) (d : Dev) (pv nv wv bv tv : SlV) : Nat × Obj :=
  (m, .cells #[.int .i64 d.c.B, .int .i64 d.c.P, .int .i64 d.c.S, .int .i64 d.c.W, .slice pv.a pv.len pv.cap, .slice nv.a nv.len nv.cap, .slice wv.a wv.len wv.cap, .slice bv.a bv.len bv.cap, .int .i64 d.bytes, .bool d.down, .int .i64 d.after, .int .i64 d.keep, .slice tv.a tv.len tv.cap] tRf)
structure RHs (d : Dev) (pv : SlV) (pseg : HList) (rs : List RK) (nv : SlV) (nseg : HList) (wv : SlV) (wseg : HList) (bv : SlV) (bseg : HList) (tv : SlV) (tseg : HList) (ts : List PT) : Prop where
  op : Own pv 1 tSt (rs.map RK.val) pseg
  okp : ∀ r ∈ rs, r.Ok
  hp : rs.map RK.l = d.bs.map Blk.pages
  on : Own nv 1 eIn (ivs .i64 (nexts d)) nseg
  ow : Own wv 1 eIn (ivs .i64 (wears d)) wseg
  ob : Own bv 1 eBo (bos (bads d)) bseg
  ot : Own tv 4 eT (ts.flatMap PT.enc) tseg
  okt : ∀ t ∈ ts, t.m.Ok ∧ t.i.Ok
  ht : ts.map PT.tn = d.torn
def rL (m : Nat) (d : Dev) (pv : SlV) (pseg : HList) (rs : List RK) (nv : SlV) (nseg : HList) (wv : SlV) (wseg : HList) (bv : SlV) (bseg : HList) (tv : SlV) (tseg : HList) (ts : List PT) : HList :=
  rO m d pv nv wv bv tv :: (pseg ++ (rsegs rs ++ (nseg ++ (wseg ++ (bseg ++ (tseg ++ tsegs ts))))))
def RH (m : Nat) (d : Dev) (A : HList) : Prop := ∃ pv pseg rs nv nseg wv wseg bv bseg tv tseg ts, A = rL m d pv pseg rs nv nseg wv wseg bv bseg tv tseg ts ∧ RHs d pv pseg rs nv nseg wv wseg bv bseg tv tseg ts
section
variable {L : HList} {m : Nat} {d : Dev} {pv nv wv bv tv : SlV}
theorem r_c (h : rO m d pv nv wv bv tv ∈ L) : LdAt ⟨m, 0, none⟩ [.int .i64 d.c.B, .int .i64 d.c.P, .int .i64 d.c.S, .int .i64 d.c.W] L := ldB (by unfold rO at h; exact h) rfl
theorem r_B (h : rO m d pv nv wv bv tv ∈ L) : LdAt ⟨m, 0, none⟩ [.int .i64 d.c.B] L := ldB (by unfold rO at h; exact h) rfl
theorem r_P (h : rO m d pv nv wv bv tv ∈ L) : LdAt ⟨m, 1, none⟩ [.int .i64 d.c.P] L := ldB (by unfold rO at h; exact h) rfl
theorem r_S (h : rO m d pv nv wv bv tv ∈ L) : LdAt ⟨m, 2, none⟩ [.int .i64 d.c.S] L := ldB (by unfold rO at h; exact h) rfl
theorem r_W (h : rO m d pv nv wv bv tv ∈ L) : LdAt ⟨m, 3, none⟩ [.int .i64 d.c.W] L := ldB (by unfold rO at h; exact h) rfl
theorem r_pg (h : rO m d pv nv wv bv tv ∈ L) : LdAt ⟨m, 4, none⟩ [.slice pv.a pv.len pv.cap] L := ldB (by unfold rO at h; exact h) rfl
theorem r_nx (h : rO m d pv nv wv bv tv ∈ L) : LdAt ⟨m, 5, none⟩ [.slice nv.a nv.len nv.cap] L := ldB (by unfold rO at h; exact h) rfl
theorem r_wr (h : rO m d pv nv wv bv tv ∈ L) : LdAt ⟨m, 6, none⟩ [.slice wv.a wv.len wv.cap] L := ldB (by unfold rO at h; exact h) rfl
theorem r_bd (h : rO m d pv nv wv bv tv ∈ L) : LdAt ⟨m, 7, none⟩ [.slice bv.a bv.len bv.cap] L := ldB (by unfold rO at h; exact h) rfl
theorem r_by (h : rO m d pv nv wv bv tv ∈ L) : LdAt ⟨m, 8, none⟩ [.int .i64 d.bytes] L := ldB (by unfold rO at h; exact h) rfl
theorem r_dn (h : rO m d pv nv wv bv tv ∈ L) : LdAt ⟨m, 9, none⟩ [.bool d.down] L := ldB (by unfold rO at h; exact h) rfl
theorem r_af (h : rO m d pv nv wv bv tv ∈ L) : LdAt ⟨m, 10, none⟩ [.int .i64 d.after] L := ldB (by unfold rO at h; exact h) rfl
theorem r_kp (h : rO m d pv nv wv bv tv ∈ L) : LdAt ⟨m, 11, none⟩ [.int .i64 d.keep] L := ldB (by unfold rO at h; exact h) rfl
theorem r_tn (h : rO m d pv nv wv bv tv ∈ L) : LdAt ⟨m, 12, none⟩ [.slice tv.a tv.len tv.cap] L := ldB (by unfold rO at h; exact h) rfl
end
theorem bos_plain (l : List Bool) : (bos l).all plainV = true := by
  induction l with
  | nil => rfl
  | cons e r ih => simp [bos, plainV]
instance (c : Int × Int × Int × Int × Unit) : Decidable (right c) := by unfold right; infer_instance
theorem right_rd (L : HList) (c : Int × Int × Int × Int × Unit) : Reads PP 54 #[.agg #[.int .i64 c.1, .int .i64 c.2.1, .int .i64 c.2.2.1, .int .i64 c.2.2.2.1]] L (.bool (decide (right c))) := by
  refine Reads.of (args := [.agg #[.int .i64 c.1, .int .i64 c.2.1, .int .i64 c.2.2.1, .int .i64 c.2.2.2.1]]) noNum mixed Try.func54 (e54 c _) ?_
  unfold t54
  refine nw_of fun n1 _ => ?_
  generalize ho : (n1, Obj.cells #[.int .i64 c.1, .int .i64 c.2.1, .int .i64 c.2.2.1, .int .i64 c.2.2.2.1] 44) = o1
  have lc : LdAt ⟨n1, 0, none⟩ [.int .i64 c.1, .int .i64 c.2.1, .int .i64 c.2.2.1, .int .i64 c.2.2.2.1] (o1 :: L) := ldB (by rw [← ho]; exact List.mem_cons_self) rfl
  clear ho
  have lB : LdAt ⟨n1, 0, none⟩ [.int .i64 c.1] (o1 :: L) := lc.pre fun i u hu => by cases i with | zero => exact hu | succ i => exact absurd (show (none : Option Value) = some u from hu) (by simp)
  have hno : ¬ right c → HL.Ends (fun v' L' => v' = Value.bool (decide (right c)) ∧ L' = L) (.bool false) (o1 :: L) := fun h => .cons (.of ⟨by rw [decide_eq_false h], rfl⟩)
  refine ld_of c.1 lB (ifD_of (fun (h1 : c.1 ≥ 2) => ?_) (fun (h1 : ¬ c.1 ≥ 2) => hno (by unfold right; omega)))
  refine ld_of c.1 lB (ifD_of (fun (h2 : c.1 ≤ 16) => ?_) (fun (h2 : ¬ c.1 ≤ 16) => hno (by unfold right; omega)))
  refine ld_of c.2.1 (lc.one 1 rfl) (ifD_of (fun (h3 : c.2.1 ≥ 4) => ?_) (fun (h3 : ¬ c.2.1 ≥ 4) => hno (by unfold right; omega)))
  refine ld_of c.2.1 (lc.one 1 rfl) (ifD_of (fun (h4 : c.2.1 ≤ 16) => ?_) (fun (h4 : ¬ c.2.1 ≤ 16) => hno (by unfold right; omega)))
  refine ld_of c.2.2.1 (lc.one 2 rfl) (ifD_of (fun (h5 : c.2.2.1 ≥ 64) => ?_) (fun (h5 : ¬ c.2.2.1 ≥ 64) => hno (by unfold right; omega)))
  refine ld_of c.2.2.1 (lc.one 2 rfl) (ifD_of (fun (h6 : c.2.2.1 ≤ 512) => ?_) (fun (h6 : ¬ c.2.2.1 ≤ 512) => hno (by unfold right; omega)))
  refine ld_of c.2.2.2.1 (lc.one 3 rfl) (ifD_of (fun (h7 : c.2.2.2.1 ≥ 1) => ?_) (fun (h7 : ¬ c.2.2.2.1 ≥ 1) => hno (by unfold right; omega)))
  refine ld_of c.2.2.2.1 (lc.one 3 rfl) (.cons (.of ⟨?_, rfl⟩))
  congr 1
  by_cases h8 : c.2.2.2.1 ≤ 1048576
  · rw [decide_eq_true h8, decide_eq_true (by unfold right; omega)]
  · rw [decide_eq_false h8, decide_eq_false (by unfold right; omega)]
theorem rblank_s (L : HList) (n : Nat) (hn : n ≤ 1048576) : Reads PP 55 #[.int .i64 n] L (strV (blk n)) := by
  refine Reads.of (args := [.int .i64 n]) noNum mixed Try.func55 (e55 n _) ?_
  unfold t55
  refine make_of elemB (l := n) (c := n) (Nat.le_refl _) (by omega) fun q ob own _ _ => ?_
  rw [zeros_bvs] at own
  refine lp_of (fun z' z L' => ∃ (i : Nat) (seg : HList), i ≤ n ∧ z' = n - i ∧ z = ((i : Int), ()) ∧ L' = seg ++ L ∧ Own ⟨some ⟨q, 0, none⟩, n, n⟩ 1 eB (bvs (List.replicate i 255 ++ List.replicate (n - i) 0)) seg) n ⟨0, [(q, ob)], by omega, by omega, rfl, rfl, by simpa using own⟩ ?_
  rintro z' z _ ⟨i, seg, hi, rfl, rfl, rfl, own⟩
  refine ifD_of (fun (hlt : (i : Int) < (n : Nat)) => ?_) (fun (hge : ¬ (i : Int) < (n : Nat)) => ?_)
  · refine nilc_of rfl (ixn_of (show (0 : Int) ≤ i by omega) hlt ?_)
    refine own.st (p := i) [] L (by rw [bvs_length, List.length_append, List.length_replicate, List.length_replicate, List.length_singleton]; omega) (by simp) rfl (by rw [Int.toNat_natCast, Nat.mul_one]) rfl fun seg' own' => ?_
    rw [putL_one (by rw [bvs_length, List.length_append, List.length_replicate, List.length_replicate]; omega)] at own'
    refine ⟨n - (i + 1), by omega, i + 1, seg', by omega, rfl, ?_, by simp, ?_⟩
    · rw [w64_id (by first | omega | (simp only; omega)) (by first | omega | (simp only; omega))]
      rfl
    · have : (bvs (List.replicate i 255 ++ List.replicate (n - i) 0)).set i (.int .u8 255) = bvs (List.replicate (i + 1) 255 ++ List.replicate (n - (i + 1)) 0) := by
        have h1 := bvs_set (List.replicate i 255 ++ List.replicate (n - i) 0) i 255
        rw [show ((255 : UInt8).toNat : Int) = 255 by decide] at h1
        rw [h1]
        congr 1
        rw [List.set_append, if_neg (by simp), List.length_replicate, Nat.sub_self, show n - i = (n - (i + 1)) + 1 by omega, List.replicate_succ, List.set_cons_zero, List.replicate_succ', List.append_assoc]
        rfl
      rw [this] at own'
      exact own'
  · obtain rfl : i = n := by omega
    rw [Nat.sub_self, List.replicate_zero, List.append_nil] at own
    exact b2s_of own.sl.left (.app (.of ⟨rfl, rfl⟩))
theorem there_rd (L : HList) (m : Nat) (d : Dev) (pv nv wv bv tv : SlV) (h : rO m d pv nv wv bv tv ∈ L) (b p : Int) : Reads PP 71 #[.pointer (some ⟨m, 0, none⟩), .int .i64 b, .int .i64 p] L (.bool (decide (0 ≤ b ∧ b < d.c.B ∧ 0 ≤ p ∧ p < d.c.P))) := by
  refine Reads.of (args := [.pointer (some ⟨m, 0, none⟩), .int .i64 b, .int .i64 p]) noNum mixed Try.func71 (e71 (some ⟨m, 0, none⟩) b p _) ?_
  unfold t71
  refine ifD_of (fun (h1 : b ≥ 0) => ?_) (fun (h1 : ¬ b ≥ 0) => .of ⟨by rw [decide_eq_false (by omega)], rfl⟩)
  refine nilc_of rfl (ld_of (d.c.B : Int) (r_B h) ?_)
  refine ifD_of (fun (h2 : b < (d.c.B : Int)) => ?_) (fun (h2 : ¬ b < (d.c.B : Int)) => .of ⟨by rw [decide_eq_false (by omega)], rfl⟩)
  refine ifD_of (fun (h3 : p ≥ 0) => ?_) (fun (h3 : ¬ p ≥ 0) => .of ⟨by rw [decide_eq_false (by omega)], rfl⟩)
  refine nilc_of rfl (ld_of (d.c.P : Int) (r_P h) (.of ⟨?_, rfl⟩))
  congr 1
  by_cases h4 : p < (d.c.P : Int)
  · rw [decide_eq_true h4, decide_eq_true (by omega)]
  · rw [decide_eq_false h4, decide_eq_false (by omega)]
theorem rtears_cl (m : Nat) (d : Dev) (pv nv wv bv tv : SlV) (ha : (d.after : Int) ≤ 9223372036854775807) :
    CallF PP 72 #[.pointer (some ⟨m, 0, none⟩)] [rO m d pv nv wv bv tv] fun r L' => r = .bool (tear d).1 ∧ L' = [rO m (tear d).2 pv nv wv bv tv] := by
  refine CallF.of (args := [.pointer (some ⟨m, 0, none⟩)]) noNum mixed Try.func72 (e72 (some ⟨m, 0, none⟩) _) ?_
  unfold t72
  refine nilc_of rfl (ld_of (d.after : Int) (r_af List.mem_cons_self) ?_)
  refine ifD_of (fun (h : (d.after : Int) < 1) => ?_) (fun (h : ¬ (d.after : Int) < 1) => ?_)
  · have h0 : d.after = 0 := by omega
    unfold tear
    rw [if_pos h0]
    exact .of ⟨rfl, rfl⟩
  · have h0 : d.after ≠ 0 := by omega
    have hww : IntKind.i64.wrap ((d.after : Int) - 1) = ((d.after - 1 : Nat) : Int) := by rw [w64_id (by omega) (by omega)]; omega
    have hdd : (((d.after - 1 : Nat) : Int) == 0) = decide (d.after = 1) := by
      by_cases h1 : d.after = 1
      · rw [h1]; rfl
      · rw [decide_eq_false h1, beq_eq_false_iff_ne]; omega
    unfold tear
    rw [if_neg h0]
    refine nilc_of rfl (ld_of (d.after : Int) (r_af List.mem_cons_self) (nilc_of rfl ?_))
    simp only [hww]
    refine st_of (n := m) (off := 10) (c := #[.int .i64 d.c.B, .int .i64 d.c.P, .int .i64 d.c.S, .int .i64 d.c.W, .slice pv.a pv.len pv.cap, .slice nv.a nv.len nv.cap, .slice wv.a wv.len wv.cap, .slice bv.a bv.len bv.cap, .int .i64 d.bytes, .bool d.down, .int .i64 d.after, .int .i64 d.keep, .slice tv.a tv.len tv.cap]) (T := tRf) (fz := (0, 0)) [] [] rfl rfl (by simp) (.inl (Nat.le_refl _))
      #[.int .i64 d.c.B, .int .i64 d.c.P, .int .i64 d.c.S, .int .i64 d.c.W, .slice pv.a pv.len pv.cap, .slice nv.a nv.len nv.cap, .slice wv.a wv.len wv.cap, .slice bv.a bv.len bv.cap, .int .i64 d.bytes, .bool d.down, .int .i64 ((d.after - 1 : Nat) : Int), .int .i64 d.keep, .slice tv.a tv.len tv.cap] rfl ?_
    refine nilc_of rfl (ld_of ((d.after - 1 : Nat) : Int) (ldB List.mem_cons_self rfl) (nilc_of rfl ?_))
    simp only [hdd]
    refine st_of (n := m) (off := 9) (T := tRf) (fz := (0, 0)) [] [] rfl rfl (by simp) (.inl (Nat.le_refl _))
      #[.int .i64 d.c.B, .int .i64 d.c.P, .int .i64 d.c.S, .int .i64 d.c.W, .slice pv.a pv.len pv.cap, .slice nv.a nv.len nv.cap, .slice wv.a wv.len wv.cap, .slice bv.a bv.len bv.cap, .int .i64 d.bytes, .bool (decide (d.after = 1)), .int .i64 ((d.after - 1 : Nat) : Int), .int .i64 d.keep, .slice tv.a tv.len tv.cap] rfl ?_
    refine nilc_of rfl (ld_of (decide (d.after = 1)) (ldB List.mem_cons_self rfl) ?_)
    exact .of ⟨rfl, rfl⟩
theorem rarm_cl (m : Nat) (d : Dev) (A : HList) (h : RH m d A) (n k : Int) : CallF PP 59 #[.pointer (some ⟨m, 0, none⟩), .int .i64 n, .int .i64 k] A fun r L' => r = .tuple #[] ∧ RH m (arm d n k) L' := by
  obtain ⟨pv, pseg, rs, nv, nseg, wv, wseg, bv, bseg, tv, tseg, ts, rfl, h⟩ := h
  refine CallF.of (args := [.pointer (some ⟨m, 0, none⟩), .int .i64 n, .int .i64 k]) noNum mixed Try.func59 (e59 (some ⟨m, 0, none⟩) n k _) ?_
  unfold t59 arm
  refine nilc_of rfl (ld_of d.down (r_dn List.mem_cons_self) ?_)
  rcases Bool.eq_false_or_eq_true d.down with hd | hd
  · rw [if_pos hd]
    exact ifF (by simp only [hd]; rfl) (.of ⟨rfl, pv, pseg, rs, nv, nseg, wv, wseg, bv, bseg, tv, tseg, ts, rfl, h⟩)
  · rw [if_neg (by rw [hd]; decide)]
    have hn : imax n 0 = (n.toNat : Int) := by unfold imax; omega
    refine ifT (by simp only [hd]; rfl) (nilc_of rfl ?_)
    rw [hn]
    refine st_of (n := m) (off := 10) (c := #[.int .i64 d.c.B, .int .i64 d.c.P, .int .i64 d.c.S, .int .i64 d.c.W, .slice pv.a pv.len pv.cap, .slice nv.a nv.len nv.cap, .slice wv.a wv.len wv.cap, .slice bv.a bv.len bv.cap, .int .i64 d.bytes, .bool d.down, .int .i64 d.after, .int .i64 d.keep, .slice tv.a tv.len tv.cap]) (T := tRf) (fz := (0, 0)) [] _ rfl rfl (by simp) (.inl (Nat.le_refl _))
      #[.int .i64 d.c.B, .int .i64 d.c.P, .int .i64 d.c.S, .int .i64 d.c.W, .slice pv.a pv.len pv.cap, .slice nv.a nv.len nv.cap, .slice wv.a wv.len wv.cap, .slice bv.a bv.len bv.cap, .int .i64 d.bytes, .bool d.down, .int .i64 (n.toNat : Int), .int .i64 d.keep, .slice tv.a tv.len tv.cap] rfl (nilc_of rfl ?_)
    refine st_of (n := m) (off := 11) (T := tRf) (fz := (0, 0)) [] _ rfl rfl (by simp) (.inl (Nat.le_refl _))
      #[.int .i64 d.c.B, .int .i64 d.c.P, .int .i64 d.c.S, .int .i64 d.c.W, .slice pv.a pv.len pv.cap, .slice nv.a nv.len nv.cap, .slice wv.a wv.len wv.cap, .slice bv.a bv.len bv.cap, .int .i64 d.bytes, .bool d.down, .int .i64 (n.toNat : Int), .int .i64 k, .slice tv.a tv.len tv.cap] rfl ?_
    exact .of ⟨rfl, pv, pseg, rs, nv, nseg, wv, wseg, bv, bseg, tv, tseg, ts, rfl, ⟨h.op, h.okp, h.hp, h.on, h.ow, h.ob, h.ot, h.okt, h.ht⟩⟩
theorem rrestart_cl (m : Nat) (d : Dev) (A : HList) (h : RH m d A) : CallF PP 60 #[.pointer (some ⟨m, 0, none⟩)] A fun r L' => r = .tuple #[] ∧ RH m (restart d) L' := by
  obtain ⟨pv, pseg, rs, nv, nseg, wv, wseg, bv, bseg, tv, tseg, ts, rfl, h⟩ := h
  refine CallF.of (args := [.pointer (some ⟨m, 0, none⟩)]) noNum mixed Try.func60 (e60 (some ⟨m, 0, none⟩) _) ?_
  unfold t60 restart
  refine nilc_of rfl ?_
  refine st_of (n := m) (off := 9) (c := #[.int .i64 d.c.B, .int .i64 d.c.P, .int .i64 d.c.S, .int .i64 d.c.W, .slice pv.a pv.len pv.cap, .slice nv.a nv.len nv.cap, .slice wv.a wv.len wv.cap, .slice bv.a bv.len bv.cap, .int .i64 d.bytes, .bool d.down, .int .i64 d.after, .int .i64 d.keep, .slice tv.a tv.len tv.cap]) (T := tRf) (fz := (0, 0)) [] _ rfl rfl (by simp) (.inl (Nat.le_refl _))
    #[.int .i64 d.c.B, .int .i64 d.c.P, .int .i64 d.c.S, .int .i64 d.c.W, .slice pv.a pv.len pv.cap, .slice nv.a nv.len nv.cap, .slice wv.a wv.len wv.cap, .slice bv.a bv.len bv.cap, .int .i64 d.bytes, .bool false, .int .i64 d.after, .int .i64 d.keep, .slice tv.a tv.len tv.cap] rfl (nilc_of rfl ?_)
  refine st_of (n := m) (off := 10) (T := tRf) (fz := (0, 0)) [] _ rfl rfl (by simp) (.inl (Nat.le_refl _))
    #[.int .i64 d.c.B, .int .i64 d.c.P, .int .i64 d.c.S, .int .i64 d.c.W, .slice pv.a pv.len pv.cap, .slice nv.a nv.len nv.cap, .slice wv.a wv.len wv.cap, .slice bv.a bv.len bv.cap, .int .i64 d.bytes, .bool false, .int .i64 0, .int .i64 d.keep, .slice tv.a tv.len tv.cap] rfl ?_
  exact .of ⟨rfl, pv, pseg, rs, nv, nseg, wv, wseg, bv, bseg, tv, tseg, ts, rfl, ⟨h.op, h.okp, h.hp, h.on, h.ow, h.ob, h.ot, h.okt, h.ht⟩⟩
section
variable {m : Nat} {d : Dev} {pv : SlV} {pseg : HList} {rs : List RK} {nv : SlV} {nseg : HList} {wv : SlV} {wseg : HList} {bv : SlV} {bseg : HList} {tv : SlV} {tseg : HList} {ts : List PT}
theorem rL_o : rO m d pv nv wv bv tv ∈ rL m d pv pseg rs nv nseg wv wseg bv bseg tv tseg ts := List.mem_cons_self
theorem RHs.psl (h : RHs d pv pseg rs nv nseg wv wseg bv bseg tv tseg ts) : Sl (rL m d pv pseg rs nv nseg wv wseg bv bseg tv tseg ts) pv 1 (rs.map RK.val) := h.op.sl.left.cons
theorem RHs.nsl (h : RHs d pv pseg rs nv nseg wv wseg bv bseg tv tseg ts) : ISl (rL m d pv pseg rs nv nseg wv wseg bv bseg tv tseg ts) nv .i64 (nexts d) := h.on.sl.left.right.right.cons
theorem RHs.wsl (h : RHs d pv pseg rs nv nseg wv wseg bv bseg tv tseg ts) : ISl (rL m d pv pseg rs nv nseg wv wseg bv bseg tv tseg ts) wv .i64 (wears d) := h.ow.sl.left.right.right.right.cons
theorem RHs.bsl (h : RHs d pv pseg rs nv nseg wv wseg bv bseg tv tseg ts) : Sl (rL m d pv pseg rs nv nseg wv wseg bv bseg tv tseg ts) bv 1 (bos (bads d)) := h.ob.sl.left.right.right.right.right.cons
theorem RHs.tsl (h : RHs d pv pseg rs nv nseg wv wseg bv bseg tv tseg ts) : Sl (rL m d pv pseg rs nv nseg wv wseg bv bseg tv tseg ts) tv 4 (ts.flatMap PT.enc) := h.ot.sl.left.right.right.right.right.right.cons
theorem RHs.rsl (h : RHs d pv pseg rs nv nseg wv wseg bv bseg tv tseg ts) {i : Nat} (hi : i < rs.length) : Sl (rL m d pv pseg rs nv nseg wv wseg bv bseg tv tseg ts) rs[i].v 1 (rs[i].l.map strV) :=
  Sl.mono (h.okp _ (List.getElem_mem hi)).sl fun x hx => List.mem_cons_of_mem _ (List.mem_append_right _ (List.mem_append_left _ (List.mem_flatMap.2 ⟨_, List.getElem_mem hi, hx⟩)))
theorem RHs.rlen (h : RHs d pv pseg rs nv nseg wv wseg bv bseg tv tseg ts) : rs.length = d.bs.length := by
  have := congrArg List.length h.hp
  rwa [List.length_map, List.length_map] at this
theorem RHs.rl (h : RHs d pv pseg rs nv nseg wv wseg bv bseg tv tseg ts) {i : Nat} (hi : i < rs.length) : rs[i].l = (d.bs[i]'(by rw [← h.rlen]; exact hi)).pages := by
  have h1 : (rs.map RK.l)[i]? = (d.bs.map Blk.pages)[i]? := by rw [h.hp]
  rw [List.getElem?_map, List.getElem?_map, List.getElem?_eq_getElem hi, List.getElem?_eq_getElem (by rw [← h.rlen]; exact hi)] at h1
  exact Option.some.inj h1
end
/-- An element of a list of values. -/
theorem el_at {L : HList} {v : SlV} {vs : List Value} (h : Sl L v 1 vs) {i : Nat} (hi : i < vs.length) : v.len = vs.length ∧ ∃ a, v.a = some a ∧ LdAt (Addr.add a ((i : Int).toNat * 1)) [vs[i]] L := by
  have hl := h.len
  obtain ⟨a, ha, hld⟩ := h.at' (i := i) (by omega) (by decide)
  refine ⟨by omega, a, ha, ?_⟩
  rw [Int.toNat_natCast, Nat.mul_one]
  exact hld.one i (List.getElem?_eq_getElem hi)
theorem findE_there {d : Dev} (ok : DvOk d) (hd : d.down = false) (b p : Int) : (findE d b p = 0 ↔ (0 ≤ b ∧ b < d.c.B ∧ 0 ≤ p ∧ p < d.c.P)) ∧ (findE d b p ≠ 0 → findE d b p = 2) := by
  have hl := ok.len
  unfold findE
  rw [hd, if_neg (by decide)]
  by_cases h1 : 0 ≤ b ∧ b < d.bs.length
  · rw [if_neg (by simpa using h1)]
    by_cases h2 : 0 ≤ p ∧ p < d.c.P
    · rw [if_neg (by simpa using h2)]
      exact ⟨⟨fun _ => by omega, fun _ => rfl⟩, fun h => absurd rfl h⟩
    · rw [if_pos h2]
      exact ⟨⟨fun h => absurd h (by decide), fun h => by omega⟩, fun _ => rfl⟩
  · rw [if_pos h1]
    exact ⟨⟨fun h => absurd h (by decide), fun h => by omega⟩, fun _ => rfl⟩
theorem rread_cl (m : Nat) (d : Dev) (A : HList) (h : RH m d A) (ok : DvOk d) (b p : Int) :
    CallF PP 57 #[.pointer (some ⟨m, 0, none⟩), .int .i64 b, .int .i64 p] A fun r L' => ∃ g : PG, r = .tuple #[g.val, .int .i64 (readR d b p).2] ∧ L' = g.seg ++ A ∧ g.Ok ∧ g.l = (readR d b p).1 := by
  obtain ⟨pv, pseg, rs, nv, nseg, wv, wseg, bv, bseg, tv, tseg, ts, rfl, h⟩ := h
  refine CallF.of (args := [.pointer (some ⟨m, 0, none⟩), .int .i64 b, .int .i64 p]) noNum mixed Try.func57 (e57 (some ⟨m, 0, none⟩) b p _) ?_
  unfold t57
  have hS := ok.c.s
  refine nilc_of rfl (ld_of d.down (r_dn rL_o) ?_)
  refine ifB_of (fun (hd : d.down = true) => ?_) (fun (hd : d.down = false) => ?_)
  · have hr : readR d b p = ([], 11) := by
      have he : findE d b p = 11 := by unfold findE; rw [if_pos hd]
      unfold readR; rw [he, if_pos (by decide)]
    rw [hr]
    exact .of ⟨pg0, rfl, rfl, pg0_ok, rfl⟩
  obtain ⟨hf1, hf2⟩ := findE_there ok hd b p
  refine cl_rd (there_rd _ m d pv nv wv bv tv rL_o b p) (decide (0 ≤ b ∧ b < d.c.B ∧ 0 ≤ p ∧ p < d.c.P), ()) rfl ?_
  by_cases hth : 0 ≤ b ∧ b < d.c.B ∧ 0 ≤ p ∧ p < d.c.P
  case neg =>
    rw [decide_eq_false hth]
    have he : findE d b p = 2 := hf2 fun h => hth (hf1.1 h)
    have hr : readR d b p = ([], 2) := by unfold readR; rw [he, if_pos (by decide)]
    rw [hr]
    exact ifT rfl (.of ⟨pg0, rfl, rfl, pg0_ok, rfl⟩)
  rw [decide_eq_true hth]
  have he := hf1.2 hth
  obtain ⟨hb0, hb1, hp0, hp1⟩ := hth
  obtain ⟨i, rfl⟩ : ∃ i : Nat, b = i := ⟨b.toNat, by omega⟩
  obtain ⟨q, rfl⟩ : ∃ q : Nat, p = q := ⟨p.toNat, by omega⟩
  have hbl := ok.len
  have hi : i < d.bs.length := by omega
  have hir : i < rs.length := by rw [h.rlen]; exact hi
  have hk : d.bs[i]? = some d.bs[i] := List.getElem?_eq_getElem hi
  have hbk := ok.bk (List.getElem_mem hi)
  have hbl1 : (bos (bads d)).length = d.bs.length := by simp [bos, bads]
  obtain ⟨e1, ba, hba, lba⟩ := el_at (h.bsl (m := m)) (i := i) (by rw [hbl1]; exact hi)
  have hbv : (bos (bads d))[i]'(by rw [hbl1]; exact hi) = .bool d.bs[i].bad := by simp [bos, bads]
  rw [hbv] at lba
  have h0i : (0 : Int) ≤ (i : Int) := by omega
  have h0q : (0 : Int) ≤ (q : Int) := by omega
  refine ifF rfl (nilc_of rfl (ld_of bv (r_bd rL_o) (nilc_of hba (ixn_of h0i (show (i : Int) < bv.len by omega) (ld_of d.bs[i].bad lba ?_)))))
  refine ifB_of (fun (hbad : d.bs[i].bad = true) => ?_) (fun (hbad : d.bs[i].bad = false) => ?_)
  · have hr : readR d i q = (blk d.c.S, 0) := by
      unfold readR
      rw [he, if_neg (by decide), Int.toNat_natCast, hk]
      simp only
      rw [if_pos hbad]
    rw [hr]
    refine nilc_of rfl (ld_of (d.c.S : Int) (r_S rL_o) (cl_rd (rblank_s _ d.c.S (by omega)) (⟨(blk d.c.S).toArray⟩, ()) rfl ?_))
    refine s2b_of fun n ob v hv own _ => ?_
    exact .of ⟨⟨v, [(n, ob)], blk d.c.S⟩, rfl, rfl, own, rfl⟩
  · have hpl := hbk.pg.1
    have hr : readR d i q = (d.bs[i].pages[q]'(by omega), 0) := by
      unfold readR
      rw [he, if_neg (by decide), Int.toNat_natCast, Int.toNat_natCast, hk]
      simp only
      rw [if_neg (by rw [hbad]; decide), List.getD_eq_getElem?_getD, List.getElem?_eq_getElem (by omega)]; rfl
    rw [hr]
    obtain ⟨e2, pa, hpa, lpa⟩ := el_at (h.psl (m := m)) (i := i) (by rw [List.length_map]; exact hir)
    rw [List.getElem_map] at lpa
    rw [List.length_map, h.rlen] at e2
    have hrl := h.rl hir
    have hrll : rs[i].l.length = d.c.P := by rw [hrl]; exact hpl
    obtain ⟨e3, ra, hra, lra⟩ := el_at (h.rsl (m := m) hir) (i := q) (by rw [List.length_map]; omega)
    rw [List.length_map] at e3
    have hrv : (rs[i].l.map strV)[q]'(by rw [List.length_map]; omega) = .string ⟨(d.bs[i].pages[q]'(by omega)).toArray⟩ := by
      rw [List.getElem_map]
      unfold strV
      congr 3
      simp only [hrl]
    rw [hrv] at lra
    refine nilc_of rfl (ld_of pv (r_pg rL_o) (nilc_of hpa (ixn_of h0i (show (i : Int) < pv.len by omega) (ld_of rs[i].v lpa (nilc_of hra (ixn_of h0q (show (q : Int) < rs[i].v.len by omega) ?_))))))
    refine ld_of (⟨(d.bs[i].pages[q]'(by omega)).toArray⟩ : ByteArray) lra ?_
    refine s2b_of fun n ob v hv own _ => ?_
    exact .of ⟨⟨v, [(n, ob)], d.bs[i].pages[q]'(by omega)⟩, rfl, rfl, own, rfl⟩
end Go.Proofs.Ytaniefdpjommnaa
