/-
  It is proved what the functions that the law RegionKills reaches compute, part 2. There are no further conditions than those that each theorem names.
-/
import Derived.Test.YtlabcgnegbdlfaaMRegionKills1
import Derived.KernelRfl
import Derived.SizedLaws
set_option linter.unusedVariables false
set_option linter.unusedSimpArgs false
namespace Go.Proofs.Ytlabcgnegbdlfaa
open Go.HL

abbrev tB : TypeId := 40
abbrev eB : TypeId := 5
theorem undB : PP.underlying tB = some (.slice eB) := by kernel_rfl
theorem elemB : ElemT PP tB eB 1 1 [.int .u8 0] := elemT_of (by kernel_rfl) (by kernel_rfl) rfl (by decide) (by decide)
theorem srcB : SrcT PP tB := .inl ⟨eB, by kernel_rfl⟩
theorem srcS : SrcT PP 9 := .inr (by kernel_rfl)
theorem constB {L : HList} {b : Nat} {l : List UInt8} {T : TypeId} {fz : Nat × Nat} (cap : Nat) (hc : l.length ≤ cap) (hm : (b, Obj.cells (bvs l).toArray T fz) ∈ L) : BSl L ⟨some ⟨b, 0, none⟩, l.length, cap⟩ l :=
  ⟨by rw [bvs_length]; simp, hc, .inr ⟨_, rfl, .blk hm fun i v hv => by simpa using hv⟩⟩
theorem own_empty {n : Nat} {e : TypeId} : Own ⟨some ⟨n, 0, none⟩, 0, 0⟩ 1 e [] [(n, Obj.cells #[] e)] := ⟨rfl, Nat.le_refl _, .inr ⟨n, 0, #[], (0, 0), rfl, rfl, by simp, .inl (Nat.le_refl _), fun i u hu => by simp at hu⟩⟩
theorem own_nil {sz : Nat} {e : TypeId} : Own ⟨none, 0, 0⟩ sz e [] [] := ⟨by simp, Nat.le_refl _, .inl ⟨rfl, rfl, rfl⟩⟩

/-! ### a number's bytes -/
def dig (n i : Nat) : UInt8 := UInt8.ofNat (n / 256 ^ i)
def digs (n w : Nat) : List UInt8 := (List.range w).map (dig n)
theorem digs_len (n w : Nat) : (digs n w).length = w := by simp [digs]
theorem digs_succ (n w : Nat) : digs n (w + 1) = digs n w ++ [dig n w] := by simp [digs, List.range_succ]
theorem digs_cons (n w : Nat) : digs n (w + 1) = UInt8.ofNat n :: digs (n / 256) w := by
  induction w with
  | zero => simp [digs, dig]
  | succ w ih =>
    rw [digs_succ n (w + 1), ih, digs_succ (n / 256) w]
    have : dig n (w + 1) = dig (n / 256) w := by
      unfold dig
      rw [Nat.pow_succ, Nat.mul_comm, Nat.div_div_eq_div_mul]
    rw [this]; rfl
/-- A list's number, the lowest byte first. -/
def num : List UInt8 → Nat
  | [] => 0
  | x :: r => x.toNat + 256 * num r
theorem num_lt : ∀ l : List UInt8, num l < 256 ^ l.length
  | [] => by simp [num]
  | x :: r => by
    have h1 := num_lt r
    have h2 := x.toNat_lt
    rw [List.length_cons, Nat.pow_succ]
    simp only [num]
    omega
theorem num_snoc (l : List UInt8) (x : UInt8) : num (l ++ [x]) = num l + 256 ^ l.length * x.toNat := by
  induction l with
  | nil => simp [num]
  | cons y r ih =>
    rw [List.cons_append]
    simp only [num, ih, List.length_cons, Nat.pow_succ]
    rw [Nat.mul_add, ← Nat.add_assoc, Nat.mul_comm (256 ^ r.length) 256, Nat.mul_assoc]
theorem num_digs (w : Nat) : ∀ n, n < 256 ^ w → num (digs n w) = n := by
  induction w with
  | zero => intro n h; simp at h; subst h; rfl
  | succ w ih =>
    intro n h
    rw [digs_cons]
    simp only [num]
    rw [ih (n / 256) (by rw [Nat.pow_succ] at h; omega)]
    have : (UInt8.ofNat n).toNat = n % 256 := by simp
    rw [this]
    exact Nat.mod_add_div n 256

/-- What is put. -/
def wput (b : List UInt8) (n w : Int) : List UInt8 × Int :=
  if w < 1 ∨ 7 < w then ([], 2) else if n < 0 ∨ ((256 ^ w.toNat : Nat) : Int) ≤ n then ([], 3) else (b ++ digs n.toNat w.toNat, 0)
theorem wput_w {b : List UInt8} {n w : Int} (h : w < 1 ∨ 7 < w) : wput b n w = ([], 2) := by unfold wput; rw [if_pos h]
theorem wput_neg {b : List UInt8} {n w : Int} (h : ¬ (w < 1 ∨ 7 < w)) (h2 : n < 0) : wput b n w = ([], 3) := by unfold wput; rw [if_neg h, if_pos (Or.inl h2)]
theorem wput_big {b : List UInt8} {n w : Int} (h : ¬ (w < 1 ∨ 7 < w)) (h2 : ((256 ^ w.toNat : Nat) : Int) ≤ n) : wput b n w = ([], 3) := by unfold wput; rw [if_neg h, if_pos (Or.inr h2)]
theorem wput_ok {b : List UInt8} {n w : Int} (h : ¬ (w < 1 ∨ 7 < w)) (h1 : ¬ n < 0) (h2 : n.toNat < 256 ^ w.toNat) : wput b n w = (b ++ digs n.toNat w.toNat, 0) := by
  unfold wput
  rw [if_neg h, if_neg]
  rintro (h3 | h3)
  · exact h1 h3
  · generalize 256 ^ w.toNat = q at h2 h3
    omega
def PutK (b : List UInt8) (n w : Int) (A : HList) (v : Value) (L' : HList) : Prop := ∃ (s : SlV) (seg : HList), v = .tuple #[.slice s.a s.len s.cap, .int .i64 (wput b n w).2] ∧ L' = seg ++ A ∧ Own s 1 eB (bvs (wput b n w).1) seg
theorem PutK.err {b : List UInt8} {n w : Int} {A : HList} {e : Int} (h : wput b n w = ([], e)) : PutK b n w A (.tuple #[.slice none 0 0, .int .i64 e]) A :=
  ⟨⟨none, 0, 0⟩, [], by rw [h], rfl, by rw [h]; exact own_nil⟩

theorem shr_dig (n : Nat) (i : Nat) : Int.fdiv (n : Int) (2 ^ (8 * i)) = ((n / 256 ^ i : Nat) : Int) := by
  rw [Int.fdiv_eq_ediv_of_nonneg _ (Int.le_of_lt (Int.pow_pos (by omega)))]
  have : (2 : Int) ^ (8 * i) = ((256 ^ i : Nat) : Int) := by rw [Int.pow_mul, Int.natCast_pow]; rfl
  rw [this, Int.natCast_ediv]
theorem wrap_dig (n i : Nat) : IntKind.u8.wrap ((n / 256 ^ i : Nat) : Int) = ((dig n i).toNat : Int) := by
  rw [w8_bv, BitVec.toNat_ofInt]
  unfold dig
  have : (UInt8.ofNat (n / 256 ^ i)).toNat = n / 256 ^ i % 256 := by simp
  rw [this]
  omega
theorem digs8 (n : Nat) : digs n 8 = [dig n 0, dig n 1, dig n 2, dig n 3, dig n 4, dig n 5, dig n 6, dig n 7] := rfl
theorem wr8 (c : Array Value) (hc : c.size = 8) (a b c' d e f g h : UInt8) : wr c 0 [.int .u8 a.toNat, .int .u8 b.toNat, .int .u8 c'.toNat, .int .u8 d.toNat, .int .u8 e.toNat, .int .u8 f.toNat, .int .u8 g.toNat, .int .u8 h.toNat] = (bvs [a, b, c', d, e, f, g, h]).toArray := wr_all _ _ (by rw [hc]; rfl)
theorem agg8 (a b c d e f g h : UInt8) : (bvs [a, b, c, d, e, f, g, h]).toArray = #[.int .u8 a.toNat, .int .u8 b.toNat, .int .u8 c.toNat, .int .u8 d.toNat, .int .u8 e.toNat, .int .u8 f.toNat, .int .u8 g.toNat, .int .u8 h.toNat] := rfl
def digA (n k : Nat) : Array Value := ((List.range 8).map fun j => Value.int .u8 (if j < k then (dig n j).toNat else 0)).toArray
theorem of_rd (L : HList) (n : Nat) : Reads PP 106 #[.int .i64 n] L (.agg (bvs (digs n 8)).toArray) := by
  refine Reads.of (args := [.int .i64 n]) noNum mixed Try.func106 (e106 n _) ?_
  unfold t106
  refine nw_of fun n1 _ => nw_of fun n2 _ => ?_
  refine lp_of (fun k z L' => ∃ i, i ≤ 8 ∧ k = 8 - i ∧ z = ((i : Int), ()) ∧ L' = (n2, Obj.cells (digA n i) 184) :: (n1, Obj.cells #[.int .u8 0, .int .u8 0, .int .u8 0, .int .u8 0, .int .u8 0, .int .u8 0, .int .u8 0, .int .u8 0] 184) :: L) 8 ⟨0, by omega, by omega, rfl, rfl⟩ ?_
  rintro k z L' ⟨i, hi, rfl, rfl, rfl⟩
  refine ifD_of (fun (hlt : (i : Int) < 8) => ?_) (fun (hge : ¬ (i : Int) < 8) => ?_)
  · have hw : IntKind.i64.wrap (8 * (i : Int)) = ((8 * i : Nat) : Int) := by rw [w64_id (by omega) (by omega)]; omega
    have hm : min (8 * i) IntKind.i64.bits = 8 * i := Nat.min_eq_left (show 8 * i ≤ 64 by omega)
    simp only [hw, Int.toNat_natCast, hm, shr_dig, wrap_dig, Nat.mul_one]
    refine req_of (by omega) (ixn_of (by omega) hlt (st_of (n := n2) (off := i) [] _ (by rw [addr_add (ad := ⟨n2, 0, none⟩) rfl, Nat.zero_add]) rfl ?_ (.inl (Nat.le_refl _)) (digA n (i + 1)) ?_ ?_))
    · have : (digA n i).size = 8 := by simp [digA]
      rw [this]; simp only [List.length_cons, List.length_nil]; omega
    · rcases (show i = 0 ∨ i = 1 ∨ i = 2 ∨ i = 3 ∨ i = 4 ∨ i = 5 ∨ i = 6 ∨ i = 7 by omega) with rfl | rfl | rfl | rfl | rfl | rfl | rfl | rfl <;> rfl
    · refine ⟨8 - (i + 1), by omega, i + 1, by omega, rfl, ?_, rfl⟩
      rw [w64_id (by first | omega | (simp only; omega)) (by first | omega | (simp only; omega))]
      rfl
  · obtain rfl : i = 8 := by omega
    refine ld_of ((dig n 0).toNat, (dig n 1).toNat, (dig n 2).toNat, (dig n 3).toNat, (dig n 4).toNat, (dig n 5).toNat, (dig n 6).toNat, (dig n 7).toNat, ()) (ldB List.mem_cons_self rfl) ?_
    rw [digs8]
    refine st_of [(n2, Obj.cells (digA n 8) 184)] L rfl rfl (by simp) (.inl (Nat.le_refl _)) _ (wr8 _ rfl _ _ _ _ _ _ _ _) ?_
    refine ld_of ((dig n 0).toNat, (dig n 1).toNat, (dig n 2).toNat, (dig n 3).toNat, (dig n 4).toNat, (dig n 5).toNat, (dig n 6).toNat, (dig n 7).toNat, ()) (ldB (List.mem_cons_of_mem _ List.mem_cons_self) rfl) ?_
    exact .drop (A := L) (J := [_, _]) ⟨rfl, rfl⟩ (List.perm_append_comm (l₁ := [_, _]))
theorem pow_bits (w : Nat) : ((2 : Int) ^ (8 * w)) = ((256 ^ w : Nat) : Int) := by rw [Int.pow_mul, Int.natCast_pow]; rfl
theorem pow_le7 {w : Nat} (h : w ≤ 7) : 256 ^ w ≤ 72057594037927936 := Nat.pow_le_pow_right (n := 256) (by omega) h
theorem wput_cl (A : HList) (v : SlV) (b : List UInt8) (hb : BSl A v b) (hl : b.length ≤ 1000000) (n w : Int) (hn : n ≤ 9223372036854775807) :
    CallF PP 70 #[.slice v.a v.len v.cap, .int .i64 n, .int .i64 w] A (PutK b n w A) := by
  refine CallF.of (args := [.slice v.a v.len v.cap, .int .i64 n, .int .i64 w]) noNum mixed Try.func70 (e70 v n w _) ?_
  unfold t70
  have hlen := hb.len
  refine ifD_of (fun (h1 : w < 1) => .of (.err (wput_w (by omega)))) (fun (h1 : ¬ w < 1) => ?_)
  refine ifD_of (fun (h2 : w > 7) => .of (.err (wput_w (by omega)))) (fun (h2 : ¬ w > 7) => ?_)
  refine ifD_of (fun (h3 : n < 0) => .of (.err (wput_neg (by omega) h3))) (fun (h3 : ¬ n < 0) => ?_)
  obtain ⟨m, rfl⟩ : ∃ m : Nat, n = m := ⟨n.toNat, by omega⟩
  obtain ⟨u, rfl⟩ : ∃ u : Nat, w = u := ⟨w.toNat, by omega⟩
  have hp7 := pow_le7 (w := u) (by omega)
  have hw : IntKind.i64.wrap (8 * (u : Int)) = ((8 * u : Nat) : Int) := by rw [w64_id (by omega) (by omega)]; omega
  have hm : min (8 * u) IntKind.i64.bits = 8 * u := Nat.min_eq_left (show 8 * u ≤ 64 by omega)
  simp only [hw, Int.toNat_natCast, hm, shr_dig]
  refine req_of (by omega) (ifNe_of (fun (h4 : ((m / 256 ^ u : Nat) : Int) ≠ 0) => .of (.err ?_)) (fun (h4 : ((m / 256 ^ u : Nat) : Int) = 0) => ?_))
  · refine wput_big (by omega) ?_
    rw [Int.toNat_natCast]
    have : 256 ^ u ≤ m := by
      refine Nat.le_of_not_lt fun hlt => h4 ?_
      simp [Nat.div_eq_of_lt hlt]
    generalize 256 ^ u = q at this
    omega
  · have hlt : m < 256 ^ u := by
      refine Nat.lt_of_not_le fun hle => ?_
      have := Nat.div_pos hle (Nat.pow_pos (by omega))
      omega
    have hput : wput b m u = (b ++ digs m u, 0) := by
      have := wput_ok (b := b) (n := m) (w := u) (by omega) (by omega) (by simpa using hlt)
      simpa using this
    refine cl_rd (of_rd A m) (((dig m 0).toNat, (dig m 1).toNat, (dig m 2).toNat, (dig m 3).toNat, (dig m 4).toNat, (dig m 5).toNat, (dig m 6).toNat, (dig m 7).toNat, ()), ()) rfl ?_
    refine nw_of fun n1 _ => st_of [] A rfl rfl (by simp) (.inl (Nat.le_refl _)) (bvs (digs m 8)).toArray (by rw [digs8]; exact wr8 _ rfl _ _ _ _ _ _ _ _) ?_
    have hc : IntKind.i64.wrap ((v.len : Int) + (u : Int)) = ((v.len + u : Nat) : Int) := by rw [w64_id (by omega) (by omega)]; omega
    rw [hc]
    refine make_of (l := 0) (c := v.len + u) elemB (by omega) (by omega) fun n2 ob own0 _ _ => ?_
    have z0 : zeros [Value.int .u8 0] 0 = [] := rfl
    rw [z0] at own0
    refine append_in elemB srcB [] ([(n1, Obj.cells (bvs (digs m 8)).toArray 184)] ++ A) own0 (by simp) (.sl (hb.mono fun p hp => by simp [hp])) (bvs_plain _) (by simp only; omega) fun s1 seg1 hs1 own1 => ?_
    simp only at hs1
    refine slc_of (l' := 0) (h' := u) (m' := 8) rfl rfl rfl (by omega) (by omega) (Nat.le_refl _) ?_
    have hd : BSl ([] ++ seg1 ++ ([(n1, Obj.cells (bvs (digs m 8)).toArray 184)] ++ A)) ⟨some ⟨n1, 0, none⟩, 8, 8⟩ (digs m 8) := constB (l := digs m 8) (T := 184) (fz := (0, 0)) 8 (by rw [digs_len]; exact Nat.le_refl _) (by simp)
    have hd2 := Sl.slc (l := 0) (h' := u) (m := 8) hd (by omega) (by omega) (by simp only; omega) (by omega)
    rw [bvs_slc] at hd2
    have e1 : ((digs m 8).drop 0).take (u - 0) = digs m u := by
      rcases (show u = 1 ∨ u = 2 ∨ u = 3 ∨ u = 4 ∨ u = 5 ∨ u = 6 ∨ u = 7 by omega) with rfl | rfl | rfl | rfl | rfl | rfl | rfl <;> rfl
    rw [e1] at hd2
    refine append_in elemB srcB [] ([(n1, Obj.cells (bvs (digs m 8)).toArray 184)] ++ A) own1 rfl (.sl hd2) (bvs_plain _) (by simp only [slcV, Int.toNat_natCast]; omega) fun s2 seg2 hs2 own2 => ?_
    rw [List.nil_append, ← bvs_append] at own2
    refine .drop (A := seg2 ++ A) (J := [(n1, Obj.cells (bvs (digs m 8)).toArray 184)]) ⟨s2, seg2, by rw [hput], rfl, by rw [hput]; exact own2⟩ ?_
    have h1 : ([(n1, Obj.cells (bvs (digs m 8)).toArray 184)] ++ A).Perm (A ++ [(n1, Obj.cells (bvs (digs m 8)).toArray 184)]) := List.perm_append_comm
    simpa [List.append_assoc] using List.Perm.append_left seg2 h1
theorem tdiv_step (n i : Nat) : Int.tdiv ((n / 256 ^ i : Nat) : Int) 256 = ((n / 256 ^ (i + 1) : Nat) : Int) := by
  rw [Int.tdiv_eq_ediv_of_nonneg (Int.natCast_nonneg _), Nat.pow_succ, ← Nat.div_div_eq_div_mul]
  omega
theorem tmod_dig (n i : Nat) : IntKind.u8.wrap (Int.tmod ((n / 256 ^ i : Nat) : Int) 256) = ((dig n i).toNat : Int) := by
  rw [Int.tmod_eq_emod_of_nonneg (Int.natCast_nonneg _), w8_bv, BitVec.toNat_ofInt]
  unfold dig
  have : (UInt8.ofNat (n / 256 ^ i)).toNat = n / 256 ^ i % 256 := by simp
  rw [this]
  omega
theorem tmod_any (x : Int) : ∃ d : UInt8, IntKind.u8.wrap x = (d.toNat : Int) := by
  refine ⟨UInt8.ofNat (BitVec.ofInt 8 x).toNat, ?_⟩
  rw [w8_bv]
  have h := (BitVec.ofInt 8 x).isLt
  have : (UInt8.ofNat (BitVec.ofInt 8 x).toNat).toNat = (BitVec.ofInt 8 x).toNat % 256 := by simp
  rw [this]
  omega
theorem rput_cl (A : HList) (v : SlV) (b : List UInt8) (hb : BSl A v b) (hl : b.length ≤ 1000000) (n w : Int) (hn : n ≤ 9223372036854775807) (hn0 : -9223372036854775808 ≤ n) :
    CallF PP 71 #[.slice v.a v.len v.cap, .int .i64 n, .int .i64 w] A (PutK b n w A) := by
  refine CallF.of (args := [.slice v.a v.len v.cap, .int .i64 n, .int .i64 w]) noNum mixed Try.func71 (e71 v n w _) ?_
  unfold t71
  have hlen := hb.len
  refine ifD_of (fun (h1 : w < 1) => .of (.err (wput_w (by omega)))) (fun (h1 : ¬ w < 1) => ?_)
  refine ifD_of (fun (h2 : w > 7) => .of (.err (wput_w (by omega)))) (fun (h2 : ¬ w > 7) => ?_)
  obtain ⟨u, rfl⟩ : ∃ u : Nat, w = u := ⟨w.toNat, by omega⟩
  refine nw_of fun q _ => append_in elemB srcB [] A own_empty (by simp) (.sl hb.cons) (bvs_plain _) (by simp only; omega) fun s0 seg0 hs0 own0 => ?_
  simp only at hs0
  refine lp_of (fun k z L' => ∃ (i : Nat) (s : SlV) (left : Int) (bs : List UInt8) (seg J : HList), i ≤ u ∧ k = u - i ∧ z = (s, left, (i : Int), ()) ∧ L' = J ++ seg ++ A ∧ bs.length = i ∧ Own s 1 eB (bvs (b ++ bs)) seg ∧ -9223372036854775808 ≤ left ∧ left ≤ 9223372036854775807 ∧
      (0 ≤ n → bs = digs n.toNat i ∧ left = ((n.toNat / 256 ^ i : Nat) : Int))) u
    ⟨0, s0, n, [], seg0, [], by omega, by omega, rfl, by simp, rfl, by simpa using own0, hn0, hn, fun h0 => ⟨rfl, by rw [Nat.pow_zero, Nat.div_one]; omega⟩⟩ ?_
  rintro k z L' ⟨i, s, left, bs, seg, J, hi, rfl, rfl, rfl, hbs, own, hlo, hhi, hd⟩
  have hsl := own.sl.len
  rw [bvs_length, List.length_append] at hsl
  refine ifD_of (fun (hlt : (i : Int) < u) => ?_) (fun (hge : ¬ (i : Int) < u) => ?_)
  · obtain ⟨d, hdd⟩ := tmod_any (Int.tmod left 256)
    have hq : -9223372036854775808 ≤ Int.tdiv left 256 ∧ Int.tdiv left 256 ≤ 9223372036854775807 := by
      rcases Int.lt_or_le left 0 with hneg | hpos
      · have : Int.tdiv left 256 = -(Int.tdiv (-left) 256) := by rw [Int.neg_tdiv, Int.neg_neg]
        have h2 : Int.tdiv (-left) 256 = (-left) / 256 := Int.tdiv_eq_ediv_of_nonneg (by omega)
        omega
      · have h2 : Int.tdiv left 256 = left / 256 := Int.tdiv_eq_ediv_of_nonneg hpos
        omega
    simp only [hdd]
    refine req_of (by decide) (nw_of fun m _ => append_in elemB srcB ((m, Obj.cells #[.int .u8 (d.toNat : Int)] eB) :: J) A own rfl (.sl (constB (l := [d]) 1 (Nat.le_refl _) List.mem_cons_self)) (bvs_plain _) (by simp only [List.length_cons, List.length_nil]; omega) fun s' seg' hs' own' => ?_)
    rw [← bvs_append, List.append_assoc] at own'
    refine req_of (by decide) ⟨u - (i + 1), by omega, i + 1, s', Int.tdiv left 256, bs ++ [d], seg', (m, Obj.cells #[.int .u8 (d.toNat : Int)] eB) :: J, by omega, rfl, ?_, rfl, by simp [hbs], own', hq.1, hq.2, fun h0 => ?_⟩
    · rw [w64_id (n := Int.tdiv left 256) hq.1 hq.2, w64_id (by first | omega | (simp only; omega)) (by first | omega | (simp only; omega))]
      rfl
    · obtain ⟨e1, e2⟩ := hd h0
      rw [e2, tmod_dig] at hdd
      have hd2 : dig n.toNat i = d := UInt8.toNat_inj.1 (by omega)
      rw [e1, e2, tdiv_step, digs_succ, hd2]
      exact ⟨rfl, rfl⟩
  · obtain rfl : i = u := by omega
    have fin : ∀ {v : Value}, PutK b n i A v A → HL.Ends (PutK b n i A) v (J ++ seg ++ A) := fun h => .drop (A := A) (J := J ++ seg) h List.perm_append_comm
    refine ifD_of (fun (h3 : n < 0) => fin (.err (wput_neg (by omega) h3))) (fun (h3 : ¬ n < 0) => ?_)
    obtain ⟨e1, e2⟩ := hd (by omega)
    have hpos : 0 < 256 ^ i := Nat.pow_pos (by omega)
    refine ifD_of (fun (h4 : left > 0) => fin (.err ?_)) (fun (h4 : ¬ left > 0) => ?_)
    · refine wput_big (by omega) ?_
      rw [Int.toNat_natCast]
      have : 256 ^ i ≤ n.toNat := by
        refine Nat.le_of_not_lt fun hlt => ?_
        rw [Nat.div_eq_of_lt hlt] at e2
        omega
      generalize 256 ^ i = q at this
      omega
    · have hlt : n.toNat < 256 ^ i := by
        refine Nat.lt_of_not_le fun hle => ?_
        have := Nat.div_pos hle hpos
        omega
      have hput : wput b n i = (b ++ digs n.toNat i, 0) := by
        have := wput_ok (b := b) (n := n) (w := i) (by omega) h3 (by simpa using hlt)
        simpa using this
      rw [e1] at own
      refine .drop (A := seg ++ A) (J := J) ⟨s, seg, by rw [hput], rfl, by rw [hput]; exact own⟩ ?_
      rw [List.append_assoc]
      exact List.perm_append_comm
end Go.Proofs.Ytlabcgnegbdlfaa
set_option linter.unusedVariables false
set_option linter.unusedSimpArgs false
namespace Go.Proofs.Ytlabcgnegbdlfaa
open Go.HL

abbrev tPs : TypeId := 22
theorem undPs : PP.underlying tPs = some (.slice tB) := by kernel_rfl
theorem elemPs : ElemT PP tPs tB 1 24 [.slice none 0 0] := elemT_of (by kernel_rfl) (by kernel_rfl) rfl (by decide) (by decide)
theorem srcPs : SrcT PP tPs := .inl ⟨tB, by kernel_rfl⟩
/-- Bytes with their own place. -/
structure PG where
  v : SlV
  seg : HList
  l : List UInt8
def PG.Ok (g : PG) : Prop := Own g.v 1 eB (bvs g.l) g.seg
def PG.val (g : PG) : Value := .slice g.v.a g.v.len g.v.cap
def pgs (l : List PG) : HList := l.flatMap PG.seg
theorem pgs_append (a b : List PG) : pgs (a ++ b) = pgs a ++ pgs b := List.flatMap_append
theorem pgs_cons (a : PG) (b : List PG) : pgs (a :: b) = a.seg ++ pgs b := rfl
theorem pgs_one (a : PG) : pgs [a] = a.seg := by simp [pgs]
theorem vals_plain (l : List PG) : (l.map PG.val).all plainV = true := by
  induction l with
  | nil => rfl
  | cons e r ih => rw [List.map_cons, List.all_cons, ih]; rfl
def pg0 : PG := ⟨⟨none, 0, 0⟩, [], []⟩
theorem pg0_ok : pg0.Ok := own_nil
/-- Bytes that are read. -/
abbrev PV := SlV × List UInt8
def pvV (x : PV) : Value := .slice x.1.a x.1.len x.1.cap
def pvs (l : List PG) : List PV := l.map fun g => (g.v, g.l)
theorem pvs_val (l : List PG) : (pvs l).map pvV = l.map PG.val := by unfold pvs; rw [List.map_map]; rfl
def catL (l : List PV) : List UInt8 := l.flatMap Prod.snd
structure Parts (L : HList) (v : SlV) (l : List PV) : Prop where
  sl : Sl L v 1 (l.map pvV)
  val : ∀ x ∈ l, BSl L x.1 x.2
theorem Parts.mono {L R : HList} {v : SlV} {l : List PV} (h : Parts L v l) (hs : ∀ p ∈ L, p ∈ R) : Parts R v l := ⟨h.sl.mono hs, fun x hx => Sl.mono (h.val x hx) hs⟩
theorem Parts.len {L : HList} {v : SlV} {l : List PV} (h : Parts L v l) : v.len = l.length := by have := h.sl.len; rw [List.length_map] at this; omega
theorem Parts.at' {L : HList} {v : SlV} {l : List PV} (h : Parts L v l) {i : Nat} (hi : i < l.length) : ∃ a, v.a = some a ∧ LdAt (Addr.add a ((i : Int).toNat * 1)) [pvV l[i]] L := by
  have hl := h.len
  obtain ⟨a, ha, hld⟩ := h.sl.at' (i := i) (by omega) (by decide)
  refine ⟨a, ha, ?_⟩
  rw [Int.toNat_natCast, Nat.mul_one]
  exact hld.one i (by rw [List.getElem?_map, List.getElem?_eq_getElem hi]; rfl)
theorem parts_of {L : HList} {v : SlV} {gs : List PG} {seg : HList} (own : Own v 1 tB (gs.map PG.val) seg) (hg : ∀ g ∈ gs, g.Ok) (h1 : ∀ x ∈ seg, x ∈ L) (h2 : ∀ x ∈ pgs gs, x ∈ L) : Parts L v (pvs gs) := by
  refine ⟨by rw [pvs_val]; exact own.sl.mono h1, fun x hx => ?_⟩
  obtain ⟨g, hgm, rfl⟩ := List.mem_map.1 hx
  exact Sl.mono (hg g hgm).sl fun y hy => h2 y (List.mem_flatMap.2 ⟨g, hgm, hy⟩)
theorem catL_take_le (l : List PV) (i : Nat) : (catL (l.take i)).length ≤ (catL l).length := by
  conv => rhs; rw [← List.take_append_drop i l]
  unfold catL
  rw [List.flatMap_append, List.length_append]; omega
theorem catL_succ (l : List PV) {i : Nat} (hi : i < l.length) : catL (l.take (i + 1)) = catL (l.take i) ++ l[i].2 := by
  unfold catL
  rw [List.take_succ_eq_append_getElem hi, List.flatMap_append, List.flatMap_singleton]
end Go.Proofs.Ytlabcgnegbdlfaa
set_option linter.unusedVariables false
set_option linter.unusedSimpArgs false
namespace Go.Proofs.Ytlabcgnegbdlfaa
open Go.HL

theorem samep_rd (L : HList) (u v : SlV) (a b : List PV) (hu : Parts L u a) (hv : Parts L v b) (he : a.map Prod.snd = b.map Prod.snd) (hl : a.length ≤ 1048576) : Reads PP 13 #[.slice u.a u.len u.cap, .slice v.a v.len v.cap] L (.bool true) := by
  refine Reads.of (args := [.slice u.a u.len u.cap, .slice v.a v.len v.cap]) noNum mixed Try.func13 (e13 u v _) ?_
  unfold t13
  have hul := hu.len
  have hvl := hv.len
  have hab : a.length = b.length := by have := congrArg List.length he; rwa [List.length_map, List.length_map] at this
  refine ifF (by show ((u.len : Int) != (v.len : Int)) = false; rw [hul, hvl, hab]; simp) ?_
  refine lp_of (fun z' z L' => L' = L ∧ ∃ i : Nat, i ≤ a.length ∧ z' = a.length - i ∧ z = ((i : Int), ())) a.length ⟨rfl, 0, by omega, by omega, rfl⟩ ?_
  rintro z' z L1 ⟨hL1, i, hi, rfl, rfl⟩
  rw [hL1]
  refine ifD_of (fun (hlt : (i : Int) < (u.len : Int)) => ?_) (fun _ => .of ⟨rfl, rfl⟩)
  have hi' : i < a.length := by omega
  have hib : i < b.length := by omega
  obtain ⟨p, hp, l1⟩ := hu.at' hi'
  obtain ⟨q, hq, l2⟩ := hv.at' hib
  have hee : a[i].2 = b[i].2 := by
    have h1 : (a.map Prod.snd)[i]? = (b.map Prod.snd)[i]? := by rw [he]
    rw [List.getElem?_map, List.getElem?_map, List.getElem?_eq_getElem hi', List.getElem?_eq_getElem hib] at h1
    exact Option.some.inj h1
  refine nilc_of hp (ixn_of (show (0 : Int) ≤ (i : Int) by omega) hlt (nilc_of hq (ixn_of (show (0 : Int) ≤ (i : Int) by omega) (show (i : Int) < (v.len : Int) by omega) ?_)))
  refine ld_of a[i].1 l1 (b2s_of (hu.val _ (List.getElem_mem hi')) (ld_of b[i].1 l2 (b2s_of (hv.val _ (List.getElem_mem hib)) (ifF (by simp [hee]) ?_))))
  refine ⟨a.length - (i + 1), by omega, rfl, i + 1, by omega, rfl, ?_⟩
  rw [w64_id (by first | omega | (simp only; omega)) (by first | omega | (simp only; omega))]
  rfl
theorem fewp_cl (L : HList) (v : SlV) (l : List PV) (h : Parts L v l) (hl : l.length ≤ 9223372036854775807) (most bytes : Int) :
    CallF PP 8 #[.slice v.a v.len v.cap, .int .i64 most, .int .i64 bytes] L fun r L' => L' = L ∧ ∃ b, r = .bool b ∧ (b = true → (l.length : Int) ≤ most ∧ ∀ x ∈ l, (x.2.length : Int) ≤ bytes) := by
  refine CallF.of (args := [.slice v.a v.len v.cap, .int .i64 most, .int .i64 bytes]) noNum mixed Try.func8 (e8 v most bytes _) ?_
  unfold t8
  have hlen := h.len
  refine lp_of (fun k z L' => L' = L ∧ ∃ i : Nat, i ≤ l.length ∧ k = l.length - i ∧ z = ((i : Int), ()) ∧ ∀ x ∈ l.take i, (x.2.length : Int) ≤ bytes) l.length ⟨rfl, 0, by omega, by omega, rfl, by simp⟩ ?_
  rintro k z L1 ⟨hL1, i, hi, rfl, rfl, hall⟩
  rw [hL1]
  refine ifD_of (fun (hlt : (i : Int) < (v.len : Int)) => ?_) (fun (hge : ¬ (i : Int) < (v.len : Int)) => ?_)
  · have hi' : i < l.length := by omega
    refine ifD_of (fun (hle : (i : Int) ≤ most) => ?_) (fun (hle : ¬ (i : Int) ≤ most) => .of ⟨rfl, _, rfl, fun hb => ?_⟩)
    · obtain ⟨a, ha, l1⟩ := h.at' hi'
      have hb := (h.val l[i] (List.getElem_mem hi')).len
      refine nilc_of ha (ixn_of (show (0 : Int) ≤ (i : Int) by omega) hlt (ld_of l[i].1 l1 ?_))
      refine ifD_of (fun (h4 : (l[i].1.len : Int) > bytes) => .of ⟨rfl, false, rfl, fun h => by cases h⟩) (fun (h4 : ¬ (l[i].1.len : Int) > bytes) => ?_)
      refine ⟨l.length - (i + 1), by omega, rfl, i + 1, by omega, rfl, ?_, fun x hx => ?_⟩
      · rw [w64_id (by first | omega | (simp only; omega)) (by first | omega | (simp only; omega))]
        rfl
      · rw [List.take_succ_eq_append_getElem hi'] at hx
        rcases List.mem_append.1 hx with hx | hx
        · exact hall x hx
        · rw [List.mem_singleton.1 hx]; omega
    · have := of_decide_eq_true hb
      omega
  · obtain rfl : i = l.length := by omega
    rw [List.take_length] at hall
    refine .of ⟨rfl, _, rfl, fun hb => ⟨?_, hall⟩⟩
    have := of_decide_eq_true hb
    omega
end Go.Proofs.Ytlabcgnegbdlfaa
set_option linter.unusedVariables false
set_option linter.unusedSimpArgs false
namespace Go.Proofs.Ytlabcgnegbdlfaa
open Go.HL

/-- What is got. -/
def wget (b : List UInt8) (at' w : Int) : Int × Int :=
  if w < 1 ∨ 7 < w then (0, 2) else if at' < 0 ∨ (b.length : Int) < at' + w then (0, 6) else ((num ((b.drop at'.toNat).take w.toNat) : Int), 0)
theorem wget_w {b : List UInt8} {a w : Int} (h : w < 1 ∨ 7 < w) : wget b a w = (0, 2) := by unfold wget; rw [if_pos h]
theorem wget_short {b : List UInt8} {a w : Int} (h : ¬ (w < 1 ∨ 7 < w)) (h2 : a < 0 ∨ (b.length : Int) < a + w) : wget b a w = (0, 6) := by unfold wget; rw [if_neg h, if_pos h2]
theorem wget_ok {b : List UInt8} {a w : Nat} (h : 1 ≤ w) (h7 : w ≤ 7) (h2 : a + w ≤ b.length) : wget b a w = ((num ((b.drop a).take w) : Int), 0) := by
  unfold wget
  rw [if_neg (by omega), if_neg (by omega), Int.toNat_natCast, Int.toNat_natCast]
theorem pow256 (w : Nat) (h : w ≤ 7) : 0 < 256 ^ w ∧ 256 ^ w ≤ 72057594037927936 := ⟨Nat.pow_pos (by omega), pow_le7 h⟩
theorem num_le {l : List UInt8} {w : Nat} (hl : l.length ≤ w) (hw : w ≤ 7) : num l < 256 ^ w := Nat.lt_of_lt_of_le (num_lt l) (Nat.pow_le_pow_right (by omega) hl)
theorem wget_rng (b : List UInt8) (a w : Int) : 0 ≤ (wget b a w).1 ∧ (wget b a w).1 < 72057594037927936 ∧ ((wget b a w).2 = 0 ∨ (wget b a w).2 = 2 ∨ (wget b a w).2 = 6) ∧ ((wget b a w).2 = 0 → 0 ≤ a ∧ 1 ≤ w ∧ w ≤ 7 ∧ a + w ≤ b.length) := by
  unfold wget
  split
  · exact ⟨by simp, by simp, .inr (.inl rfl), fun h => absurd h (by decide)⟩
  · split
    · exact ⟨by simp, by simp, .inr (.inr rfl), fun h => absurd h (by decide)⟩
    · have h1 := num_le (l := (b.drop a.toNat).take w.toNat) (w := w.toNat) (List.length_take_le _ _) (by omega)
      have h2 := pow_le7 (w := w.toNat) (by omega)
      refine ⟨by simp only; omega, by simp only; omega, .inl rfl, fun _ => ⟨by omega, by omega, by omega, by omega⟩⟩
theorem take_step (b : List UInt8) (a i : Nat) (h : a + i < b.length) : (b.drop a).take (i + 1) = (b.drop a).take i ++ [b[a + i]] := by
  rw [List.take_succ_eq_append_getElem (by rw [List.length_drop]; omega)]
  congr 2
  simp
theorem wget_rd (L : HList) (v : SlV) (b : List UInt8) (hb : BSl L v b) (hl : b.length ≤ 1000000000) (a w : Int) :
    Reads PP 72 #[.slice v.a v.len v.cap, .int .i64 a, .int .i64 w] L (.tuple #[.int .i64 (wget b a w).1, .int .i64 (wget b a w).2]) := by
  refine Reads.of (args := [.slice v.a v.len v.cap, .int .i64 a, .int .i64 w]) noNum mixed Try.func72 (e72 v a w _) ?_
  unfold t72
  have hlen := hb.len
  refine ifD_of (fun (h1 : w < 1) => .of ⟨by rw [wget_w (by omega)], rfl⟩) (fun (h1 : ¬ w < 1) => ?_)
  refine ifD_of (fun (h2 : w > 7) => .of ⟨by rw [wget_w (by omega)], rfl⟩) (fun (h2 : ¬ w > 7) => ?_)
  refine ifD_of (fun (h3 : a < 0) => .of ⟨by rw [wget_short (by omega) (.inl h3)], rfl⟩) (fun (h3 : ¬ a < 0) => ?_)
  refine ifD_of (fun (h4 : a > v.len) => .of ⟨by rw [wget_short (by omega) (.inr (by omega))], rfl⟩) (fun (h4 : ¬ a > v.len) => ?_)
  rw [w64_id (n := (v.len : Int) - a) (by omega) (by omega)]
  refine ifD_of (fun (h5 : w > (v.len : Int) - a) => .of ⟨by rw [wget_short (by omega) (.inr (by omega))], rfl⟩) (fun (h5 : ¬ w > (v.len : Int) - a) => ?_)
  obtain ⟨a, rfl⟩ : ∃ u : Nat, a = u := ⟨a.toNat, by omega⟩
  obtain ⟨w, rfl⟩ : ∃ u : Nat, w = u := ⟨w.toNat, by omega⟩
  have hfit : a + w ≤ b.length := by omega
  rw [wget_ok (by omega) (by omega) hfit]
  refine lp_of (fun k z L' => L' = L ∧ ∃ i : Nat, i ≤ w ∧ k = w - i ∧ z = ((num ((b.drop a).take i) : Int), ((256 ^ i : Nat) : Int), (i : Int), ())) w ⟨rfl, 0, by omega, by omega, rfl⟩ ?_
  rintro k z L ⟨rfl, i, hi, rfl, rfl⟩
  refine ifD_of (fun (hlt : (i : Int) < w) => ?_) (fun (hge : ¬ (i : Int) < w) => ?_)
  · have hai : a + i < b.length := by omega
    obtain ⟨ad, ha⟩ := hb.some hai
    have e1 : IntKind.i64.wrap ((a : Int) + i) = ((a + i : Nat) : Int) := by rw [w64_id (by omega) (by omega)]; omega
    simp only [e1]
    refine nilc_of ha (ixn_of (by omega) (by omega) (ld_of (b[a + i].toNat : Int) (hb.rd hai ha _ (by omega)) ?_))
    have hp := pow256 i (by omega)
    have hx := b[a + i].toNat_lt
    have hn := num_le (l := (b.drop a).take i) (w := i) (List.length_take_le _ _) (by omega)
    have hlt6 : 256 ^ i ≤ 281474976710656 := Nat.le_trans (Nat.pow_le_pow_right (by omega) (show i ≤ 6 by omega)) (by decide)
    have hm : 256 ^ i * b[a + i].toNat ≤ 281474976710656 * 255 := Nat.mul_le_mul hlt6 (by omega)
    refine ⟨w - (i + 1), by omega, rfl, i + 1, by omega, rfl, ?_⟩
    have hli : ((b.drop a).take i).length = i := by rw [List.length_take, List.length_drop]; omega
    rw [take_step b a i hai, num_snoc, hli]
    have e2 : ((256 ^ i : Nat) : Int) * (b[a + i].toNat : Int) = ((256 ^ i * b[a + i].toNat : Nat) : Int) := by rw [Int.natCast_mul]
    have e3 : ((256 ^ i : Nat) : Int) * 256 = ((256 ^ (i + 1) : Nat) : Int) := by rw [Nat.pow_succ, Int.natCast_mul]; rfl
    have hp1 := pow256 (i + 1) (by omega)
    simp only [w64_id (n := (b[a + i].toNat : Int)) (by omega) (by omega), e2, e3]
    generalize 256 ^ i * b[a + i].toNat = q at hm ⊢
    generalize 256 ^ (i + 1) = q2 at hp1 ⊢
    generalize 256 ^ i = q3 at hn hlt6
    rw [w64_id (n := (q : Int)) (by omega) (by omega), w64_id (n := (num ((b.drop a).take i) : Int) + q) (by omega) (by omega), w64_id (n := (q2 : Int)) (by omega) (by omega), w64_id (n := (i : Int) + 1) (by omega) (by omega)]
    simp only [Int.natCast_add, Int.cast_ofNat_Int]
  · obtain rfl : i = w := by omega
    exact .of ⟨rfl, rfl⟩
theorem rget_rd (L : HList) (v : SlV) (b : List UInt8) (hb : BSl L v b) (hl : b.length ≤ 1000000000) (a w : Int) :
    Reads PP 73 #[.slice v.a v.len v.cap, .int .i64 a, .int .i64 w] L (.tuple #[.int .i64 (wget b a w).1, .int .i64 (wget b a w).2]) := by
  refine Reads.of (args := [.slice v.a v.len v.cap, .int .i64 a, .int .i64 w]) noNum mixed Try.func73 (e73 v a w _) ?_
  unfold t73
  have hlen := hb.len
  refine ifD_of (fun (h1 : w < 1) => .of ⟨by rw [wget_w (by omega)], rfl⟩) (fun (h1 : ¬ w < 1) => ?_)
  refine ifD_of (fun (h2 : w > 7) => .of ⟨by rw [wget_w (by omega)], rfl⟩) (fun (h2 : ¬ w > 7) => ?_)
  refine ifD_of (fun (h3 : a < 0) => .of ⟨by rw [wget_short (by omega) (.inl h3)], rfl⟩) (fun (h3 : ¬ a < 0) => ?_)
  refine ifD_of (fun (h4 : a > v.len) => .of ⟨by rw [wget_short (by omega) (.inr (by omega))], rfl⟩) (fun (h4 : ¬ a > v.len) => ?_)
  rw [w64_id (n := (v.len : Int) - a) (by omega) (by omega)]
  refine ifD_of (fun (h5 : (v.len : Int) - a < w) => .of ⟨by rw [wget_short (by omega) (.inr (by omega))], rfl⟩) (fun (h5 : ¬ (v.len : Int) - a < w) => ?_)
  obtain ⟨a, rfl⟩ : ∃ u : Nat, a = u := ⟨a.toNat, by omega⟩
  obtain ⟨w, rfl⟩ : ∃ u : Nat, w = u := ⟨w.toNat, by omega⟩
  have hfit : a + w ≤ b.length := by omega
  rw [wget_ok (by omega) (by omega) hfit]
  refine lp_of (fun k z L' => L' = L ∧ k ≤ w ∧ z = ((num ((b.drop (a + k)).take (w - k)) : Int), (k : Int) - 1, ())) w ⟨rfl, Nat.le_refl _, by rw [w64_id (by omega) (by omega), Nat.sub_self]; rfl⟩ ?_
  rintro k z L ⟨rfl, hk, rfl⟩
  refine ifD_of (fun (hge : (k : Int) - 1 ≥ 0) => ?_) (fun (hlt : ¬ (k : Int) - 1 ≥ 0) => ?_)
  · obtain ⟨j, rfl⟩ : ∃ j, k = j + 1 := ⟨k - 1, by omega⟩
    have hj1 : ((j + 1 : Nat) : Int) - 1 = j := by omega
    have hai : a + j < b.length := by omega
    obtain ⟨ad, ha⟩ := hb.some hai
    have e1 : IntKind.i64.wrap ((a : Int) + j) = ((a + j : Nat) : Int) := by rw [w64_id (by omega) (by omega)]; omega
    simp only [hj1, e1]
    refine nilc_of ha (ixn_of (by omega) (by omega) (ld_of (b[a + j].toNat : Int) (hb.rd hai ha _ (by omega)) ?_))
    refine ⟨j, by omega, rfl, by omega, ?_⟩
    have e2 : (b.drop (a + j)).take (w - j) = b[a + j] :: (b.drop (a + (j + 1))).take (w - (j + 1)) := by
      rw [List.drop_eq_getElem_cons hai, show w - j = (w - (j + 1)) + 1 by omega, List.take_succ_cons]
      rfl
    rw [e2]
    simp only [num]
    have hx := b[a + j].toNat_lt
    have hn := num_le (l := (b.drop (a + (j + 1))).take (w - (j + 1))) (w := 6) (by rw [List.length_take]; omega) (by omega)
    have h6 : 256 ^ 6 = 281474976710656 := by decide
    rw [w64_id (n := (b[a + j].toNat : Int)) (by omega) (by omega), w64_id (n := 256 * (num ((b.drop (a + (j + 1))).take (w - (j + 1))) : Int)) (by omega) (by omega), w64_id (n := 256 * (num ((b.drop (a + (j + 1))).take (w - (j + 1))) : Int) + b[a + j].toNat) (by omega) (by omega), w64_id (n := (j : Int) - 1) (by omega) (by omega)]
    refine Prod.ext ?_ rfl
    simp only [Int.natCast_add, Int.natCast_mul, Int.cast_ofNat_Int]
    exact Int.add_comm _ _
  · obtain rfl : k = 0 := by omega
    exact .of ⟨rfl, rfl⟩

/-- What a text is put as. -/
theorem same_rd (L : HList) (u v : SlV) (a : List UInt8) (hu : BSl L u a) (hv : BSl L v a) : Reads PP 21 #[.slice u.a u.len u.cap, .slice v.a v.len v.cap] L (.bool true) := by
  refine Reads.of (args := [.slice u.a u.len u.cap, .slice v.a v.len v.cap]) noNum mixed Try.func21 (e21 u v _) ?_
  unfold t21
  exact b2s_of hu (b2s_of hv (.of ⟨by simp, rfl⟩))
end Go.Proofs.Ytlabcgnegbdlfaa
set_option linter.unusedVariables false
set_option linter.unusedSimpArgs false
namespace Go.Proofs.Ytlabcgnegbdlfaa

/-! ### the checksum -/
def crcBit (c : BitVec 32) : BitVec 32 := (c >>> 1) ^^^ (2197175160#32 &&& -(c &&& 1#32))
def crcBits : Nat → BitVec 32 → BitVec 32
  | 0, c => c
  | n + 1, c => crcBit (crcBits n c)
def crcByte (c : BitVec 32) (b : UInt8) : BitVec 32 := crcBits 8 (c ^^^ BitVec.ofNat 32 b.toNat)
def crcSteps (c : BitVec 32) (l : List UInt8) : BitVec 32 := l.foldl crcByte c
theorem crcSteps_snoc (c : BitVec 32) (l : List UInt8) (b : UInt8) : crcSteps c (l ++ [b]) = crcByte (crcSteps c l) b := by simp [crcSteps]
theorem crcSteps_append (c : BitVec 32) (l m : List UInt8) : crcSteps c (l ++ m) = crcSteps (crcSteps c l) m := by simp [crcSteps]

theorem and_one (c : BitVec 32) : c &&& 1#32 = if c.getLsbD 0 then 1#32 else 0#32 := by
  apply BitVec.eq_of_getLsbD_eq
  intro i hi
  rw [BitVec.getLsbD_and, BitVec.getLsbD_one]
  by_cases h : i = 0
  · subst h; cases ha : c.getLsbD 0 <;> simp [ha]
  · cases ha : c.getLsbD 0 <;> simp [h]
theorem crcBit_if (c : BitVec 32) : crcBit c = (c >>> 1) ^^^ (if c.getLsbD 0 then 2197175160#32 else 0#32) := by
  unfold crcBit
  rw [and_one]
  cases c.getLsbD 0
  · rfl
  · have : 2197175160#32 &&& -1#32 = 2197175160#32 := by decide
    simp only [if_true, this]
theorem if_xor (a b : Bool) (p : BitVec 32) : (if (a ^^ b) then p else 0#32) = (if a then p else 0#32) ^^^ (if b then p else 0#32) := by
  cases a <;> cases b <;> simp
theorem crcBit_xor (a b : BitVec 32) : crcBit (a ^^^ b) = crcBit a ^^^ crcBit b := by
  rw [crcBit_if, crcBit_if, crcBit_if, BitVec.ushiftRight_xor_distrib, BitVec.getLsbD_xor, if_xor]
  generalize (if a.getLsbD 0 then 2197175160#32 else 0#32) = p
  generalize (if b.getLsbD 0 then 2197175160#32 else 0#32) = q
  rw [BitVec.xor_assoc, BitVec.xor_assoc]
  congr 1
  rw [← BitVec.xor_assoc, BitVec.xor_comm (b >>> 1) p, BitVec.xor_assoc]
theorem crcBits_xor : ∀ (n : Nat) (a b : BitVec 32), crcBits n (a ^^^ b) = crcBits n a ^^^ crcBits n b
  | 0, a, b => rfl
  | n + 1, a, b => by rw [crcBits, crcBits_xor n, crcBit_xor]; rfl
theorem crcBits_add : ∀ (m n : Nat) (c : BitVec 32), crcBits (m + n) c = crcBits m (crcBits n c)
  | 0, n, c => by rw [Nat.zero_add]; rfl
  | m + 1, n, c => by rw [Nat.succ_add, crcBits, crcBits_add m n c]; rfl
theorem crcByte_xor (a e : BitVec 32) (x : UInt8) : crcByte (a ^^^ e) x = crcByte a x ^^^ crcBits 8 e := by
  unfold crcByte
  rw [← crcBits_xor, BitVec.xor_assoc, BitVec.xor_assoc, BitVec.xor_comm e]
theorem crcSteps_xor : ∀ (l : List UInt8) (a e : BitVec 32), crcSteps (a ^^^ e) l = crcSteps a l ^^^ crcBits (8 * l.length) e
  | [], a, e => rfl
  | x :: r, a, e => by
    show crcSteps (crcByte (a ^^^ e) x) r = crcSteps (crcByte a x) r ^^^ _
    rw [crcByte_xor, crcSteps_xor r, ← crcBits_add]
    rfl
theorem crcBit_zero (c : BitVec 32) (h : crcBit c = 0#32) : c = 0#32 := by
  rw [crcBit_if] at h
  cases h0 : c.getLsbD 0 with
  | true =>
    rw [h0] at h
    have h1 := congrArg (fun x => x.getLsbD 31) h
    simp [BitVec.getLsbD_xor, BitVec.getLsbD_ushiftRight] at h1
  | false =>
    rw [h0] at h
    simp only [Bool.false_eq_true, if_false, BitVec.xor_zero] at h
    apply BitVec.eq_of_getLsbD_eq
    intro i hi
    cases i with
    | zero => rw [h0]; simp
    | succ i =>
      have h1 := congrArg (fun x => x.getLsbD i) h
      simp only [BitVec.getLsbD_ushiftRight, BitVec.getLsbD_zero] at h1
      rw [Nat.add_comm] at h1
      rw [h1]; simp
theorem crcBits_zero : ∀ (n : Nat) (c : BitVec 32), crcBits n c = 0#32 → c = 0#32
  | 0, c, h => h
  | n + 1, c, h => crcBits_zero n c (crcBit_zero _ h)
theorem crcBits_of_zero : ∀ n, crcBits n 0#32 = 0#32
  | 0 => rfl
  | n + 1 => by rw [crcBits, crcBits_of_zero n]; decide
theorem bits_pow : ∀ i : Fin 32, crcBits i.val (1#32 <<< i.val) = 1#32 := by decide +kernel

/-! three lists -/
theorem u8_xor (a b : UInt8) : BitVec.ofNat 32 (a ^^^ b).toNat = BitVec.ofNat 32 a.toNat ^^^ BitVec.ofNat 32 b.toNat := by
  apply BitVec.eq_of_toNat_eq
  have h1 := a.toNat_lt
  have h2 := b.toNat_lt
  have h3 := (a ^^^ b).toNat_lt
  simp only [BitVec.toNat_xor, BitVec.toNat_ofNat]
  rw [Nat.mod_eq_of_lt (by omega), Nat.mod_eq_of_lt (by omega), Nat.mod_eq_of_lt (by omega), UInt8.toNat_xor]
theorem xor_six (p q r x y z : BitVec 32) : p ^^^ q ^^^ r ^^^ (x ^^^ y ^^^ z) = (p ^^^ x) ^^^ (q ^^^ y) ^^^ (r ^^^ z) := by
  apply BitVec.eq_of_getLsbD_eq
  intro i hi
  simp only [BitVec.getLsbD_xor]
  cases p.getLsbD i <;> cases q.getLsbD i <;> cases r.getLsbD i <;> cases x.getLsbD i <;> cases y.getLsbD i <;> cases z.getLsbD i <;> rfl
theorem crcByte_three (p q r : BitVec 32) (x y z : UInt8) : crcByte (p ^^^ q ^^^ r) (x ^^^ y ^^^ z) = crcByte p x ^^^ crcByte q y ^^^ crcByte r z := by
  unfold crcByte
  rw [u8_xor, u8_xor, xor_six, crcBits_xor, crcBits_xor]
def xor3 (a b c : List UInt8) (n : Nat) : List UInt8 := (List.range n).map fun i => (a.getD i 0) ^^^ (b.getD i 0) ^^^ (c.getD i 0)
theorem xor3_succ (a b c : List UInt8) (n : Nat) : xor3 a b c (n + 1) = xor3 a b c n ++ [a.getD n 0 ^^^ b.getD n 0 ^^^ c.getD n 0] := by
  simp [xor3, List.range_succ]
theorem crcSteps_three (p q r : BitVec 32) (a b c : List UInt8) : ∀ n, n ≤ a.length → n ≤ b.length → n ≤ c.length →
    crcSteps (p ^^^ q ^^^ r) (xor3 a b c n) = crcSteps p (a.take n) ^^^ crcSteps q (b.take n) ^^^ crcSteps r (c.take n)
  | 0, _, _, _ => rfl
  | n + 1, ha, hb, hc => by
    rw [xor3_succ, crcSteps_snoc, crcSteps_three p q r a b c n (by omega) (by omega) (by omega), crcByte_three,
      List.take_succ_eq_append_getElem ha, List.take_succ_eq_append_getElem hb, List.take_succ_eq_append_getElem hc, crcSteps_snoc, crcSteps_snoc, crcSteps_snoc]
    simp [List.getD_eq_getElem?_getD, show n < a.length from ha, show n < b.length from hb, show n < c.length from hc]

/-! one bit -/
def flipB (x : UInt8) (r : Nat) : UInt8 := x ^^^ UInt8.ofNat (2 ^ r)
theorem flip_bits : ∀ r : Fin 8, crcBits 8 (BitVec.ofNat 32 (UInt8.ofNat (2 ^ r.val)).toNat) = crcBits (8 - r.val) 1#32 := by decide +kernel
theorem crcByte_flip (c : BitVec 32) (x : UInt8) (r : Nat) (hr : r < 8) : crcByte c (flipB x r) = crcByte c x ^^^ crcBits (8 - r) 1#32 := by
  unfold crcByte flipB
  rw [u8_xor, ← BitVec.xor_assoc, crcBits_xor, flip_bits ⟨r, hr⟩]
theorem crcSteps_flip (c : BitVec 32) (l : List UInt8) (k : Nat) (hk : k / 8 < l.length) :
    crcSteps c (l.set (k / 8) (flipB l[k / 8] (k % 8))) = crcSteps c l ^^^ crcBits (8 * l.length - k) 1#32 := by
  have h1 : l = l.take (k / 8) ++ l[k / 8] :: l.drop (k / 8 + 1) := by rw [← List.drop_eq_getElem_cons hk, List.take_append_drop]
  have h2 : l.set (k / 8) (flipB l[k / 8] (k % 8)) = l.take (k / 8) ++ flipB l[k / 8] (k % 8) :: l.drop (k / 8 + 1) := List.set_eq_take_append_cons_drop .. |>.trans (if_pos hk)
  rw [h2]
  conv => rhs; rw [h1]
  rw [crcSteps_append, crcSteps_append]
  show crcSteps (crcByte _ _) _ = crcSteps (crcByte _ _) _ ^^^ _
  rw [crcByte_flip _ _ _ (Nat.mod_lt _ (by omega)), crcSteps_xor, ← crcBits_add]
  congr 2
  simp only [List.length_drop, List.length_append, List.length_take, List.length_cons]
  omega
/-- What is turned so far: M has no bit from i on. -/
theorem burst_step (N f i : Nat) (hi : i < 32) (hN : f + i ≤ N) (M : BitVec 32) (hM : ∀ j, i ≤ j → M.getLsbD j = false) (s : BitVec 32) (x : BitVec 32) (hx : x = s ^^^ crcBits (N - f) M) :
    (∀ j, i + 1 ≤ j → (M ^^^ 1#32 <<< i).getLsbD j = false) ∧ M ^^^ 1#32 <<< i ≠ 0#32 ∧ x ^^^ crcBits (N - (f + i)) 1#32 = s ^^^ crcBits (N - f) (M ^^^ 1#32 <<< i) := by
  refine ⟨fun j hj => ?_, fun h => ?_, ?_⟩
  · rw [BitVec.getLsbD_xor, hM j (by omega), BitVec.getLsbD_shiftLeft, BitVec.getLsbD_one]
    have : j - i ≠ 0 := by omega
    simp [this]
  · have h1 := congrArg (fun x => x.getLsbD i) h
    simp only [BitVec.getLsbD_xor, hM i (Nat.le_refl _), BitVec.getLsbD_shiftLeft, BitVec.getLsbD_one] at h1
    simp [hi] at h1
  · rw [hx, crcBits_xor, ← BitVec.xor_assoc]
    congr 1
    have : N - f = (N - (f + i)) + i := by omega
    rw [this, crcBits_add (N - (f + i)) i (1#32 <<< i), bits_pow ⟨i, hi⟩]
theorem xor_ne (s e : BitVec 32) : (s ^^^ e = s) ↔ e = 0#32 := by
  constructor
  · intro h
    have := congrArg (fun x => s ^^^ x) h
    simpa only [← BitVec.xor_assoc, BitVec.xor_self, BitVec.zero_xor] using this
  · rintro rfl; simp
end Go.Proofs.Ytlabcgnegbdlfaa
set_option linter.unusedVariables false
namespace Go.Proofs.Ytlabcgnegbdlfaa
open Go.HL

theorem shr1 (d : BitVec 32) : Int.fdiv (d.toNat : Int) (2 ^ (min (1 : Int).toNat IntKind.u32.bits)) = ((d >>> 1).toNat : Int) := by
  have : (2 : Int) ^ (min (1 : Int).toNat IntKind.u32.bits) = 2 := rfl
  rw [this, BitVec.toNat_ushiftRight, Nat.shiftRight_eq_div_pow, Int.fdiv_eq_ediv_of_nonneg _ (by omega)]
  rfl
theorem neg32 (d : BitVec 32) : IntKind.u32.wrap (0 - (d.toNat : Int)) = ((-d).toNat : Int) := by
  rw [w32_bv]
  congr 2
  rw [Int.zero_sub, BitVec.ofInt_neg, bv_nat]
theorem crcBit_int (d : BitVec 32) : bitI .xor .u32 (Int.fdiv (d.toNat : Int) (2 ^ (min (1 : Int).toNat IntKind.u32.bits))) (bitI .and .u32 2197175160 (IntKind.u32.wrap (0 - bitI .and .u32 d.toNat 1))) = ((crcBit d).toNat : Int) := by
  rw [shr1, show (1 : Int) = ((1#32 : BitVec 32).toNat : Int) from rfl, (bit32 _ _).2.1, neg32, show (2197175160 : Int) = ((2197175160#32 : BitVec 32).toNat : Int) from rfl, (bit32 _ _).2.1, (bit32 _ _).1]
  rfl

theorem steps_rd (L : HList) (v : SlV) (l : List UInt8) (h : BSl L v l) (hb : l.length ≤ 1000000) (c : BitVec 32) : Reads PP 138 #[.int .u32 c.toNat, .slice v.a v.len v.cap] L (.int .u32 (crcSteps c l).toNat) := by
  refine Reads.of (args := [.int .u32 c.toNat, .slice v.a v.len v.cap]) noNum mixed Try.func138 (e138 c.toNat v _) ?_
  unfold t138
  have hlen := h.len
  refine lp_of (fun k z L' => L' = L ∧ ∃ i, i ≤ l.length ∧ k = l.length - i ∧ z = (((crcSteps c (l.take i)).toNat : Int), (i : Int), ())) l.length ⟨rfl, 0, by omega, by omega, rfl⟩ ?_
  rintro k z L ⟨rfl, i, hi, rfl, rfl⟩
  refine ifD_of (fun (hlt : (i : Int) < v.len) => ?_) (fun (hge : ¬ (i : Int) < v.len) => ?_)
  · have hlt' : i < l.length := by omega
    obtain ⟨ad, ha⟩ := h.some hlt'
    refine nilc_of ha (ixn_of (show (0 : Int) ≤ i by omega) hlt (ld_of (l[i].toNat : Int) (h.rd hlt' ha _ (by simp)) ?_))
    refine lp_of (fun k z L' => L' = L ∧ ∃ j, j ≤ 8 ∧ k = 8 - j ∧ z = (((crcBits j (crcSteps c (l.take i) ^^^ BitVec.ofNat 32 l[i].toNat)).toNat : Int), (j : Int), ())) 8 ⟨rfl, 0, by omega, by omega, ?_⟩ ?_
    · simp only [w32_bv]
      rw [show (BitVec.ofInt 32 (l[i].toNat : Int)) = BitVec.ofNat 32 l[i].toNat from rfl, (bit32 _ _).1]
      rfl
    · rintro k z L ⟨rfl, j, hj, rfl, rfl⟩
      refine ifD_of (fun (hlt : (j : Int) < 8) => ?_) (fun (hge : ¬ (j : Int) < 8) => ?_)
      · refine req_of (by decide) ⟨8 - (j + 1), by omega, rfl, j + 1, by omega, rfl, ?_⟩
        rw [w64_id (by simp only; omega) (by simp only; omega)]
        exact Prod.ext (crcBit_int _) rfl
      · refine ⟨l.length - (i + 1), by omega, rfl, i + 1, by omega, rfl, ?_⟩
        obtain rfl : j = 8 := by omega
        rw [w64_id (by simp only; omega) (by simp only; omega), List.take_succ_eq_append_getElem hlt', crcSteps_snoc]
        rfl
  · refine .of ⟨?_, rfl⟩
    obtain rfl : i = l.length := by omega
    rw [List.take_length]

/-! ### Sum, More, Check, Step -/
def low32 (n : Int) : BitVec 32 := BitVec.ofInt 32 n
def crcMore (n : Int) (l : List UInt8) : Int := ((~~~ crcSteps (~~~ low32 n) l).toNat : Int)
def crcSum (l : List UInt8) : Int := crcMore 0 l
theorem crcMore_range (n : Int) (l : List UInt8) : 0 ≤ crcMore n l ∧ crcMore n l < 4294967296 := by
  unfold crcMore
  have := (~~~ crcSteps (~~~ low32 n) l).isLt
  omega
theorem not32 (d : BitVec 32) : bitI .xor .u32 IntKind.u32.max (d.toNat : Int) = ((~~~ d).toNat : Int) := by
  rw [show (IntKind.u32.max : Int) = ((BitVec.allOnes 32).toNat : Int) from rfl, (bit32 _ _).1, BitVec.allOnes_xor]

theorem more_rd (L : HList) (v : SlV) (l : List UInt8) (h : BSl L v l) (hb : l.length ≤ 1000000) (n : Int) : Reads PP 131 #[.int .i64 n, .slice v.a v.len v.cap] L (.int .i64 (crcMore n l)) := by
  refine Reads.of (args := [.int .i64 n, .slice v.a v.len v.cap]) noNum mixed Try.func131 (e131 n v _) ?_
  unfold t131
  rw [w32_bv, not32]
  refine cl_rd (steps_rd L v l h hb (~~~ low32 n)) (((crcSteps (~~~ low32 n) l).toNat : Int), ()) rfl ?_
  refine .of ⟨?_, rfl⟩
  have := crcMore_range n l
  simp only [not32]
  rw [w64_id (by have := crcMore_range n l; unfold crcMore at this; omega) (by have := crcMore_range n l; unfold crcMore at this; omega)]
  rfl
theorem sum_rd (L : HList) (v : SlV) (l : List UInt8) (h : BSl L v l) (hb : l.length ≤ 1000000) : Reads PP 116 #[.slice v.a v.len v.cap] L (.int .i64 (crcSum l)) := by
  refine Reads.of (args := [.slice v.a v.len v.cap]) noNum mixed Try.func116 (e116 v _) ?_
  unfold t116
  refine cl_rd (more_rd L v l h hb 0) (crcMore 0 l, ()) rfl ?_
  exact .of ⟨rfl, rfl⟩
theorem check_rd (L : HList) (v : SlV) (l : List UInt8) (h : BSl L v l) (hb : l.length ≤ 1000000) (n : Int) : Reads PP 102 #[.slice v.a v.len v.cap, .int .i64 n] L (.bool (crcSum l == n)) := by
  refine Reads.of (args := [.slice v.a v.len v.cap, .int .i64 n]) noNum mixed Try.func102 (e102 v n _) ?_
  unfold t102
  refine cl_rd (sum_rd L v l h hb) (crcSum l, ()) rfl ?_
  exact .of ⟨rfl, rfl⟩

/-! ### Step, and the document's answers -/
theorem low_rd (L : HList) (n : Int) : Reads PP 129 #[.int .i64 n] L (.int .u32 (low32 n).toNat) := by
  refine Reads.of (args := [.int .i64 n]) noNum mixed Try.func129 (e129 n _) ?_
  unfold t129
  refine .of ⟨?_, rfl⟩
  rw [w32_bv, w64u_bv]
  unfold low32
  congr 2
  simp only [BitVec.toNat_ofInt]
  omega
theorem low_nat (d : BitVec 32) : low32 (d.toNat : Int) = d := bv_nat d
theorem half32 (d : BitVec 32) : IntKind.u32.wrap (Int.tdiv d.toNat 2) = ((d >>> 1).toNat : Int) := by
  have h0 : (0 : Int) ≤ (d.toNat : Int) := Int.natCast_nonneg _
  have h1 := d.isLt
  rw [Int.tdiv_eq_ediv_of_nonneg h0, w32_id (n := (d.toNat : Int) / 2) (by omega) (by omega), BitVec.toNat_ushiftRight, Nat.shiftRight_eq_div_pow]
  rfl
theorem rstep4_rd (L : HList) (n : Int) (x : UInt8) : Reads PP 130 #[.int .i64 n, .int .u8 x.toNat] L (.int .i64 (crcByte (low32 n) x).toNat) := by
  refine Reads.of (args := [.int .i64 n, .int .u8 x.toNat]) noNum mixed Try.func130 (e130 n x.toNat _) ?_
  unfold t130
  refine cl_rd (low_rd L n) (_, ()) rfl ?_
  refine lp_of (fun k z L' => L' = L ∧ ∃ j, j ≤ 8 ∧ k = 8 - j ∧ z = (((crcBits j (low32 n ^^^ BitVec.ofNat 32 x.toNat)).toNat : Int), (j : Int), ())) 8 ⟨rfl, 0, by omega, by omega, ?_⟩ ?_
  · simp only [xor32, w32_bv, bv_nat, ofInt_u8]
    rfl
  · rintro k z L ⟨rfl, j, hj, rfl, rfl⟩
    generalize hd : crcBits j (low32 n ^^^ BitVec.ofNat 32 x.toNat) = d
    have hodd : Int.tmod (d.toNat : Int) 2 = if d.getLsbD 0 then 1 else 0 := by
      rw [Int.tmod_eq_emod_of_nonneg (by omega)]
      have : d.getLsbD 0 = decide (d.toNat % 2 = 1) := by simp [BitVec.getLsbD, Nat.testBit_zero]
      rw [this]
      by_cases h : d.toNat % 2 = 1
      · simp [h]; omega
      · simp [h]; omega
    have hstep : crcBits (j + 1) (low32 n ^^^ BitVec.ofNat 32 x.toNat) = (d >>> 1) ^^^ (if d.getLsbD 0 then 2197175160#32 else 0#32) := by rw [crcBits, hd, crcBit_if]
    refine ifD_of (fun (hlt : (j : Int) < 8) => ?_) (fun (hge : ¬ (j : Int) < 8) => ?_)
    · refine req_of (by decide) (req_of (by decide) ?_)
      refine ifE_of (fun (h1 : Int.tmod (d.toNat : Int) 2 = 1) => ?_) (fun (h1 : Int.tmod (d.toNat : Int) 2 ≠ 1) => ?_)
      · refine ⟨8 - (j + 1), by omega, rfl, j + 1, by omega, rfl, ?_⟩
        rw [w64_id (by simp only; omega) (by simp only; omega), hstep]
        have h2 : d.getLsbD 0 = true := by
          rw [hodd] at h1
          cases h3 : d.getLsbD 0
          · rw [h3] at h1; cases h1
          · rfl
        simp only [half32, xor32, bv_nat, h2, if_true]
        rfl
      · refine ⟨8 - (j + 1), by omega, rfl, j + 1, by omega, rfl, ?_⟩
        rw [w64_id (by simp only; omega) (by simp only; omega), hstep]
        have h2 : d.getLsbD 0 = false := by
          rw [hodd] at h1
          cases h3 : d.getLsbD 0
          · rfl
          · rw [h3] at h1; exact absurd rfl h1
        simp only [half32, h2, Bool.false_eq_true, if_false, BitVec.xor_zero]
        rfl
    · obtain rfl : j = 8 := by omega
      refine .of ⟨?_, rfl⟩
      rw [← hd, w64_id (by simp only; omega) (by have := (crcBits 8 (low32 n ^^^ BitVec.ofNat 32 x.toNat)).isLt; simp only; omega)]
      rfl
theorem rmore_rd (L : HList) (v : SlV) (l : List UInt8) (h : BSl L v l) (hb : l.length ≤ 1000000) (n : Int) : Reads PP 114 #[.int .i64 n, .slice v.a v.len v.cap] L (.int .i64 (crcMore n l)) := by
  refine Reads.of (args := [.int .i64 n, .slice v.a v.len v.cap]) noNum mixed Try.func114 (e114 n v _) ?_
  unfold t114
  have hlen := h.len
  refine cl_rd (low_rd L n) (_, ()) rfl ?_
  refine lp_of (fun k z L' => L' = L ∧ ∃ i, i ≤ l.length ∧ k = l.length - i ∧ z = (((crcSteps (~~~ low32 n) (l.take i)).toNat : Int), (i : Int), ())) l.length ⟨rfl, 0, by omega, by omega, ?_⟩ ?_
  · have := (~~~ low32 n).isLt
    rw [not32, w64_id (by omega) (by omega)]
    rfl
  rintro k z L ⟨rfl, i, hi, rfl, rfl⟩
  refine ifD_of (fun (hlt : (i : Int) < v.len) => ?_) (fun (hge : ¬ (i : Int) < v.len) => ?_)
  · have hlt' : i < l.length := by omega
    obtain ⟨ad, ha⟩ := h.some hlt'
    refine nilc_of ha (ixn_of (show (0 : Int) ≤ i by omega) hlt (ld_of (l[i].toNat : Int) (h.rd hlt' ha _ (by simp)) ?_))
    refine cl_rd (rstep4_rd _ _ _) (_, ()) rfl ⟨l.length - (i + 1), by omega, rfl, i + 1, by omega, rfl, ?_⟩
    rw [w64_id (by simp only; omega) (by simp only; omega), List.take_succ_eq_append_getElem hlt', crcSteps_snoc, low_nat]
    rfl
  · obtain rfl : i = l.length := by omega
    refine cl_rd (low_rd _ _) (_, ()) rfl (.of ⟨?_, rfl⟩)
    have := crcMore_range n l
    simp only [not32, low_nat, List.take_length]
    unfold crcMore at this ⊢
    rw [w64_id (by omega) (by omega)]
theorem rsum_rd (L : HList) (v : SlV) (l : List UInt8) (h : BSl L v l) (hb : l.length ≤ 1000000) : Reads PP 99 #[.slice v.a v.len v.cap] L (.int .i64 (crcSum l)) := by
  refine Reads.of (args := [.slice v.a v.len v.cap]) noNum mixed Try.func99 (e99 v _) ?_
  unfold t99
  refine cl_rd (rmore_rd L v l h hb 0) (crcMore 0 l, ()) rfl ?_
  exact .of ⟨rfl, rfl⟩

/-! ### the page's example -/
end Go.Proofs.Ytlabcgnegbdlfaa
set_option linter.unusedVariables false
set_option linter.unusedSimpArgs false
namespace Go.Proofs.Ytlabcgnegbdlfaa
open Go.HL

/-- A head: kind, part, parts, epoch, page. -/
abbrev Hd := Int × Int × Int × Int × Int × Unit
def hEnc (h : Hd) : List Value := [.int .i64 h.1, .int .i64 h.2.1, .int .i64 h.2.2.1, .int .i64 h.2.2.2.1, .int .i64 h.2.2.2.2.1]
def hErr (h : Hd) : Int := if h.1 < 1 ∨ h.1 > 4 then 16 else if h.2.2.1 < 1 ∨ h.2.2.1 > 16 ∨ h.2.1 < 0 ∨ h.2.1 ≥ h.2.2.1 ∨ h.2.2.2.1 < 1 ∨ h.2.2.2.1 > 1073741824 ∨ h.2.2.2.2.1 < 0 ∨ h.2.2.2.2.1 > 15 then 3 else 0
def szd (n : Int) : Bool := decide (64 ≤ n ∧ n ≤ 512)
def roomOf (n : Int) : Int := if 64 ≤ n ∧ n ≤ 512 then n - 16 else 0
theorem psized_rd (L : HList) (n : Int) : Reads PP 101 #[.int .i64 n] L (.bool (szd n)) := by
  refine Reads.of (args := [.int .i64 n]) noNum mixed Try.func101 (e101 n _) ?_
  unfold t101
  refine ifD_of (fun (h : n ≥ 64) => .of ⟨?_, rfl⟩) (fun (h : ¬ n ≥ 64) => .of ⟨?_, rfl⟩)
  · unfold szd; congr 1; rw [decide_eq_decide]; omega
  · unfold szd; rw [decide_eq_false (by omega)]
theorem rsized_rd (L : HList) (n : Int) : Reads PP 98 #[.int .i64 n] L (.bool (szd n)) := by
  refine Reads.of (args := [.int .i64 n]) noNum mixed Try.func98 (e98 n _) ?_
  unfold t98
  refine ifD_of (fun (h : n ≥ 64) => .of ⟨?_, rfl⟩) (fun (h : ¬ n ≥ 64) => .of ⟨?_, rfl⟩)
  · unfold szd; congr 1; rw [decide_eq_decide]; omega
  · unfold szd; rw [decide_eq_false (by omega)]
theorem szd_t {n : Int} (h : szd n = true) : 64 ≤ n ∧ n ≤ 512 := of_decide_eq_true h
theorem szd_f {n : Int} (h : szd n = false) : ¬ (64 ≤ n ∧ n ≤ 512) := of_decide_eq_false h
theorem proom_rd (L : HList) (n : Int) : Reads PP 104 #[.int .i64 n] L (.int .i64 (roomOf n)) := by
  refine Reads.of (args := [.int .i64 n]) noNum mixed Try.func104 (e104 n _) ?_
  unfold t104
  refine cl_rd (psized_rd _ n) (szd n, ()) rfl ?_
  cases h : szd n with
  | false => exact ifT rfl (.of ⟨by unfold roomOf; rw [if_neg (szd_f h)], rfl⟩)
  | true =>
    have := szd_t h
    refine ifF rfl (.of ⟨?_, rfl⟩)
    unfold roomOf; rw [if_pos this, w64_id (by omega) (by omega)]
theorem hErr_k {h : Hd} (c : h.1 < 1 ∨ h.1 > 4) : hErr h = 16 := by unfold hErr; rw [if_pos c]
theorem hErr_r {h : Hd} (c : ¬ (h.1 < 1 ∨ h.1 > 4)) (d : h.2.2.1 < 1 ∨ h.2.2.1 > 16 ∨ h.2.1 < 0 ∨ h.2.1 ≥ h.2.2.1 ∨ h.2.2.2.1 < 1 ∨ h.2.2.2.1 > 1073741824 ∨ h.2.2.2.2.1 < 0 ∨ h.2.2.2.2.1 > 15) : hErr h = 3 := by unfold hErr; rw [if_neg c, if_pos d]
theorem hErr_0 {h : Hd} (c : ¬ (h.1 < 1 ∨ h.1 > 4)) (d : ¬ (h.2.2.1 < 1 ∨ h.2.2.1 > 16 ∨ h.2.1 < 0 ∨ h.2.1 ≥ h.2.2.1 ∨ h.2.2.2.1 < 1 ∨ h.2.2.2.1 > 1073741824 ∨ h.2.2.2.2.1 < 0 ∨ h.2.2.2.2.1 > 15)) : hErr h = 0 := by unfold hErr; rw [if_neg c, if_neg d]
theorem hErr_ok {h : Hd} (e : hErr h = 0) : 1 ≤ h.1 ∧ h.1 ≤ 4 ∧ 1 ≤ h.2.2.1 ∧ h.2.2.1 ≤ 16 ∧ 0 ≤ h.2.1 ∧ h.2.1 < h.2.2.1 ∧ 1 ≤ h.2.2.2.1 ∧ h.2.2.2.1 ≤ 1073741824 ∧ 0 ≤ h.2.2.2.2.1 ∧ h.2.2.2.2.1 ≤ 15 := by
  unfold hErr at e
  split at e
  · cases e
  · split at e
    · cases e
    · omega
theorem pcheck_rd (L : HList) (h : Hd) : Reads PP 105 #[.agg #[.int .i64 h.1, .int .i64 h.2.1, .int .i64 h.2.2.1, .int .i64 h.2.2.2.1, .int .i64 h.2.2.2.2.1]] L (.int .i64 (hErr h)) := by
  refine Reads.of (args := [.agg #[.int .i64 h.1, .int .i64 h.2.1, .int .i64 h.2.2.1, .int .i64 h.2.2.2.1, .int .i64 h.2.2.2.2.1]]) noNum mixed Try.func105 (e105 h _) ?_
  unfold t105
  refine nw_of fun n1 _ => ?_
  generalize ho : (n1, Obj.cells #[.int .i64 h.1, .int .i64 h.2.1, .int .i64 h.2.2.1, .int .i64 h.2.2.2.1, .int .i64 h.2.2.2.2.1] 111) = o1
  have l0 : LdAt ⟨n1, 0, none⟩ [.int .i64 h.1] (o1 :: L) := by subst ho; exact ldB List.mem_cons_self rfl
  have l1 : LdAt (Addr.add ⟨n1, 0, none⟩ 1) [.int .i64 h.2.1] (o1 :: L) := by subst ho; exact ldB List.mem_cons_self rfl
  have l2 : LdAt (Addr.add ⟨n1, 0, none⟩ 2) [.int .i64 h.2.2.1] (o1 :: L) := by subst ho; exact ldB List.mem_cons_self rfl
  have l3 : LdAt (Addr.add ⟨n1, 0, none⟩ 3) [.int .i64 h.2.2.2.1] (o1 :: L) := by subst ho; exact ldB List.mem_cons_self rfl
  have l4 : LdAt (Addr.add ⟨n1, 0, none⟩ 4) [.int .i64 h.2.2.2.2.1] (o1 :: L) := by subst ho; exact ldB List.mem_cons_self rfl
  clear ho
  refine ld_of h.1 l0 (ifD_of (fun (c : h.1 < 1) => .cons (.of ⟨by rw [hErr_k (.inl c)], rfl⟩)) (fun (c1 : ¬ h.1 < 1) => ?_))
  refine ld_of h.1 l0 (ifD_of (fun (c : h.1 > 4) => .cons (.of ⟨by rw [hErr_k (.inr c)], rfl⟩)) (fun (c2 : ¬ h.1 > 4) => ?_))
  refine ld_of h.2.2.1 l2 (ifD_of (fun (c : h.2.2.1 < 1) => .cons (.of ⟨by rw [hErr_r (by omega) (by omega)], rfl⟩)) (fun (c3 : ¬ h.2.2.1 < 1) => ?_))
  refine ld_of h.2.2.1 l2 (ifD_of (fun (c : h.2.2.1 > 16) => .cons (.of ⟨by rw [hErr_r (by omega) (by omega)], rfl⟩)) (fun (c4 : ¬ h.2.2.1 > 16) => ?_))
  refine ld_of h.2.1 l1 (ifD_of (fun (c : h.2.1 < 0) => .cons (.of ⟨by rw [hErr_r (by omega) (by omega)], rfl⟩)) (fun (c5 : ¬ h.2.1 < 0) => ?_))
  refine ld_of h.2.1 l1 (ld_of h.2.2.1 l2 (ifD_of (fun (c : h.2.1 ≥ h.2.2.1) => .cons (.of ⟨by rw [hErr_r (by omega) (by omega)], rfl⟩)) (fun (c6 : ¬ h.2.1 ≥ h.2.2.1) => ?_)))
  refine ld_of h.2.2.2.1 l3 (ifD_of (fun (c : h.2.2.2.1 < 1) => .cons (.of ⟨by rw [hErr_r (by omega) (by omega)], rfl⟩)) (fun (c7 : ¬ h.2.2.2.1 < 1) => ?_))
  refine ld_of h.2.2.2.1 l3 (ifD_of (fun (c : h.2.2.2.1 > 1073741824) => .cons (.of ⟨by rw [hErr_r (by omega) (by omega)], rfl⟩)) (fun (c8 : ¬ h.2.2.2.1 > 1073741824) => ?_))
  refine ld_of h.2.2.2.2.1 l4 (ifD_of (fun (c : h.2.2.2.2.1 < 0) => .cons (.of ⟨by rw [hErr_r (by omega) (by omega)], rfl⟩)) (fun (c9 : ¬ h.2.2.2.2.1 < 0) => ?_))
  refine ld_of h.2.2.2.2.1 l4 (ifD_of (fun (c : h.2.2.2.2.1 ≥ 16) => .cons (.of ⟨by rw [hErr_r (by omega) (by omega)], rfl⟩)) (fun (c10 : ¬ h.2.2.2.2.1 ≥ 16) => .cons (.of ⟨by rw [hErr_0 (by omega) (by omega)], rfl⟩)))
theorem rright_rd (L : HList) (h : Hd) : Reads PP 115 #[.agg #[.int .i64 h.1, .int .i64 h.2.1, .int .i64 h.2.2.1, .int .i64 h.2.2.2.1, .int .i64 h.2.2.2.2.1]] L (.int .i64 (hErr h)) := by
  refine Reads.of (args := [.agg #[.int .i64 h.1, .int .i64 h.2.1, .int .i64 h.2.2.1, .int .i64 h.2.2.2.1, .int .i64 h.2.2.2.2.1]]) noNum mixed Try.func115 (e115 h _) ?_
  unfold t115
  refine nw_of fun n1 _ => ?_
  generalize ho : (n1, Obj.cells #[.int .i64 h.1, .int .i64 h.2.1, .int .i64 h.2.2.1, .int .i64 h.2.2.2.1, .int .i64 h.2.2.2.2.1] 111) = o1
  have l0 : LdAt ⟨n1, 0, none⟩ [.int .i64 h.1] (o1 :: L) := by subst ho; exact ldB List.mem_cons_self rfl
  have l1 : LdAt (Addr.add ⟨n1, 0, none⟩ 1) [.int .i64 h.2.1] (o1 :: L) := by subst ho; exact ldB List.mem_cons_self rfl
  have l2 : LdAt (Addr.add ⟨n1, 0, none⟩ 2) [.int .i64 h.2.2.1] (o1 :: L) := by subst ho; exact ldB List.mem_cons_self rfl
  have l3 : LdAt (Addr.add ⟨n1, 0, none⟩ 3) [.int .i64 h.2.2.2.1] (o1 :: L) := by subst ho; exact ldB List.mem_cons_self rfl
  have l4 : LdAt (Addr.add ⟨n1, 0, none⟩ 4) [.int .i64 h.2.2.2.2.1] (o1 :: L) := by subst ho; exact ldB List.mem_cons_self rfl
  clear ho
  refine ld_of h.1 l0 (ifD_of (fun (c : h.1 < 1) => .cons (.of ⟨by rw [hErr_k (.inl c)], rfl⟩)) (fun (c1 : ¬ h.1 < 1) => ?_))
  refine ld_of h.1 l0 (ifD_of (fun (c : h.1 > 4) => .cons (.of ⟨by rw [hErr_k (.inr c)], rfl⟩)) (fun (c2 : ¬ h.1 > 4) => ?_))
  refine ld_of h.2.2.1 l2 (ifD_of (fun (c : h.2.2.1 < 1) => .cons (.of ⟨by rw [hErr_r (by omega) (by omega)], rfl⟩)) (fun (c3 : ¬ h.2.2.1 < 1) => ?_))
  refine ld_of h.2.2.1 l2 (ifD_of (fun (c : h.2.2.1 > 16) => .cons (.of ⟨by rw [hErr_r (by omega) (by omega)], rfl⟩)) (fun (c4 : ¬ h.2.2.1 > 16) => ?_))
  refine ld_of h.2.1 l1 (ifD_of (fun (c : h.2.1 < 0) => .cons (.of ⟨by rw [hErr_r (by omega) (by omega)], rfl⟩)) (fun (c5 : ¬ h.2.1 < 0) => ?_))
  refine ld_of h.2.1 l1 (ld_of h.2.2.1 l2 (ifD_of (fun (c : h.2.1 ≥ h.2.2.1) => .cons (.of ⟨by rw [hErr_r (by omega) (by omega)], rfl⟩)) (fun (c6 : ¬ h.2.1 ≥ h.2.2.1) => ?_)))
  refine ld_of h.2.2.2.1 l3 (ifD_of (fun (c : h.2.2.2.1 < 1) => .cons (.of ⟨by rw [hErr_r (by omega) (by omega)], rfl⟩)) (fun (c7 : ¬ h.2.2.2.1 < 1) => ?_))
  refine ld_of h.2.2.2.1 l3 (ifD_of (fun (c : h.2.2.2.1 > 1073741824) => .cons (.of ⟨by rw [hErr_r (by omega) (by omega)], rfl⟩)) (fun (c8 : ¬ h.2.2.2.1 > 1073741824) => ?_))
  refine ld_of h.2.2.2.2.1 l4 (ifD_of (fun (c : h.2.2.2.2.1 < 0) => .cons (.of ⟨by rw [hErr_r (by omega) (by omega)], rfl⟩)) (fun (c9 : ¬ h.2.2.2.2.1 < 0) => ?_))
  refine ld_of h.2.2.2.2.1 l4 (ifD_of (fun (c : h.2.2.2.2.1 > 15) => .cons (.of ⟨by rw [hErr_r (by omega) (by omega)], rfl⟩)) (fun (c10 : ¬ h.2.2.2.2.1 > 15) => .cons (.of ⟨by rw [hErr_0 (by omega) (by omega)], rfl⟩)))
/-! ### put -/
abbrev PNum := Int × Int × Unit
def pnEnc (x : PNum) : List Value := [.int .i64 x.1, .int .i64 x.2.1]
theorem pnEnc_len (x : PNum) : (pnEnc x).length = 2 := rfl
def putsL (b : List UInt8) (l : List PNum) : List UInt8 := l.foldl (fun b x => (wput b x.1 x.2.1).1) b
theorem putsL_snoc (b : List UInt8) (l : List PNum) (x : PNum) : putsL b (l ++ [x]) = (wput (putsL b l) x.1 x.2.1).1 := by simp [putsL]
theorem wput_len (b : List UInt8) (n w : Int) : (wput b n w).1.length ≤ b.length + 7 := by
  unfold wput
  split
  · simp
  · split
    · simp
    · simp only [List.length_append, digs_len]; omega
theorem putsL_len (b : List UInt8) (l : List PNum) : (putsL b l).length ≤ b.length + 7 * l.length := by
  induction l generalizing b with
  | nil => simp [putsL]
  | cons x r ih =>
    have h1 := ih (wput b x.1 x.2.1).1
    have h2 := wput_len b x.1 x.2.1
    have h3 : putsL b (x :: r) = putsL (wput b x.1 x.2.1).1 r := rfl
    rw [h3, List.length_cons]; omega
theorem pput_cl (A : HList) (v : SlV) (b : List UInt8) (hb : BSl A v b) (hl : b.length ≤ 1000) (u : SlV) (l : List PNum) (hu : Sl A u 2 (l.flatMap pnEnc)) (hne : 0 < l.length) (hl2 : l.length ≤ 100) (hn : ∀ x ∈ l, x.1 ≤ 9223372036854775807) :
    CallF PP 128 #[.slice v.a v.len v.cap, .slice u.a u.len u.cap] A fun r L' => ∃ (s : SlV) (seg : HList), r = .slice s.a s.len s.cap ∧ L' = seg ++ A ∧ Own s 1 eB (bvs (putsL b l)) seg := by
  refine CallF.of (args := [.slice v.a v.len v.cap, .slice u.a u.len u.cap]) noNum mixed Try.func128 (e128 v u _) ?_
  unfold t128
  have hul := hu.els_len pnEnc_len (by decide)
  refine lp_of (fun k z L' => ∃ (i : Nat) (s : SlV) (J : HList), i ≤ l.length ∧ k = l.length - i ∧ z = (s, (i : Int), ()) ∧ L' = J ++ A ∧ BSl L' s (putsL b (l.take i)) ∧ (0 < i → ∃ (seg J' : HList), J = seg ++ J' ∧ Own s 1 eB (bvs (putsL b (l.take i))) seg)) l.length
    ⟨0, v, [], by omega, by omega, rfl, rfl, hb, fun h => by omega⟩ ?_
  rintro k z L' ⟨i, s, J, hi, rfl, rfl, rfl, hs, hown⟩
  refine ifD_of (fun (hlt : (i : Int) < u.len) => ?_) (fun (hge : ¬ (i : Int) < u.len) => ?_)
  · have hi' : i < l.length := by omega
    obtain ⟨a, ha, la⟩ := (hu.right (R := J)).el pnEnc_len (by decide) hi'
    refine nilc_of ha (ixn_of (show (0 : Int) ≤ (i : Int) by omega) hlt (ld_of l[i] (by rw [Int.toNat_natCast]; exact la) ?_))
    have hbl := putsL_len b (l.take i)
    rw [List.length_take, Nat.min_eq_left hi] at hbl
    have hsn := putsL_snoc b (l.take i) l[i]
    rw [← List.take_succ_eq_append_getElem hi'] at hsn
    have hnx := hn _ (List.getElem_mem hi')
    generalize l[i] = x at hsn hnx ⊢
    refine nw_of fun n1 _ => st_of [] _ rfl rfl (by simp) (.inl (Nat.le_refl _)) #[.int .i64 x.1, .int .i64 x.2.1] rfl ?_
    rw [List.nil_append]
    refine ld_of x.1 (ldB List.mem_cons_self rfl) (ld_of x.2.1 (ldB List.mem_cons_self rfl) ?_)
    generalize (n1, Obj.cells #[.int .i64 x.1, .int .i64 x.2.1] 211) = o1
    refine cl_in [] [] (wput_cl (o1 :: (J ++ A)) s _ hs.cons (by omega) x.1 x.2.1 hnx) (by simp) ?_
    rintro _ _ - ⟨s', seg, rfl, rfl, own⟩
    rw [List.append_nil, List.nil_append]
    rw [← hsn] at own
    refine ⟨(s', _, ()), rfl, l.length - (i + 1), by omega, i + 1, s', seg ++ (o1 :: J), by omega, rfl, ?_, by simp, own.sl.left, fun _ => ⟨seg, o1 :: J, rfl, own⟩⟩
    show (s', IntKind.i64.wrap ((i : Int) + 1), ()) = _
    rw [w64_id (by omega) (by omega)]
    rfl
  · obtain rfl : i = l.length := by omega
    rw [List.take_length] at hown
    obtain ⟨seg, J', rfl, own⟩ := hown hne
    refine .drop (A := seg ++ A) (J := J') ⟨s, seg, rfl, rfl, own⟩ ?_
    rw [List.append_assoc, List.append_assoc]
    exact List.Perm.append_left _ List.perm_append_comm
end Go.Proofs.Ytlabcgnegbdlfaa
set_option linter.unusedVariables false
set_option linter.unusedSimpArgs false
namespace Go.Proofs.Ytlabcgnegbdlfaa
open Go.HL

def hBytes (h : Hd) (n : Nat) : List UInt8 := digs h.1.toNat 1 ++ digs h.2.1.toNat 1 ++ digs h.2.2.1.toNat 1 ++ digs 165 1 ++ digs h.2.2.2.1.toNat 4 ++ digs h.2.2.2.2.1.toNat 1 ++ digs 0 1 ++ digs n 2
theorem hBytes_len (h : Hd) (n : Nat) : (hBytes h n).length = 12 := by simp [hBytes, digs_len]
def iBody (h : Hd) (p : List UInt8) (size : Nat) : List UInt8 := hBytes h p.length ++ p ++ List.replicate (size - 16 - p.length) 0
theorem iBody_len {h : Hd} {p : List UInt8} {size : Nat} (h1 : 16 ≤ size) (h2 : p.length ≤ size - 16) : (iBody h p size).length = size - 4 := by
  unfold iBody
  rw [List.length_append, List.length_append, hBytes_len, List.length_replicate]; omega
def iAll (h : Hd) (p : List UInt8) (size : Nat) : List UInt8 := iBody h p size ++ digs (crcSum (iBody h p size)).toNat 4
/-- A page's image, or why there is none. -/
def imgR (h : Hd) (p : List UInt8) (size : Int) : List UInt8 × Int :=
  if ¬ (64 ≤ size ∧ size ≤ 512) then ([], 2) else if hErr h ≠ 0 then ([], hErr h) else if (p.length : Int) > size - 16 then ([], 4) else (iAll h p size.toNat, 0)
def ImgK (h : Hd) (p : List UInt8) (size : Int) (A : HList) (v : Value) (L' : HList) : Prop := ∃ (s : SlV) (seg : HList), v = .tuple #[.slice s.a s.len s.cap, .int .i64 (imgR h p size).2] ∧ L' = seg ++ A ∧ Own s 1 eB (bvs (imgR h p size).1) seg
theorem ImgK.err {h : Hd} {p : List UInt8} {size : Int} {A : HList} {e : Int} (he : imgR h p size = ([], e)) : ImgK h p size A (.tuple #[.slice none 0 0, .int .i64 e]) A := ⟨⟨none, 0, 0⟩, [], by rw [he], rfl, by rw [he]; exact own_nil⟩
theorem crcSum_rng (l : List UInt8) : 0 ≤ crcSum l ∧ crcSum l < 4294967296 := crcMore_range 0 l
def nums (h : Hd) (n : Nat) : List PNum := [(h.1, 1, ()), (h.2.1, 1, ()), (h.2.2.1, 1, ()), (165, 1, ()), (h.2.2.2.1, 4, ()), (h.2.2.2.2.1, 1, ()), (0, 1, ()), ((n : Int), 2, ())]
theorem wput_1 (b : List UInt8) {n : Int} (h0 : 0 ≤ n) (h1 : n < 256) : (wput b n 1).1 = b ++ digs n.toNat 1 := by
  rw [wput_ok (by decide) (by omega) (by show n.toNat < 256; omega)]; rfl
theorem wput_4 (b : List UInt8) {n : Int} (h0 : 0 ≤ n) (h1 : n < 4294967296) : (wput b n 4).1 = b ++ digs n.toNat 4 := by
  rw [wput_ok (by decide) (by omega) (by show n.toNat < 4294967296; omega)]; rfl
theorem wput_2 (b : List UInt8) {n : Int} (h0 : 0 ≤ n) (h1 : n < 65536) : (wput b n 2).1 = b ++ digs n.toNat 2 := by
  rw [wput_ok (by decide) (by omega) (by show n.toNat < 65536; omega)]; rfl
theorem puts_nums {h : Hd} (e : hErr h = 0) {n : Nat} (hn : n < 65536) : putsL [] (nums h n) = hBytes h n := by
  have := hErr_ok e
  unfold nums putsL
  simp only [List.foldl_cons, List.foldl_nil]
  rw [wput_1 (n := h.1) _ (by omega) (by omega), wput_1 (n := h.2.1) _ (by omega) (by omega), wput_1 (n := h.2.2.1) _ (by omega) (by omega), wput_1 (n := 165) _ (by omega) (by omega), wput_4 (n := h.2.2.2.1) _ (by omega) (by omega), wput_1 (n := h.2.2.2.2.1) _ (by omega) (by omega), wput_1 (n := 0) _ (by omega) (by omega), wput_2 (n := (n : Int)) _ (by omega) (by omega)]
  unfold hBytes
  simp
theorem puts_crc (b : List UInt8) : putsL b [(crcSum b, 4, ())] = b ++ digs (crcSum b).toNat 4 := by
  have := crcSum_rng b
  exact wput_4 (n := crcSum b) b (by omega) (by omega)
theorem body_put {h : Hd} {p : List UInt8} {S : Nat} (h1 : 64 ≤ S) (h2 : p.length ≤ S - 16) :
    putL (putL (zeros [.int .u8 0] (S - 4)) 0 (bvs (hBytes h p.length))) (12 * 1) (bvs p) = bvs (iBody h p S) := by
  rw [zeros_bvs, bvs_put, bvs_put]
  congr 1
  unfold iBody
  rw [List.take_zero, List.nil_append, hBytes_len, Nat.zero_add, Nat.mul_one, List.take_left' (hBytes_len h _), ← List.drop_drop, List.drop_left' (hBytes_len h _), List.drop_drop, List.drop_replicate]
  congr 2
  omega
theorem pimage_cl (A : HList) (h : Hd) (v : SlV) (p : List UInt8) (hv : BSl A v p) (size : Int) (hs : -9223372036854775808 ≤ size ∧ size ≤ 9223372036854775807) :
    CallF PP 110 #[.agg #[.int .i64 h.1, .int .i64 h.2.1, .int .i64 h.2.2.1, .int .i64 h.2.2.2.1, .int .i64 h.2.2.2.2.1], .slice v.a v.len v.cap, .int .i64 size] A (ImgK h p size A) := by
  refine CallF.of (args := [.agg #[.int .i64 h.1, .int .i64 h.2.1, .int .i64 h.2.2.1, .int .i64 h.2.2.2.1, .int .i64 h.2.2.2.2.1], .slice v.a v.len v.cap, .int .i64 size]) noNum mixed Try.func110 (e110 h v size _) ?_
  unfold t110
  have hvl := hv.len
  refine nw_of fun n1 _ => ?_
  generalize ho : (n1, Obj.cells #[.int .i64 h.1, .int .i64 h.2.1, .int .i64 h.2.2.1, .int .i64 h.2.2.2.1, .int .i64 h.2.2.2.2.1] 111) = o1
  have lh : LdAt ⟨n1, 0, none⟩ (hEnc h) (o1 :: A) := by subst ho; exact ldB List.mem_cons_self rfl
  clear ho
  refine cl_rd (psized_rd _ size) (szd size, ()) rfl ?_
  cases hsz : szd size with
  | false => exact ifT rfl (.cons (.of (ImgK.err (by unfold imgR; rw [if_pos (szd_f hsz)]))))
  | true =>
    have hS := szd_t hsz
    refine ifF rfl (ld_of h lh (cl_rd (pcheck_rd _ h) (hErr h, ()) rfl ?_))
    refine ifNe_of (fun (he : hErr h ≠ 0) => .cons (.of (ImgK.err (by unfold imgR; rw [if_neg (by simpa using hS), if_pos he])))) (fun (he : hErr h = 0) => ?_)
    refine cl_rd (proom_rd _ size) (roomOf size, ()) rfl ?_
    have hroom : roomOf size = size - 16 := by unfold roomOf; rw [if_pos hS]
    rw [hroom]
    refine ifD_of (fun (hl : (v.len : Int) > size - 16) => .cons (.of (ImgK.err (by unfold imgR; rw [if_neg (by simpa using hS), if_neg (by simpa using he), if_pos (by omega)])))) (fun (hl : ¬ (v.len : Int) > size - 16) => ?_)
    obtain ⟨S, rfl⟩ : ∃ S : Nat, size = S := ⟨size.toNat, by omega⟩
    have himg : imgR h p S = (iAll h p S, 0) := by
      unfold imgR
      rw [if_neg (by simpa using hS), if_neg (by simpa using he), if_neg (by omega), Int.toNat_natCast]
    unfold ImgK
    rw [himg]
    refine ld_of h.1 (lh.pre fun i u hu => by cases i with | zero => exact hu | succ i => exact absurd (show (none : Option Value) = some u from hu) (by simp)) (ld_of h.2.1 (lh.one 1 rfl) (ld_of h.2.2.1 (lh.one 2 rfl) (ld_of h.2.2.2.1 (lh.one 3 rfl) (ld_of h.2.2.2.2.1 (lh.one 4 rfl) (nw_of fun n2 _ => ?_)))))
    have hvl' : ((v.len : Nat) : Int) = ((p.length : Nat) : Int) := by omega
    rw [hvl']
    have hnsl : Sl ((n2, Obj.cells #[.int .i64 h.1, .int .i64 1, .int .i64 h.2.1, .int .i64 1, .int .i64 h.2.2.1, .int .i64 1, .int .i64 165, .int .i64 1, .int .i64 h.2.2.2.1, .int .i64 4, .int .i64 h.2.2.2.2.1, .int .i64 1, .int .i64 0, .int .i64 1, .int .i64 ((p.length : Nat) : Int), .int .i64 2] 211) :: o1 :: A) ⟨some ⟨n2, 0, none⟩, 8, 8⟩ 2 ((nums h p.length).flatMap pnEnc) :=
      ⟨rfl, Nat.le_refl _, .inr ⟨_, rfl, ldB List.mem_cons_self rfl⟩⟩
    have hok := hErr_ok he
    generalize (n2, Obj.cells #[.int .i64 h.1, .int .i64 1, .int .i64 h.2.1, .int .i64 1, .int .i64 h.2.2.1, .int .i64 1, .int .i64 165, .int .i64 1, .int .i64 h.2.2.2.1, .int .i64 4, .int .i64 h.2.2.2.2.1, .int .i64 1, .int .i64 0, .int .i64 1, .int .i64 ((p.length : Nat) : Int), .int .i64 2] 211) = o2 at hnsl ⊢
    refine cl_in [] [] (pput_cl (o2 :: o1 :: A) ⟨none, 0, 0⟩ [] (Sl.nil 1) (by decide) ⟨some ⟨n2, 0, none⟩, 8, 8⟩ (nums h p.length) hnsl (by show 0 < 8; decide) (by show 8 ≤ 100; decide) ?_) (by simp) ?_
    · intro x hx
      unfold nums at hx
      simp only [List.mem_cons, List.not_mem_nil, or_false] at hx
      rcases hx with rfl | rfl | rfl | rfl | rfl | rfl | rfl | rfl <;> simp only <;> omega
    rintro _ _ - ⟨s4, seg4, rfl, rfl, own4⟩
    rw [puts_nums he (by omega)] at own4
    rw [List.append_nil, List.nil_append]
    have hs4 := own4.sl.len
    rw [bvs_length, hBytes_len] at hs4
    refine ⟨(s4, ()), rfl, ?_⟩
    have hw : IntKind.i64.wrap ((S : Int) - 4) = ((S - 4 : Nat) : Int) := by rw [w64_id (by omega) (by omega)]; omega
    simp only [hw]
    refine make_of elemB (l := S - 4) (c := S - 4) (Nat.le_refl _) (by omega) fun n7 ob own7 _ _ => ?_
    refine copy_own (T := eB) (sz := 1) (l := 0) (a := ⟨n7, 0, none⟩) undB (by kernel_rfl) [] (seg4 ++ (o2 :: o1 :: A)) own7 rfl rfl rfl (by simp) (.cons (own4.sl.left)) (bvs_plain _) fun seg7 own7' => ?_
    have hm1 : min s4.len (S - 4) = 12 := by omega
    simp only [hm1, Nat.mul_one, List.nil_append] at own7' ⊢
    rw [List.take_of_length_le (by rw [bvs_length, hBytes_len]; omega)] at own7'
    refine slc_of (l' := 12) (h' := S - 4) (m' := S - 4) rfl rfl rfl (by omega) (by omega) (Nat.le_refl _) ?_
    have hd : (slcV ⟨some ⟨n7, 0, none⟩, S - 4, S - 4⟩ ((12 : Nat) : Int) ((S - 4 : Nat) : Int) ((S - 4 : Nat) : Int) 1).a = some (Addr.add ⟨n7, 0, none⟩ (12 * 1)) := by
      simp only [slcV, Int.toNat_natCast]
      rw [if_neg (by omega)]
      rfl
    have hdl : (slcV ⟨some ⟨n7, 0, none⟩, S - 4, S - 4⟩ ((12 : Nat) : Int) ((S - 4 : Nat) : Int) ((S - 4 : Nat) : Int) 1).len = S - 16 := by
      simp only [slcV, Int.toNat_natCast]; omega
    generalize slcV ⟨some ⟨n7, 0, none⟩, S - 4, S - 4⟩ ((12 : Nat) : Int) ((S - 4 : Nat) : Int) ((S - 4 : Nat) : Int) 1 = d at hd hdl ⊢
    refine copy_own (T := eB) (sz := 1) (l := 12) (a := ⟨n7, 0, none⟩) undB (by kernel_rfl) [] (seg4 ++ (o2 :: o1 :: A)) own7' rfl rfl hd (by simp only; omega) (hv.cons.cons.right.right) (bvs_plain _) fun seg8 own8 => ?_
    have hm2 : min v.len d.len = p.length := by omega
    simp only [hm2, Nat.mul_one, List.nil_append] at own8 ⊢
    rw [List.take_of_length_le (by rw [bvs_length]; omega), body_put (by omega) (by omega)] at own8
    have hbl := iBody_len (h := h) (p := p) (size := S) (by omega) (by omega)
    have hallE : iAll h p S = iBody h p S ++ digs (crcSum (iBody h p S)).toNat 4 := rfl
    rw [hallE]
    generalize iBody h p S = body at own8 hbl ⊢
    refine cl_rd (sum_rd _ ⟨some ⟨n7, 0, none⟩, S - 4, S - 4⟩ body own8.sl.left (by omega)) (crcSum body, ()) rfl (nw_of fun n3 _ => ?_)
    have hcs := crcSum_rng body
    have hsl3 : Sl ((n3, Obj.cells #[.int .i64 (crcSum body), .int .i64 4] 211) :: (seg8 ++ (seg4 ++ (o2 :: o1 :: A)))) ⟨some ⟨n3, 0, none⟩, 1, 1⟩ 2 ([((crcSum body, 4, ()) : PNum)].flatMap pnEnc) := ⟨rfl, Nat.le_refl _, .inr ⟨_, rfl, ldB List.mem_cons_self rfl⟩⟩
    refine cl_in [] [] (pput_cl ((n3, Obj.cells #[.int .i64 (crcSum body), .int .i64 4] 211) :: (seg8 ++ (seg4 ++ (o2 :: o1 :: A)))) ⟨some ⟨n7, 0, none⟩, S - 4, S - 4⟩ body own8.sl.left.cons (by omega) ⟨some ⟨n3, 0, none⟩, 1, 1⟩ _ hsl3 (by show 0 < 1; decide) (by show 1 ≤ 100; decide) (fun x hx => by rw [List.mem_singleton.1 hx]; simp only; omega)) (by simp) ?_
    rintro _ _ - ⟨s9, seg9, rfl, rfl, own9⟩
    rw [puts_crc] at own9
    rw [List.append_nil, List.nil_append]
    refine ⟨(s9, ()), rfl, .drop (A := seg9 ++ A) (J := (n3, Obj.cells #[.int .i64 (crcSum body), .int .i64 4] 211) :: (seg8 ++ (seg4 ++ [o2, o1]))) ⟨s9, seg9, rfl, rfl, own9⟩ ?_⟩
    classical
    rw [List.perm_iff_count]
    intro x
    simp only [List.append_eq, List.cons_append, List.count_append, List.count_cons, List.count_nil]
    omega
end Go.Proofs.Ytlabcgnegbdlfaa
set_option linter.unusedVariables false
set_option linter.unusedSimpArgs false
namespace Go.Proofs.Ytlabcgnegbdlfaa
open Go.HL

theorem u8w (k : Nat) : IntKind.u8.wrap (k : Int) = ((dig k 0).toNat : Int) := by
  have := wrap_dig k 0
  rwa [show k / 256 ^ 0 = k by simp] at this
theorem digs1 (k : Nat) : digs k 1 = [dig k 0] := rfl
theorem rimage_cl (A : HList) (h : Hd) (v : SlV) (p : List UInt8) (hv : BSl A v p) (size : Int) (hs : -9223372036854775808 ≤ size ∧ size ≤ 9223372036854775807) :
    CallF PP 100 #[.agg #[.int .i64 h.1, .int .i64 h.2.1, .int .i64 h.2.2.1, .int .i64 h.2.2.2.1, .int .i64 h.2.2.2.2.1], .slice v.a v.len v.cap, .int .i64 size] A (ImgK h p size A) := by
  refine CallF.of (args := [.agg #[.int .i64 h.1, .int .i64 h.2.1, .int .i64 h.2.2.1, .int .i64 h.2.2.2.1, .int .i64 h.2.2.2.2.1], .slice v.a v.len v.cap, .int .i64 size]) noNum mixed Try.func100 (e100 h v size _) ?_
  unfold t100
  have hvl := hv.len
  refine nw_of fun n1 _ => ?_
  generalize ho : (n1, Obj.cells #[.int .i64 h.1, .int .i64 h.2.1, .int .i64 h.2.2.1, .int .i64 h.2.2.2.1, .int .i64 h.2.2.2.2.1] 111) = o1
  have lh : ∀ {Z : HList}, o1 ∈ Z → LdAt ⟨n1, 0, none⟩ (hEnc h) Z := by subst ho; exact fun hm => ldB hm rfl
  clear ho
  refine cl_rd (rsized_rd _ size) (szd size, ()) rfl ?_
  cases hsz : szd size with
  | false => exact ifT rfl (.cons (.of (ImgK.err (by unfold imgR; rw [if_pos (szd_f hsz)]))))
  | true =>
    have hS := szd_t hsz
    refine ifF rfl (ld_of h (lh (by simp)) (cl_rd (rright_rd _ h) (hErr h, ()) rfl ?_))
    refine ifNe_of (fun (he : hErr h ≠ 0) => .cons (.of (ImgK.err (by unfold imgR; rw [if_neg (by simpa using hS), if_pos he])))) (fun (he : hErr h = 0) => ?_)
    rw [w64_id (by omega) (by omega)]
    refine ifD_of (fun (hl : (v.len : Int) > size - 16) => .cons (.of (ImgK.err (by unfold imgR; rw [if_neg (by simpa using hS), if_neg (by simpa using he), if_pos (by omega)])))) (fun (hl : ¬ (v.len : Int) > size - 16) => ?_)
    obtain ⟨S, rfl⟩ : ∃ S : Nat, size = S := ⟨size.toNat, by omega⟩
    have himg : imgR h p S = (iAll h p S, 0) := by
      unfold imgR
      rw [if_neg (by simpa using hS), if_neg (by simpa using he), if_neg (by omega), Int.toNat_natCast]
    unfold ImgK
    rw [himg]
    have hok := hErr_ok he
    obtain ⟨k, pa, ps, ep, pg, u⟩ := h
    simp only at hok
    obtain ⟨k, rfl⟩ : ∃ n : Nat, k = n := ⟨k.toNat, by omega⟩
    obtain ⟨pa, rfl⟩ : ∃ n : Nat, pa = n := ⟨pa.toNat, by omega⟩
    obtain ⟨ps, rfl⟩ : ∃ n : Nat, ps = n := ⟨ps.toNat, by omega⟩
    obtain ⟨ep, rfl⟩ : ∃ n : Nat, ep = n := ⟨ep.toNat, by omega⟩
    obtain ⟨pg, rfl⟩ : ∃ n : Nat, pg = n := ⟨pg.toNat, by omega⟩
    refine ld_of (k : Int) ((lh (by simp)).pre fun i u hu => by cases i with | zero => exact hu | succ i => exact absurd (show (none : Option Value) = some u from hu) (by simp)) (ld_of (pa : Int) ((lh (by simp)).one 1 rfl) (ld_of (ps : Int) ((lh (by simp)).one 2 rfl) (nw_of fun n2 _ => ?_)))
    simp only [u8w]
    have c2 : BSl ((n2, Obj.cells #[.int .u8 (dig k 0).toNat, .int .u8 (dig pa 0).toNat, .int .u8 (dig ps 0).toNat, .int .u8 165] eB) :: o1 :: A) ⟨some ⟨n2, 0, none⟩, 4, 4⟩ [dig k 0, dig pa 0, dig ps 0, 165] :=
      ⟨rfl, Nat.le_refl _, .inr ⟨_, rfl, ldB List.mem_cons_self rfl⟩⟩
    have e2 : [dig k 0, dig pa 0, dig ps 0, 165] = digs k 1 ++ digs pa 1 ++ digs ps 1 ++ digs 165 1 := rfl
    rw [e2] at c2
    generalize (n2, Obj.cells #[.int .u8 (dig k 0).toNat, .int .u8 (dig pa 0).toNat, .int .u8 (dig ps 0).toNat, .int .u8 165] eB) = o2 at c2 ⊢
    refine ld_of (ep : Int) ((lh (by simp)).one 3 rfl) (cl_in [] [] (rput_cl (o2 :: o1 :: A) ⟨some ⟨n2, 0, none⟩, 4, 4⟩ _ c2 (by simp [digs_len]) ep 4 (by omega) (by omega)) (by simp) ?_)
    rintro _ _ - ⟨s3, seg3, rfl, rfl, own3⟩
    rw [wput_4 (n := (ep : Int)) _ (by omega) (by omega), Int.toNat_natCast] at own3
    rw [List.append_nil, List.nil_append]
    refine ⟨(s3, _, ()), rfl, ld_of (pg : Int) ((lh (by simp)).one 4 rfl) (nw_of fun n3 _ => ?_)⟩
    have c3 : BSl ((n3, Obj.cells #[.int .u8 (IntKind.u8.wrap (pg : Int)), .int .u8 0] eB) :: (seg3 ++ (o2 :: o1 :: A))) ⟨some ⟨n3, 0, none⟩, 2, 2⟩ (digs pg 1 ++ digs 0 1) := by
      rw [u8w]
      exact ⟨rfl, Nat.le_refl _, .inr ⟨_, rfl, ldB List.mem_cons_self rfl⟩⟩
    have hl3 := own3.sl.len
    rw [bvs_length] at hl3
    simp only [List.length_append, digs_len] at hl3
    refine append_in elemB srcB [(n3, Obj.cells #[.int .u8 (IntKind.u8.wrap (pg : Int)), .int .u8 0] eB)] (o2 :: o1 :: A) own3 rfl (.sl c3) (bvs_plain _) (by first | omega | (simp only; omega)) fun s4 seg4 hs4 own4 => ?_
    rw [← bvs_append] at own4
    generalize (n3, Obj.cells #[.int .u8 (IntKind.u8.wrap (pg : Int)), .int .u8 0] eB) = o3 at own4 ⊢
    have hvl' : ((v.len : Nat) : Int) = ((p.length : Nat) : Int) := by omega
    rw [hvl']
    refine cl_in [] [] (rput_cl (o3 :: (seg4 ++ (o2 :: o1 :: A))) s4 _ own4.sl.left.cons (by simp [digs_len]) (p.length : Int) 2 (by omega) (by omega)) (by simp) ?_
    rintro _ _ - ⟨s5, seg5, rfl, rfl, own5⟩
    rw [wput_2 (n := ((p.length : Nat) : Int)) _ (by omega) (by omega), Int.toNat_natCast] at own5
    have e5 : digs k 1 ++ digs pa 1 ++ digs ps 1 ++ digs 165 1 ++ digs ep 4 ++ (digs pg 1 ++ digs 0 1) ++ digs p.length 2 = hBytes ((k : Int), (pa : Int), (ps : Int), (ep : Int), (pg : Int), ()) p.length := by
      unfold hBytes
      simp only [Int.toNat_natCast, List.append_assoc]
    rw [e5] at own5
    rw [List.append_nil, List.nil_append]
    refine ⟨(s5, _, ()), rfl, ?_⟩
    have hl5 := own5.sl.len
    rw [bvs_length, hBytes_len] at hl5
    refine append_in elemB srcB [] (o3 :: (seg4 ++ (o2 :: o1 :: A))) own5 rfl (.sl (hv.cons.cons.right.cons.right)) (bvs_plain _) (by first | omega | (simp only; omega)) fun s6 seg6 hs6 own6 => ?_
    rw [← bvs_append] at own6
    rw [List.nil_append]
    have hw : IntKind.i64.wrap ((S : Int) - 4) = ((S - 4 : Nat) : Int) := by rw [w64_id (by omega) (by omega)]; omega
    simp only [hw]
    generalize hh : ((k : Int), (pa : Int), (ps : Int), (ep : Int), (pg : Int), ()) = hd at own6 he himg
    have hb12 := hBytes_len hd p.length
    refine lp_of (fun q z L' => ∃ (j : Nat) (s : SlV) (seg J : HList), j ≤ S - 16 - p.length ∧ q = S - 16 - p.length - j ∧ z = (s, ()) ∧ L' = J ++ seg ++ (o3 :: (seg4 ++ (o2 :: o1 :: A))) ∧ Own s 1 eB (bvs (hBytes hd p.length ++ p ++ List.replicate j 0)) seg) (S - 16 - p.length)
      ⟨0, s6, seg6, [], by omega, by omega, rfl, rfl, by simpa using own6⟩ ?_
    rintro q z L' ⟨j, s, seg, J, hj, rfl, rfl, rfl, own⟩
    have hsl := own.sl.len
    rw [bvs_length] at hsl
    simp only [List.length_append, List.length_replicate, hb12] at hsl
    refine ifD_of (fun (hlt : (s.len : Int) < ((S - 4 : Nat) : Int)) => ?_) (fun (hge : ¬ (s.len : Int) < ((S - 4 : Nat) : Int)) => ?_)
    · refine nw_of fun n4 _ => ?_
      have c4 : BSl ((n4, Obj.cells #[.int .u8 0] eB) :: (J ++ seg ++ (o3 :: (seg4 ++ (o2 :: o1 :: A))))) ⟨some ⟨n4, 0, none⟩, 1, 1⟩ [0] := ⟨rfl, Nat.le_refl _, .inr ⟨_, rfl, ldB List.mem_cons_self rfl⟩⟩
      refine append_in elemB srcB ((n4, Obj.cells #[.int .u8 0] eB) :: J) (o3 :: (seg4 ++ (o2 :: o1 :: A))) own (by simp) (.sl c4) (bvs_plain _) (by first | omega | (simp only; omega)) fun s7 seg7 hs7 own7 => ?_
      rw [← bvs_append] at own7
      refine ⟨S - 16 - p.length - (j + 1), by omega, j + 1, s7, seg7, _, by omega, rfl, rfl, rfl, ?_⟩
      rw [List.replicate_succ', ← List.append_assoc]
      exact own7
    · obtain rfl : j = S - 16 - p.length := by omega
      have hbody : hBytes hd p.length ++ p ++ List.replicate (S - 16 - p.length) 0 = iBody hd p S := rfl
      have hallE : iAll hd p S = iBody hd p S ++ digs (crcSum (iBody hd p S)).toNat 4 := rfl
      have hbl := iBody_len (h := hd) (p := p) (size := S) (by omega) (by omega)
      rw [hbody] at own
      rw [hallE]
      generalize iBody hd p S = body at own hbl ⊢
      have hcs := crcSum_rng body
      refine cl_rd (rsum_rd _ s body own.sl.right.left (by omega)) (crcSum body, ()) rfl ?_
      refine cl_in [] [] (rput_cl (J ++ seg ++ (o3 :: (seg4 ++ (o2 :: o1 :: A)))) s body own.sl.right.left (by omega) (crcSum body) 4 (by omega) (by omega)) (by simp) ?_
      rintro _ _ - ⟨s9, seg9, rfl, rfl, own9⟩
      rw [wput_4 (n := crcSum body) _ (by omega) (by omega)] at own9
      rw [List.append_nil, List.nil_append]
      refine ⟨(s9, _, ()), rfl, .drop (A := seg9 ++ A) (J := J ++ seg ++ (o3 :: (seg4 ++ [o2, o1]))) ⟨s9, seg9, rfl, rfl, own9⟩ ?_⟩
      classical
      rw [List.perm_iff_count]
      intro x
      simp only [List.append_eq, List.cons_append, List.count_append, List.count_cons, List.count_nil]
      omega
end Go.Proofs.Ytlabcgnegbdlfaa
set_option linter.unusedVariables false
set_option linter.unusedSimpArgs false
namespace Go.Proofs.Ytlabcgnegbdlfaa
open Go.HL

theorem digs_num : ∀ l : List UInt8, digs (num l) l.length = l
  | [] => rfl
  | x :: r => by
    rw [List.length_cons, digs_cons]
    have h1 : UInt8.ofNat (num (x :: r)) = x := by
      show UInt8.ofNat (x.toNat + 256 * num r) = x
      apply UInt8.toNat_inj.1
      have := x.toNat_lt
      simp
    have h2 : num (x :: r) / 256 = num r := by
      show (x.toNat + 256 * num r) / 256 = num r
      have := x.toNat_lt
      omega
    rw [h1, h2, digs_num r]
def hOf (b : List UInt8) : Hd := ((b.getD 0 0).toNat, (b.getD 1 0).toNat, (b.getD 2 0).toNat, num ((b.drop 4).take 4), (b.getD 8 0).toNat, ())
def nOf (b : List UInt8) : Nat := num ((b.drop 10).take 2)
def padOf (b : List UInt8) : List UInt8 := (b.drop (12 + nOf b)).take (b.length - 4 - (12 + nOf b))
def payOf (b : List UInt8) : List UInt8 := (b.drop 12).take (nOf b)
def pbad (b : List UInt8) : Bool := decide (b.getD 3 0 ≠ 165) || decide (b.getD 9 0 ≠ 0) || decide (nOf b > b.length - 16) || decide (hErr (hOf b) ≠ 0) || (padOf b).any fun x => decide (x ≠ 0)
def pblank (b : List UInt8) : Bool := b.all fun x => decide (x = 255)
def hz : Hd := (0, 0, 0, 0, 0, ())
/-- What bytes say as a page. -/
def parR (b : List UInt8) : Hd × List UInt8 × Int :=
  if ¬ (64 ≤ b.length ∧ b.length ≤ 512) then (hz, [], 2) else if pblank b = true then (hz, [], 15) else if crcSum (b.take (b.length - 4)) ≠ (num (b.drop (b.length - 4)) : Int) then (hz, [], 12) else if pbad b = true then (hz, [], 5) else (hOf b, payOf b, 0)
theorem cons12 {b : List UInt8} (h : 12 ≤ b.length) : ∃ b0 b1 b2 b3 b4 b5 b6 b7 b8 b9 b10 b11 r, b = b0 :: b1 :: b2 :: b3 :: b4 :: b5 :: b6 :: b7 :: b8 :: b9 :: b10 :: b11 :: r := by
  match b, h with
  | b0 :: b1 :: b2 :: b3 :: b4 :: b5 :: b6 :: b7 :: b8 :: b9 :: b10 :: b11 :: r, _ => exact ⟨b0, b1, b2, b3, b4, b5, b6, b7, b8, b9, b10, b11, r, rfl⟩
theorem dig_b (x : UInt8) : digs x.toNat 1 = [x] := by
  have := digs_num [x]
  simpa [num] using this
theorem hBytes_of (b0 b1 b2 b3 b4 b5 b6 b7 b8 b9 b10 b11 : UInt8) (r : List UInt8) : hBytes (hOf (b0 :: b1 :: b2 :: b3 :: b4 :: b5 :: b6 :: b7 :: b8 :: b9 :: b10 :: b11 :: r)) (nOf (b0 :: b1 :: b2 :: b3 :: b4 :: b5 :: b6 :: b7 :: b8 :: b9 :: b10 :: b11 :: r)) = [b0, b1, b2, 165, b4, b5, b6, b7, b8, 0, b10, b11] := by
  have h4 : digs (num [b4, b5, b6, b7]) 4 = [b4, b5, b6, b7] := digs_num _
  have h2 : digs (num [b10, b11]) 2 = [b10, b11] := digs_num _
  show digs ((b0.toNat : Int)).toNat 1 ++ digs ((b1.toNat : Int)).toNat 1 ++ digs ((b2.toNat : Int)).toNat 1 ++ digs 165 1 ++ digs ((num [b4, b5, b6, b7] : Int)).toNat 4 ++ digs ((b8.toNat : Int)).toNat 1 ++ digs 0 1 ++ digs (num [b10, b11]) 2 = _
  simp only [Int.toNat_natCast, dig_b, h4, h2]
  rfl
theorem nOf_lt (b : List UInt8) : nOf b < 65536 := by
  have h1 := num_lt ((b.drop 10).take 2)
  have h2 : 256 ^ ((b.drop 10).take 2).length ≤ 256 ^ 2 := Nat.pow_le_pow_right (by omega) (by rw [List.length_take]; omega)
  unfold nOf
  omega
theorem payOf_len {b : List UInt8} (h : 12 + nOf b ≤ b.length) : (payOf b).length = nOf b := by
  unfold payOf; rw [List.length_take, List.length_drop]; omega
/-- The bytes of a page are those of its image, where they can be. -/
theorem again {b : List UInt8} (h1 : 64 ≤ b.length) (hc : crcSum (b.take (b.length - 4)) = (num (b.drop (b.length - 4)) : Int)) (hn : nOf b ≤ b.length - 16) :
    iAll (hOf b) (payOf b) b.length = b ↔ b.getD 3 0 = 165 ∧ b.getD 9 0 = 0 ∧ ∀ x ∈ padOf b, x = 0 := by
  have hpl := payOf_len (b := b) (by omega)
  obtain ⟨b0, b1, b2, b3, b4, b5, b6, b7, b8, b9, b10, b11, r, rfl⟩ := cons12 (b := b) (by omega)
  have hb := hBytes_of b0 b1 b2 b3 b4 b5 b6 b7 b8 b9 b10 b11 r
  generalize hB : b0 :: b1 :: b2 :: b3 :: b4 :: b5 :: b6 :: b7 :: b8 :: b9 :: b10 :: b11 :: r = b at *
  have hlen : b.length = r.length + 12 := by subst hB; simp
  have hpay : payOf b = r.take (nOf b) := by unfold payOf; subst hB; rfl
  have hpad : padOf b = (r.drop (nOf b)).take (b.length - 16 - nOf b) := by
    unfold padOf
    rw [show b.length - 4 - (12 + nOf b) = b.length - 16 - nOf b by omega]
    congr 1
    subst hB
    rw [← List.drop_drop]; rfl
  have hlast : b.drop (b.length - 4) = r.drop (b.length - 16) := by
    rw [show b.length - 4 = 12 + (b.length - 16) by omega, ← List.drop_drop]
    congr 1
    subst hB; rfl
  have hpadl : (padOf b).length = b.length - 16 - nOf b := by rw [hpad, List.length_take, List.length_drop]; omega
  have hr : r = payOf b ++ padOf b ++ b.drop (b.length - 4) := by
    rw [hpay, hpad, hlast]
    have e1 : r.drop (b.length - 16) = (r.drop (nOf b)).drop (b.length - 16 - nOf b) := by rw [List.drop_drop]; congr 1; omega
    rw [e1, List.append_assoc, List.take_append_drop, List.take_append_drop]
  have hg3 : b.getD 3 0 = b3 := by subst hB; rfl
  have hg9 : b.getD 9 0 = b9 := by subst hB; rfl
  have hbt : b.take (b.length - 4) = [b0, b1, b2, b3, b4, b5, b6, b7, b8, b9, b10, b11] ++ (payOf b ++ padOf b) := by
    have : b = ([b0, b1, b2, b3, b4, b5, b6, b7, b8, b9, b10, b11] ++ (payOf b ++ padOf b)) ++ b.drop (b.length - 4) := by
      rw [List.append_assoc, ← hr, ← hB]; rfl
    have e := congrArg (List.take (b.length - 4)) this
    rw [List.take_left' (by
      rw [List.length_append, List.length_append, hpl, hpadl]
      simp only [List.length_cons, List.length_nil]
      omega)] at e
    exact e
  have hll : (b.drop (b.length - 4)).length = 4 := by rw [List.length_drop]; omega
  have hbody : iBody (hOf b) (payOf b) b.length = [b0, b1, b2, 165, b4, b5, b6, b7, b8, 0, b10, b11] ++ (payOf b ++ List.replicate (b.length - 16 - nOf b) 0) := by
    unfold iBody
    rw [hpl, hb, List.append_assoc]
  have hpad0 : (∀ x ∈ padOf b, x = 0) ↔ List.replicate (b.length - 16 - nOf b) 0 = padOf b := by
    rw [← hpadl]
    constructor
    · intro h; exact (List.eq_replicate_iff.2 ⟨rfl, h⟩).symm
    · intro h x hx; rw [← h] at hx; exact List.eq_of_mem_replicate hx
  rw [hg3, hg9, hpad0]
  have hB2 : b = [b0, b1, b2, b3, b4, b5, b6, b7, b8, b9, b10, b11] ++ (payOf b ++ (padOf b ++ b.drop (b.length - 4))) := by
    rw [← List.append_assoc (payOf b), ← hr, ← hB]; rfl
  constructor
  · intro h
    unfold iAll at h
    rw [hbody, List.append_assoc, List.append_assoc] at h
    have h' := h.trans hB2
    obtain ⟨e1, e2⟩ := List.append_inj h' rfl
    obtain ⟨e3, e4⟩ := List.append_inj e2 rfl
    obtain ⟨e5, e6⟩ := List.append_inj e4 (by rw [List.length_replicate, hpadl])
    simp only [List.cons.injEq, and_true, true_and] at e1
    exact ⟨e1.1.symm, e1.2.symm, e5⟩
  · rintro ⟨rfl, rfl, e5⟩
    have : iBody (hOf b) (payOf b) b.length = b.take (b.length - 4) := by rw [hbody, e5, hbt]
    unfold iAll
    rw [this, hc, Int.toNat_natCast]
    have h4 := digs_num (b.drop (b.length - 4))
    rw [hll] at h4
    rw [h4, List.take_append_drop]
end Go.Proofs.Ytlabcgnegbdlfaa
set_option linter.unusedVariables false
set_option linter.unusedSimpArgs false
namespace Go.Proofs.Ytlabcgnegbdlfaa
open Go.HL

theorem ne255 (x : UInt8) : ((x.toNat : Int) ≠ 255) ↔ x ≠ 255 := by
  constructor
  · rintro h rfl; exact h rfl
  · intro h e
    apply h
    apply UInt8.toNat_inj.1
    show x.toNat = 255
    omega
theorem eq_u8 (x : UInt8) (n : Nat) (hn : n < 256) : ((x.toNat : Int) = n) ↔ x = UInt8.ofNat n := by
  constructor
  · intro h; apply UInt8.toNat_inj.1; simp; omega
  · rintro rfl; simp; omega
theorem pblank_rd (L : HList) (v : SlV) (b : List UInt8) (hb : BSl L v b) (hl : b.length ≤ 1000000) : Reads PP 96 #[.slice v.a v.len v.cap] L (.bool (pblank b)) := by
  refine Reads.of (args := [.slice v.a v.len v.cap]) noNum mixed Try.func96 (e96 v _) ?_
  unfold t96
  have hlen := hb.len
  refine lp_of (fun k z L' => L' = L ∧ ∃ i : Nat, i ≤ b.length ∧ k = b.length - i ∧ z = ((i : Int), ()) ∧ ∀ x ∈ b.take i, x = 255) b.length ⟨rfl, 0, by omega, by omega, rfl, by simp⟩ ?_
  rintro k z L' ⟨rfl, i, hi, rfl, rfl, hall⟩
  refine ifD_of (fun (hlt : (i : Int) < v.len) => ?_) (fun (hge : ¬ (i : Int) < v.len) => ?_)
  · have hi' : i < b.length := by omega
    obtain ⟨a, ha⟩ := hb.some hi'
    refine nilc_of ha (ixn_of (show (0 : Int) ≤ i by omega) hlt (ld_of (b[i].toNat : Int) (hb.rd hi' ha _ (by simp)) ?_))
    refine ifNe_of (fun hne => .of ⟨?_, rfl⟩) (fun he => ⟨b.length - (i + 1), by omega, rfl, i + 1, by omega, rfl, ?_, fun x hx => ?_⟩)
    · have : pblank b = false := by
        unfold pblank
        rw [List.all_eq_false]
        exact ⟨b[i], List.getElem_mem hi', by simpa using (ne255 _).1 hne⟩
      rw [this]
    · rw [w64_id (by first | omega | (simp only; omega)) (by first | omega | (simp only; omega))]
      rfl
    · rw [List.take_succ_eq_append_getElem hi'] at hx
      rcases List.mem_append.1 hx with hx | hx
      · exact hall x hx
      · rw [List.mem_singleton.1 hx]
        exact Decidable.byContradiction fun hc => (ne255 _).2 hc he
  · obtain rfl : i = b.length := by omega
    rw [List.take_length] at hall
    refine .of ⟨?_, rfl⟩
    have : pblank b = true := by
      unfold pblank
      rw [List.all_eq_true]
      intro x hx
      simpa using hall x hx
    rw [this]
theorem rblank_rd (L : HList) (v : SlV) (b : List UInt8) (hb : BSl L v b) (hl : b.length ≤ 1000000) : Reads PP 64 #[.slice v.a v.len v.cap] L (.bool (pblank b)) := by
  refine Reads.of (args := [.slice v.a v.len v.cap]) noNum mixed Try.func64 (e64 v _) ?_
  unfold t64
  have hlen := hb.len
  refine lp_of (fun k z L' => L' = L ∧ ∃ i : Nat, i ≤ b.length ∧ k = b.length - i ∧ z = ((i : Int), ()) ∧ ∀ x ∈ b.take i, x = 255) b.length ⟨rfl, 0, by omega, by omega, rfl, by simp⟩ ?_
  rintro k z L' ⟨rfl, i, hi, rfl, rfl, hall⟩
  refine ifD_of (fun (hlt : (i : Int) < v.len) => ?_) (fun (hge : ¬ (i : Int) < v.len) => ?_)
  · have hi' : i < b.length := by omega
    obtain ⟨a, ha⟩ := hb.some hi'
    refine nilc_of ha (ixn_of (show (0 : Int) ≤ i by omega) hlt (ld_of (b[i].toNat : Int) (hb.rd hi' ha _ (by simp)) ?_))
    refine ifNe_of (fun hne => .of ⟨?_, rfl⟩) (fun he => ⟨b.length - (i + 1), by omega, rfl, i + 1, by omega, rfl, ?_, fun x hx => ?_⟩)
    · have : pblank b = false := by
        unfold pblank
        rw [List.all_eq_false]
        exact ⟨b[i], List.getElem_mem hi', by simpa using (ne255 _).1 hne⟩
      rw [this]
    · rw [w64_id (by first | omega | (simp only; omega)) (by first | omega | (simp only; omega))]
      rfl
    · rw [List.take_succ_eq_append_getElem hi'] at hx
      rcases List.mem_append.1 hx with hx | hx
      · exact hall x hx
      · rw [List.mem_singleton.1 hx]
        exact Decidable.byContradiction fun hc => (ne255 _).2 hc he
  · obtain rfl : i = b.length := by omega
    rw [List.take_length] at hall
    refine .of ⟨?_, rfl⟩
    have : pblank b = true := by
      unfold pblank
      rw [List.all_eq_true]
      intro x hx
      simpa using hall x hx
    rw [this]
theorem pat_rd (L : HList) (v : SlV) (b : List UInt8) (hb : BSl L v b) (hl : b.length ≤ 1000000) (a w : Int) : Reads PP 103 #[.slice v.a v.len v.cap, .int .i64 a, .int .i64 w] L (.int .i64 (wget b a w).1) := by
  refine Reads.of (args := [.slice v.a v.len v.cap, .int .i64 a, .int .i64 w]) noNum mixed Try.func103 (e103 v a w _) ?_
  unfold t103
  exact cl_rd (wget_rd _ v b hb (by omega) a w) ((wget b a w).1, (wget b a w).2, ()) rfl (.of ⟨rfl, rfl⟩)
def ParK (b : List UInt8) (A : HList) (v : Value) (L' : HList) : Prop := ∃ (s : SlV) (seg : HList), v = .tuple #[.agg #[.int .i64 (parR b).1.1, .int .i64 (parR b).1.2.1, .int .i64 (parR b).1.2.2.1, .int .i64 (parR b).1.2.2.2.1, .int .i64 (parR b).1.2.2.2.2.1], .slice s.a s.len s.cap, .int .i64 (parR b).2.2] ∧ L' = seg ++ A ∧ Own s 1 eB (bvs (parR b).2.1) seg
theorem ParK.err {b : List UInt8} {A : HList} {e : Int} (he : parR b = (hz, [], e)) : ParK b A (.tuple #[.agg #[.int .i64 0, .int .i64 0, .int .i64 0, .int .i64 0, .int .i64 0], .slice none 0 0, .int .i64 e]) A := ⟨⟨none, 0, 0⟩, [], by rw [he]; rfl, rfl, by rw [he]; exact own_nil⟩
theorem wget_at {b : List UInt8} {a w : Nat} (h : 1 ≤ w) (h7 : w ≤ 7) (h2 : a + w ≤ b.length) : (wget b (a : Int) (w : Int)).1 = (num ((b.drop a).take w) : Int) := by rw [wget_ok h h7 h2]
theorem getD_at {b : List UInt8} {i : Nat} (h : i < b.length) : b.getD i 0 = b[i] := by simp [List.getD_eq_getElem?_getD, h]
theorem parR_size {b : List UInt8} (h : ¬ (64 ≤ b.length ∧ b.length ≤ 512)) : parR b = (hz, [], 2) := by unfold parR; rw [if_pos h]
theorem parR_blank {b : List UInt8} (h : 64 ≤ b.length ∧ b.length ≤ 512) (h2 : pblank b = true) : parR b = (hz, [], 15) := by unfold parR; rw [if_neg (by simpa using h), if_pos h2]
theorem parR_sum {b : List UInt8} (h : 64 ≤ b.length ∧ b.length ≤ 512) (h2 : pblank b = false) (h3 : crcSum (b.take (b.length - 4)) ≠ (num (b.drop (b.length - 4)) : Int)) : parR b = (hz, [], 12) := by
  unfold parR; rw [if_neg (by simpa using h), if_neg (by rw [h2]; decide), if_pos h3]
theorem parR_bad {b : List UInt8} (h : 64 ≤ b.length ∧ b.length ≤ 512) (h2 : pblank b = false) (h3 : crcSum (b.take (b.length - 4)) = (num (b.drop (b.length - 4)) : Int)) (h4 : pbad b = true) : parR b = (hz, [], 5) := by
  unfold parR; rw [if_neg (by simpa using h), if_neg (by rw [h2]; decide), if_neg (by simpa using h3), if_pos h4]
theorem parR_ok {b : List UInt8} (h : 64 ≤ b.length ∧ b.length ≤ 512) (h2 : pblank b = false) (h3 : crcSum (b.take (b.length - 4)) = (num (b.drop (b.length - 4)) : Int)) (h4 : pbad b = false) : parR b = (hOf b, payOf b, 0) := by
  unfold parR; rw [if_neg (by simpa using h), if_neg (by rw [h2]; decide), if_neg (by simpa using h3), if_neg (by rw [h4]; decide)]
theorem pbad_iff (b : List UInt8) : pbad b = true ↔ b.getD 3 0 ≠ 165 ∨ b.getD 9 0 ≠ 0 ∨ nOf b > b.length - 16 ∨ hErr (hOf b) ≠ 0 ∨ ∃ x ∈ padOf b, x ≠ 0 := by
  unfold pbad
  simp only [Bool.or_eq_true, decide_eq_true_iff, List.any_eq_true]
  constructor
  · rintro ((((h | h) | h) | h) | h)
    · exact .inl h
    · exact .inr (.inl h)
    · exact .inr (.inr (.inl h))
    · exact .inr (.inr (.inr (.inl h)))
    · exact .inr (.inr (.inr (.inr h)))
  · rintro (h | h | h | h | h)
    · exact .inl (.inl (.inl (.inl h)))
    · exact .inl (.inl (.inl (.inr h)))
    · exact .inl (.inl (.inr h))
    · exact .inl (.inr h)
    · exact .inr h
theorem pbad_f {b : List UInt8} (h1 : b.getD 3 0 = 165) (h2 : b.getD 9 0 = 0) (h3 : nOf b ≤ b.length - 16) (h4 : hErr (hOf b) = 0) (h5 : ∀ x ∈ padOf b, x = 0) : pbad b = false := by
  rw [Bool.eq_false_iff]
  intro h
  rcases (pbad_iff b).1 h with h | h | h | h | ⟨x, hx, h⟩
  · exact h h1
  · exact h h2
  · omega
  · exact h h4
  · exact h (h5 x hx)
section
variable {b : List UInt8} {A : HList} {n1 : Nat} {e : Int}
/-- The way out where something is wrong. -/
theorem par_err (X : HList) (he : parR b = (hz, [], e)) :
    (st ⟨n1, 0, none⟩ [.int .i64 0, .int .i64 0, .int .i64 0, .int .i64 0, .int .i64 0] <|
      ld ⟨n1, 0, none⟩ (.agg [.int .i64, .int .i64, .int .i64, .int .i64, .int .i64]) fun v1 =>
      HL.Ends (ParK b A) (.tuple #[.agg #[.int .i64 v1.1, .int .i64 v1.2.1, .int .i64 v1.2.2.1, .int .i64 v1.2.2.2.1, .int .i64 v1.2.2.2.2.1], .slice none 0 0, .int .i64 e])) (X ++ (n1, Obj.cells #[.int .i64 0, .int .i64 0, .int .i64 0, .int .i64 0, .int .i64 0] 111) :: A) := by
  refine st_of X A rfl rfl (by simp) (.inl (Nat.le_refl _)) #[.int .i64 0, .int .i64 0, .int .i64 0, .int .i64 0, .int .i64 0] rfl ?_
  exact ld_of (0, 0, 0, 0, 0, ()) (ldB (n := n1) (c := #[.int .i64 0, .int .i64 0, .int .i64 0, .int .i64 0, .int .i64 0]) (T := 111) (fz := (0, 0)) (by simp) rfl) (.app (.cons (.of (ParK.err he))))
end
theorem par_end {b : List UInt8} {A : HList} {n1 : Nat} {h : Hd} {q : List UInt8} (hok : parR b = (h, q, 0)) {s : SlV} {seg : HList} (own : Own s 1 eB (bvs q) seg) (Y X : HList) :
    (st ⟨n1, 0, none⟩ [.int .i64 h.1, .int .i64 h.2.1, .int .i64 h.2.2.1, .int .i64 h.2.2.2.1, .int .i64 h.2.2.2.2.1] <|
      ld ⟨n1, 0, none⟩ (.agg [.int .i64, .int .i64, .int .i64, .int .i64, .int .i64]) fun v1 =>
      HL.Ends (ParK b A) (.tuple #[.agg #[.int .i64 v1.1, .int .i64 v1.2.1, .int .i64 v1.2.2.1, .int .i64 v1.2.2.2.1, .int .i64 v1.2.2.2.2.1], .slice s.a s.len s.cap, .int .i64 0])) (Y ++ seg ++ (X ++ (n1, Obj.cells #[.int .i64 0, .int .i64 0, .int .i64 0, .int .i64 0, .int .i64 0] 111) :: A)) := by
  obtain ⟨k, pa, ps, ep, pg, u⟩ := h
  simp only
  refine st_of (n := n1) (off := 0) (c := #[.int .i64 0, .int .i64 0, .int .i64 0, .int .i64 0, .int .i64 0]) (T := 111) (fz := (0, 0)) (Y ++ seg ++ X) A rfl (by simp) (by simp) (.inl (Nat.le_refl _)) #[.int .i64 k, .int .i64 pa, .int .i64 ps, .int .i64 ep, .int .i64 pg] rfl ?_
  have lh : LdAt ⟨n1, 0, none⟩ [.int .i64 k, .int .i64 pa, .int .i64 ps, .int .i64 ep, .int .i64 pg] (Y ++ seg ++ X ++ (n1, Obj.cells #[.int .i64 k, .int .i64 pa, .int .i64 ps, .int .i64 ep, .int .i64 pg] 111) :: A) := ldB (n := n1) (c := #[.int .i64 k, .int .i64 pa, .int .i64 ps, .int .i64 ep, .int .i64 pg]) (T := 111) (fz := (0, 0)) (by simp) rfl
  refine ld_of (k, pa, ps, ep, pg, ()) lh ?_
  refine .drop (A := seg ++ A) (J := Y ++ X ++ [(n1, Obj.cells #[.int .i64 k, .int .i64 pa, .int .i64 ps, .int .i64 ep, .int .i64 pg] 111)]) ⟨s, seg, by rw [hok], rfl, by rw [hok]; exact own⟩ ?_
  classical
  rw [List.perm_iff_count]
  intro x
  simp only [List.append_eq, List.cons_append, List.count_append, List.count_cons, List.count_nil]
  omega
theorem pparse_cl (A : HList) (v : SlV) (b : List UInt8) (hb : BSl A v b) (hl : b.length ≤ 1000000) :
    CallF PP 67 #[.slice v.a v.len v.cap] A (ParK b A) := by
  refine CallF.of (args := [.slice v.a v.len v.cap]) noNum mixed Try.func67 (e67 v _) ?_
  unfold t67
  have hlen := hb.len
  have hcap := hb.cap
  refine nw_of fun n1 _ => ?_
  have hb1 : ∀ {X : HList}, BSl (X ++ (n1, Obj.cells #[.int .i64 0, .int .i64 0, .int .i64 0, .int .i64 0, .int .i64 0] 111) :: A) v b := fun {X} => hb.cons.right
  have hvl : ((v.len : Nat) : Int) = ((b.length : Nat) : Int) := by omega
  refine cl_rd (psized_rd _ v.len) (szd v.len, ()) rfl ?_
  cases hsz : szd v.len with
  | false => exact ifT rfl (par_err [] (parR_size (b := b) (by have := szd_f hsz; omega)))
  | true =>
    have hS : 64 ≤ b.length ∧ b.length ≤ 512 := by have := szd_t hsz; omega
    refine ifF rfl (cl_rd (pblank_rd _ v b (hb1 (X := [])) hl) (pblank b, ()) rfl ?_)
    cases hbk : pblank b with
    | true => exact ifT rfl (par_err [] (parR_blank hS hbk))
    | false =>
      refine ifF rfl ?_
      have hw : IntKind.i64.wrap ((v.len : Int) - 4) = ((b.length - 4 : Nat) : Int) := by rw [w64_id (by omega) (by omega)]; omega
      simp only [hw]
      refine slc_of (l' := 0) (h' := b.length - 4) (m' := v.cap) rfl rfl rfl (by omega) (by omega) (Nat.le_refl _) ?_
      have hs1 : BSl ((n1, Obj.cells #[.int .i64 0, .int .i64 0, .int .i64 0, .int .i64 0, .int .i64 0] 111) :: A) (slcV v ((0 : Nat) : Int) ((b.length - 4 : Nat) : Int) v.cap 1) (b.take (b.length - 4)) := by
        have := Sl.slc (m := v.cap) (hb1 (X := [])) (by omega) (l := 0) (h' := b.length - 4) (by omega) (by omega) (by omega)
        rw [bvs_slc] at this
        simpa using this
      have hnum : (wget b ((b.length - 4 : Nat) : Int) 4).1 = (num (b.drop (b.length - 4)) : Int) := by
        have e := wget_at (b := b) (a := b.length - 4) (w := 4) (by decide) (by decide) (by omega)
        rw [List.take_of_length_le (by rw [List.length_drop]; omega)] at e
        exact e
      refine cl_rd (pat_rd _ v b (hb1 (X := [])) hl _ 4) ((wget b ((b.length - 4 : Nat) : Int) 4).1, ()) rfl ?_
      rw [hnum]
      refine cl_rd (check_rd _ _ _ hs1 (by rw [List.length_take]; omega) _) (crcSum (b.take (b.length - 4)) == (num (b.drop (b.length - 4)) : Int), ()) rfl ?_
      clear hs1
      by_cases hcs : crcSum (b.take (b.length - 4)) = (num (b.drop (b.length - 4)) : Int)
      · refine ifF (by simp [hcs]) ?_
        obtain ⟨a, ha⟩ := hb.some (show 0 < b.length by omega)
        have hrd : ∀ {X : HList} (i : Nat) (hi : i < b.length) (j : Nat), j = i * 1 → LdAt (Addr.add a j) [.int .u8 (b[i].toNat : Int)] (X ++ (n1, Obj.cells #[.int .i64 0, .int .i64 0, .int .i64 0, .int .i64 0, .int .i64 0] 111) :: A) := fun {X} i hi j hj => (hb1 (X := X)).rd hi ha j hj
        refine nilc_of ha (ixn_of (by decide) (by omega) (nilc_of ha (ixn_of (by decide) (by omega) (nilc_of ha (ixn_of (by decide) (by omega) (nilc_of ha (ixn_of (by decide) (by omega) ?_)))))))
        refine ld_of (b[0].toNat : Int) (hrd (X := []) 0 (by omega) _ rfl) (ld_of (b[1].toNat : Int) (hrd (X := []) 1 (by omega) _ rfl) (ld_of (b[2].toNat : Int) (hrd (X := []) 2 (by omega) _ rfl) (ld_of (b[8].toNat : Int) (hrd (X := []) 8 (by omega) _ rfl) ?_)))
        refine cl_rd (pat_rd _ v b (hb1 (X := [])) hl 4 4) ((num ((b.drop 4).take 4) : Int), ()) (by rw [← wget_at (by decide) (by decide) (by omega)]; rfl) ?_
        refine keep_of (hrd (X := []) 8 (by omega) _ rfl) (keep_of (hrd (X := []) 2 (by omega) _ rfl) (keep_of (hrd (X := []) 1 (by omega) _ rfl) (keep_of (hrd (X := []) 0 (by omega) _ rfl) ?_)))
        have hu : ∀ x : UInt8, IntKind.i64.wrap (x.toNat : Int) = (x.toNat : Int) := fun x => by have := x.toNat_lt; exact w64_id (by omega) (by omega)
        have hh : hOf b = ((b[0].toNat : Int), (b[1].toNat : Int), (b[2].toNat : Int), (num ((b.drop 4).take 4) : Int), (b[8].toNat : Int), ()) := by
          unfold hOf
          rw [getD_at (show 0 < b.length by omega), getD_at (show 1 < b.length by omega), getD_at (show 2 < b.length by omega), getD_at (show 8 < b.length by omega)]
        simp only [hu]
        refine nw_of fun n2 _ => st_of [] _ rfl rfl (by simp) (.inl (Nat.le_refl _)) #[.int .i64 b[0].toNat, .int .i64 b[1].toNat, .int .i64 b[2].toNat, .int .i64 (num ((b.drop 4).take 4)), .int .i64 b[8].toNat] rfl ?_
        rw [List.nil_append]
        have l2 : ∀ {X : HList}, LdAt ⟨n2, 0, none⟩ (hEnc (hOf b)) (X ++ (n2, Obj.cells #[.int .i64 b[0].toNat, .int .i64 b[1].toNat, .int .i64 b[2].toNat, .int .i64 (num ((b.drop 4).take 4)), .int .i64 b[8].toNat] 111) :: (n1, Obj.cells #[.int .i64 0, .int .i64 0, .int .i64 0, .int .i64 0, .int .i64 0] 111) :: A) := fun {X} => by
          rw [hh]
          exact ldB (n := n2) (c := #[.int .i64 b[0].toNat, .int .i64 b[1].toNat, .int .i64 b[2].toNat, .int .i64 (num ((b.drop 4).take 4)), .int .i64 b[8].toNat]) (T := 111) (fz := (0, 0)) (by simp) rfl
        generalize (n2, Obj.cells #[.int .i64 b[0].toNat, .int .i64 b[1].toNat, .int .i64 b[2].toNat, .int .i64 (num ((b.drop 4).take 4)), .int .i64 b[8].toNat] 111) = o2 at l2 ⊢
        clear hu hh
        have hn : nOf b < 65536 := nOf_lt b
        refine cl_rd (pat_rd _ v b (hb1 (X := [o2])) hl 10 2) ((nOf b : Int), ()) (by unfold nOf; rw [← wget_at (by decide) (by decide) (by omega)]; rfl) ?_
        refine nilc_of ha (ixn_of (by decide) (by omega) (ld_of (b[3].toNat : Int) (hrd (X := [o2]) 3 (by omega) _ rfl) ?_))
        refine ifNe_of (fun hne => par_err [o2] (parR_bad hS hbk hcs ((pbad_iff b).2 (.inl ?_)))) (fun h3 => ?_)
        · rw [getD_at (show 3 < b.length by omega)]
          rintro e
          rw [e] at hne
          exact hne rfl
        have h3' : b.getD 3 0 = 165 := by rw [getD_at (show 3 < b.length by omega)]; exact (eq_u8 _ 165 (by decide)).1 h3
        refine nilc_of ha (ixn_of (by decide) (by omega) (ld_of (b[9].toNat : Int) (hrd (X := [o2]) 9 (by omega) _ rfl) ?_))
        refine ifNe_of (fun hne => par_err [o2] (parR_bad hS hbk hcs ((pbad_iff b).2 (.inr (.inl ?_))))) (fun h9 => ?_)
        · rw [getD_at (show 9 < b.length by omega)]
          rintro e
          rw [e] at hne
          exact hne rfl
        have h9' : b.getD 9 0 = 0 := by rw [getD_at (show 9 < b.length by omega)]; exact (eq_u8 _ 0 (by decide)).1 h9
        clear h3 h9
        have hroom : roomOf (v.len : Int) = ((b.length - 16 : Nat) : Int) := by unfold roomOf; rw [if_pos (by omega)]; omega
        refine cl_rd (proom_rd _ v.len) (roomOf v.len, ()) rfl ?_
        rw [hroom]
        refine ifD_of (fun (hbig : (nOf b : Int) > ((b.length - 16 : Nat) : Int)) => par_err [o2] (parR_bad hS hbk hcs ((pbad_iff b).2 (.inr (.inr (.inl (by omega))))))) (fun (hsm : ¬ (nOf b : Int) > ((b.length - 16 : Nat) : Int)) => ?_)
        refine ld_of (hOf b) (l2 (X := [])) (cl_rd (pcheck_rd _ (hOf b)) (hErr (hOf b), ()) rfl ?_)
        refine ifNe_of (fun (he : hErr (hOf b) ≠ 0) => par_err [o2] (parR_bad hS hbk hcs ((pbad_iff b).2 (.inr (.inr (.inr (.inl he))))))) (fun (he : hErr (hOf b) = 0) => ?_)
        have hwn : IntKind.i64.wrap (12 + (nOf b : Int)) = ((12 + nOf b : Nat) : Int) := by rw [w64_id (by omega) (by omega)]; omega
        simp only [hwn]
        refine slc_of (l' := 12 + nOf b) (h' := b.length - 4) (m' := v.cap) rfl rfl rfl (by omega) (by omega) (Nat.le_refl _) ?_
        have hs2 : BSl (o2 :: (n1, Obj.cells #[.int .i64 0, .int .i64 0, .int .i64 0, .int .i64 0, .int .i64 0] 111) :: A) (slcV v ((12 + nOf b : Nat) : Int) ((b.length - 4 : Nat) : Int) v.cap 1) (padOf b) := by
          have := Sl.slc (m := v.cap) (hb1 (X := [o2])) (by omega) (l := 12 + nOf b) (h' := b.length - 4) (by omega) (by omega) (by omega)
          rw [bvs_slc] at this
          exact this
        generalize slcV v ((12 + nOf b : Nat) : Int) ((b.length - 4 : Nat) : Int) v.cap 1 = s2 at hs2 ⊢
        have hl2 := hs2.len
        have hpl : (padOf b).length ≤ b.length := by unfold padOf; rw [List.length_take, List.length_drop]; omega
        refine lp_of (fun k z L' => L' = o2 :: (n1, Obj.cells #[.int .i64 0, .int .i64 0, .int .i64 0, .int .i64 0, .int .i64 0] 111) :: A ∧ ∃ i : Nat, i ≤ (padOf b).length ∧ k = (padOf b).length - i ∧ z = ((i : Int), ()) ∧ ∀ x ∈ (padOf b).take i, x = 0) (padOf b).length ⟨rfl, 0, by omega, by omega, rfl, by simp⟩ ?_
        rintro k z L' ⟨rfl, i, hi, rfl, rfl, hall⟩
        refine ifD_of (fun (hlt : (i : Int) < s2.len) => ?_) (fun (hge : ¬ (i : Int) < s2.len) => ?_)
        · have hi' : i < (padOf b).length := by omega
          obtain ⟨a2, ha2⟩ := hs2.some hi'
          refine nilc_of ha2 (ixn_of (show (0 : Int) ≤ i by omega) hlt (ld_of ((padOf b)[i].toNat : Int) (hs2.rd hi' ha2 _ (by simp)) ?_))
          refine ifNe_of (fun hne => par_err [o2] (parR_bad hS hbk hcs ((pbad_iff b).2 (.inr (.inr (.inr (.inr ⟨(padOf b)[i], List.getElem_mem hi', ?_⟩))))))) (fun h0 => ⟨(padOf b).length - (i + 1), by omega, rfl, i + 1, by omega, rfl, ?_, fun x hx => ?_⟩)
          · rintro e
            rw [e] at hne
            exact hne rfl
          · rw [w64_id (by first | omega | (simp only; omega)) (by first | omega | (simp only; omega))]
            rfl
          · rw [List.take_succ_eq_append_getElem hi'] at hx
            rcases List.mem_append.1 hx with hx | hx
            · exact hall x hx
            · rw [List.mem_singleton.1 hx]
              exact (eq_u8 _ 0 (by decide)).1 h0
        · obtain rfl : i = (padOf b).length := by omega
          rw [List.take_length] at hall
          have hok := parR_ok hS hbk hcs (pbad_f h3' h9' (by omega) he hall)
          refine slc_of (l' := 12) (h' := 12 + nOf b) (m' := v.cap) rfl rfl rfl (by omega) (by omega) (Nat.le_refl _) ?_
          have hs3 : ∀ {o : Nat × Obj}, BSl (o :: o2 :: (n1, Obj.cells #[.int .i64 0, .int .i64 0, .int .i64 0, .int .i64 0, .int .i64 0] 111) :: A) (slcV v ((12 : Nat) : Int) ((12 + nOf b : Nat) : Int) v.cap 1) (payOf b) := by
            intro o
            have := Sl.slc (m := v.cap) (hb1 (X := [o, o2])) (by omega) (l := 12) (h' := 12 + nOf b) (by omega) (by omega) (by omega)
            rw [bvs_slc, Nat.add_sub_cancel_left] at this
            exact this
          have hsl3 : (slcV v ((12 : Nat) : Int) ((12 + nOf b : Nat) : Int) v.cap 1).len = nOf b := by simp only [slcV, Int.toNat_natCast]; omega
          generalize slcV v ((12 : Nat) : Int) ((12 + nOf b : Nat) : Int) v.cap 1 = s3 at hs3 hsl3 ⊢
          refine ld_of (hOf b) (l2 (X := [])) (nw_of fun n3 _ => append_in elemB srcB [] (o2 :: (n1, Obj.cells #[.int .i64 0, .int .i64 0, .int .i64 0, .int .i64 0, .int .i64 0] 111) :: A) own_empty rfl (.sl hs3) (bvs_plain _) (by first | omega | (simp only; omega)) fun s4 seg4 hs4 own4 => keep_of l2 ?_)
          rw [List.nil_append] at own4
          exact par_end hok own4 [] [o2]
      · exact ifT (by simp [hcs]) (par_err [] (parR_sum hS hbk hcs))
end Go.Proofs.Ytlabcgnegbdlfaa
set_option linter.unusedVariables false
set_option linter.unusedSimpArgs false
namespace Go.Proofs.Ytlabcgnegbdlfaa
open Go.HL

theorem imgR_ok {h : Hd} {p : List UInt8} {S : Nat} (h1 : 64 ≤ S ∧ S ≤ 512) (h2 : hErr h = 0) (h3 : p.length ≤ S - 16) : imgR h p (S : Int) = (iAll h p S, 0) := by
  unfold imgR
  rw [if_neg (by omega), if_neg (by simpa using h2), if_neg (by omega), Int.toNat_natCast]
theorem imgR_err {h : Hd} {p : List UInt8} {S : Nat} (h1 : 64 ≤ S ∧ S ≤ 512) (h2 : hErr h ≠ 0) : imgR h p (S : Int) = ([], hErr h) := by
  unfold imgR
  rw [if_neg (by omega), if_pos h2]
theorem rparse_cl (A : HList) (v : SlV) (b : List UInt8) (hb : BSl A v b) (hl : b.length ≤ 1000000) :
    CallF PP 62 #[.slice v.a v.len v.cap] A (ParK b A) := by
  refine CallF.of (args := [.slice v.a v.len v.cap]) noNum mixed Try.func62 (e62 v _) ?_
  unfold t62
  have hlen := hb.len
  have hcap := hb.cap
  refine nw_of fun n1 _ => ?_
  have hb1 : ∀ {X : HList}, BSl (X ++ (n1, Obj.cells #[.int .i64 0, .int .i64 0, .int .i64 0, .int .i64 0, .int .i64 0] 111) :: A) v b := fun {X} => hb.cons.right
  have hvl : ((v.len : Nat) : Int) = ((b.length : Nat) : Int) := by omega
  refine cl_rd (rsized_rd _ v.len) (szd v.len, ()) rfl ?_
  cases hsz : szd v.len with
  | false => exact ifT rfl (par_err [] (parR_size (b := b) (by have := szd_f hsz; omega)))
  | true =>
    have hS : 64 ≤ b.length ∧ b.length ≤ 512 := by have := szd_t hsz; omega
    refine ifF rfl (cl_rd (rblank_rd _ v b (hb1 (X := [])) hl) (pblank b, ()) rfl ?_)
    cases hbk : pblank b with
    | true => exact ifT rfl (par_err [] (parR_blank hS hbk))
    | false =>
      refine ifF rfl ?_
      have hw : IntKind.i64.wrap ((v.len : Int) - 4) = ((b.length - 4 : Nat) : Int) := by rw [w64_id (by omega) (by omega)]; omega
      simp only [hw]
      have hnum : (wget b ((b.length - 4 : Nat) : Int) 4).1 = (num (b.drop (b.length - 4)) : Int) := by
        have e := wget_at (b := b) (a := b.length - 4) (w := 4) (by decide) (by decide) (by omega)
        rw [List.take_of_length_le (by rw [List.length_drop]; omega)] at e
        exact e
      refine cl_rd (rget_rd _ v b (hb1 (X := [])) (by omega) _ 4) ((wget b ((b.length - 4 : Nat) : Int) 4).1, (wget b ((b.length - 4 : Nat) : Int) 4).2, ()) rfl ?_
      rw [hnum]
      refine slc_of (l' := 0) (h' := b.length - 4) (m' := v.cap) rfl rfl rfl (by omega) (by omega) (Nat.le_refl _) ?_
      have hs1 : BSl ((n1, Obj.cells #[.int .i64 0, .int .i64 0, .int .i64 0, .int .i64 0, .int .i64 0] 111) :: A) (slcV v ((0 : Nat) : Int) ((b.length - 4 : Nat) : Int) v.cap 1) (b.take (b.length - 4)) := by
        have := Sl.slc (m := v.cap) (hb1 (X := [])) (by omega) (l := 0) (h' := b.length - 4) (by omega) (by omega) (by omega)
        rw [bvs_slc] at this
        simpa using this
      refine cl_rd (rsum_rd _ _ _ hs1 (by rw [List.length_take]; omega)) (crcSum (b.take (b.length - 4)), ()) rfl ?_
      clear hs1
      refine ifNe_of (fun (hcs : (num (b.drop (b.length - 4)) : Int) ≠ crcSum (b.take (b.length - 4))) => par_err [] (parR_sum hS hbk (fun e => hcs e.symm))) (fun (hcs' : (num (b.drop (b.length - 4)) : Int) = crcSum (b.take (b.length - 4))) => ?_)
      have hcs := hcs'.symm
      obtain ⟨a, ha⟩ := hb.some (show 0 < b.length by omega)
      have hrd : ∀ {X : HList} (i : Nat) (hi : i < b.length) (j : Nat), j = i * 1 → LdAt (Addr.add a j) [.int .u8 (b[i].toNat : Int)] (X ++ (n1, Obj.cells #[.int .i64 0, .int .i64 0, .int .i64 0, .int .i64 0, .int .i64 0] 111) :: A) := fun {X} i hi j hj => (hb1 (X := X)).rd hi ha j hj
      refine cl_rd (rget_rd _ v b (hb1 (X := [])) (by omega) 4 4) ((num ((b.drop 4).take 4) : Int), (wget b 4 4).2, ()) (by rw [← wget_at (by decide) (by decide) (by omega)]; rfl) ?_
      have hn : nOf b < 65536 := nOf_lt b
      refine cl_rd (rget_rd _ v b (hb1 (X := [])) (by omega) 10 2) ((nOf b : Int), (wget b 10 2).2, ()) (by unfold nOf; rw [← wget_at (by decide) (by decide) (by omega)]; rfl) ?_
      refine nilc_of ha (ixn_of (by decide) (by omega) (nilc_of ha (ixn_of (by decide) (by omega) (nilc_of ha (ixn_of (by decide) (by omega) (nilc_of ha (ixn_of (by decide) (by omega) ?_)))))))
      refine ld_of (b[0].toNat : Int) (hrd (X := []) 0 (by omega) _ rfl) (ld_of (b[1].toNat : Int) (hrd (X := []) 1 (by omega) _ rfl) (ld_of (b[2].toNat : Int) (hrd (X := []) 2 (by omega) _ rfl) (ld_of (b[8].toNat : Int) (hrd (X := []) 8 (by omega) _ rfl) ?_)))
      have hu : ∀ x : UInt8, IntKind.i64.wrap (x.toNat : Int) = (x.toNat : Int) := fun x => by have := x.toNat_lt; exact w64_id (by omega) (by omega)
      have hh : hOf b = ((b[0].toNat : Int), (b[1].toNat : Int), (b[2].toNat : Int), (num ((b.drop 4).take 4) : Int), (b[8].toNat : Int), ()) := by
        unfold hOf
        rw [getD_at (show 0 < b.length by omega), getD_at (show 1 < b.length by omega), getD_at (show 2 < b.length by omega), getD_at (show 8 < b.length by omega)]
      simp only [hu]
      refine nw_of fun n2 _ => st_of [] _ rfl rfl (by simp) (.inl (Nat.le_refl _)) #[.int .i64 b[0].toNat, .int .i64 b[1].toNat, .int .i64 b[2].toNat, .int .i64 (num ((b.drop 4).take 4)), .int .i64 b[8].toNat] rfl ?_
      rw [List.nil_append]
      have l2 : ∀ {X : HList}, LdAt ⟨n2, 0, none⟩ (hEnc (hOf b)) (X ++ (n2, Obj.cells #[.int .i64 b[0].toNat, .int .i64 b[1].toNat, .int .i64 b[2].toNat, .int .i64 (num ((b.drop 4).take 4)), .int .i64 b[8].toNat] 111) :: (n1, Obj.cells #[.int .i64 0, .int .i64 0, .int .i64 0, .int .i64 0, .int .i64 0] 111) :: A) := fun {X} => by
        rw [hh]
        exact ldB (n := n2) (c := #[.int .i64 b[0].toNat, .int .i64 b[1].toNat, .int .i64 b[2].toNat, .int .i64 (num ((b.drop 4).take 4)), .int .i64 b[8].toNat]) (T := 111) (fz := (0, 0)) (by simp) rfl
      generalize (n2, Obj.cells #[.int .i64 b[0].toNat, .int .i64 b[1].toNat, .int .i64 b[2].toNat, .int .i64 (num ((b.drop 4).take 4)), .int .i64 b[8].toNat] 111) = o2 at l2 ⊢
      clear hu hh
      have hw16 : IntKind.i64.wrap ((v.len : Int) - 16) = ((b.length - 16 : Nat) : Int) := by rw [w64_id (by omega) (by omega)]; omega
      rw [hw16]
      refine ifD_of (fun (hbig : (nOf b : Int) > ((b.length - 16 : Nat) : Int)) => par_err [o2] (parR_bad hS hbk hcs ((pbad_iff b).2 (.inr (.inr (.inl (by omega))))))) (fun (hsm : ¬ (nOf b : Int) > ((b.length - 16 : Nat) : Int)) => ?_)
      have hwn : IntKind.i64.wrap (12 + (nOf b : Int)) = ((12 + nOf b : Nat) : Int) := by rw [w64_id (by omega) (by omega)]; omega
      simp only [hwn]
      refine nw_of fun n3 _ => slc_of (l' := 12) (h' := 12 + nOf b) (m' := v.cap) rfl rfl rfl (by omega) (by omega) (Nat.le_refl _) ?_
      have hs3 : ∀ {o : Nat × Obj}, BSl (o :: o2 :: (n1, Obj.cells #[.int .i64 0, .int .i64 0, .int .i64 0, .int .i64 0, .int .i64 0] 111) :: A) (slcV v ((12 : Nat) : Int) ((12 + nOf b : Nat) : Int) v.cap 1) (payOf b) := by
        intro o
        have := Sl.slc (m := v.cap) (hb1 (X := [o, o2])) (by omega) (l := 12) (h' := 12 + nOf b) (by omega) (by omega) (by omega)
        rw [bvs_slc, Nat.add_sub_cancel_left] at this
        exact this
      have hsl3 : (slcV v ((12 : Nat) : Int) ((12 + nOf b : Nat) : Int) v.cap 1).len = nOf b := by simp only [slcV, Int.toNat_natCast]; omega
      generalize slcV v ((12 : Nat) : Int) ((12 + nOf b : Nat) : Int) v.cap 1 = s3 at hs3 hsl3 ⊢
      refine append_in elemB srcB [] (o2 :: (n1, Obj.cells #[.int .i64 0, .int .i64 0, .int .i64 0, .int .i64 0, .int .i64 0] 111) :: A) own_empty rfl (.sl hs3) (bvs_plain _) (by first | omega | (simp only; omega)) fun s4 seg4 hs4 own4 => ?_
      rw [List.nil_append] at own4
      refine ld_of (hOf b) l2 ?_
      rw [hvl]
      refine cl_in [] [] (rimage_cl ([] ++ seg4 ++ (o2 :: (n1, Obj.cells #[.int .i64 0, .int .i64 0, .int .i64 0, .int .i64 0, .int .i64 0] 111) :: A)) (hOf b) s4 (payOf b) own4.sl.right.left ((b.length : Nat) : Int) (by omega)) (by simp) ?_
      rintro _ _ - ⟨s7, seg7, rfl, rfl, own7⟩
      rw [List.append_nil, List.nil_append, List.nil_append]
      refine ⟨(s7, _, ()), rfl, ?_⟩
      have hpl := payOf_len (b := b) (by omega)
      have hX : seg7 ++ (seg4 ++ (o2 :: (n1, Obj.cells #[.int .i64 0, .int .i64 0, .int .i64 0, .int .i64 0, .int .i64 0] 111) :: A)) = (seg7 ++ (seg4 ++ [o2])) ++ (n1, Obj.cells #[.int .i64 0, .int .i64 0, .int .i64 0, .int .i64 0, .int .i64 0] 111) :: A := by simp
      by_cases he : hErr (hOf b) = 0
      · rw [imgR_ok hS he (by omega)] at own7 ⊢
        refine ifF rfl ?_
        have hag := again hS.1 hcs (by omega)
        have hb7 : BSl (seg7 ++ (seg4 ++ (o2 :: (n1, Obj.cells #[.int .i64 0, .int .i64 0, .int .i64 0, .int .i64 0, .int .i64 0] 111) :: A))) v b := hb.cons.cons.right.right
        refine b2s_of own7.sl.left (b2s_of hb7 ?_)
        simp only [str_beq]
        by_cases hE : iAll (hOf b) (payOf b) b.length = b
        · obtain ⟨e1, e2, e3⟩ := hag.1 hE
          refine ifF (by rw [hE]; simp) ?_
          refine ld_of (hOf b) ?_ ?_
          · have := l2 (X := seg7 ++ seg4)
            rw [List.append_assoc] at this
            exact this
          rw [← List.append_assoc]
          exact par_end (parR_ok hS hbk hcs (pbad_f e1 e2 (by omega) he e3)) own4 seg7 [o2]
        · refine ifT ?_ ?_
          · simp only [Bool.not_eq_true', decide_eq_false_iff_not]
            intro e
            apply hE
            have := congrArg (fun x : ByteArray => x.data.toList) e
            simpa using this
          rw [hX]
          refine par_err _ (parR_bad hS hbk hcs ?_)
          cases hq : pbad b with
          | true => rfl
          | false =>
            exfalso
            apply hE
            apply hag.2
            have hno := fun c => (Bool.eq_false_iff.1 hq) ((pbad_iff b).2 c)
            refine ⟨Decidable.byContradiction fun c => hno (.inl c), Decidable.byContradiction fun c => hno (.inr (.inl c)), fun x hx => Decidable.byContradiction fun c => hno (.inr (.inr (.inr (.inr ⟨x, hx, c⟩))))⟩
      · rw [imgR_err hS he]
        refine ifT (by simpa using he) ?_
        rw [hX]
        exact par_err _ (parR_bad hS hbk hcs ((pbad_iff b).2 (.inr (.inr (.inr (.inl he))))))
end Go.Proofs.Ytlabcgnegbdlfaa
set_option linter.unusedVariables false
set_option linter.unusedSimpArgs false
namespace Go.Proofs.Ytlabcgnegbdlfaa
open Go.HL

abbrev It := Int × Int × Int × Unit
def itEnc (x : It) : List Value := [.int .i64 x.1, .int .i64 x.2.1, .int .i64 x.2.2.1]
theorem itEnc_len (x : It) : (itEnc x).length = 3 := rfl
def itV (x : It) : Value := .agg #[.int .i64 x.1, .int .i64 x.2.1, .int .i64 x.2.2.1]
theorem its_plain (l : List It) : (l.flatMap itEnc).all plainV = true := by
  induction l with
  | nil => rfl
  | cons e r ih => rw [List.flatMap_cons, List.all_append, ih]; rfl
abbrev tItm : TypeId := 27
abbrev eItm : TypeId := 24
abbrev tPlc : TypeId := 39
abbrev ePlc : TypeId := 104
theorem elemItm : ElemT PP tItm eItm 3 24 [.int .i64 0, .int .i64 0, .int .i64 0] := elemT_of (by kernel_rfl) (by kernel_rfl) rfl (by decide) (by decide)
theorem srcItm : SrcT PP tItm := .inl ⟨eItm, by kernel_rfl⟩
theorem elemPlc : ElemT PP tPlc ePlc 3 24 [.int .i64 0, .int .i64 0, .int .i64 0] := elemT_of (by kernel_rfl) (by kernel_rfl) rfl (by decide) (by decide)
theorem srcPlc : SrcT PP tPlc := .inl ⟨ePlc, by kernel_rfl⟩
theorem undItm : isStr PP eItm = true := by kernel_rfl
theorem undPlc : isStr PP ePlc = true := by kernel_rfl
theorem neItm {L : HList} (x y : It) {k : ShV (.lf .bool) → HP} (hk : k (!decide (x = y)) L) :
    smP PP (binOp .neq eItm (.agg #[.int .i64 x.1, .int .i64 x.2.1, .int .i64 x.2.2.1]) (.agg #[.int .i64 y.1, .int .i64 y.2.1, .int .i64 y.2.2.1])) (.lf .bool) k L := by
  refine neS_of (r := (x.1 == y.1 && (x.2.1 == y.2.1 && (x.2.2.1 == y.2.2.1 && true)))) undItm (by kernel_rfl) ?_
  have e : decide (x = y) = (x.1 == y.1 && (x.2.1 == y.2.1 && (x.2.2.1 == y.2.2.1 && true))) := by
    obtain ⟨a, b, c, ⟨⟩⟩ := x
    obtain ⟨a', b', c', ⟨⟩⟩ := y
    rw [Bool.eq_iff_iff]; simp
  rw [e] at hk; exact hk
theorem nePlc {L : HList} (x y : It) {k : ShV (.lf .bool) → HP} (hk : k (!decide (x = y)) L) :
    smP PP (binOp .neq ePlc (.agg #[.int .i64 x.1, .int .i64 x.2.1, .int .i64 x.2.2.1]) (.agg #[.int .i64 y.1, .int .i64 y.2.1, .int .i64 y.2.2.1])) (.lf .bool) k L := by
  refine neS_of (r := (x.1 == y.1 && (x.2.1 == y.2.1 && (x.2.2.1 == y.2.2.1 && true)))) undPlc (by kernel_rfl) ?_
  have e : decide (x = y) = (x.1 == y.1 && (x.2.1 == y.2.1 && (x.2.2.1 == y.2.2.1 && true))) := by
    obtain ⟨a, b, c, ⟨⟩⟩ := x
    obtain ⟨a', b', c', ⟨⟩⟩ := y
    rw [Bool.eq_iff_iff]; simp
  rw [e] at hk; exact hk
theorem items_rd (L : HList) (u v : SlV) (l : List It) (hu : Sl L u 3 (l.flatMap itEnc)) (hv : Sl L v 3 (l.flatMap itEnc)) (hl : l.length ≤ 1048576) : Reads PP 12 #[.slice u.a u.len u.cap, .slice v.a v.len v.cap] L (.bool true) := by
  refine Reads.of (args := [.slice u.a u.len u.cap, .slice v.a v.len v.cap]) noNum mixed Try.func12 (e12 u v _) ?_
  unfold t12
  have hul := hu.els_len itEnc_len (by decide)
  have hvl := hv.els_len itEnc_len (by decide)
  refine ifF (by show ((u.len : Int) != (v.len : Int)) = false; rw [hul, hvl]; simp) ?_
  refine lp_of (fun z' z L' => L' = L ∧ ∃ i : Nat, i ≤ l.length ∧ z' = l.length - i ∧ z = ((i : Int), ())) l.length ⟨rfl, 0, by omega, by omega, rfl⟩ ?_
  rintro z' z L1 ⟨hL1, i, hi, rfl, rfl⟩
  rw [hL1]
  refine ifD_of (fun (hlt : (i : Int) < (u.len : Int)) => ?_) (fun _ => .of ⟨rfl, rfl⟩)
  have hi' : i < l.length := by omega
  obtain ⟨a, ha, l1⟩ := hu.el itEnc_len (by decide) hi'
  obtain ⟨b, hb, l2⟩ := hv.el itEnc_len (by decide) hi'
  refine nilc_of ha (ixn_of (show (0 : Int) ≤ (i : Int) by omega) hlt (nilc_of hb (ixn_of (show (0 : Int) ≤ (i : Int) by omega) (show (i : Int) < (v.len : Int) by omega) ?_)))
  refine ld_of (l[i] : It) (by rw [Int.toNat_natCast]; exact l1) (ld_of (l[i] : It) (by rw [Int.toNat_natCast]; exact l2) (neItm _ _ (ifF (by simp) ?_)))
  refine ⟨l.length - (i + 1), by omega, rfl, i + 1, by omega, rfl, ?_⟩
  rw [w64_id (by first | omega | (simp only; omega)) (by first | omega | (simp only; omega))]
  rfl
theorem places_rd (L : HList) (u v : SlV) (l : List It) (hu : Sl L u 3 (l.flatMap itEnc)) (hv : Sl L v 3 (l.flatMap itEnc)) (hl : l.length ≤ 1048576) : Reads PP 20 #[.slice u.a u.len u.cap, .slice v.a v.len v.cap] L (.bool true) := by
  refine Reads.of (args := [.slice u.a u.len u.cap, .slice v.a v.len v.cap]) noNum mixed Try.func20 (e20 u v _) ?_
  unfold t20
  have hul := hu.els_len itEnc_len (by decide)
  have hvl := hv.els_len itEnc_len (by decide)
  refine ifF (by show ((u.len : Int) != (v.len : Int)) = false; rw [hul, hvl]; simp) ?_
  refine lp_of (fun z' z L' => L' = L ∧ ∃ i : Nat, i ≤ l.length ∧ z' = l.length - i ∧ z = ((i : Int), ())) l.length ⟨rfl, 0, by omega, by omega, rfl⟩ ?_
  rintro z' z L1 ⟨hL1, i, hi, rfl, rfl⟩
  rw [hL1]
  refine ifD_of (fun (hlt : (i : Int) < (u.len : Int)) => ?_) (fun _ => .of ⟨rfl, rfl⟩)
  have hi' : i < l.length := by omega
  obtain ⟨a, ha, l1⟩ := hu.el itEnc_len (by decide) hi'
  obtain ⟨b, hb, l2⟩ := hv.el itEnc_len (by decide) hi'
  refine nilc_of ha (ixn_of (show (0 : Int) ≤ (i : Int) by omega) hlt (nilc_of hb (ixn_of (show (0 : Int) ≤ (i : Int) by omega) (show (i : Int) < (v.len : Int) by omega) ?_)))
  refine ld_of (l[i] : It) (by rw [Int.toNat_natCast]; exact l1) (ld_of (l[i] : It) (by rw [Int.toNat_natCast]; exact l2) (nePlc _ _ (ifF (by simp) ?_)))
  refine ⟨l.length - (i + 1), by omega, rfl, i + 1, by omega, rfl, ?_⟩
  rw [w64_id (by first | omega | (simp only; omega)) (by first | omega | (simp only; omega))]
  rfl
/-! ### bytes -/
def u8of (n : Int) : UInt8 := UInt8.ofNat n.toNat
def inB (l : List Int) : Prop := ∀ n ∈ l, 0 ≤ n ∧ n ≤ 255
theorem u8_wrap {n : Int} (h0 : 0 ≤ n) (h1 : n ≤ 255) : IntKind.u8.wrap n = ((u8of n).toNat : Int) := by
  rw [w8_id h0 h1]
  unfold u8of
  rw [UInt8.toNat_ofNat', Nat.mod_eq_of_lt (by omega)]
  omega
theorem bytes_cl (A : HList) (v : SlV) (b : List UInt8) (seg : HList) (own : Own v 1 eB (bvs b) seg) (hb : b.length ≤ 1000000) (u : SlV) (l : List Int) (hu : ISl A u .i64 l) (hl : l.length ≤ 1000) :
    CallF PP 69 #[.slice v.a v.len v.cap, .slice u.a u.len u.cap] (seg ++ A) fun r L' => ∃ seg', L' = seg' ++ A ∧ ((inB l ∧ ∃ v' : SlV, r = .tuple #[.slice v'.a v'.len v'.cap, .bool true] ∧ Own v' 1 eB (bvs (b ++ l.map u8of)) seg') ∨ (¬ inB l ∧ r = .tuple #[.slice none 0 0, .bool false])) := by
  refine CallF.of (args := [.slice v.a v.len v.cap, .slice u.a u.len u.cap]) noNum mixed Try.func69 (e69 v u _) ?_
  unfold t69
  have hul := hu.len
  refine lp_of (fun z' z L' => ∃ (i : Nat) (s : SlV) (sg J : HList), i ≤ l.length ∧ z' = l.length - i ∧ z = (s, (i : Int), ()) ∧ L' = J ++ (sg ++ A) ∧ Own s 1 eB (bvs (b ++ (l.take i).map u8of)) sg ∧ inB (l.take i)) l.length ⟨0, v, seg, [], by omega, by omega, rfl, rfl, by simpa using own, by intro n hn; simp at hn⟩ ?_
  rintro z' z _ ⟨i, s, sg, J, hi, rfl, rfl, rfl, owns, hin⟩
  refine ifD_of (fun (hlt : (i : Int) < (u.len : Int)) => ?_) (fun (hge : ¬ (i : Int) < (u.len : Int)) => ?_)
  · have hi' : i < l.length := by omega
    obtain ⟨a, ha⟩ := hu.some hi'
    have hld := hu.rd hi' ha ((i : Int).toNat * 1) (by rw [Int.toNat_natCast])
    have hsl := owns.sl.len
    rw [bvs_length, List.length_append, List.length_map, List.length_take] at hsl
    refine nilc_of ha (ixn_of (show (0 : Int) ≤ (i : Int) by omega) hlt (ld_of l[i] (hld.mono fun x hx => by simp [hx]) ?_))
    have hno : ¬ (0 ≤ l[i] ∧ l[i] ≤ 255) → HL.Ends (fun r L' => ∃ seg', L' = seg' ++ A ∧ ((inB l ∧ ∃ v' : SlV, r = .tuple #[.slice v'.a v'.len v'.cap, .bool true] ∧ Own v' 1 eB (bvs (b ++ l.map u8of)) seg') ∨ (¬ inB l ∧ r = .tuple #[.slice none 0 0, .bool false]))) (.tuple #[.slice none 0 0, .bool false]) (J ++ (sg ++ A)) :=
      fun h => .app (.of ⟨sg, rfl, .inr ⟨fun hh => h (hh _ (List.getElem_mem hi')), rfl⟩⟩)
    refine ifD_of (fun (h1 : l[i] < 0) => hno (by omega)) (fun (h1 : ¬ l[i] < 0) => ifD_of (fun (h2 : l[i] > 255) => hno (by omega)) (fun (h2 : ¬ l[i] > 255) => ?_))
    refine nw_of fun n1 _ => ?_
    rw [u8_wrap (by omega) (by omega)]
    refine append_in elemB srcB ((n1, Obj.cells #[.int .u8 ((u8of l[i]).toNat : Int)] 5) :: J) A owns (by simp) (n := 1) (ws := bvs [u8of l[i]]) (x := .slice (some ⟨n1, 0, none⟩) 1 1) (Src.sl (v := ⟨some ⟨n1, 0, none⟩, 1, 1⟩) ⟨rfl, Nat.le_refl _, .inr ⟨_, rfl, ldB List.mem_cons_self rfl⟩⟩) rfl (by omega) fun s' sg' hs' own' => ?_
    refine ⟨l.length - (i + 1), by omega, i + 1, s', sg', _, by omega, rfl, ?_, List.append_assoc .., ?_, ?_⟩
    · rw [w64_id (by first | omega | (simp only; omega)) (by first | omega | (simp only; omega))]
      rfl
    · rw [← bvs_append] at own'
      rw [List.take_succ_eq_append_getElem hi', List.map_append, ← List.append_assoc]
      exact own'
    · intro n hn
      rw [List.take_succ_eq_append_getElem hi'] at hn
      rcases List.mem_append.1 hn with h3 | h3
      · exact hin n h3
      · rw [List.mem_singleton.1 h3]; omega
  · obtain rfl : i = l.length := by omega
    rw [List.take_length] at owns hin
    exact .app (.of ⟨sg, rfl, .inl ⟨hin, s, rfl, owns⟩⟩)
/-! ### places -/
def rightP (x : It) : Prop := 0 ≤ x.1 ∧ x.1 ≤ 15 ∧ 0 ≤ x.2.1 ∧ x.2.1 ≤ 15 ∧ 1 ≤ x.2.2.1 ∧ x.2.2.1 ≤ 1073741824
instance (x : It) : Decidable (rightP x) := by unfold rightP; infer_instance
theorem rightp_rd (L : HList) (x : It) : Reads PP 68 #[.agg #[.int .i64 x.1, .int .i64 x.2.1, .int .i64 x.2.2.1]] L (.bool (decide (rightP x))) := by
  refine Reads.of (args := [.agg #[.int .i64 x.1, .int .i64 x.2.1, .int .i64 x.2.2.1]]) noNum mixed Try.func68 (e68 x _) ?_
  unfold t68
  refine nw_of fun n1 _ => ?_
  generalize ho : (n1, Obj.cells #[.int .i64 x.1, .int .i64 x.2.1, .int .i64 x.2.2.1] 104) = o1
  have lc : LdAt ⟨n1, 0, none⟩ [.int .i64 x.1, .int .i64 x.2.1, .int .i64 x.2.2.1] (o1 :: L) := ldB (by rw [← ho]; exact List.mem_cons_self) rfl
  clear ho
  have lB : LdAt ⟨n1, 0, none⟩ [.int .i64 x.1] (o1 :: L) := lc.pre fun i u hu => by cases i with | zero => exact hu | succ i => exact absurd (show (none : Option Value) = some u from hu) (by simp)
  have hno : ¬ rightP x → HL.Ends (fun v' L' => v' = Value.bool (decide (rightP x)) ∧ L' = L) (.bool false) (o1 :: L) := fun h => .cons (.of ⟨by rw [decide_eq_false h], rfl⟩)
  refine ld_of x.1 lB (ifD_of (fun (h1 : x.1 ≥ 0) => ?_) (fun (h1 : ¬ x.1 ≥ 0) => hno (by unfold rightP; omega)))
  refine ld_of x.1 lB (ifD_of (fun (h2 : x.1 < 16) => ?_) (fun (h2 : ¬ x.1 < 16) => hno (by unfold rightP; omega)))
  refine ld_of x.2.1 (lc.one 1 rfl) (ifD_of (fun (h3 : x.2.1 ≥ 0) => ?_) (fun (h3 : ¬ x.2.1 ≥ 0) => hno (by unfold rightP; omega)))
  refine ld_of x.2.1 (lc.one 1 rfl) (ifD_of (fun (h4 : x.2.1 < 16) => ?_) (fun (h4 : ¬ x.2.1 < 16) => hno (by unfold rightP; omega)))
  refine ld_of x.2.2.1 (lc.one 2 rfl) (ifD_of (fun (h5 : x.2.2.1 ≥ 1) => ?_) (fun (h5 : ¬ x.2.2.1 ≥ 1) => hno (by unfold rightP; omega)))
  refine ld_of x.2.2.1 (lc.one 2 rfl) (.cons (.of ⟨?_, rfl⟩))
  congr 1
  rw [decide_eq_decide]
  exact ⟨fun h => ⟨by omega, by omega, by omega, by omega, by omega, h⟩, fun h => h.2.2.2.2.2⟩
def kb (x : It) : List UInt8 := [u8of x.1, u8of x.2.1] ++ digs x.2.2.1.toNat 4
theorem kb_len (x : It) : (kb x).length = 6 := by simp [kb, digs_len]
def allR (l : List It) : Prop := ∀ x ∈ l, rightP x
instance (l : List It) : Decidable (allR l) := by unfold allR; infer_instance
def killR (l : List It) : List UInt8 × Int := if allR l then (l.flatMap kb, 0) else ([], 3)
theorem kbs_len (l : List It) : (l.flatMap kb).length = l.length * 6 := by
  induction l with
  | nil => rfl
  | cons x r ih => rw [List.flatMap_cons, List.length_append, kb_len, ih, List.length_cons]; omega
def BytesK (p : List UInt8 × Int) (A : HList) (r : Value) (L' : HList) : Prop := ∃ g : PG, r = .tuple #[g.val, .int .i64 p.2] ∧ L' = g.seg ++ A ∧ g.Ok ∧ g.l = p.1
theorem killload_cl (A : HList) (v : SlV) (l : List It) (h : Sl A v 3 (l.flatMap itEnc)) (hl : l.length ≤ 1000) : CallF PP 16 #[.slice v.a v.len v.cap] A (BytesK (killR l) A) := by
  refine CallF.of (args := [.slice v.a v.len v.cap]) noNum mixed Try.func16 (e16 v _) ?_
  unfold t16
  have hvl := h.els_len itEnc_len (by decide)
  refine lp_of (fun z' z L' => ∃ (i : Nat) (s : SlV) (sg J : HList), i ≤ l.length ∧ z' = l.length - i ∧ z = (s, (i : Int), ()) ∧ L' = sg ++ (J ++ A) ∧ Own s 1 eB (bvs ((l.take i).flatMap kb)) sg ∧ allR (l.take i)) l.length ⟨0, ⟨none, 0, 0⟩, [], [], by omega, by omega, rfl, rfl, own_nil, by intro n hn; simp at hn⟩ ?_
  rintro z' z _ ⟨i, s, sg, J, hi, rfl, rfl, rfl, own, hall⟩
  refine ifD_of (fun (hlt : (i : Int) < (v.len : Int)) => ?_) (fun (hge : ¬ (i : Int) < (v.len : Int)) => ?_)
  · have hi' : i < l.length := by omega
    obtain ⟨a, ha, l1⟩ := h.el itEnc_len (by decide) hi'
    refine nilc_of ha (ixn_of (show (0 : Int) ≤ (i : Int) by omega) hlt (ld_of (l[i] : It) (by rw [Int.toNat_natCast]; exact l1.mono fun x hx => by simp [hx]) (nw_of fun n1 _ => ?_)))
    refine st_of (n := n1) (off := 0) (c := #[.int .i64 0, .int .i64 0, .int .i64 0]) (T := ePlc) (fz := (0, 0)) [] (sg ++ (J ++ A)) rfl rfl (by simp) (.inl (Nat.le_refl _)) #[.int .i64 l[i].1, .int .i64 l[i].2.1, .int .i64 l[i].2.2.1] rfl ?_
    rw [List.nil_append]
    generalize ho : ((n1, Obj.cells #[.int .i64 l[i].1, .int .i64 l[i].2.1, .int .i64 l[i].2.2.1] ePlc) : Nat × Obj) = o1
    have lc : ∀ L : HList, o1 ∈ L → LdAt ⟨n1, 0, none⟩ [.int .i64 l[i].1, .int .i64 l[i].2.1, .int .i64 l[i].2.2.1] L := fun L hm => ldB (by rw [← ho] at hm; exact hm) rfl
    clear ho
    refine ld_of (l[i] : It) (lc _ List.mem_cons_self) (cl_rd (rightp_rd _ l[i]) (decide (rightP l[i]), ()) rfl ?_)
    by_cases hr : rightP l[i]
    case neg =>
      rw [decide_eq_false hr]
      have hk : killR l = ([], 3) := by unfold killR; rw [if_neg (fun hh => hr (hh _ (List.getElem_mem hi')))]
      refine ifT rfl (.cons (.app (.app (.of ⟨pg0, by rw [hk]; rfl, rfl, pg0_ok, by rw [hk]; rfl⟩))))
    rw [decide_eq_true hr]
    have hr' := hr
    unfold rightP at hr'
    have hkl := kbs_len (l.take i)
    rw [List.length_take] at hkl
    refine ifF rfl (ld_of l[i].1 ((lc _ List.mem_cons_self).pre fun i u hu => by cases i with | zero => exact hu | succ i => exact absurd (show (none : Option Value) = some u from hu) (by simp)) (ld_of l[i].2.1 ((lc _ List.mem_cons_self).one 1 rfl) (nw_of fun n2 _ => ?_)))
    generalize ho2 : ((n2, Obj.cells #[.int .i64 l[i].1, .int .i64 l[i].2.1] 3) : Nat × Obj) = o2
    have hi2 : ISl (o2 :: o1 :: (J ++ A)) ⟨some ⟨n2, 0, none⟩, 2, 2⟩ .i64 [l[i].1, l[i].2.1] := ⟨rfl, Nat.le_refl _, .inr ⟨_, rfl, ldB (n := n2) (off := 0) (T := 3) (fz := (0, 0)) (c := #[.int .i64 l[i].1, .int .i64 l[i].2.1]) (by rw [ho2]; exact List.mem_cons_self) rfl⟩⟩
    refine cl_pm (bytes_cl (o2 :: o1 :: (J ++ A)) s _ sg own (by omega) ⟨some ⟨n2, 0, none⟩, 2, 2⟩ [l[i].1, l[i].2.1] hi2 (by simp)) (R := []) ?_ ?_
    · classical
      rw [List.perm_iff_count]
      intro x
      simp only [List.append_eq, List.cons_append, List.count_append, List.count_cons, List.count_nil]
      omega
    rintro _ _ ⟨sg2, rfl, ⟨-, s2, rfl, own2⟩ | ⟨hn, -⟩⟩
    case inr => exact absurd (show inB [l[i].1, l[i].2.1] by intro n hn; simp at hn; omega) hn
    refine ⟨sg2 ++ (o2 :: o1 :: (J ++ A)), by rw [List.append_nil], (s2, true, ()), rfl, ld_of l[i].2.2.1 ((lc _ (by simp)).one 2 rfl) ?_⟩
    have hl2 := own2.sl.len
    rw [bvs_length, List.length_append, List.length_map] at hl2
    refine cl_in [] [] (wput_cl (sg2 ++ (o2 :: o1 :: (J ++ A))) s2 _ own2.sl.left (by rw [List.length_append, List.length_map]; simp only [List.length_cons, List.length_nil]; omega) l[i].2.2.1 4 (by omega)) (by simp) ?_
    rintro _ _ - ⟨s3, sg3, rfl, rfl, own3⟩
    rw [wput_ok (by decide) (by omega) (by show l[i].2.2.1.toNat < 4294967296; omega)] at own3 ⊢
    rw [List.nil_append, List.append_nil]
    refine ⟨(s3, 0, ()), rfl, l.length - (i + 1), by omega, i + 1, s3, sg3, sg2 ++ (o2 :: o1 :: J), by omega, rfl, ?_, by simp, ?_, ?_⟩
    · rw [w64_id (by first | omega | (simp only; omega)) (by first | omega | (simp only; omega))]
      rfl
    · rw [List.take_succ_eq_append_getElem hi', List.flatMap_append, List.flatMap_singleton]
      unfold kb
      rw [← List.append_assoc]
      exact own3
    · intro n hn
      rw [List.take_succ_eq_append_getElem hi'] at hn
      rcases List.mem_append.1 hn with h3 | h3
      · exact hall n h3
      · rw [List.mem_singleton.1 h3]; exact hr
  · obtain rfl : i = l.length := by omega
    rw [List.take_length] at own hall
    have hk : killR l = (l.flatMap kb, 0) := by unfold killR; rw [if_pos hall]
    unfold BytesK
    rw [hk]
    refine .drop (A := sg ++ A) (J := J) ⟨⟨s, sg, _⟩, rfl, rfl, own, rfl⟩ ?_
    classical
    rw [List.perm_iff_count]
    intro x
    simp only [List.append_eq, List.cons_append, List.count_append, List.count_cons, List.count_nil]
    omega
theorem rkillload_cl (A : HList) (v : SlV) (l : List It) (h : Sl A v 3 (l.flatMap itEnc)) (hl : l.length ≤ 1000) : CallF PP 17 #[.slice v.a v.len v.cap] A (BytesK (killR l) A) := by
  refine CallF.of (args := [.slice v.a v.len v.cap]) noNum mixed Try.func17 (e17 v _) ?_
  unfold t17
  have hvl := h.els_len itEnc_len (by decide)
  refine lp_of (fun z' z L' => ∃ (i : Nat) (s : SlV) (sg J : HList), i ≤ l.length ∧ z' = l.length - i ∧ z = (s, (i : Int), ()) ∧ L' = sg ++ (J ++ A) ∧ Own s 1 eB (bvs ((l.take i).flatMap kb)) sg ∧ allR (l.take i)) l.length ⟨0, ⟨none, 0, 0⟩, [], [], by omega, by omega, rfl, rfl, own_nil, by intro n hn; simp at hn⟩ ?_
  rintro z' z _ ⟨i, s, sg, J, hi, rfl, rfl, rfl, own, hall⟩
  refine ifD_of (fun (hlt : (i : Int) < (v.len : Int)) => ?_) (fun (hge : ¬ (i : Int) < (v.len : Int)) => ?_)
  · have hi' : i < l.length := by omega
    obtain ⟨a, ha, l1⟩ := h.el itEnc_len (by decide) hi'
    refine nilc_of ha (ixn_of (show (0 : Int) ≤ (i : Int) by omega) hlt (ld_of (l[i] : It) (by rw [Int.toNat_natCast]; exact l1.mono fun x hx => by simp [hx]) (nw_of fun n1 _ => ?_)))
    refine st_of (n := n1) (off := 0) (c := #[.int .i64 0, .int .i64 0, .int .i64 0]) (T := ePlc) (fz := (0, 0)) [] (sg ++ (J ++ A)) rfl rfl (by simp) (.inl (Nat.le_refl _)) #[.int .i64 l[i].1, .int .i64 l[i].2.1, .int .i64 l[i].2.2.1] rfl ?_
    rw [List.nil_append]
    generalize ho : ((n1, Obj.cells #[.int .i64 l[i].1, .int .i64 l[i].2.1, .int .i64 l[i].2.2.1] ePlc) : Nat × Obj) = o1
    have lc : ∀ L : HList, o1 ∈ L → LdAt ⟨n1, 0, none⟩ [.int .i64 l[i].1, .int .i64 l[i].2.1, .int .i64 l[i].2.2.1] L := fun L hm => ldB (by rw [← ho] at hm; exact hm) rfl
    clear ho
    have lB : ∀ L : HList, o1 ∈ L → LdAt ⟨n1, 0, none⟩ [.int .i64 l[i].1] L := fun L hm => (lc L hm).pre fun i u hu => by cases i with | zero => exact hu | succ i => exact absurd (show (none : Option Value) = some u from hu) (by simp)
    have hm0 : o1 ∈ o1 :: (sg ++ (J ++ A)) := List.mem_cons_self
    have hno : ¬ rightP l[i] → HL.Ends (BytesK (killR l) A) (.tuple #[.slice none 0 0, .int .i64 3]) (o1 :: (sg ++ (J ++ A))) := by
      intro hr
      have hk : killR l = ([], 3) := by unfold killR; rw [if_neg (fun hh => hr (hh _ (List.getElem_mem hi')))]
      exact .cons (.app (.app (.of ⟨pg0, by rw [hk]; rfl, rfl, pg0_ok, by rw [hk]; rfl⟩)))
    refine ld_of l[i].1 (lB _ hm0) (ifD_of (fun (h1 : l[i].1 < 0) => hno (by unfold rightP; omega)) (fun (h1 : ¬ l[i].1 < 0) => ?_))
    refine ld_of l[i].1 (lB _ hm0) (ifD_of (fun (h2 : l[i].1 > 15) => hno (by unfold rightP; omega)) (fun (h2 : ¬ l[i].1 > 15) => ?_))
    refine ld_of l[i].2.1 ((lc _ hm0).one 1 rfl) (ifD_of (fun (h3 : l[i].2.1 < 0) => hno (by unfold rightP; omega)) (fun (h3 : ¬ l[i].2.1 < 0) => ?_))
    refine ld_of l[i].2.1 ((lc _ hm0).one 1 rfl) (ifD_of (fun (h4 : l[i].2.1 > 15) => hno (by unfold rightP; omega)) (fun (h4 : ¬ l[i].2.1 > 15) => ?_))
    refine ld_of l[i].2.2.1 ((lc _ hm0).one 2 rfl) (ifD_of (fun (h5 : l[i].2.2.1 < 1) => hno (by unfold rightP; omega)) (fun (h5 : ¬ l[i].2.2.1 < 1) => ?_))
    refine ld_of l[i].2.2.1 ((lc _ hm0).one 2 rfl) (ifD_of (fun (h6 : l[i].2.2.1 > 1073741824) => hno (by unfold rightP; omega)) (fun (h6 : ¬ l[i].2.2.1 > 1073741824) => ?_))
    have hr : rightP l[i] := by unfold rightP; omega
    have hkl := kbs_len (l.take i)
    rw [List.length_take] at hkl
    have hsl := own.sl.len
    rw [bvs_length] at hsl
    refine ld_of l[i].1 (lB _ hm0) (ld_of l[i].2.1 ((lc _ hm0).one 1 rfl) (nw_of fun n2 _ => ?_))
    rw [u8_wrap (show 0 ≤ l[i].1 by omega) (by omega), u8_wrap (show 0 ≤ l[i].2.1 by omega) (by omega)]
    refine append_in elemB srcB [(n2, Obj.cells #[.int .u8 ((u8of l[i].1).toNat : Int), .int .u8 ((u8of l[i].2.1).toNat : Int)] 5), o1] (J ++ A) own (by simp) (n := 2) (ws := bvs [u8of l[i].1, u8of l[i].2.1]) (x := .slice (some ⟨n2, 0, none⟩) 2 2) (Src.sl (v := ⟨some ⟨n2, 0, none⟩, 2, 2⟩) ⟨rfl, Nat.le_refl _, .inr ⟨_, rfl, ldB List.mem_cons_self rfl⟩⟩) rfl (by omega) fun s2 sg2 hs2 own2 => ?_
    rw [← bvs_append] at own2
    generalize (n2, Obj.cells #[.int .u8 ((u8of l[i].1).toNat : Int), .int .u8 ((u8of l[i].2.1).toNat : Int)] 5) = o2
    refine ld_of l[i].2.2.1 ((lc _ (by simp)).one 2 rfl) ?_
    have hl2 := own2.sl.len
    rw [bvs_length, List.length_append] at hl2
    refine cl_in [] [] (rput_cl ([o2, o1] ++ sg2 ++ (J ++ A)) s2 _ own2.sl.right.left (by rw [List.length_append]; simp only [List.length_cons, List.length_nil]; omega) l[i].2.2.1 4 (by omega) (by omega)) (by simp) ?_
    rintro _ _ - ⟨s3, sg3, rfl, rfl, own3⟩
    rw [wput_ok (by decide) (by omega) (by show l[i].2.2.1.toNat < 4294967296; omega)] at own3 ⊢
    rw [List.nil_append, List.append_nil]
    refine ⟨(s3, 0, ()), rfl, l.length - (i + 1), by omega, i + 1, s3, sg3, [o2, o1] ++ sg2 ++ J, by omega, rfl, ?_, by simp, ?_, ?_⟩
    · rw [w64_id (by first | omega | (simp only; omega)) (by first | omega | (simp only; omega))]
      rfl
    · rw [List.take_succ_eq_append_getElem hi', List.flatMap_append, List.flatMap_singleton]
      unfold kb
      rw [← List.append_assoc]
      exact own3
    · intro n hn
      rw [List.take_succ_eq_append_getElem hi'] at hn
      rcases List.mem_append.1 hn with h3 | h3
      · exact hall n h3
      · rw [List.mem_singleton.1 h3]; exact hr
  · obtain rfl : i = l.length := by omega
    rw [List.take_length] at own hall
    have hk : killR l = (l.flatMap kb, 0) := by unfold killR; rw [if_pos hall]
    unfold BytesK
    rw [hk]
    refine .drop (A := sg ++ A) (J := J) ⟨⟨s, sg, _⟩, rfl, rfl, own, rfl⟩ ?_
    classical
    rw [List.perm_iff_count]
    intro x
    simp only [List.append_eq, List.cons_append, List.count_append, List.count_cons, List.count_nil]
    omega
end Go.Proofs.Ytlabcgnegbdlfaa
set_option linter.unusedVariables false
set_option linter.unusedSimpArgs false
namespace Go.Proofs.Ytlabcgnegbdlfaa
open Go.HL

def plAt (p : List UInt8) (i : Nat) : It := (((p.getD (i * 6) 0).toNat : Int), ((p.getD (i * 6 + 1) 0).toNat : Int), (num ((p.drop (i * 6 + 2)).take 4) : Int), ())
def pls (p : List UInt8) (n : Nat) : List It := (List.range n).map (plAt p)
theorem pls_succ (p : List UInt8) (n : Nat) : pls p (n + 1) = pls p n ++ [plAt p n] := by simp [pls, List.range_succ]
theorem pls_len (p : List UInt8) (n : Nat) : (pls p n).length = n := by simp [pls]
def killsR (p : List UInt8) : List It × Int := if p.length % 6 ≠ 0 then ([], 5) else if allR (pls p (p.length / 6)) then (pls p (p.length / 6), 0) else ([], 5)
def ItsK (e : TypeId) (q : List It × Int) (A : HList) (r : Value) (L' : HList) : Prop := ∃ (v : SlV) (seg : HList), r = .tuple #[.slice v.a v.len v.cap, .int .i64 q.2] ∧ L' = seg ++ A ∧ Own v 3 e (q.1.flatMap itEnc) seg
theorem ItsK.err {e : TypeId} {q : List It × Int} {A : HList} {z : Int} (h : q = ([], z)) : ItsK e q A (.tuple #[.slice none 0 0, .int .i64 z]) A := ⟨⟨none, 0, 0⟩, [], by rw [h], rfl, by rw [h]; exact own_nil⟩
theorem getD_of {b : List UInt8} {i : Nat} (h : i < b.length) : b.getD i 0 = b[i] := by simp [List.getD_eq_getElem?_getD, h]
theorem u8_64 (x : UInt8) : IntKind.i64.wrap (x.toNat : Int) = (x.toNat : Int) := by
  have := x.toNat_lt
  exact w64_id (by omega) (by omega)
theorem kills_cl (A : HList) (v : SlV) (p : List UInt8) (h : BSl A v p) (hl : p.length ≤ 10000) : CallF PP 18 #[.slice v.a v.len v.cap] A (ItsK ePlc (killsR p) A) := by
  refine CallF.of (args := [.slice v.a v.len v.cap]) noNum mixed Try.func18 (e18 v _) ?_
  unfold t18
  have hvl := h.len
  have htm : Int.tmod (v.len : Int) 6 = ((p.length % 6 : Nat) : Int) := by rw [Int.tmod_eq_emod_of_nonneg (by omega), hvl]; omega
  refine req_of (by decide) ?_
  rw [htm]
  refine ifNe_of (fun (h6 : ((p.length % 6 : Nat) : Int) ≠ 0) => .of (ItsK.err (by unfold killsR; rw [if_pos (by omega)]))) (fun (h6 : ((p.length % 6 : Nat) : Int) = 0) => ?_)
  obtain ⟨n, hn⟩ : ∃ n, p.length = n * 6 := ⟨p.length / 6, by omega⟩
  have hdiv : p.length / 6 = n := by omega
  refine lp_of (fun z' z L' => ∃ (i : Nat) (s b : SlV) (sg J : HList), i ≤ n ∧ z' = n - i ∧ z = (s, b, ()) ∧ L' = J ++ (sg ++ A) ∧ Own s 3 ePlc ((pls p i).flatMap itEnc) sg ∧ allR (pls p i) ∧ BSl A b (p.drop (i * 6))) n ⟨0, ⟨none, 0, 0⟩, v, [], [], by omega, by omega, rfl, rfl, own_nil, by intro n hn; simp [pls] at hn, by simpa using h⟩ ?_
  rintro z' z _ ⟨i, s, b, sg, J, hi, rfl, rfl, rfl, own, hall, hb⟩
  have hbl := hb.len
  rw [List.length_drop] at hbl
  have hbcap := hb.cap
  have hs1 := own.sl.els_len itEnc_len (by decide)
  rw [pls_len] at hs1
  refine ifD_of (fun (hgt : (b.len : Int) > 0) => ?_) (fun (hle : ¬ (b.len : Int) > 0) => ?_)
  · have hi' : i < n := by omega
    have hB : BSl (J ++ (sg ++ A)) b (p.drop (i * 6)) := hb.right.right
    have hlen6 : 6 ≤ (p.drop (i * 6)).length := by rw [List.length_drop]; omega
    refine cl_rd (wget_rd _ b _ hB (by rw [List.length_drop]; omega) 2 4) ((wget (p.drop (i * 6)) 2 4).1, (wget (p.drop (i * 6)) 2 4).2, ()) rfl ?_
    have hwg : (wget (p.drop (i * 6)) 2 4).1 = (num ((p.drop (i * 6 + 2)).take 4) : Int) := by
      have := wget_ok (b := p.drop (i * 6)) (a := 2) (w := 4) (by decide) (by decide) (by omega)
      rw [List.drop_drop] at this
      exact congrArg Prod.fst this
    rw [hwg]
    obtain ⟨a, ha⟩ := hB.some (i := 0) (by omega)
    have e0 : (p.drop (i * 6))[0]'(by omega) = p.getD (i * 6) 0 := by rw [getD_of (by omega), List.getElem_drop]; simp
    have e1 : (p.drop (i * 6))[1]'(by omega) = p.getD (i * 6 + 1) 0 := by rw [getD_of (by omega), List.getElem_drop]
    have l0 := hB.rd (i := 0) (by omega) ha ((0 : Int).toNat * 1) rfl
    have l1 := hB.rd (i := 1) (by omega) ha ((1 : Int).toNat * 1) rfl
    rw [e0] at l0
    rw [e1] at l1
    refine nilc_of ha (ixn_of (by decide) (show (0 : Int) < (b.len : Int) by omega) (nilc_of ha (ixn_of (by decide) (show (1 : Int) < (b.len : Int) by omega) (ld_of ((p.getD (i * 6) 0).toNat : Int) l0 (ld_of ((p.getD (i * 6 + 1) 0).toNat : Int) l1 (nw_of fun n1 _ => ?_))))))
    rw [u8_64, u8_64]
    refine st_of (n := n1) (off := 0) (c := #[.int .i64 0, .int .i64 0, .int .i64 0]) (T := ePlc) (fz := (0, 0)) [] (J ++ (sg ++ A)) rfl rfl (by simp) (.inl (Nat.le_refl _)) #[.int .i64 (plAt p i).1, .int .i64 (plAt p i).2.1, .int .i64 (plAt p i).2.2.1] rfl ?_
    rw [List.nil_append]
    refine ld_of (plAt p i) (ldB List.mem_cons_self rfl) (cl_rd (rightp_rd _ (plAt p i)) (decide (rightP (plAt p i)), ()) rfl ?_)
    by_cases hr : rightP (plAt p i)
    case neg =>
      rw [decide_eq_false hr]
      have hk : killsR p = ([], 5) := by
        unfold killsR
        rw [if_neg (by omega), hdiv, if_neg (fun hh => hr (hh _ (List.mem_map.2 ⟨i, List.mem_range.2 hi', rfl⟩)))]
      exact ifT rfl (.cons (.app (.app (.of (ItsK.err hk)))))
    rw [decide_eq_true hr]
    refine ifF rfl (ld_of (plAt p i) (ldB List.mem_cons_self rfl) (nw_of fun n2 _ => ?_))
    generalize ((n1, Obj.cells #[.int .i64 (plAt p i).1, .int .i64 (plAt p i).2.1, .int .i64 (plAt p i).2.2.1] ePlc) : Nat × Obj) = o1
    refine append_in elemPlc srcPlc ((n2, Obj.cells #[.int .i64 (plAt p i).1, .int .i64 (plAt p i).2.1, .int .i64 (plAt p i).2.2.1] ePlc) :: o1 :: J) A own (by simp) (n := 1) (ws := itEnc (plAt p i)) (x := .slice (some ⟨n2, 0, none⟩) 1 1) (Src.sl (v := ⟨some ⟨n2, 0, none⟩, 1, 1⟩) ⟨rfl, Nat.le_refl _, .inr ⟨_, rfl, ldB List.mem_cons_self rfl⟩⟩) rfl (by omega) fun s2 sg2 hs2 own2 => ?_
    refine slc_of (l' := 6) (h' := b.len) (m' := b.cap) rfl rfl rfl (by omega) (by omega) (Nat.le_refl _) ?_
    have hcut : BSl A (slcV b ((6 : Nat) : Int) (b.len : Int) (b.cap : Int) 1) (p.drop ((i + 1) * 6)) := by
      have h0 := Sl.slc (m := b.cap) hb (by decide) (l := 6) (h' := b.len) (by omega) (by omega) (by omega)
      rw [bvs_slc, List.take_of_length_le (by rw [List.length_drop, List.length_drop]; omega), List.drop_drop] at h0
      rw [show (i + 1) * 6 = i * 6 + 6 by omega]
      exact h0
    refine ⟨n - (i + 1), by omega, i + 1, s2, _, sg2, _, by omega, rfl, rfl, List.append_assoc .., ?_, ?_, hcut⟩
    · rw [pls_succ, List.flatMap_append, List.flatMap_singleton]; exact own2
    · intro x hx
      rw [pls_succ] at hx
      rcases List.mem_append.1 hx with h3 | h3
      · exact hall x h3
      · rw [List.mem_singleton.1 h3]; exact hr
  · obtain rfl : i = n := by omega
    have hk : killsR p = (pls p i, 0) := by unfold killsR; rw [if_neg (by omega), hdiv, if_pos hall]
    exact .app (.of ⟨s, sg, by rw [hk], rfl, by rw [hk]; exact own⟩)
theorem rkills_cl (A : HList) (v : SlV) (p : List UInt8) (h : BSl A v p) (hl : p.length ≤ 5000) : CallF PP 19 #[.slice v.a v.len v.cap] A (ItsK ePlc (killsR p) A) := by
  refine CallF.of (args := [.slice v.a v.len v.cap]) noNum mixed Try.func19 (e19 v _) ?_
  unfold t19
  have hvl := h.len
  have htm : Int.tmod (v.len : Int) 6 = ((p.length % 6 : Nat) : Int) := by rw [Int.tmod_eq_emod_of_nonneg (by omega), hvl]; omega
  refine req_of (by decide) ?_
  rw [htm]
  refine ifNe_of (fun (h6 : ((p.length % 6 : Nat) : Int) ≠ 0) => .of (ItsK.err (by unfold killsR; rw [if_pos (by omega)]))) (fun (h6 : ((p.length % 6 : Nat) : Int) = 0) => ?_)
  obtain ⟨n, hn⟩ : ∃ n, p.length = n * 6 := ⟨p.length / 6, by omega⟩
  have hdiv : p.length / 6 = n := by omega
  refine lp_of (fun z' z L' => ∃ (i : Nat) (s : SlV) (sg J : HList), i ≤ n ∧ z' = n - i ∧ z = (s, ((i * 6 : Nat) : Int), ()) ∧ L' = J ++ (sg ++ A) ∧ Own s 3 ePlc ((pls p i).flatMap itEnc) sg) n ⟨0, ⟨none, 0, 0⟩, [], [], by omega, by omega, rfl, rfl, own_nil⟩ ?_
  rintro z' z _ ⟨i, s, sg, J, hi, rfl, rfl, rfl, own⟩
  have hs1 := own.sl.els_len itEnc_len (by decide)
  rw [pls_len] at hs1
  refine ifD_of (fun (hlt : ((i * 6 : Nat) : Int) < (v.len : Int)) => ?_) (fun (hge : ¬ ((i * 6 : Nat) : Int) < (v.len : Int)) => ?_)
  · have hi' : i < n := by omega
    have hB : BSl (J ++ (sg ++ A)) v p := h.right.right
    have w1 : IntKind.i64.wrap (((i * 6 : Nat) : Int) + 1) = ((i * 6 + 1 : Nat) : Int) := by rw [w64_id (by omega) (by omega)]; omega
    have w2 : IntKind.i64.wrap (((i * 6 : Nat) : Int) + 2) = ((i * 6 + 2 : Nat) : Int) := by rw [w64_id (by omega) (by omega)]; omega
    have w6 : IntKind.i64.wrap (((i * 6 : Nat) : Int) + 6) = (((i + 1) * 6 : Nat) : Int) := by rw [w64_id (by omega) (by omega)]; omega
    simp only [w1, w2, w6]
    refine cl_rd (rget_rd _ v p hB (by omega) ((i * 6 + 2 : Nat) : Int) 4) ((wget p ((i * 6 + 2 : Nat) : Int) 4).1, (wget p ((i * 6 + 2 : Nat) : Int) 4).2, ()) rfl ?_
    have hwg : (wget p ((i * 6 + 2 : Nat) : Int) 4).1 = (num ((p.drop (i * 6 + 2)).take 4) : Int) := by
      have := wget_ok (b := p) (a := i * 6 + 2) (w := 4) (by decide) (by decide) (by omega)
      exact congrArg Prod.fst this
    rw [hwg]
    obtain ⟨a, ha⟩ := hB.some (i := i * 6) (by omega)
    have l0 := hB.rd (i := i * 6) (by omega) ha (((i * 6 : Nat) : Int).toNat * 1) (by rw [Int.toNat_natCast])
    have l1 := hB.rd (i := i * 6 + 1) (by omega) ha (((i * 6 + 1 : Nat) : Int).toNat * 1) (by rw [Int.toNat_natCast])
    rw [← getD_of (by omega)] at l0 l1
    refine nilc_of ha (ixn_of (by omega) hlt (nilc_of ha (ixn_of (by omega) (show ((i * 6 + 1 : Nat) : Int) < (v.len : Int) by omega) (ld_of ((p.getD (i * 6) 0).toNat : Int) l0 (ld_of ((p.getD (i * 6 + 1) 0).toNat : Int) l1 ?_)))))
    simp only [u8_64]
    refine nw_of fun n1 _ => ?_
    refine append_in elemPlc srcPlc ((n1, Obj.cells #[.int .i64 (plAt p i).1, .int .i64 (plAt p i).2.1, .int .i64 (plAt p i).2.2.1] ePlc) :: J) A own (by simp [plAt]) (n := 1) (ws := itEnc (plAt p i)) (x := .slice (some ⟨n1, 0, none⟩) 1 1) (Src.sl (v := ⟨some ⟨n1, 0, none⟩, 1, 1⟩) ⟨rfl, Nat.le_refl _, .inr ⟨_, rfl, ldB List.mem_cons_self rfl⟩⟩) rfl (by omega) fun s2 sg2 hs2 own2 => ?_
    refine ⟨n - (i + 1), by omega, i + 1, s2, sg2, _, by omega, rfl, rfl, List.append_assoc .., ?_⟩
    rw [pls_succ, List.flatMap_append, List.flatMap_singleton]; exact own2
  · obtain rfl : i = n := by omega
    refine cl_in [] [] (rkillload_cl (J ++ (sg ++ A)) s (pls p i) own.sl.left.right (by rw [pls_len]; omega)) (by simp) ?_
    rintro _ _ - ⟨g, rfl, rfl, hg, hgl⟩
    rw [List.nil_append, List.append_nil]
    refine ⟨(g.v, (killR (pls p i)).2, ()), rfl, ?_⟩
    refine ifNe_of (fun (he : (killR (pls p i)).2 ≠ 0) => ?_) (fun (he : (killR (pls p i)).2 = 0) => ?_)
    · have hna : ¬ allR (pls p i) := fun hh => he (by unfold killR; rw [if_pos hh])
      have hk : killsR p = ([], 5) := by unfold killsR; rw [if_neg (by omega), hdiv, if_neg hna]
      exact .app (.app (.app (.of (ItsK.err hk))))
    · have hna : allR (pls p i) := by
        by_cases hh : allR (pls p i)
        · exact hh
        · unfold killR at he; rw [if_neg hh] at he; exact absurd he (by decide)
      have hk : killsR p = (pls p i, 0) := by unfold killsR; rw [if_neg (by omega), hdiv, if_pos hna]
      exact .app (.app (.of ⟨s, sg, by rw [hk], rfl, by rw [hk]; exact own⟩))
/-- What places' payload says is the places. -/
theorem kills_kill {l : List It} (h : allR l) : killsR (killR l).1 = (l, 0) := by
  have hk : killR l = (l.flatMap kb, 0) := by unfold killR; rw [if_pos h]
  rw [hk]
  have hlen := kbs_len l
  have hp : pls (l.flatMap kb) l.length = l := by
    apply List.ext_getElem
    · rw [pls_len]
    · intro i h1 h2
      have hi : i < l.length := h2
      have hdr : (l.flatMap kb).drop (i * 6) = kb l[i] ++ (l.drop (i + 1)).flatMap kb := by
        have : ∀ (l : List It) (i : Nat), (l.flatMap kb).drop (i * 6) = (l.drop i).flatMap kb := by
          intro l
          induction l with
          | nil => intro i; simp
          | cons e r ih =>
            intro i
            cases i with
            | zero => simp
            | succ i => rw [List.flatMap_cons, Nat.succ_mul, Nat.add_comm, ← List.drop_drop, List.drop_left' (kb_len e), ih i]; rfl
        rw [this, List.drop_eq_getElem_cons hi, List.flatMap_cons]
      have hr := h _ (List.getElem_mem hi)
      unfold rightP at hr
      have hg : ∀ j, j < 6 → (l.flatMap kb).getD (i * 6 + j) 0 = (kb l[i]).getD j 0 := by
        intro j hj
        rw [List.getD_eq_getElem?_getD, List.getD_eq_getElem?_getD]
        have : (l.flatMap kb)[i * 6 + j]? = ((l.flatMap kb).drop (i * 6))[j]? := by rw [List.getElem?_drop]
        rw [this, hdr, List.getElem?_append_left (by rw [kb_len]; exact hj)]
      simp only [pls, List.getElem_map, List.getElem_range]
      unfold plAt
      have g0 := hg 0 (by decide)
      rw [Nat.add_zero] at g0
      rw [g0, hg 1 (by decide), ← List.drop_drop, hdr]
      have k2 : ((kb l[i] ++ (l.drop (i + 1)).flatMap kb).drop 2).take 4 = digs l[i].2.2.1.toNat 4 := by
        rw [show kb l[i] = u8of l[i].1 :: u8of l[i].2.1 :: digs l[i].2.2.1.toNat 4 from rfl]
        simp only [List.cons_append, List.drop_succ_cons, List.drop_zero]
        rw [List.take_left' (digs_len _ _)]
      rw [k2, num_digs 4 _ (by show l[i].2.2.1.toNat < 4294967296; omega)]
      have hu : ∀ n : Int, 0 ≤ n → n ≤ 255 → ((u8of n).toNat : Int) = n := fun n h0 h1 => by rw [← u8_wrap h0 h1, w8_id h0 h1]
      have a0 : (kb l[i]).getD 0 0 = u8of l[i].1 := rfl
      have a1 : (kb l[i]).getD 1 0 = u8of l[i].2.1 := rfl
      rw [a0, a1, hu _ (by omega) (by omega), hu _ (by omega) (by omega), Int.toNat_of_nonneg (by omega)]
  unfold killsR
  rw [if_neg (by simp only; omega)]
  have hd : (l.flatMap kb).length / 6 = l.length := by omega
  simp only
  rw [hd, hp, if_pos h]
end Go.Proofs.Ytlabcgnegbdlfaa
set_option linter.unusedVariables false
set_option linter.unusedSimpArgs false
namespace Go.Proofs.Ytlabcgnegbdlfaa
open Go.HL

/-! ### what pages are as a region, as plain data -/
def saysR (ps : List (List UInt8)) (at' : Int) (h : Hd) : Option (List UInt8) :=
  if 0 ≤ at' ∧ at' < 16 then match ps[at'.toNat]? with
    | some b => if (parR b).2.2 = 0 ∧ (parR b).1 = h then some (parR b).2.1 else none
    | none => none
  else none
def lastD (ps : List (List UInt8)) : Nat → Nat
  | 0 => 0
  | n + 1 => if pblank (ps.getD (n + 1) []) then lastD ps n else n + 1
def lastR (ps : List (List UInt8)) : Nat := lastD ps (min ps.length 16 - 1)
theorem lastD_le (ps : List (List UInt8)) : ∀ n, lastD ps n ≤ n
  | 0 => Nat.le_refl _
  | n + 1 => by
    unfold lastD
    split
    · exact Nat.le_succ_of_le (lastD_le ps n)
    · exact Nat.le_refl _
def sItem (p : List UInt8) (i : Nat) : It := (((p.getD (i * 3) 0).toNat : Int), ((p.getD (i * 3 + 1) 0).toNat : Int), ((p.getD (i * 3 + 2) 0).toNat : Int), ())
def sealG (p : List UInt8) : Nat → Nat → Int → Option (List It × Int)
  | 0, _, nx => some ([], nx)
  | n + 1, i, nx => if ((sItem p i).1 = 2 ∨ (sItem p i).1 = 3) ∧ (sItem p i).2.2.1 ≠ 0 ∧ (sItem p i).2.1 = nx then (sealG p n (i + 1) (nx + (sItem p i).2.2.1)).map fun y => (sItem p i :: y.1, y.2) else none
def sealR (p : List UInt8) (last : Nat) : Option (List It) :=
  if p.length % 3 ≠ 0 then none else match sealG p (p.length / 3) 0 1 with
  | some y => if y.2 = last then some y.1 else none
  | none => none
def foundR (ps : List (List UInt8)) (ep : Int) (at' : Nat) : Option It :=
  match ps[at']? with
  | some b => if (parR b).2.2 = 0 ∧ ((parR b).1.1 = 2 ∨ (parR b).1.1 = 3) then
      if (List.range (parR b).1.2.2.1.toNat).all (fun i => (saysR ps ((at' : Int) + i) ((parR b).1.1, i, (parR b).1.2.2.1, ep, (at' : Int) + i, ())).isSome) = true then some ((parR b).1.1, at', (parR b).1.2.2.1, ()) else none
    else none
  | none => none
def eachR (f : Nat → Option It) (last : Nat) : Nat → Nat → List It
  | 0, _ => []
  | k + 1, p => if p ≤ last then match f p with
    | some x => x :: eachR f last k (p + x.2.2.1.toNat)
    | none => eachR f last k (p + 1)
    else []
def sealS (ps : List (List UInt8)) (ep : Int) : Option (List It) := (saysR ps (lastR ps) (4, 0, 1, ep, lastR ps, ())).bind fun p => sealR p (lastR ps)
def epR (ps : List (List UInt8)) : Int := (parR (ps.getD 0 [])).1.2.2.2.1
def scanR (ps : List (List UInt8)) : (Int × Bool × List It) × Bool :=
  if ps = [] then ((0, false, []), false) else
  match saysR ps 0 (1, 0, 1, epR ps, 0, ()) with
  | some [] => match (if lastR ps > 0 then sealS ps (epR ps) else none) with
    | some l => ((epR ps, true, l), true)
    | none => ((epR ps, false, eachR (foundR ps (epR ps)) (lastR ps) 17 1), true)
  | _ => ((0, false, []), false)
theorem par_ok {b : List UInt8} (h : (parR b).2.2 = 0) : hErr (parR b).1 = 0 := by
  unfold parR at h ⊢
  split at h
  · exact absurd h (by simp)
  · rename_i h1
    split at h
    · exact absurd h (by simp)
    · rename_i h2
      split at h
      · exact absurd h (by simp)
      · rename_i h3
        split at h
        · exact absurd h (by simp)
        · rename_i h4
          rw [if_neg h1, if_neg h2, if_neg h3, if_neg h4]
          simp only
          by_cases he : hErr (hOf b) = 0
          · exact he
          · exact absurd ((pbad_iff b).2 (.inr (.inr (.inr (.inl he))))) h4
theorem parR_len (b : List UInt8) : (parR b).2.1.length ≤ b.length := by
  unfold parR
  split
  · exact Nat.zero_le _
  · split
    · exact Nat.zero_le _
    · split
      · exact Nat.zero_le _
      · split
        · exact Nat.zero_le _
        · show (payOf b).length ≤ b.length
          unfold payOf
          rw [List.length_take, List.length_drop]; omega

/-! ### the scanner in memory -/
abbrev tIm : TypeId := 107
abbrev eIm : TypeId := 113
theorem elemIm : ElemT PP tIm eIm 7 72 [.int .i64 0, .int .i64 0, .int .i64 0, .int .i64 0, .int .i64 0, .slice none 0 0, .bool false] := elemT_of (by kernel_rfl) (by kernel_rfl) rfl (by decide) (by decide)
theorem srcIm : SrcT PP tIm := .inl ⟨eIm, by kernel_rfl⟩
structure IM where
  h : Hd
  g : PG
  fine : Bool
def IM.enc (x : IM) : List Value := [.int .i64 x.h.1, .int .i64 x.h.2.1, .int .i64 x.h.2.2.1, .int .i64 x.h.2.2.2.1, .int .i64 x.h.2.2.2.2.1, x.g.val, .bool x.fine]
theorem IM.enc_len (x : IM) : x.enc.length = 7 := rfl
def IM.dat (x : IM) : Hd × List UInt8 × Bool := (x.h, x.g.l, x.fine)
def imOf (b : List UInt8) : Hd × List UInt8 × Bool := ((parR b).1, (parR b).2.1, decide ((parR b).2.2 = 0))
def imsegs (l : List IM) : HList := l.flatMap fun x => x.g.seg
theorem imsegs_append (a b : List IM) : imsegs (a ++ b) = imsegs a ++ imsegs b := List.flatMap_append
theorem imsegs_one (a : IM) : imsegs [a] = a.g.seg := by simp [imsegs]
def sO (m : Nat) (sv : SlV) (ep last : Int) : Nat × Obj := (m, .cells #[.slice sv.a sv.len sv.cap, .int .i64 ep, .int .i64 last] 109)
structure SHs (ps : List (List UInt8)) (sv : SlV) (seg : HList) (ims : List IM) : Prop where
  own : Own sv 7 eIm (ims.flatMap IM.enc) seg
  ok : ∀ x ∈ ims, x.g.Ok
  dat : ims.map IM.dat = (ps.take 16).map imOf
  len : ∀ b ∈ ps, b.length ≤ 1000000
def SH (m : Nat) (ps : List (List UInt8)) (ep : Int) (last : Nat) (A : HList) : Prop := ∃ sv seg ims, A = sO m sv ep last :: (seg ++ imsegs ims) ∧ SHs ps sv seg ims
section
variable {L : HList} {m : Nat} {sv : SlV} {ep last : Int} {ps : List (List UInt8)} {seg : HList} {ims : List IM}
theorem s_im (h : sO m sv ep last ∈ L) : LdAt ⟨m, 0, none⟩ [.slice sv.a sv.len sv.cap] L := ldB (by unfold sO at h; exact h) rfl
theorem s_ep (h : sO m sv ep last ∈ L) : LdAt ⟨m, 1, none⟩ [.int .i64 ep] L := ldB (by unfold sO at h; exact h) rfl
theorem s_la (h : sO m sv ep last ∈ L) : LdAt ⟨m, 2, none⟩ [.int .i64 last] L := ldB (by unfold sO at h; exact h) rfl
theorem SHs.ilen (h : SHs ps sv seg ims) : ims.length = min 16 ps.length := by
  have := congrArg List.length h.dat
  rwa [List.length_map, List.length_map, List.length_take] at this
theorem SHs.im (h : SHs ps sv seg ims) {i : Nat} (hi : i < ims.length) : ∃ hp : i < ps.length, ims[i].h = (parR ps[i]).1 ∧ ims[i].g.l = (parR ps[i]).2.1 ∧ ims[i].fine = decide ((parR ps[i]).2.2 = 0) := by
  have hl := h.ilen
  have hp : i < ps.length := by omega
  refine ⟨hp, ?_⟩
  have h1 : (ims.map IM.dat)[i]? = ((ps.take 16).map imOf)[i]? := by rw [h.dat]
  rw [List.getElem?_map, List.getElem?_map, List.getElem?_eq_getElem hi, List.getElem?_take_of_lt (by omega), List.getElem?_eq_getElem hp] at h1
  have h2 := Option.some.inj h1
  unfold IM.dat imOf at h2
  simp only [Prod.mk.injEq] at h2
  exact h2
end
theorem undHd2 : isStr PP 111 = true := by kernel_rfl
theorem neHd2 {L : HList} (x y : Hd) {k : ShV (.lf .bool) → HP} (hk : k (!decide (x = y)) L) :
    smP PP (binOp .neq 111 (.agg #[.int .i64 x.1, .int .i64 x.2.1, .int .i64 x.2.2.1, .int .i64 x.2.2.2.1, .int .i64 x.2.2.2.2.1]) (.agg #[.int .i64 y.1, .int .i64 y.2.1, .int .i64 y.2.2.1, .int .i64 y.2.2.2.1, .int .i64 y.2.2.2.2.1])) (.lf .bool) k L := by
  refine neS_of (r := (x.1 == y.1 && (x.2.1 == y.2.1 && (x.2.2.1 == y.2.2.1 && (x.2.2.2.1 == y.2.2.2.1 && (x.2.2.2.2.1 == y.2.2.2.2.1 && true)))))) undHd2 (by kernel_rfl) ?_
  have e : decide (x = y) = (x.1 == y.1 && (x.2.1 == y.2.1 && (x.2.2.1 == y.2.2.1 && (x.2.2.2.1 == y.2.2.2.1 && (x.2.2.2.2.1 == y.2.2.2.2.1 && true))))) := by
    obtain ⟨a, b, c, d, f, ⟨⟩⟩ := x
    obtain ⟨a', b', c', d', f', ⟨⟩⟩ := y
    rw [Bool.eq_iff_iff]; simp
  rw [e] at hk; exact hk
theorem eqHd2 {L : HList} (x y : Hd) {k : ShV (.lf .bool) → HP} (hk : k (decide (x = y)) L) :
    smP PP (binOp .eql 111 (.agg #[.int .i64 x.1, .int .i64 x.2.1, .int .i64 x.2.2.1, .int .i64 x.2.2.2.1, .int .i64 x.2.2.2.2.1]) (.agg #[.int .i64 y.1, .int .i64 y.2.1, .int .i64 y.2.2.1, .int .i64 y.2.2.2.1, .int .i64 y.2.2.2.2.1])) (.lf .bool) k L := by
  refine eqS_of (r := (x.1 == y.1 && (x.2.1 == y.2.1 && (x.2.2.1 == y.2.2.1 && (x.2.2.2.1 == y.2.2.2.1 && (x.2.2.2.2.1 == y.2.2.2.2.1 && true)))))) undHd2 (by kernel_rfl) ?_
  have e : decide (x = y) = (x.1 == y.1 && (x.2.1 == y.2.1 && (x.2.2.1 == y.2.2.1 && (x.2.2.2.1 == y.2.2.2.1 && (x.2.2.2.2.1 == y.2.2.2.2.1 && true))))) := by
    obtain ⟨a, b, c, d, f, ⟨⟩⟩ := x
    obtain ⟨a', b', c', d', f', ⟨⟩⟩ := y
    rw [Bool.eq_iff_iff]; simp
  rw [e] at hk; exact hk
theorem item_rd (L : HList) (n : Int) : Reads PP 97 #[.int .i64 n] L (.bool (decide (n = 2 ∨ n = 3))) := by
  refine Reads.of (args := [.int .i64 n]) noNum mixed Try.func97 (e97 n _) ?_
  unfold t97
  refine ifE_of (fun (h : n = 2) => .of ⟨by rw [decide_eq_true (.inl h)], rfl⟩) (fun (h : n ≠ 2) => .of ⟨?_, rfl⟩)
  congr 1
  by_cases h3 : n = 3
  · rw [h3]; rfl
  · rw [decide_eq_false (by omega), beq_eq_false_iff_ne]; exact h3
theorem look_cl (A : HList) (v : SlV) (l : List PV) (h : Parts A v l) (hl : l.length ≤ 1000000) (hb : ∀ x ∈ l, x.2.length ≤ 1000000) :
    CallF PP 57 #[.slice v.a v.len v.cap] A fun r L' => ∃ m B, r = .pointer (some ⟨m, 0, none⟩) ∧ L' = B ++ A ∧ SH m (l.map Prod.snd) 0 (lastR (l.map Prod.snd)) B := by
  refine CallF.of (args := [.slice v.a v.len v.cap]) noNum mixed Try.func57 (e57 v _) ?_
  unfold t57
  have hvl := h.len
  have hcap := h.sl.cap
  refine nw_of fun m _ => ?_
  have him : imin (v.len : Int) 16 = ((min l.length 16 : Nat) : Int) := by unfold imin; omega
  simp only [him]
  refine slc_of (l' := 0) (h' := min l.length 16) (m' := v.cap) rfl rfl rfl (by omega) (by omega) (Nat.le_refl _) ?_
  have hs : Sl A (slcV v ((0 : Nat) : Int) ((min l.length 16 : Nat) : Int) (v.cap : Int) 1) 1 ((l.take (min l.length 16)).map pvV) := by
    have h0 := Sl.slc (m := v.cap) h.sl (by decide) (l := 0) (h' := min l.length 16) (by omega) (by omega) (by omega)
    rw [Nat.zero_mul, List.drop_zero, Nat.sub_zero, Nat.mul_one, ← List.map_take] at h0
    exact h0
  generalize slcV v ((0 : Nat) : Int) ((min l.length 16 : Nat) : Int) (v.cap : Int) 1 = s at hs ⊢
  have hsl := hs.len
  rw [List.length_map, List.length_take] at hsl
  have hm0 : ((m, Obj.cells #[.slice none 0 0, .int .i64 0, .int .i64 0] 109) : Nat × Obj) = sO m ⟨none, 0, 0⟩ 0 ((0 : Nat) : Int) := rfl
  rw [hm0]
  obtain ⟨n, hn⟩ : ∃ n, n = min l.length 16 := ⟨_, rfl⟩
  have hpl : (l.map Prod.snd).length = l.length := List.length_map _
  refine lp_of (fun z' z L' => ∃ (i last : Nat) (sv : SlV) (seg : HList) (ims : List IM) (J X Y : HList), i ≤ n ∧ z' = n - i ∧ z = ((i : Int), ()) ∧ L' = X ++ sO m sv 0 last :: (seg ++ Y) ∧ (X ++ Y).Perm (imsegs ims ++ (J ++ A)) ∧ Own sv 7 eIm (ims.flatMap IM.enc) seg ∧ (∀ x ∈ ims, x.g.Ok) ∧ ims.map IM.dat = ((l.map Prod.snd).take i).map imOf ∧ last = lastD (l.map Prod.snd) (i - 1)) n
    ⟨0, 0, ⟨none, 0, 0⟩, [], [], [], [], A, by omega, by omega, rfl, rfl, List.Perm.refl _, own_nil, by simp, rfl, rfl⟩ ?_
  rintro z' z _ ⟨i, last, sv, seg, ims, J, X, Y, hi, rfl, rfl, rfl, hp, own, hok, hdat, hlast⟩
  have hsub : ∀ x ∈ A, x ∈ X ++ sO m sv 0 last :: (seg ++ Y) := by
    intro x hx
    have h5 : x ∈ X ++ Y := (hp.mem_iff (a := x)).2 (by simp [hx])
    have h6 : x ∈ X ∨ x ∈ Y := by simpa using h5
    rcases h6 with h6 | h6 <;> simp [h6]
  have hil : ims.length = i := by
    have := congrArg List.length hdat
    rw [List.length_map, List.length_map, List.length_take] at this; omega
  have hvl2 := own.sl.els_len IM.enc_len (by decide)
  refine ifD_of (fun (hlt : (i : Int) < (s.len : Int)) => ?_) (fun (hge : ¬ (i : Int) < (s.len : Int)) => ?_)
  · have hi' : i < l.length := by omega
    obtain ⟨a, ha, hld⟩ := hs.at' (i := i) (by omega) (by decide)
    have hld1 : LdAt (Addr.add a ((i : Int).toNat * 1)) [pvV l[i]] A := by
      rw [Int.toNat_natCast, Nat.mul_one]
      exact hld.one i (by rw [List.getElem?_map, List.getElem?_take_of_lt (by omega), List.getElem?_eq_getElem hi']; rfl)
    have hbv := h.val _ (List.getElem_mem hi')
    have hbl := hb _ (List.getElem_mem hi')
    refine nilc_of ha (ixn_of (show (0 : Int) ≤ (i : Int) by omega) hlt (ld_of l[i].1 (hld1.mono hsub) ?_))
    refine cl_in [] [] (pparse_cl (X ++ sO m sv 0 last :: (seg ++ Y)) l[i].1 l[i].2 (Sl.mono hbv hsub) hbl) (by simp) ?_
    rintro _ _ - ⟨s2, sg2, rfl, rfl, own2⟩
    rw [List.nil_append, List.append_nil]
    refine ⟨((parR l[i].2).1, s2, (parR l[i].2).2.2, ()), rfl, nw_of fun n2 _ => ?_⟩
    refine st_of (n := n2) (off := 0) (c := #[.int .i64 0, .int .i64 0, .int .i64 0, .int .i64 0, .int .i64 0]) (T := 111) (fz := (0, 0)) [] _ rfl rfl (by simp) (.inl (Nat.le_refl _)) #[.int .i64 (parR l[i].2).1.1, .int .i64 (parR l[i].2).1.2.1, .int .i64 (parR l[i].2).1.2.2.1, .int .i64 (parR l[i].2).1.2.2.2.1, .int .i64 (parR l[i].2).1.2.2.2.2.1] rfl ?_
    rw [List.nil_append]
    refine ld_of sv (s_im (m := m) (ep := 0) (last := last) (by simp)) (ld_of ((parR l[i].2).1 : Hd) (ldB List.mem_cons_self rfl) (nw_of fun n3 _ => ?_))
    generalize ((n2, Obj.cells #[.int .i64 (parR l[i].2).1.1, .int .i64 (parR l[i].2).1.2.1, .int .i64 (parR l[i].2).1.2.2.1, .int .i64 (parR l[i].2).1.2.2.2.1, .int .i64 (parR l[i].2).1.2.2.2.2.1] 111) : Nat × Obj) = o2
    have hfine : ((parR l[i].2).2.2 == 0) = decide ((parR l[i].2).2.2 = 0) := by
      by_cases he : (parR l[i].2).2.2 = 0
      · rw [he]; rfl
      · rw [decide_eq_false he, beq_eq_false_iff_ne]; exact he
    simp only [hfine]
    refine append_in elemIm srcIm ((n3, Obj.cells #[.int .i64 (parR l[i].2).1.1, .int .i64 (parR l[i].2).1.2.1, .int .i64 (parR l[i].2).1.2.2.1, .int .i64 (parR l[i].2).1.2.2.2.1, .int .i64 (parR l[i].2).1.2.2.2.2.1, .slice s2.a s2.len s2.cap, .bool (decide ((parR l[i].2).2.2 = 0))] eIm) :: o2 :: (sg2 ++ (X ++ [sO m sv 0 last]))) Y own (by simp)
      (n := 1) (ws := IM.enc ⟨(parR l[i].2).1, ⟨s2, sg2, (parR l[i].2).2.1⟩, decide ((parR l[i].2).2.2 = 0)⟩) (x := .slice (some ⟨n3, 0, none⟩) 1 1) (Src.sl (v := ⟨some ⟨n3, 0, none⟩, 1, 1⟩) ⟨rfl, Nat.le_refl _, .inr ⟨_, rfl, ldB List.mem_cons_self rfl⟩⟩) rfl (by omega) fun v8 seg8 hv8 own8 => ?_
    generalize ((n3, Obj.cells #[.int .i64 (parR l[i].2).1.1, .int .i64 (parR l[i].2).1.2.1, .int .i64 (parR l[i].2).1.2.2.1, .int .i64 (parR l[i].2).1.2.2.2.1, .int .i64 (parR l[i].2).1.2.2.2.2.1, .slice s2.a s2.len s2.cap, .bool (decide ((parR l[i].2).2.2 = 0))] eIm) : Nat × Obj) = o3
    refine st_of (n := m) (off := 0) (c := #[.slice sv.a sv.len sv.cap, .int .i64 0, .int .i64 last]) (T := 109) (fz := (0, 0)) (o3 :: o2 :: (sg2 ++ X)) (seg8 ++ Y) rfl (by simp [sO]) (by simp) (.inl (Nat.le_refl _)) #[.slice v8.a v8.len v8.cap, .int .i64 0, .int .i64 last] rfl ?_
    have hm1 : ((m, Obj.cells #[.slice v8.a v8.len v8.cap, .int .i64 0, .int .i64 last] 109) : Nat × Obj) = sO m v8 0 last := rfl
    rw [hm1]
    have hsub2 : ∀ x ∈ A, x ∈ (o3 :: o2 :: (sg2 ++ X)) ++ sO m v8 0 last :: (seg8 ++ Y) := by
      intro x hx
      have h5 : x ∈ X ++ Y := (hp.mem_iff (a := x)).2 (by simp [hx])
      have h6 : x ∈ X ∨ x ∈ Y := by simpa using h5
      rcases h6 with h6 | h6 <;> simp [h6]
    refine cl_rd (pblank_rd _ l[i].1 l[i].2 (Sl.mono hbv hsub2) hbl) (pblank l[i].2, ()) rfl ?_
    have hgd : (l.map Prod.snd).getD i [] = l[i].2 := by rw [List.getD_eq_getElem?_getD, List.getElem?_map, List.getElem?_eq_getElem hi']; rfl
    have hpm : ((o3 :: o2 :: (sg2 ++ X)) ++ Y).Perm (imsegs (ims ++ [⟨(parR l[i].2).1, ⟨s2, sg2, (parR l[i].2).2.1⟩, decide ((parR l[i].2).2.2 = 0)⟩]) ++ ((o3 :: o2 :: J) ++ A)) := by
      rw [imsegs_append, imsegs_one]
      classical
      rw [List.perm_iff_count] at hp ⊢
      intro z
      have := hp z
      simp only [List.append_eq, List.cons_append, List.count_append, List.count_cons, List.count_nil] at this ⊢
      omega
    have hgo : ∀ (last' : Nat), last' = lastD (l.map Prod.snd) i → (fun (x' : RsV [.lf (.int .i64)]) (L'' : HList) => ∃ k', k' < n - i ∧ ∃ (i last : Nat) (sv : SlV) (seg : HList) (ims : List IM) (J X Y : HList), i ≤ n ∧ k' = n - i ∧ x' = ((i : Int), ()) ∧ L'' = X ++ sO m sv 0 last :: (seg ++ Y) ∧ (X ++ Y).Perm (imsegs ims ++ (J ++ A)) ∧ Own sv 7 eIm (ims.flatMap IM.enc) seg ∧ (∀ x ∈ ims, x.g.Ok) ∧ ims.map IM.dat = ((l.map Prod.snd).take i).map imOf ∧ last = lastD (l.map Prod.snd) (i - 1)) (IntKind.i64.wrap ((i : Int) + 1), ()) ((o3 :: o2 :: (sg2 ++ X)) ++ sO m v8 0 last' :: (seg8 ++ Y)) := by
      intro last' hl'
      refine ⟨n - (i + 1), by omega, i + 1, last', v8, seg8, ims ++ [⟨(parR l[i].2).1, ⟨s2, sg2, (parR l[i].2).2.1⟩, decide ((parR l[i].2).2.2 = 0)⟩], o3 :: o2 :: J, o3 :: o2 :: (sg2 ++ X), Y, by omega, rfl, ?_, rfl, hpm, ?_, ?_, ?_, hl'⟩
      · rw [w64_id (by first | omega | (simp only; omega)) (by first | omega | (simp only; omega))]
        rfl
      · rw [List.flatMap_append, List.flatMap_singleton]; exact own8
      · intro z hz
        rcases List.mem_append.1 hz with h5 | h5
        · exact hok z h5
        · rw [List.mem_singleton.1 h5]; exact own2
      · rw [List.map_append, hdat, List.take_succ_eq_append_getElem (by rw [hpl]; exact hi'), List.map_append, List.getElem_map]
        rfl
    cases hbk : pblank l[i].2 with
    | true =>
      refine ifF rfl (hgo last ?_)
      rw [hlast]
      cases i with
      | zero => rfl
      | succ j =>
        rw [Nat.add_sub_cancel]
        show _ = if pblank ((l.map Prod.snd).getD (j + 1) []) then lastD (l.map Prod.snd) j else j + 1
        rw [hgd, hbk, if_pos rfl]
    | false =>
      refine ifT rfl ?_
      refine st_of (n := m) (off := 2) (c := #[.slice v8.a v8.len v8.cap, .int .i64 0, .int .i64 last]) (T := 109) (fz := (0, 0)) (o3 :: o2 :: (sg2 ++ X)) (seg8 ++ Y) rfl rfl (by simp) (.inl (Nat.le_refl _)) #[.slice v8.a v8.len v8.cap, .int .i64 0, .int .i64 i] rfl ?_
      refine hgo i ?_
      cases i with
      | zero => rfl
      | succ j =>
        show _ = if pblank ((l.map Prod.snd).getD (j + 1) []) then lastD (l.map Prod.snd) j else j + 1
        rw [hgd, hbk, if_neg (by decide)]
  · obtain rfl : i = n := by omega
    refine .drop (A := (sO m sv 0 last :: (seg ++ imsegs ims)) ++ A) (J := J) ⟨m, _, rfl, rfl, sv, seg, ims, ?_, own, hok, ?_, ?_⟩ ?_
    · have : lastR (l.map Prod.snd) = last := by rw [hlast]; unfold lastR; rw [hpl, hn]
      rw [this]
    · rw [hdat]
      congr 1
      rcases Nat.le_total l.length 16 with h16 | h16
      · rw [List.take_of_length_le (by omega), List.take_of_length_le (by omega)]
      · rw [show i = 16 by omega]
    · intro b hb'
      obtain ⟨x, hx, rfl⟩ := List.mem_map.1 hb'
      exact hb x hx
    · classical
      rw [List.perm_iff_count] at hp ⊢
      intro z
      have := hp z
      simp only [List.append_eq, List.cons_append, List.count_append, List.count_cons, List.count_nil] at this ⊢
      omega
theorem says_cl (L B : HList) (m : Nat) (ps : List (List UInt8)) (ep : Int) (last : Nat) (hB : SH m ps ep last B) (hs : ∀ x ∈ B, x ∈ L) (at' : Int) (h : Hd) :
    CallF PP 58 #[.pointer (some ⟨m, 0, none⟩), .int .i64 at', .agg #[.int .i64 h.1, .int .i64 h.2.1, .int .i64 h.2.2.1, .int .i64 h.2.2.2.1, .int .i64 h.2.2.2.2.1]] L fun r L' => L' = L ∧
      ((saysR ps at' (h.1, h.2.1, h.2.2.1, ep, at', ()) = none ∧ r = .tuple #[.slice none 0 0, .bool false]) ∨ ∃ (v : SlV) (p : List UInt8), saysR ps at' (h.1, h.2.1, h.2.2.1, ep, at', ()) = some p ∧ r = .tuple #[.slice v.a v.len v.cap, .bool true] ∧ BSl L v p ∧ p.length ≤ 1000000) := by
  obtain ⟨sv, seg, ims, rfl, hh⟩ := hB
  refine CallF.of (args := [.pointer (some ⟨m, 0, none⟩), .int .i64 at', .agg #[.int .i64 h.1, .int .i64 h.2.1, .int .i64 h.2.2.1, .int .i64 h.2.2.2.1, .int .i64 h.2.2.2.2.1]]) noNum mixed Try.func58 (e58 (some ⟨m, 0, none⟩) at' h _) ?_
  unfold t58
  have hmO : sO m sv ep last ∈ L := hs _ List.mem_cons_self
  have hsl : Sl L sv 7 (ims.flatMap IM.enc) := Sl.mono hh.own.sl fun x hx => hs x (by simp [hx])
  have hvl := hsl.els_len IM.enc_len (by decide)
  have hil := hh.ilen
  refine nw_of fun n1 _ => nilc_of rfl (ld_of ep ((s_ep hmO).mono fun x hx => List.mem_cons_of_mem _ hx) ?_)
  refine st_of (n := n1) (off := 3) (c := #[.int .i64 h.1, .int .i64 h.2.1, .int .i64 h.2.2.1, .int .i64 h.2.2.2.1, .int .i64 h.2.2.2.2.1]) (T := 111) (fz := (0, 0)) [] L rfl rfl (by simp) (.inl (Nat.le_refl _)) #[.int .i64 h.1, .int .i64 h.2.1, .int .i64 h.2.2.1, .int .i64 ep, .int .i64 h.2.2.2.2.1] rfl ?_
  refine st_of (n := n1) (off := 4) (T := 111) (fz := (0, 0)) [] L rfl rfl (by simp) (.inl (Nat.le_refl _)) #[.int .i64 h.1, .int .i64 h.2.1, .int .i64 h.2.2.1, .int .i64 ep, .int .i64 at'] rfl ?_
  rw [List.nil_append]
  generalize hH : ((h.1, h.2.1, h.2.2.1, ep, at', ()) : Hd) = H
  have lH : LdAt ⟨n1, 0, none⟩ [.int .i64 H.1, .int .i64 H.2.1, .int .i64 H.2.2.1, .int .i64 H.2.2.2.1, .int .i64 H.2.2.2.2.1] ((n1, Obj.cells #[.int .i64 h.1, .int .i64 h.2.1, .int .i64 h.2.2.1, .int .i64 ep, .int .i64 at'] 111) :: L) := ldB List.mem_cons_self (by rw [← hH]; rfl)
  generalize (n1, Obj.cells #[.int .i64 h.1, .int .i64 h.2.1, .int .i64 h.2.2.1, .int .i64 ep, .int .i64 at'] 111) = o1 at lH
  have hup : ∀ x ∈ L, x ∈ o1 :: L := fun x hx => List.mem_cons_of_mem _ hx
  have hno : saysR ps at' H = none → HL.Ends (fun r L' => L' = L ∧ ((saysR ps at' H = none ∧ r = .tuple #[.slice none 0 0, .bool false]) ∨ ∃ (v : SlV) (p : List UInt8), saysR ps at' H = some p ∧ r = .tuple #[.slice v.a v.len v.cap, .bool true] ∧ BSl L v p ∧ p.length ≤ 1000000)) (.tuple #[.slice none 0 0, .bool false]) (o1 :: L) := fun hx => .cons (.of ⟨rfl, .inl ⟨hx, rfl⟩⟩)
  refine ifD_of (fun (h1 : at' < 0) => hno (by unfold saysR; rw [if_neg (by omega)])) (fun (h1 : ¬ at' < 0) => ?_)
  obtain ⟨i, rfl⟩ : ∃ i : Nat, at' = i := ⟨at'.toNat, by omega⟩
  refine nilc_of rfl (ld_of sv ((s_im hmO).mono hup) (ifD_of (fun (h2 : (i : Int) ≥ (sv.len : Int)) => hno ?_) (fun (h2 : ¬ (i : Int) ≥ (sv.len : Int)) => ?_)))
  · unfold saysR
    by_cases h16 : i < 16
    · rw [if_pos (by omega), Int.toNat_natCast, List.getElem?_eq_none (by omega)]
    · rw [if_neg (by omega)]
  have hi : i < ims.length := by omega
  obtain ⟨hip, i1, i2, i3⟩ := hh.im hi
  obtain ⟨a, ha, hld⟩ := hsl.el IM.enc_len (by decide) hi
  have hld' : LdAt (Addr.add a ((i : Int).toNat * 7)) ims[i].enc (o1 :: L) := by rw [Int.toNat_natCast]; exact hld.mono hup
  have g0 : (0 : Int) ≤ (i : Int) := by omega
  have g1 : (i : Int) < (sv.len : Int) := by omega
  have hsr : saysR ps (i : Int) H = if (parR ps[i]).2.2 = 0 ∧ (parR ps[i]).1 = H then some (parR ps[i]).2.1 else none := by
    unfold saysR
    rw [if_pos (by omega), Int.toNat_natCast, List.getElem?_eq_getElem hip]
  refine nilc_of rfl (ld_of sv ((s_im hmO).mono hup) (nilc_of ha (ixn_of g0 g1 (ld_of ims[i].fine (hld'.one 6 rfl) ?_))))
  rw [i3]
  by_cases hf : (parR ps[i]).2.2 = 0
  case neg => rw [decide_eq_false hf]; exact ifT rfl (hno (by rw [hsr, if_neg (fun hx => hf hx.1)]))
  rw [decide_eq_true hf]
  refine ifF rfl (nilc_of rfl (ld_of sv ((s_im hmO).mono hup) (nilc_of ha (ixn_of g0 g1 (ld_of ims[i].h (hld'.pre fun j u hu => ?_) (ld_of H lH (neHd2 _ _ ?_)))))))
  · match j, hu with
    | 0, hu => exact hu
    | 1, hu => exact hu
    | 2, hu => exact hu
    | 3, hu => exact hu
    | 4, hu => exact hu
    | j + 5, hu => exact absurd (show (none : Option Value) = some u from hu) (by simp)
  rw [i1]
  by_cases he : (parR ps[i]).1 = H
  case neg => rw [decide_eq_false he]; exact ifT rfl (hno (by rw [hsr, if_neg (fun hx => he hx.2)]))
  rw [decide_eq_true he]
  refine ifF rfl (nilc_of rfl (ld_of sv ((s_im hmO).mono hup) (nilc_of ha (ixn_of g0 g1 (ld_of ims[i].g.v (hld'.one 5 rfl) (.cons (.of ⟨rfl, .inr ⟨ims[i].g.v, ims[i].g.l, by rw [hsr, if_pos ⟨hf, he⟩, i2], rfl, ?_, ?_⟩⟩)))))))
  · exact Sl.mono (hh.ok _ (List.getElem_mem hi)).sl fun x hx => hs x (List.mem_cons_of_mem _ (List.mem_append_right _ (List.mem_flatMap.2 ⟨_, List.getElem_mem hi, hx⟩)))
  · rw [i2]
    have := parR_len ps[i]
    have := hh.len _ (List.getElem_mem hip)
    omega
end Go.Proofs.Ytlabcgnegbdlfaa
set_option linter.unusedVariables false
set_option linter.unusedSimpArgs false
namespace Go.Proofs.Ytlabcgnegbdlfaa
open Go.HL

def SealK (o : Option (List It)) (A : HList) (r : Value) (L' : HList) : Prop :=
  (o = none ∧ L' = A ∧ ∃ v : SlV, r = .tuple #[.slice v.a v.len v.cap, .bool false]) ∨ ∃ (l : List It) (v : SlV) (seg : HList), o = some l ∧ r = .tuple #[.slice v.a v.len v.cap, .bool true] ∧ L' = seg ++ A ∧ Own v 3 eItm (l.flatMap itEnc) seg
theorem SealK.no {o : Option (List It)} {A : HList} (h : o = none) : SealK o A (.tuple #[.slice none 0 0, .bool false]) A := .inl ⟨h, rfl, ⟨none, 0, 0⟩, rfl⟩
theorem sealG_succ (p : List UInt8) (n i : Nat) (nx : Int) : sealG p (n + 1) i nx = if ((sItem p i).1 = 2 ∨ (sItem p i).1 = 3) ∧ (sItem p i).2.2.1 ≠ 0 ∧ (sItem p i).2.1 = nx then (sealG p n (i + 1) (nx + (sItem p i).2.2.1)).map fun y => (sItem p i :: y.1, y.2) else none := rfl
theorem sItem_rng (p : List UInt8) (i : Nat) : 0 ≤ (sItem p i).2.2.1 ∧ (sItem p i).2.2.1 ≤ 255 := by
  unfold sItem
  have := (p.getD (i * 3 + 2) 0).toNat_lt
  simp only
  omega
theorem seal_cl (L B : HList) (m : Nat) (ps : List (List UInt8)) (ep : Int) (hB : SH m ps ep (lastR ps) B) (hs : ∀ x ∈ B, x ∈ L) : CallF PP 59 #[.pointer (some ⟨m, 0, none⟩)] L (SealK (sealS ps ep) L) := by
  refine CallF.of (args := [.pointer (some ⟨m, 0, none⟩)]) noNum mixed Try.func59 (e59 (some ⟨m, 0, none⟩) _) ?_
  unfold t59
  have hB0 := hB
  obtain ⟨sv, seg, ims, hBe, hh⟩ := hB
  have hmO : sO m sv ep (lastR ps) ∈ L := hs _ (by rw [hBe]; exact List.mem_cons_self)
  refine nilc_of rfl (ld_of (lastR ps : Int) (s_la hmO) ?_)
  refine cl_in [] [] (says_cl L B m ps ep (lastR ps) hB0 hs (lastR ps) (4, 0, 1, 0, 0, ())) (by simp) ?_
  rintro _ L1 - ⟨hL1, ⟨hn, rfl⟩ | ⟨v, p, hsm, rfl, hp, hpl⟩⟩
  · rw [List.nil_append, List.append_nil, hL1]
    exact ⟨(⟨none, 0, 0⟩, false, ()), rfl, ifT rfl (.of (SealK.no (by unfold sealS; rw [hn]; rfl)))⟩
  rw [List.nil_append, List.append_nil, hL1]
  clear hL1 L1
  refine ⟨(v, true, ()), rfl, ifF rfl (req_of (by decide) ?_)⟩
  have hS : sealS ps ep = sealR p (lastR ps) := by unfold sealS; rw [hsm]; rfl
  rw [hS]
  have hvl := hp.len
  have htm : Int.tmod (v.len : Int) 3 = ((p.length % 3 : Nat) : Int) := by rw [Int.tmod_eq_emod_of_nonneg (by omega), hvl]; omega
  rw [htm]
  refine ifNe_of (fun (h3 : ((p.length % 3 : Nat) : Int) ≠ 0) => .of (SealK.no (by unfold sealR; rw [if_pos (by omega)]))) (fun (h3 : ((p.length % 3 : Nat) : Int) = 0) => ?_)
  obtain ⟨n, hn⟩ : ∃ n, p.length = n * 3 := ⟨p.length / 3, by omega⟩
  have hdiv : p.length / 3 = n := by omega
  have hR1 : ∀ y, sealG p n 0 1 = some y → sealR p (lastR ps) = if y.2 = lastR ps then some y.1 else none := by
    intro y hy
    unfold sealR
    rw [if_neg (by omega), hdiv, hy]
  have hR0 : sealG p n 0 1 = none → sealR p (lastR ps) = none := by
    intro hy
    unfold sealR
    rw [if_neg (by omega), hdiv, hy]
  refine lp_of (fun z' z L' => ∃ (i : Nat) (b s : SlV) (nx : Int) (ds : List It) (sg J : HList), i ≤ n ∧ z' = n - i ∧ z = (b, s, nx, ()) ∧ L' = J ++ (sg ++ L) ∧ Own s 3 eItm (ds.flatMap itEnc) sg ∧ ds.length = i ∧ BSl L b (p.drop (i * 3)) ∧ 1 ≤ nx ∧ nx ≤ 1 + 255 * i ∧ sealG p n 0 1 = (sealG p (n - i) i nx).map fun y => (ds ++ y.1, y.2)) n
    ⟨0, v, ⟨none, 0, 0⟩, 1, [], [], [], by omega, by omega, rfl, rfl, own_nil, rfl, by simpa using hp, by omega, by omega, by simp⟩ ?_
  rintro z' z _ ⟨i, b, s, nx, ds, sg, J, hi, rfl, rfl, rfl, own, hdl, hb, hnx0, hnx1, hG⟩
  have hbl := hb.len
  rw [List.length_drop] at hbl
  have hbcap := hb.cap
  have hs1 := own.sl.els_len itEnc_len (by decide)
  refine ifD_of (fun (hgt : (b.len : Int) > 0) => ?_) (fun (hle : ¬ (b.len : Int) > 0) => ?_)
  · have hi' : i < n := by omega
    have hB : BSl (J ++ (sg ++ L)) b (p.drop (i * 3)) := hb.right.right
    have hl3 : 3 ≤ (p.drop (i * 3)).length := by rw [List.length_drop]; omega
    obtain ⟨a, ha⟩ := hB.some (i := 0) (by omega)
    have e0 : (p.drop (i * 3))[0]'(by omega) = p.getD (i * 3) 0 := by rw [getD_of (by omega), List.getElem_drop]; simp
    have e1 : (p.drop (i * 3))[1]'(by omega) = p.getD (i * 3 + 1) 0 := by rw [getD_of (by omega), List.getElem_drop]
    have e2 : (p.drop (i * 3))[2]'(by omega) = p.getD (i * 3 + 2) 0 := by rw [getD_of (by omega), List.getElem_drop]
    have l0 := hB.rd (i := 0) (by omega) ha ((0 : Int).toNat * 1) rfl
    have l1 := hB.rd (i := 1) (by omega) ha ((1 : Int).toNat * 1) rfl
    have l2 := hB.rd (i := 2) (by omega) ha ((2 : Int).toNat * 1) rfl
    rw [e0] at l0
    rw [e1] at l1
    rw [e2] at l2
    refine nilc_of ha (ixn_of (by decide) (show (0 : Int) < (b.len : Int) by omega) (nilc_of ha (ixn_of (by decide) (show (1 : Int) < (b.len : Int) by omega) (nilc_of ha (ixn_of (by decide) (show (2 : Int) < (b.len : Int) by omega) (ld_of ((p.getD (i * 3) 0).toNat : Int) l0 (ld_of ((p.getD (i * 3 + 1) 0).toNat : Int) l1 (ld_of ((p.getD (i * 3 + 2) 0).toNat : Int) l2 (nw_of fun n1 _ => ?_)))))))))
    rw [u8_64, u8_64, u8_64]
    refine st_of (n := n1) (off := 0) (c := #[.int .i64 0, .int .i64 0, .int .i64 0]) (T := eItm) (fz := (0, 0)) [] (J ++ (sg ++ L)) rfl rfl (by simp) (.inl (Nat.le_refl _)) #[.int .i64 (sItem p i).1, .int .i64 (sItem p i).2.1, .int .i64 (sItem p i).2.2.1] rfl ?_
    rw [List.nil_append]
    generalize ho : ((n1, Obj.cells #[.int .i64 (sItem p i).1, .int .i64 (sItem p i).2.1, .int .i64 (sItem p i).2.2.1] eItm) : Nat × Obj) = o1
    have lc : LdAt ⟨n1, 0, none⟩ [.int .i64 (sItem p i).1, .int .i64 (sItem p i).2.1, .int .i64 (sItem p i).2.2.1] (o1 :: (J ++ (sg ++ L))) := ldB (by rw [← ho]; exact List.mem_cons_self) rfl
    clear ho
    have hsu : sealG p (n - i) i nx = if ((sItem p i).1 = 2 ∨ (sItem p i).1 = 3) ∧ (sItem p i).2.2.1 ≠ 0 ∧ (sItem p i).2.1 = nx then (sealG p (n - (i + 1)) (i + 1) (nx + (sItem p i).2.2.1)).map fun y => (sItem p i :: y.1, y.2) else none := by
      rw [show n - i = (n - (i + 1)) + 1 by omega, sealG_succ]
    have hno : ¬ (((sItem p i).1 = 2 ∨ (sItem p i).1 = 3) ∧ (sItem p i).2.2.1 ≠ 0 ∧ (sItem p i).2.1 = nx) → HL.Ends (SealK (sealR p (lastR ps)) L) (.tuple #[.slice none 0 0, .bool false]) (o1 :: (J ++ (sg ++ L))) := by
      intro hx
      rw [hsu, if_neg hx] at hG
      exact .cons (.app (.app (.of (SealK.no (hR0 (by rw [hG]; rfl))))))
    refine ld_of (sItem p i).1 (lc.pre fun i u hu => by cases i with | zero => exact hu | succ i => exact absurd (show (none : Option Value) = some u from hu) (by simp)) (cl_rd (item_rd _ (sItem p i).1) (decide ((sItem p i).1 = 2 ∨ (sItem p i).1 = 3), ()) rfl ?_)
    by_cases hk : (sItem p i).1 = 2 ∨ (sItem p i).1 = 3
    case neg => rw [decide_eq_false hk]; exact ifT rfl (hno fun h => hk h.1)
    rw [decide_eq_true hk]
    refine ifF rfl (ld_of (sItem p i).2.2.1 (lc.one 2 rfl) (ifE_of (fun (hz : (sItem p i).2.2.1 = 0) => hno fun h => h.2.1 hz) (fun (hz : (sItem p i).2.2.1 ≠ 0) => ?_)))
    refine ld_of (sItem p i).2.1 (lc.one 1 rfl) (ifNe_of (fun (hx : (sItem p i).2.1 ≠ nx) => hno fun h => hx h.2.2) (fun (hx : (sItem p i).2.1 = nx) => ?_))
    have hr := sItem_rng p i
    refine ld_of (sItem p i).2.2.1 (lc.one 2 rfl) (ld_of (sItem p i) lc (nw_of fun n2 _ => ?_))
    refine append_in elemItm srcItm ((n2, Obj.cells #[.int .i64 (sItem p i).1, .int .i64 (sItem p i).2.1, .int .i64 (sItem p i).2.2.1] eItm) :: o1 :: J) L own (by simp) (n := 1) (ws := itEnc (sItem p i)) (x := .slice (some ⟨n2, 0, none⟩) 1 1) (Src.sl (v := ⟨some ⟨n2, 0, none⟩, 1, 1⟩) ⟨rfl, Nat.le_refl _, .inr ⟨_, rfl, ldB List.mem_cons_self rfl⟩⟩) rfl (by omega) fun s2 sg2 hs2 own2 => ?_
    refine slc_of (l' := 3) (h' := b.len) (m' := b.cap) rfl rfl rfl (by omega) (by omega) (Nat.le_refl _) ?_
    have hcut : BSl L (slcV b ((3 : Nat) : Int) (b.len : Int) (b.cap : Int) 1) (p.drop ((i + 1) * 3)) := by
      have h0 := Sl.slc (m := b.cap) hb (by decide) (l := 3) (h' := b.len) (by omega) (by omega) (by omega)
      rw [bvs_slc, List.take_of_length_le (by rw [List.length_drop, List.length_drop]; omega), List.drop_drop] at h0
      rw [show (i + 1) * 3 = i * 3 + 3 by omega]
      exact h0
    refine ⟨n - (i + 1), by omega, i + 1, _, s2, nx + (sItem p i).2.2.1, ds ++ [sItem p i], sg2, _, by omega, rfl, ?_, List.append_assoc .., ?_, by simp [hdl], hcut, by omega, by omega, ?_⟩
    · rw [w64_id (by first | omega | (simp only; omega)) (by first | omega | (simp only; omega))]
    · rw [List.flatMap_append, List.flatMap_singleton]; exact own2
    · rw [hG, hsu, if_pos ⟨hk, hz, hx⟩, Option.map_map]
      have : ∀ y : List It × Int, (ds ++ (sItem p i :: y.1), y.2) = (ds ++ [sItem p i] ++ y.1, y.2) := fun y => by simp
      exact congrArg (fun f => Option.map f _) (funext this)
  · obtain rfl : i = n := by omega
    rw [Nat.sub_self] at hG
    have hG' : sealG p i 0 1 = some (ds, nx) := by rw [hG]; simp [sealG]
    refine nilc_of rfl (ld_of (lastR ps : Int) ((s_la hmO).mono fun x hx => by simp [hx]) ?_)
    by_cases hl : nx = lastR ps
    · have hb2 : (nx == (lastR ps : Int)) = true := by simp [hl]
      simp only [hb2]
      refine .app (.of (.inr ⟨ds, s, sg, ?_, rfl, rfl, own⟩))
      rw [hR1 _ hG', if_pos hl]
    · have hb2 : (nx == (lastR ps : Int)) = false := by rw [beq_eq_false_iff_ne]; exact hl
      simp only [hb2]
      refine .app (.app (.of (.inl ⟨?_, rfl, s, rfl⟩)))
      rw [hR1 _ hG', if_neg hl]
theorem at_cl (L B : HList) (m : Nat) (ps : List (List UInt8)) (ep : Int) (last : Nat) (hB : SH m ps ep last B) (hs : ∀ x ∈ B, x ∈ L) (q : Nat) (hq : q < min ps.length 16) :
    CallF PP 61 #[.pointer (some ⟨m, 0, none⟩), .int .i64 q] L fun r L' => L' = L ∧ ((foundR ps ep q = none ∧ r = .tuple #[.agg #[.int .i64 0, .int .i64 0, .int .i64 0], .bool false]) ∨ ∃ x : It, foundR ps ep q = some x ∧ r = .tuple #[itV x, .bool true]) := by
  have hB0 := hB
  obtain ⟨sv, seg, ims, hBe, hh⟩ := hB
  refine CallF.of (args := [.pointer (some ⟨m, 0, none⟩), .int .i64 q]) noNum mixed Try.func61 (e61 (some ⟨m, 0, none⟩) q _) ?_
  unfold t61
  have hmO : sO m sv ep last ∈ L := hs _ (by rw [hBe]; exact List.mem_cons_self)
  have hsl : Sl L sv 7 (ims.flatMap IM.enc) := Sl.mono hh.own.sl fun x hx => hs x (by rw [hBe]; simp [hx])
  have hvl := hsl.els_len IM.enc_len (by decide)
  have hil := hh.ilen
  have hi : q < ims.length := by omega
  obtain ⟨hip, i1, i2, i3⟩ := hh.im hi
  obtain ⟨a, ha, hld⟩ := hsl.el IM.enc_len (by decide) hi
  refine nw_of fun n1 _ => nilc_of rfl (ld_of sv ((s_im hmO).mono fun x hx => List.mem_cons_of_mem _ hx) (nilc_of ha (ixn_of (show (0 : Int) ≤ (q : Int) by omega) (show (q : Int) < (sv.len : Int) by omega) ?_)))
  refine ld_of (ims[q].h.1, ims[q].h.2.1, ims[q].h.2.2.1, ims[q].h.2.2.2.1, ims[q].h.2.2.2.2.1, ims[q].g.v, ims[q].fine, ()) (by rw [Int.toNat_natCast]; exact hld.mono fun x hx => List.mem_cons_of_mem _ hx) (nw_of fun n2 _ => ?_)
  have hsz : wr #[.int .i64 0, .int .i64 0, .int .i64 0, .int .i64 0, .int .i64 0, .slice none 0 0, .bool false] 0 [.int .i64 ims[q].h.1, .int .i64 ims[q].h.2.1, .int .i64 ims[q].h.2.2.1, .int .i64 ims[q].h.2.2.2.1, .int .i64 ims[q].h.2.2.2.2.1, .slice ims[q].g.v.a ims[q].g.v.len ims[q].g.v.cap, .bool ims[q].fine] = #[.int .i64 ims[q].h.1, .int .i64 ims[q].h.2.1, .int .i64 ims[q].h.2.2.1, .int .i64 ims[q].h.2.2.2.1, .int .i64 ims[q].h.2.2.2.2.1, .slice ims[q].g.v.a ims[q].g.v.len ims[q].g.v.cap, .bool ims[q].fine] := wr_all _ _ rfl
  refine st_of (n := n2) (off := 0) (c := #[.int .i64 0, .int .i64 0, .int .i64 0, .int .i64 0, .int .i64 0, .slice none 0 0, .bool false]) (T := eIm) (fz := (0, 0)) [] _ rfl rfl (by simp) (.inl (Nat.le_refl _)) _ hsz ?_
  rw [List.nil_append]
  generalize ho2 : ((n2, Obj.cells #[.int .i64 ims[q].h.1, .int .i64 ims[q].h.2.1, .int .i64 ims[q].h.2.2.1, .int .i64 ims[q].h.2.2.2.1, .int .i64 ims[q].h.2.2.2.2.1, .slice ims[q].g.v.a ims[q].g.v.len ims[q].g.v.cap, .bool ims[q].fine] eIm) : Nat × Obj) = o2
  have lc : ∀ Z : HList, o2 ∈ Z → LdAt ⟨n2, 0, none⟩ [.int .i64 ims[q].h.1, .int .i64 ims[q].h.2.1, .int .i64 ims[q].h.2.2.1, .int .i64 ims[q].h.2.2.2.1, .int .i64 ims[q].h.2.2.2.2.1, .slice ims[q].g.v.a ims[q].g.v.len ims[q].g.v.cap, .bool ims[q].fine] Z := fun Z hm => ldB (by rw [← ho2] at hm; exact hm) rfl
  clear ho2 hsz
  have lk : ∀ Z : HList, o2 ∈ Z → LdAt ⟨n2, 0, none⟩ [.int .i64 ims[q].h.1] Z := fun Z hm => (lc Z hm).pre fun i u hu => by cases i with | zero => exact hu | succ i => exact absurd (show (none : Option Value) = some u from hu) (by simp)
  have hfr : foundR ps ep q = if (parR ps[q]).2.2 = 0 ∧ ((parR ps[q]).1.1 = 2 ∨ (parR ps[q]).1.1 = 3) then
      if (List.range (parR ps[q]).1.2.2.1.toNat).all (fun i => (saysR ps ((q : Int) + i) ((parR ps[q]).1.1, i, (parR ps[q]).1.2.2.1, ep, (q : Int) + i, ())).isSome) = true then some ((parR ps[q]).1.1, ((q : Nat) : Int), (parR ps[q]).1.2.2.1, ()) else none
    else none := by unfold foundR; rw [List.getElem?_eq_getElem hip]
  generalize hz0 : ((n1, Obj.cells #[.int .i64 0, .int .i64 0, .int .i64 0] 24) : Nat × Obj) = o1
  have hzz : ∀ (Z : HList), foundR ps ep q = none → st ⟨n1, 0, none⟩ [.int .i64 0, .int .i64 0, .int .i64 0] (ld ⟨n1, 0, none⟩ (.agg [.int .i64, .int .i64, .int .i64]) fun v4 => HL.Ends (fun r L' => L' = L ∧ ((foundR ps ep q = none ∧ r = .tuple #[.agg #[.int .i64 0, .int .i64 0, .int .i64 0], .bool false]) ∨ ∃ x : It, foundR ps ep q = some x ∧ r = .tuple #[itV x, .bool true])) (.tuple #[.agg #[.int .i64 v4.1, .int .i64 v4.2.1, .int .i64 v4.2.2.1], .bool false])) (o2 :: o1 :: L) := by
    intro Z hx
    refine st_of (n := n1) (off := 0) (c := #[.int .i64 0, .int .i64 0, .int .i64 0]) (T := 24) (fz := (0, 0)) [o2] L rfl (by rw [← hz0]; rfl) (by simp) (.inl (Nat.le_refl _)) #[.int .i64 0, .int .i64 0, .int .i64 0] rfl ?_
    exact ld_of (0, 0, 0, ()) (ldB (n := n1) (off := 0) (c := #[.int .i64 0, .int .i64 0, .int .i64 0]) (T := 24) (fz := (0, 0)) (by simp) rfl) (.cons (.cons (.of ⟨rfl, .inl ⟨hx, rfl⟩⟩)))
  have hm2 : o2 ∈ o2 :: o1 :: L := List.mem_cons_self
  refine ld_of ims[q].fine ((lc _ hm2).one 6 rfl) ?_
  rw [i3]
  by_cases hf : (parR ps[q]).2.2 = 0
  case neg => rw [decide_eq_false hf]; exact ifT rfl (hzz [] (by rw [hfr, if_neg (fun h => hf h.1)]))
  rw [decide_eq_true hf]
  refine ifF rfl (ld_of ims[q].h.1 (lk _ hm2) (cl_rd (item_rd _ ims[q].h.1) (decide (ims[q].h.1 = 2 ∨ ims[q].h.1 = 3), ()) rfl ?_))
  by_cases hk : ims[q].h.1 = 2 ∨ ims[q].h.1 = 3
  case neg => rw [decide_eq_false hk]; exact ifT rfl (hzz [] (by rw [hfr, if_neg (fun h => hk (by rw [i1]; exact h.2))]))
  rw [decide_eq_true hk]
  rw [i1] at lc lk hk
  simp only [i1]
  have hok := hErr_ok (par_ok hf)
  generalize hH : (parR ps[q]).1 = H at *
  refine ifF rfl (ld_of H.2.2.1 ((lc _ hm2).one 2 rfl) ?_)
  refine lp_of (fun z' z L' => L' = o2 :: o1 :: L ∧ ∃ i : Nat, (i : Int) ≤ H.2.2.1 ∧ z' = H.2.2.1.toNat - i ∧ z = ((i : Int), ()) ∧ ∀ j, j < i → (saysR ps ((q : Int) + j) (H.1, j, H.2.2.1, ep, (q : Int) + j, ())).isSome = true) H.2.2.1.toNat ⟨rfl, 0, by omega, by omega, rfl, by omega⟩ ?_
  rintro z' z _ ⟨rfl, i, hi, rfl, rfl, hall⟩
  refine ifD_of (fun (hlt : (i : Int) < H.2.2.1) => ?_) (fun (hge : ¬ (i : Int) < H.2.2.1) => ?_)
  · refine ld_of H.1 (lk _ hm2) (ld_of H.2.2.1 ((lc _ hm2).one 2 rfl) ?_)
    have hwi : IntKind.i64.wrap ((q : Int) + (i : Int)) = (q : Int) + i := w64_id (by omega) (by omega)
    simp only [hwi]
    refine cl_in [] [] (says_cl (o2 :: o1 :: L) B m ps ep last hB0 (fun x hx => List.mem_cons_of_mem _ (List.mem_cons_of_mem _ (hs x hx))) ((q : Int) + i) (H.1, i, H.2.2.1, 0, 0, ())) (by simp) ?_
    rintro _ L1 - ⟨hL1, ⟨hn, rfl⟩ | ⟨v, p, hsm, rfl, -, -⟩⟩
    · rw [List.nil_append, List.append_nil, hL1]
      refine ⟨(⟨none, 0, 0⟩, false, ()), rfl, ifT rfl (hzz [] ?_)⟩
      rw [hfr, if_pos ⟨hf, hk⟩, if_neg]
      intro hx
      rw [List.all_eq_true] at hx
      have := hx i (List.mem_range.2 (by omega))
      rw [hn] at this
      cases this
    · rw [List.nil_append, List.append_nil, hL1]
      refine ⟨(v, true, ()), rfl, ifF rfl ⟨H.2.2.1.toNat - (i + 1), by omega, rfl, i + 1, by omega, rfl, ?_, fun j hj => ?_⟩⟩
      · rw [w64_id (by first | omega | (simp only; omega)) (by first | omega | (simp only; omega))]
        rfl
      · rcases Nat.lt_or_ge j i with h5 | h5
        · exact hall j h5
        · obtain rfl : j = i := by omega
          rw [hsm]; rfl
  · refine ld_of H.1 (lk _ hm2) (ld_of H.2.2.1 ((lc _ hm2).one 2 rfl) ?_)
    refine st_of (n := n1) (off := 0) (c := #[.int .i64 0, .int .i64 0, .int .i64 0]) (T := 24) (fz := (0, 0)) [o2] L rfl (by rw [← hz0]; rfl) (by simp) (.inl (Nat.le_refl _)) #[.int .i64 H.1, .int .i64 q, .int .i64 H.2.2.1] rfl ?_
    refine ld_of (H.1, (q : Int), H.2.2.1, ()) (ldB (n := n1) (off := 0) (c := #[.int .i64 H.1, .int .i64 q, .int .i64 H.2.2.1]) (T := 24) (fz := (0, 0)) (by simp) rfl) (.cons (.cons (.of ⟨rfl, .inr ⟨(H.1, (q : Int), H.2.2.1, ()), ?_, rfl⟩⟩)))
    rw [hfr, if_pos ⟨hf, hk⟩, if_pos]
    rw [List.all_eq_true]
    intro j hj
    exact hall j (by have := List.mem_range.1 hj; omega)
end Go.Proofs.Ytlabcgnegbdlfaa
set_option linter.unusedVariables false
set_option linter.unusedSimpArgs false
namespace Go.HL
section
variable {P : Program} {w : World}
theorem trod_len {t e : TypeId} {a : Option Addr} {len cap : Nat} {H : Type} {e' : TypeId × Value → H} {sp : Nat → Bool} {held : Bool} {d : DataW H} {ps : List MemPlace} (hu : P.underlying t = some (.slice e)) (h : DataW.Trod e' P w 0 sp held t (.slice a len cap) d ps) :
    len = 0 ∨ ∃ elems spare, d = .slice elems spare ∧ elems.length = len := by
  obtain ⟨fuel, hf⟩ := h
  rcases Deep.open_slice hu hf with ⟨h1, _⟩ | ⟨a', len', cap', m, n, D, Pl, h1, _, _, _, _, h2, _⟩
  · have : [Value.slice a len cap] = [.slice none 0 0] := h1
    injection this with h3
    injection h3 with _ h4 _
    exact .inl h4
  · have : [Value.slice a len cap] = [.slice (some a') len' cap'] := h1
    injection this with h3
    injection h3 with _ h4 _
    subst h4
    injection h2 with h5 _
    exact .inr ⟨_, _, h5, by simp⟩
theorem sized_arg {t e : TypeId} {B : Nat} {a : Option Addr} {len cap : Nat} {H : Type} {e' : TypeId × Value → H} {sp : Nat → Bool} {held : Bool} {d : DataW H} {ps : List MemPlace} {ts : List TypeId} {ds : List (DataW H)} {j : Nat}
    (hz : (DataW.weightsEach P ts ds).all (· ≤ reachBytes) = true) (ht : ts[j]? = some t) (hd : ds[j]? = some d) (hu : P.underlying t = some (.slice e)) (hB : P.bytesOf e = B) (h : DataW.Trod e' P w 0 sp held t (.slice a len cap) d ps) : len * B ≤ 140737488351232 := by
  rcases trod_len hu h with rfl | ⟨elems, spare, rfl, rfl⟩
  · rw [Nat.zero_mul]; exact Nat.zero_le _
  · have h1 := sized_slice hz ht hd hu
    rw [hB] at h1
    have h2 : elems.length * B ≤ (elems.length + spare.length) * B := Nat.mul_le_mul_right _ (Nat.le_add_right _ _)
    have h3 : reachBytes = 140737488351232 := by decide
    omega
end
end Go.HL
set_option linter.unusedVariables false
set_option linter.unusedSimpArgs false
namespace Go.HL
section
variable {P : Program} {L : HList}
theorem run_append_zeros {t t2 ty e : TypeId} {i : TypeInfo} {z : Value} {ik : IntKind} (ht : P.underlying t = some (.slice e)) (h2 : P.underlying t2 = some (.int ik)) (hi : P.info? e = some i) (hz : i.zero = some z) (hs : 0 < i.size) {n : Nat} (h0 : 0 < n) (h63 : (n : Int) ≤ 9223372036854775807) (hb : n * i.bytes ≤ 281474976710656) (w : World) :
    (Builtin.append_ #[t, t2] ty #[.slice none 0 0, .int .i64 (n : Int)]).run P w =
      .ok (.slice (some ⟨w.heap.size, 0, none⟩) n (grownCap w n 0 e)) (w.drew.alloc (.cells (#[] ++ Builtin.zeroCells z.cells n ++ Builtin.zeroCells z.cells (grownCap w n 0 e - n)) e)) := by
  have hw : IntKind.i64.wrap (n : Int) = n := w64_id (by omega) (by omega)
  have h1 : ¬ ((n : Int) < 0) := by omega
  have hbi : ¬ (281474976710656 < (n : Int) * (i.bytes : Int)) := by
    have : ((n * i.bytes : Nat) : Int) ≤ 281474976710656 := by omega
    rw [Int.natCast_mul] at this
    omega
  have hn : n ≠ 0 := by omega
  have hns : n * i.size ≠ 0 := Nat.mul_ne_zero hn (by omega)
  have hns2 : ¬ (n = 0 ∨ i.size = 0) := by omega
  have h48' : ¬ (281474976710656 < Builtin.nextslicecap n 0 * i.bytes) := by rw [nextslicecap_zero h0]; omega
  have h63' : ¬ (9223372036854775807 < (n : Int)) := by omega
  have hs0 : i.size ≠ 0 := by omega
  simp [Builtin.append_, run_underlying ht, run_underlying h2, sizeOf, typeInfo, zeroValue, hi, hz, asInt, asIntOf, hw, h1, hbi, hn, hs0, hns, hns2, h48', h63', Question.forced, run_firstCells_none, newRow, grownCap]
/-- Zeros are appended to what is nil. -/
theorem grow0_of {t t2 ty e : TypeId} {sz bytes : Nat} {z : List Value} {ik : IntKind} (hT : ElemT P t e sz bytes z) (h2 : P.underlying t2 = some (.int ik)) {n : Nat} (h0 : 0 < n) (hb : n * bytes ≤ 140737488355328) {k : RsV [.lf .sl] → HP}
    (hk : ∀ q cap ob, n ≤ cap → Own ⟨some ⟨q, 0, none⟩, 0, cap⟩ sz e [] [(q, ob)] → k (⟨some ⟨q, 0, none⟩, n, cap⟩, ()) ((q, ob) :: L)) :
    smW P (Builtin.append_ #[t, t2] ty #[.slice none 0 0, .int .i64 (n : Int)]) [.lf .sl] k L := by
  obtain ⟨i, hi, his, hib, zv, hz, hzl⟩ := hT.info
  subst his hib
  intro E F w hw
  have hle : n ≤ n * i.bytes := Nat.le_mul_of_pos_right _ hT.bpos
  have hzs : zv.cells.size = i.size := by rw [← hT.zlen, ← hzl]; simp
  have hr := run_append_zeros (ty := ty) hT.und h2 hi hz hT.pos h0 (by omega) (by omega) w
  have hge := grownCap_ge w n 0 e
  refine ⟨_, _, (w.heap.size, Obj.cells (#[] ++ Builtin.zeroCells zv.cells n ++ Builtin.zeroCells zv.cells (grownCap w n 0 e - n)) e) :: L, hr, ?_, (⟨some ⟨w.heap.size, 0, none⟩, n, grownCap w n 0 e⟩, ()), rfl, ?_⟩
  · exact (hw.drew _).push (.cells (#[] ++ Builtin.zeroCells zv.cells n ++ Builtin.zeroCells zv.cells (grownCap w n 0 e - n)) e)
  · refine hk _ _ _ hge ⟨by simp, Nat.zero_le _, .inr ⟨w.heap.size, 0, _, (0, 0), rfl, rfl, ?_, .inl (Nat.le_refl _), fun j u hu => by simp at hu⟩⟩
    simp only [Array.size_append, zeroCells_size, hzs]
    simp only [List.size_toArray, List.length_nil, Nat.zero_add, ← Nat.add_mul]
    rw [show n + (grownCap w n 0 e - n) = grownCap w n 0 e by omega]
    simp
end
end Go.HL
set_option linter.unusedVariables false
set_option linter.unusedSimpArgs false
namespace Go.HL
/-! ### 20. Slim trees -/
/-- Where N' holds, N holds with the variables R and whatever beside it. -/
def Fr (R : HList) (N' N : HP) : Prop := ∀ L L2 J, N' L → L2.Perm (L ++ (R ++ J)) → N L2
def elp (a : Option Addr) (len : Nat) (i : Int) (sz : Nat) (k : Addr → HP) : HP := nilc a fun ad => ixn i len (k (ad.add (i.toNat * sz)))
def w64 (e : Int) (k : Int → HP) : HP := k (IntKind.i64.wrap e)
def apv (P : Program) (t t2 ty e : TypeId) (v : SlV) (n : Nat) (ws : List Value) (k : SlV → HP) : HP := fun L =>
  ∀ m, SemF P (Builtin.append_ #[t, t2] ty #[.slice v.a v.len v.cap, .slice (some ⟨m, 0, none⟩) n n]) (fun r L' => ∃ s L0, r = .slice s.a s.len s.cap ∧ L'.Perm ((m, Obj.cells ws.toArray e) :: L0) ∧ k s L0) ((m, Obj.cells ws.toArray e) :: L)
/-- A row's cells as a shape. -/
def ldX (sh : Sh) (cs : List Value) (off : Nat) : Option (ShV sh) :=
  match sh with
  | .lf l => match cs.drop off with | v :: _ => l.of v | [] => none
  | .agg ls => lfOfs ls ((cs.drop off).take ls.length)
def wrO : List Value → Nat → List Value → Option (List Value)
  | cs, 0, [] => some cs
  | c :: cs, 0, w :: ws => match wrO cs 0 ws with | some r => some (w :: r) | none => none
  | c :: cs, i + 1, ws => match wrO cs i ws with | some r => some (c :: r) | none => none
  | [], _, _ => none
def getO : HList → Nat → Option (Nat × Obj)
  | p :: r, 0 => some p
  | p :: r, i + 1 => getO r i
  | [], _ => none
def setO : HList → Nat → Nat × Obj → Option HList
  | p :: r, 0, x => some (x :: r)
  | p :: r, i + 1, x => match setO r i x with | some r' => some (p :: r') | none => none
  | [], _, _ => none
def delO : HList → Nat → Option HList
  | p :: r, 0 => some r
  | p :: r, i + 1 => match delO r i with | some r' => some (p :: r') | none => none
  | [], _ => none
theorem getO_spec : ∀ {R : HList} {i : Nat} {p : Nat × Obj}, getO R i = some p → ∃ A B, R = A ++ p :: B ∧ (∀ x R', setO R i x = some R' → R' = A ++ x :: B) ∧ (∀ R', delO R i = some R' → R' = A ++ B)
  | p :: r, 0, q, h => by
    simp only [getO, Option.some.injEq] at h; subst h
    exact ⟨[], r, rfl, fun x R' h => by simp only [setO, Option.some.injEq] at h; exact h.symm, fun R' h => by simp only [delO, Option.some.injEq] at h; exact h.symm⟩
  | p :: r, i + 1, q, h => by
    simp only [getO] at h
    obtain ⟨A, B, rfl, h1, h2⟩ := getO_spec h
    refine ⟨p :: A, B, rfl, fun x R' h => ?_, fun R' h => ?_⟩
    · simp only [setO] at h
      split at h
      · rename_i r' hr; obtain rfl := Option.some.inj h; rw [h1 _ _ hr]; rfl
      · cases h
    · simp only [delO] at h
      split at h
      · rename_i r' hr; obtain rfl := Option.some.inj h; rw [h2 _ hr]; rfl
      · cases h
  | [], _, _, h => by simp [getO] at h
theorem lfOfs_len : ∀ {ls : List Lf} {vs : List Value} {x : LfVs ls}, lfOfs ls vs = some x → vs.length = ls.length
  | [], [], _, _ => rfl
  | [], _ :: _, _, h => by cases h
  | _ :: _, [], _, h => by cases h
  | l :: r, v :: vs, x, h => by
    simp only [lfOfs] at h
    split at h
    · rename_i y z hy hz; simp [lfOfs_len hz]
    · cases h
theorem ldX_spec {sh : Sh} {cs : List Value} {off : Nat} {x : ShV sh} (h : ldX sh cs off = some x) : ∀ (i : Nat) (v : Value), (sh.vals x)[i]? = some v → cs[off + i]? = some v := by
  intro i v hv
  cases sh with
  | lf l =>
    simp only [ldX] at h
    split at h
    · rename_i u r hu
      have := Lf.of_spec h
      cases i with
      | zero =>
        have h2 : l.val x = v := by simpa [Sh.vals] using hv
        have h3 : (cs.drop off)[0]? = some u := by rw [hu]; rfl
        rw [List.getElem?_drop] at h3
        rw [h3, ← this, h2]
      | succ i => simp [Sh.vals] at hv
    · cases h
  | agg ls =>
    simp only [ldX] at h
    have h1 := lfOfs_spec h
    have h3 : ((cs.drop off).take ls.length)[i]? = some v := by rw [← h1]; exact hv
    rw [List.getElem?_take] at h3
    split at h3
    · rwa [List.getElem?_drop] at h3
    · cases h3
theorem wrO_spec : ∀ (cs : List Value) (off : Nat) (ws cs' : List Value), wrO cs off ws = some cs' → off + ws.length ≤ cs.length ∧ wr cs.toArray off ws = cs'.toArray
  | cs, 0, [], cs', h => by cases cs <;> simp only [wrO, Option.some.injEq] at h <;> subst h <;> exact ⟨by simp, rfl⟩
  | c :: cs, 0, w :: ws, cs', h => by
    simp only [wrO] at h
    split at h
    · rename_i r hr
      obtain rfl := Option.some.inj h
      obtain ⟨h1, h2⟩ := wrO_spec cs 0 ws r hr
      have hl : (0 : Nat) + (w :: ws).length ≤ (c :: cs).length := by simp only [List.length_cons] at *; omega
      refine ⟨hl, ?_⟩
      apply Array.ext_getElem?
      intro j
      rw [wr_get _ _ _ _ (by simpa using hl)]
      cases j with
      | zero => simp
      | succ j =>
        have h3 := wr_get ws cs.toArray 0 j (by simpa using h1)
        rw [h2] at h3
        simp only [List.getElem?_toArray, List.getElem?_cons_succ, List.length_cons, Nat.zero_add, Nat.sub_zero, Nat.zero_le, true_and] at h3 ⊢
        rw [h3]
        by_cases hj : j < ws.length
        · rw [if_pos hj, if_pos (by omega)]
        · rw [if_neg hj, if_neg (by omega)]
    · cases h
  | c :: cs, i + 1, ws, cs', h => by
    simp only [wrO] at h
    split at h
    · rename_i r hr
      obtain rfl := Option.some.inj h
      obtain ⟨h1, h2⟩ := wrO_spec cs i ws r hr
      have hl : i + 1 + ws.length ≤ (c :: cs).length := by simp only [List.length_cons]; omega
      refine ⟨hl, ?_⟩
      apply Array.ext_getElem?
      intro j
      rw [wr_get _ _ _ _ (by simpa using hl)]
      cases j with
      | zero => simp
      | succ j =>
        have h3 := wr_get ws cs.toArray i j (by simpa using h1)
        rw [h2] at h3
        simp only [List.getElem?_toArray, List.getElem?_cons_succ] at h3 ⊢
        rw [h3]
        by_cases hj : i ≤ j ∧ j < i + ws.length
        · rw [if_pos hj, if_pos (by omega), show j + 1 - (i + 1) = j - i by omega]
        · rw [if_neg hj, if_neg (by omega)]
    · cases h
  | [], 0, w :: ws, _, h => by simp [wrO] at h
  | [], i + 1, ws, _, h => by simp [wrO] at h

theorem mid_swap {A2 B2 L A B J : HList} {x y : Nat × Obj} (hp : (A2 ++ x :: B2).Perm (L ++ (A ++ x :: B ++ J))) : (A2 ++ y :: B2).Perm (L ++ (A ++ y :: B ++ J)) := by
  classical
  rw [List.perm_iff_count]
  intro z
  have := hp.count_eq z
  simp only [List.count_append, List.count_cons] at this ⊢
  omega
theorem mid_mem {L A B J : HList} {x : Nat × Obj} : x ∈ L ++ (A ++ x :: B ++ J) := List.mem_append_right _ (List.mem_append_left _ (List.mem_append_right _ List.mem_cons_self))
theorem Sat.sub {L L2 G : HList} (h : Sat L2) (hp : L2.Perm (L ++ G)) : Sat L := by
  obtain ⟨E, F, w, hw⟩ := h
  exact ⟨E, G ++ F, w, by rw [← List.append_assoc]; exact hw.perm (hp.append_right F)⟩
theorem LdAt.perm {ad : Addr} {vs : List Value} {L L2 G : HList} (h : LdAt ad vs L) (hp : L2.Perm (L ++ G)) : LdAt ad vs L2 := h.mono fun p hq => hp.symm.subset (List.mem_append_left _ hq)
section
variable {P : Program} {R : HList}
theorem fr_run {a b : HP} {L : HList} (h : Fr [] a b) (ha : a L) : b L := h L L [] ha (by simp)
theorem fr_end {K : Value → HP} {v : Value} : Fr R (Ends K v) (Ends K v) := by
  rintro L L2 J ⟨A, B, hp, hK⟩ h2
  exact ⟨A, B ++ (R ++ J), by rw [← List.append_assoc]; exact h2.trans (hp.append_right _), hK⟩
theorem fr_ff {N : HP} : Fr R ff N := fun _ _ _ h => h.elim
theorem fr_nw {o : Obj} {k' k : Nat → HP} (h : ∀ n, Fr R (k' n) (k n)) : Fr R (nw o k') (nw o k) := fun L L2 J hN hp n hs =>
  h n _ _ J (hN n (hs.sub (G := R ++ J) (hp.cons _))) (hp.cons _)
theorem fr_nwL {o : Obj} {k' : HP} {k : Nat → HP} (h : ∀ n, Fr ((n, o) :: R) k' (k n)) : Fr R k' (nw o k) := fun L L2 J hN hp n hs =>
  h n L _ J hN ((hp.cons _).trans List.perm_middle.symm)
theorem fr_ld {ad : Addr} {sh : Sh} {k' k : ShV sh → HP} (h : ∀ x, Fr R (k' x) (k x)) : Fr R (ld ad sh k') (ld ad sh k) := fun L L2 J ⟨x, hx, hk⟩ hp => ⟨x, hx.perm hp, h x _ _ J hk hp⟩
theorem fr_ldI (i off : Nat) {ad : Addr} {sh : Sh} {k' : HP} {k : ShV sh → HP} {n : Nat} {cs : List Value} {T : TypeId} {fz : Nat × Nat} {x : ShV sh} (hi : getO R i = some (n, Obj.cells cs.toArray T fz)) (had : ad = ⟨n, off, none⟩) (hx : ldX sh cs off = some x) (h : Fr R k' (k x)) : Fr R k' (ld ad sh k) := by
  intro L L2 J hk hp
  obtain ⟨A, B, rfl, _⟩ := getO_spec hi
  subst had
  refine ⟨x, ⟨_, T, fz, hp.symm.subset mid_mem, rfl, fun j v hv => ?_⟩, h _ _ J hk hp⟩
  simpa using ldX_spec hx j v hv
theorem fr_st {ad : Addr} {ws : List Value} {k' k : HP} (h : Fr R k' k) : Fr R (st ad ws k') (st ad ws k) := by
  rintro L L2 J ⟨A, B, c, T, fz, rfl, hs, h1, h2, hk⟩ hp
  obtain ⟨A2, B2, rfl⟩ := List.append_of_mem (hp.symm.subset (show (ad.block, Obj.cells c T fz) ∈ (A ++ (ad.block, Obj.cells c T fz) :: B) ++ (R ++ J) by simp))
  refine ⟨A2, B2, c, T, fz, rfl, hs, h1, h2, h _ _ J hk ?_⟩
  have h3 : (A2 ++ B2).Perm (A ++ (B ++ (R ++ J))) := by
    have h4 : ((ad.block, Obj.cells c T fz) :: (A2 ++ B2)).Perm ((ad.block, Obj.cells c T fz) :: (A ++ (B ++ (R ++ J)))) := by
      refine List.perm_middle.symm.trans (hp.trans ?_)
      rw [List.append_assoc, List.cons_append]
      exact List.perm_middle
    exact (List.perm_cons _).1 h4
  refine List.perm_middle.trans (((h3.cons _)).trans ?_)
  rw [List.append_assoc, List.cons_append]
  exact List.perm_middle.symm
theorem fr_stI (i off : Nat) {ad : Addr} {ws cs cs' : List Value} {k' k : HP} {n : Nat} {T : TypeId} {R' : HList} (hi : getO R i = some (n, Obj.cells cs.toArray T (0, 0))) (had : ad = ⟨n, off, none⟩) (hw : wrO cs off ws = some cs') (hs : setO R i (n, Obj.cells cs'.toArray T (0, 0)) = some R') (h : Fr R' k' k) : Fr R k' (st ad ws k) := by
  intro L L2 J hk hp
  obtain ⟨A, B, rfl, hset, _⟩ := getO_spec hi
  obtain rfl := hset _ _ hs
  subst had
  obtain ⟨h1, h2⟩ := wrO_spec _ _ _ _ hw
  obtain ⟨A2, B2, rfl⟩ := List.append_of_mem (hp.symm.subset (mid_mem (L := L)))
  refine ⟨A2, B2, _, T, (0, 0), rfl, rfl, by simpa using h1, fun j hj => by simp, ?_⟩
  simp only [h2]
  exact h _ _ J hk (mid_swap hp)
theorem fr_perm {R' : HList} {a b : HP} (hp : R.Perm R') (h : Fr R' a b) : Fr R a b := fun L L2 J ha h2 => h L L2 J ha (h2.trans ((hp.append_right J).append_left L))
theorem fr_front (i : Nat) {a b : HP} {p : Nat × Obj} {R' : HList} (hi : getO R i = some p) (hd : delO R i = some R') (h : Fr (p :: R') a b) : Fr R a b := by
  obtain ⟨A, B, rfl, _, hdel⟩ := getO_spec hi
  obtain rfl := hdel _ hd
  exact fr_perm List.perm_middle h
theorem fr_wk {R' G : HList} {a b : HP} (h : Fr R' a b) (hR : R = R' ++ G) : Fr R a b := by
  subst hR
  intro L L2 J ha hp
  exact h L L2 (G ++ J) ha (by rw [List.append_assoc] at hp; exact hp)
theorem fr_keepL {ad : Addr} {vs : List Value} {k' k : HP} (h : Fr R k' k) : Fr R (keep (LdAt ad vs) k') (keep (LdAt ad vs) k) := fun L L2 J ⟨h1, h2⟩ hp => ⟨h1.perm hp, h _ _ J h2 hp⟩
theorem RdV.perm {s : Sem Value} {v : Value} {L L2 G : HList} (h : RdV P s v L) (hp : L2.Perm (L ++ G)) : RdV P s v L2 := fun E F w hw => h E (G ++ F) w (by rw [← List.append_assoc]; exact hw.perm (hp.append_right F))
theorem SemF.fr {s : Sem Value} {K : Value → HP} {L L2 G : HList} (h : SemF P s K L) (hp : L2.Perm (L ++ G)) : SemF P s (fun v L' => ∃ L0, L' = L0 ++ G ∧ K v L0) L2 := by
  intro E F w hw
  obtain ⟨v, w', L', h1, h2, h3⟩ := h E (G ++ F) w (by rw [← List.append_assoc]; exact hw.perm (hp.append_right F))
  exact ⟨v, w', L' ++ G, h1, by rw [List.append_assoc]; exact h2, L', rfl, h3⟩
theorem SemF.mono {s : Sem Value} {K K' : Value → HP} {L : HList} (h : SemF P s K L) (hk : ∀ v L', K v L' → K' v L') : SemF P s K' L := by
  intro E F w hw
  obtain ⟨v, w', L', h1, h2, h3⟩ := h E F w hw
  exact ⟨v, w', L', h1, h2, hk _ _ h3⟩
theorem fr_keepR {s : Sem Value} {v : Value} {k' k : HP} (h : Fr R k' k) : Fr R (keep (RdV P s v) k') (keep (RdV P s v) k) := fun L L2 J ⟨h1, h2⟩ hp => ⟨h1.perm hp, h _ _ J h2 hp⟩
theorem fr_keepI (i off : Nat) {ad : Addr} {vs cs : List Value} {k' k : HP} {n : Nat} {T : TypeId} {fz : Nat × Nat} (hi : getO R i = some (n, Obj.cells cs.toArray T fz)) (had : ad = ⟨n, off, none⟩) (hx : (cs.drop off).take vs.length = vs) (h : Fr R k' k) : Fr R k' (keep (LdAt ad vs) k) := by
  intro L L2 J hk hp
  obtain ⟨A, B, rfl, _⟩ := getO_spec hi
  subst had
  exact ⟨ldB (hp.symm.subset mid_mem) (by simpa using hx), h _ _ J hk hp⟩
theorem CallF.fr {f : FuncId} {args : Array Value} {K : Value → HP} {L L2 G : HList} (h : CallF P f args L K) (hp : L2.Perm (L ++ G)) : CallF P f args L2 fun v L' => ∃ L0, L' = L0 ++ G ∧ K v L0 := CallF.perm hp.symm (CallF.frame (R := G) h)
theorem fr_cl {f : FuncId} {args : Array Value} {rs : List Sh} {k' k : RsV rs → HP} (h : ∀ r, Fr R (k' r) (k r)) : Fr R (cl P f args rs k') (cl P f args rs k) := fun L L2 J hc hp =>
  CallF.mono (CallF.fr hc hp) (by rintro v L' - ⟨L0, rfl, r, hr, hk⟩; exact ⟨r, hr, h r _ _ J hk (List.Perm.refl _)⟩)
theorem fr_clv {f : Fn} {args captured : Array Value} {rs : List Sh} {k' k : RsV rs → HP} (h : ∀ r, Fr R (k' r) (k r)) : Fr R (clv P f args captured rs k') (clv P f args captured rs k) := fun L L2 J ⟨g, h1, h2, hc⟩ hp =>
  ⟨g, h1, h2, CallF.mono (CallF.fr hc hp) (by rintro v L' - ⟨L0, rfl, r, hr, hk⟩; exact ⟨r, hr, h r _ _ J hk (List.Perm.refl _)⟩)⟩
theorem fr_ifB {t : Bool} {A' A B' B : HP} (h1 : Fr R A' A) (h2 : Fr R B' B) : Fr R (ifB t A' B') (ifB t A B) := by cases t <;> assumption
theorem fr_ifTrue {A' A B : HP} (h : Fr R A' A) : Fr R A' (ifB true A B) := h
theorem fr_ifFalse {A B' B : HP} (h : Fr R B' B) : Fr R B' (ifB false A B) := h
theorem fr_nilcS {a : Addr} {k' : HP} {k : Addr → HP} (h : Fr R k' (k a)) : Fr R k' (nilc (some a) k) := h
theorem fr_ifNot {t : Bool} {A' A B' B : HP} (h1 : Fr R A' A) (h2 : Fr R B' B) : Fr R (ifB t B' A') (ifB (!t) A B) := by cases t <;> assumption
theorem fr_ifEq {x y : Int} {A' A B' B : HP} (h1 : Fr R A' A) (h2 : Fr R B' B) : Fr R (ifB (decide (x = y)) A' B') (ifB (x == y) A B) := by
  by_cases h : x = y
  · rw [decide_eq_true h, beq_iff_eq.2 h]; exact h1
  · rw [decide_eq_false h, beq_eq_false_iff_ne.2 h]; exact h2
theorem fr_ifNe {x y : Int} {A' A B' B : HP} (h1 : Fr R A' A) (h2 : Fr R B' B) : Fr R (ifB (decide (x = y)) B' A') (ifB (x != y) A B) := by
  by_cases h : x = y
  · rw [decide_eq_true h]; simp only [bne, beq_iff_eq.2 h, Bool.not_true]; exact h2
  · rw [decide_eq_false h]; simp only [bne, beq_eq_false_iff_ne.2 h, Bool.not_false]; exact h1
theorem fr_ifS {x y : ByteArray} {A' A B' B : HP} (h1 : Fr R A' A) (h2 : Fr R B' B) : Fr R (ifB (decide (x = y)) A' B') (ifB (x.toList == y.toList) A B) := by rw [str_beq]; exact fr_ifB h1 h2
theorem fr_ifSn {x y : ByteArray} {A' A B' B : HP} (h1 : Fr R A' A) (h2 : Fr R B' B) : Fr R (ifB (decide (x = y)) B' A') (ifB (!(x.toList == y.toList)) A B) := by rw [str_beq]; exact fr_ifNot h1 h2
theorem fr_nilc {p : Option Addr} {k' k : Addr → HP} (h : ∀ a, Fr R (k' a) (k a)) : Fr R (nilc p k') (nilc p k) := by
  cases p with
  | none => exact fr_ff
  | some a => exact h a
theorem fr_nilcK {p : Option Addr} {k' k : Addr → HP} (h : ∀ a, p = some a → Fr R (k' a) (k a)) : Fr R (nilc p k') (nilc p k) := by
  cases p with
  | none => exact fr_ff
  | some a => exact h a rfl
theorem fr_nilcE {p : Option Addr} {a : Addr} {k' : HP} {k : Addr → HP} (hp : p = some a) (h : Fr R k' (k a)) : Fr R k' (nilc p k) := by subst hp; exact h
theorem fr_req {p : Prop} {k' k : HP} (h : Fr R k' k) : Fr R (req p k') (req p k) := fun L L2 J ⟨h1, h2⟩ hp => ⟨h1, h _ _ J h2 hp⟩
theorem fr_reqT {p : Prop} {k' k : HP} (hq : p) (h : Fr R k' k) : Fr R k' (req p k) := fun L L2 J h2 hp => ⟨hq, h _ _ J h2 hp⟩
theorem fr_ixn {i n : Int} {k' k : HP} (h : Fr R k' k) : Fr R (ixn i n k') (ixn i n k) := fr_req h
theorem fr_elpK {a : Option Addr} {len : Nat} {i : Int} {sz : Nat} {k' : Addr → HP} {k : Addr → HP} (h : ∀ b, (a = some b ∧ 0 ≤ i ∧ i < len) → Fr R (k' (b.add (i.toNat * sz))) (k b)) : Fr R (elp a len i sz k') (nilc a fun b => ixn i len (k b)) := by
  cases a with
  | none => exact fr_ff
  | some b =>
    rintro L L2 J ⟨h1, h2⟩ hp
    exact ⟨h1, h _ ⟨rfl, h1⟩ _ _ J h2 hp⟩
theorem fr_elpE {a : Option Addr} {len : Nat} {i : Int} {b : Addr} {k' : HP} {k : Addr → HP} (he : a = some b ∧ 0 ≤ i ∧ i < len) (h : Fr R k' (k b)) : Fr R k' (nilc a fun b => ixn i len (k b)) := by
  obtain ⟨rfl, h1⟩ := he
  intro L L2 J h2 hp
  exact ⟨h1, h _ _ J h2 hp⟩
theorem fr_slc {v : SlV} {l h' m : Int} {sz : Nat} {k' k : SlV → HP} (h : ∀ s, Fr R (k' s) (k s)) : Fr R (slc v l h' m sz k') (slc v l h' m sz k) := fr_req (h _)
theorem fr_sls {v : ByteArray} {l h' : Int} {k' k : ByteArray → HP} (h : ∀ s, Fr R (k' s) (k s)) : Fr R (sls v l h' k') (sls v l h' k) := fr_req (h _)
theorem fr_w64 {e : Int} {k' : Int → HP} {N : HP} (h : Fr R (k' (IntKind.i64.wrap e)) N) : Fr R (w64 e k') N := h
theorem fr_smP {s : Sem Value} {sh : Sh} {k' k : ShV sh → HP} (h : ∀ r, Fr R (k' r) (k r)) : Fr R (smP P s sh k') (smP P s sh k) := fun L L2 J ⟨r, h1, h2⟩ hp => ⟨r, h1, h r _ _ J h2 hp⟩
theorem fr_smR {s : Sem Value} {sh : List Sh} {k' k : RsV sh → HP} (h : ∀ r, Fr R (k' r) (k r)) : Fr R (smR P s sh k') (smR P s sh k) := fun L L2 J ⟨r, h1, h2⟩ hp => ⟨r, h1.perm hp, h r _ _ J h2 hp⟩
theorem fr_smE {s : Sem Value} {a b : Option Sh} {k' k : OvT a → OvT b → HP} (h : ∀ x y, Fr R (k' x y) (k x y)) : Fr R (smE P s a b k') (smE P s a b k) := fun L L2 J ⟨x, y, h1, h2⟩ hp => ⟨x, y, h1.perm hp, h x y _ _ J h2 hp⟩
theorem fr_smA {s : Sem Value} {sh : Sh} {k' k : ShV sh → HP} (h : ∀ r, Fr R (k' r) (k r)) : Fr R (smA P s sh k') (smA P s sh k) := fun L L2 J ⟨h1, h2⟩ hp =>
  ⟨h1, fun n ob v hg hs => by
    obtain ⟨r, hr, hk⟩ := h2 n ob v hg (hs.sub (G := R ++ J) (hp.cons _))
    exact ⟨r, hr, h r _ _ J hk (hp.cons _)⟩⟩
theorem fr_smW {s : Sem Value} {sh : List Sh} {k' k : RsV sh → HP} (h : ∀ r, Fr R (k' r) (k r)) : Fr R (smW P s sh k') (smW P s sh k) := fun L L2 J hc hp =>
  (SemF.fr hc hp).mono (by rintro v L' ⟨L0, rfl, r, hr, hk⟩; exact ⟨r, hr, h r _ _ J hk (List.Perm.refl _)⟩)
theorem fr_smN {s : Sem Value} {a b : Option Sh} {kE' kE : HP} {k' k : OvT a → OvT b → HP} (h0 : Fr R kE' kE) (h : ∀ x y, Fr R (k' x y) (k x y)) : Fr R (smN P s a b kE' k') (smN P s a b kE k) := fun L L2 J hc hp =>
  (SemF.fr hc hp).mono (by
    rintro v L' ⟨L0, rfl, ⟨hv, hk⟩ | ⟨x, y, hv, hk⟩⟩
    · exact .inl ⟨hv, h0 _ _ J hk (List.Perm.refl _)⟩
    · exact .inr ⟨x, y, hv, h x y _ _ J hk (List.Perm.refl _)⟩)
theorem fr_smU {s : Sem Unit} {k' k : HP} (h : Fr R k' k) : Fr R (smU P s k') (smU P s k) := by
  intro L L2 J hc hp E F w hw
  obtain ⟨w', L', h1, h2, h3⟩ := hc E ((R ++ J) ++ F) w (by rw [← List.append_assoc]; exact hw.perm (hp.append_right F))
  exact ⟨w', L' ++ (R ++ J), h1, by rw [List.append_assoc]; exact h2, h _ _ J h3 (List.Perm.refl _)⟩
theorem fr_apv (i : Nat) {t t2 ty e : TypeId} {v : SlV} {n m : Nat} {ws : List Value} {k' : SlV → HP} {k : RsV [.lf .sl] → HP} (hi : getO R i = some (m, Obj.cells ws.toArray e (0, 0))) (h : ∀ s : SlV, Fr R (k' s) (k (s, ()))) :
    Fr R (apv P t t2 ty e v n ws k') (smW P (Builtin.append_ #[t, t2] ty #[.slice v.a v.len v.cap, .slice (some ⟨m, 0, none⟩) n n]) [.lf .sl] k) := by
  intro L L2 J hc hp
  obtain ⟨A, B, rfl, _⟩ := getO_spec hi
  have hp2 : L2.Perm (((m, Obj.cells ws.toArray e (0, 0)) :: L) ++ (A ++ B ++ J)) := hp.trans (by
    classical
    rw [List.perm_iff_count]
    intro z
    simp only [List.count_append, List.count_cons]
    omega)
  refine (SemF.fr (hc m) hp2).mono ?_
  rintro r L' ⟨L0, rfl, s, L1, rfl, hp3, hk⟩
  refine ⟨(s, ()), rfl, h s L1 _ J hk ?_⟩
  classical
  rw [List.perm_iff_count]
  intro z
  have := hp3.count_eq z
  simp only [List.count_append, List.count_cons] at this ⊢
  omega
theorem fr_lp {sh sh' : List Sh} {x0 : RsV sh} {x0' : RsV sh'} {body : RsV sh → (RsV sh → HP) → HP} {body' : RsV sh' → (RsV sh' → HP) → HP} {C : HList} (M : RsV sh' → HList) (pr : RsV sh' → RsV sh) (hx : pr x0' = x0) (hR : R = M x0' ++ C)
    (h : ∀ (go' : RsV sh' → HP) (go : RsV sh → HP), (∀ x, Fr (M x ++ C) (go' x) (go (pr x))) → ∀ x, Fr (M x ++ C) (body' x go') (body (pr x) go)) : Fr R (lp sh' x0' body') (lp sh x0 body) := by
  rintro L L2 J ⟨I, ⟨k0, hI0⟩, hI⟩ hp
  subst hx hR
  refine ⟨fun k x L2 => ∃ x' L1 J1, pr x' = x ∧ L2.Perm (L1 ++ ((M x' ++ C) ++ J1)) ∧ I k x' L1, ⟨k0, x0', L, J, rfl, hp, hI0⟩, ?_⟩
  rintro k _ L2 ⟨x', L1, J1, rfl, hp1, hI1⟩
  refine h (fun x L'' => ∃ k', k' < k ∧ I k' x L'') _ ?_ x' L1 L2 J1 (hI k x' L1 hI1) hp1
  rintro x L3 L4 J3 ⟨k', hk', h3⟩ hp3
  exact ⟨k', hk', x, L3, J3, rfl, hp3, h3⟩
/-- A loop that changes none of the variables. -/
theorem fr_lp0 {sh : List Sh} {x0 : RsV sh} {body body' : RsV sh → (RsV sh → HP) → HP}
    (h : ∀ (go' go : RsV sh → HP), (∀ x, Fr R (go' x) (go x)) → ∀ x, Fr R (body' x go') (body x go)) : Fr R (lp sh x0 body') (lp sh x0 body) :=
  fr_lp (C := R) (fun _ => []) id rfl rfl h
def dropO : HList → Nat → Option HList
  | R, 0 => some R
  | p :: r, i + 1 => dropO r i
  | [], _ + 1 => none
theorem fr_jn {α α' : Type} {b : α → HP} {b' : α' → HP} {r : (α → HP) → HP} {r' : (α' → HP) → HP} {C : HList} (n : Nat) (M : α' → HList) (pr : α' → α) (hR : dropO R n = some C)
    (hb : ∀ y, Fr (M y ++ C) (b' y) (b (pr y))) (hr : ∀ (j' : α' → HP) (j : α → HP), (∀ y, Fr (M y ++ C) (j' y) (j (pr y))) → Fr R (r' j') (r j)) : Fr R (jn b' r') (jn b r) := hr b' b hb
theorem fr_jn0 {α : Type} {b b' : α → HP} {r r' : (α → HP) → HP}
    (hb : ∀ y, Fr R (b' y) (b y)) (hr : ∀ (j' j : α → HP), (∀ y, Fr R (j' y) (j y)) → Fr R (r' j') (r j)) : Fr R (jn b' r') (jn b r) := hr b' b hb
end
end Go.HL
set_option linter.unusedVariables false
set_option linter.unusedSimpArgs false
namespace Go.HL
section
variable {P : Program} {L A : HList}
theorem w64_of {e : Int} {k : Int → HP} (h : -9223372036854775808 ≤ e ∧ e ≤ 9223372036854775807) (hk : k e L) : w64 e k L := by
  unfold w64; rw [w64_id h.1 h.2]; exact hk
theorem w64_raw {e : Int} {k : Int → HP} (hk : k (IntKind.i64.wrap e) L) : w64 e k L := hk
theorem elp_of {v : SlV} {sz : Nat} {vs : List Value} (h : Sl L v sz vs) (hsz : 0 < sz) {i : Int} {n : Nat} (hi : i = n) (hn : n < v.len) {k : Addr → HP} (hk : ∀ a, LdAt a ((vs.drop (n * sz)).take sz) L → k a L) : elp v.a v.len i sz k L := by
  subst hi
  obtain ⟨a, ha, hl⟩ := h.at' hn hsz
  refine nilc_of ha (ixn_of (by omega) (by omega) (hk _ ?_))
  rw [Int.toNat_natCast]
  refine hl.sub (n * sz) fun j u hu => ?_
  rw [List.getElem?_take] at hu
  split at hu
  · rwa [List.getElem?_drop] at hu
  · cases hu
theorem elp_el {α : Type} {enc : α → List Value} {sz : Nat} (hsz : ∀ x, (enc x).length = sz) (hpos : 0 < sz) {v : SlV} {l : List α} (h : Sl L v sz (l.flatMap enc)) {i : Int} {n : Nat} (hi : i = n) (hn : n < l.length) {k : Addr → HP} (hk : ∀ a, LdAt a (enc l[n]) L → k a L) : elp v.a v.len i sz k L := by
  subst hi
  obtain ⟨a, ha, hl⟩ := h.el hsz hpos hn
  refine nilc_of ha (ixn_of (by omega) (by have := h.els_len hsz hpos; omega) (hk _ ?_))
  rw [Int.toNat_natCast]; exact hl
theorem elp_b {v : SlV} {l : List UInt8} (h : BSl L v l) {i : Int} {n : Nat} (hi : i = n) (hn : n < l.length) {k : Addr → HP} (hk : ∀ a, LdAt a [.int .u8 (l[n].toNat : Int)] L → k a L) : elp v.a v.len i 1 k L := by
  subst hi
  obtain ⟨a, ha⟩ := h.some hn
  refine nilc_of ha (ixn_of (by omega) (by have := h.len; omega) (hk _ (h.rd hn ha _ (by rw [Int.toNat_natCast]))))
theorem elp_i {v : SlV} {ik : IntKind} {l : List Int} (h : ISl L v ik l) {i : Int} {n : Nat} (hi : i = n) (hn : n < l.length) {k : Addr → HP} (hk : ∀ a, LdAt a [.int ik l[n]] L → k a L) : elp v.a v.len i 1 k L := by
  subst hi
  obtain ⟨a, ha⟩ := h.some hn
  refine nilc_of ha (ixn_of (by omega) (by have := h.len; omega) (hk _ (h.rd hn ha _ (by rw [Int.toNat_natCast]))))
theorem elp_1 {v : SlV} {vs : List Value} (h : Sl L v 1 vs) {i : Int} {n : Nat} (hi : i = n) (hn : n < vs.length) {k : Addr → HP} (hk : ∀ a, LdAt a [vs[n]] L → k a L) : elp v.a v.len i 1 k L := by
  have hl := h.len
  refine elp_of h (by decide) hi (by omega) fun a ha => hk a ?_
  have e : (vs.drop (n * 1)).take 1 = [vs[n]] := by rw [Nat.mul_one, List.drop_eq_getElem_cons hn]; rfl
  rw [← e]; exact ha
theorem slc_sl {v : SlV} {sz : Nat} {vs : List Value} (h : Sl A v sz vs) (hsz : 0 < sz) {i j m : Int} {i' j' m' : Nat} (hi : i = i') (hj : j = j') (hm : m = m') (h1 : i' ≤ j') (h2 : j' ≤ v.len) (h3 : j' ≤ m') (h4 : m' ≤ v.cap) {k : SlV → HP}
    (hk : ∀ s : SlV, s.len = j' - i' → s.cap = m' - i' → Sl A s sz ((vs.drop (i' * sz)).take ((j' - i') * sz)) → k s L) : slc v i j m sz k L :=
  slc_of hi hj hm h1 h3 h4 (hk _ (by simp [slcV]) (by simp [slcV]) (Sl.slc h hsz h1 h2 h3))
theorem slc_b {v : SlV} {l : List UInt8} (h : BSl A v l) {i j m : Int} {i' j' m' : Nat} (hi : i = i') (hj : j = j') (hm : m = m') (h1 : i' ≤ j') (h2 : j' ≤ l.length) (h3 : j' ≤ m') (h4 : m' ≤ v.cap) {k : SlV → HP}
    (hk : ∀ s : SlV, s.len = j' - i' → s.cap = m' - i' → BSl A s ((l.drop i').take (j' - i')) → k s L) : slc v i j m 1 k L :=
  slc_sl h (by decide) hi hj hm h1 (by rw [h.len]; exact h2) h3 h4 fun s a b c => hk s a b (by rw [bvs_slc] at c; exact c)
theorem slc_el {α : Type} {enc : α → List Value} {sz : Nat} (hsz : ∀ x, (enc x).length = sz) (hpos : 0 < sz) {v : SlV} {l : List α} (h : Sl A v sz (l.flatMap enc)) {i j m : Int} {i' j' m' : Nat} (hi : i = i') (hj : j = j') (hm : m = m') (h1 : i' ≤ j') (h2 : j' ≤ l.length) (h3 : j' ≤ m') (h4 : m' ≤ v.cap) {k : SlV → HP}
    (hk : ∀ s : SlV, s.len = j' - i' → s.cap = m' - i' → Sl A s sz (((l.drop i').take (j' - i')).flatMap enc) → k s L) : slc v i j m sz k L :=
  slc_sl h hpos hi hj hm h1 (by rw [h.els_len hsz hpos]; exact h2) h3 h4 fun s a b c => hk s a b (by rw [flat_slc hsz] at c; exact c)
theorem apv_in {t t2 ty e : TypeId} {sz bytes : Nat} {z : List Value} (hT : ElemT P t e sz bytes z) (h2 : SrcT P t2) {v : SlV} {vs ws : List Value} {n : Nat} {seg : HList} (X Y : HList) (own : Own v sz e vs seg) (hL : L = X ++ seg ++ Y) (hn : n * sz = ws.length) (hws : ws.all plainV = true)
    (hb : (v.len + n) * bytes ≤ 140737488355328) {k : SlV → HP} (hk : ∀ v' seg', v'.len = v.len + n → Own v' sz e (vs ++ ws) seg' → k v' (X ++ seg' ++ Y)) : apv P t t2 ty e v n ws k L := by
  subst hL
  intro m
  refine SemF.mono (append_in hT h2 ((m, Obj.cells ws.toArray e) :: X) Y own (by simp) (n := n) (ws := ws) (Src.sl (v := ⟨some ⟨m, 0, none⟩, n, n⟩) ⟨hn, Nat.le_refl _, .inr ⟨_, rfl, ldB List.mem_cons_self (by simp)⟩⟩) hws hb (k := fun r L' => ∃ L0, L' = (m, Obj.cells ws.toArray e) :: L0 ∧ k r.1 L0) fun v' seg' h1 h2 => ⟨_, rfl, hk v' seg' h1 h2⟩) ?_
  rintro r L' ⟨x, rfl, L0, rfl, hk0⟩
  exact ⟨x.1, L0, rfl, List.Perm.refl _, hk0⟩
/-! ### orders of pieces -/
open Classical in
noncomputable def cnt (L : HList) (z : Nat × Obj) : Nat := L.count z
open Classical in
noncomputable def cn1 (p z : Nat × Obj) : Nat := if p == z then 1 else 0
open Classical in
theorem cnt_a (X Y : HList) (z : Nat × Obj) : cnt (X ++ Y) z = cnt X z + cnt Y z := by unfold cnt; exact List.count_append
open Classical in
theorem cnt_c (p : Nat × Obj) (Y : HList) (z : Nat × Obj) : cnt (p :: Y) z = cnt Y z + cn1 p z := by unfold cnt cn1; exact List.count_cons
open Classical in
theorem cnt_n (z : Nat × Obj) : cnt [] z = 0 := by unfold cnt; exact List.count_nil
theorem pc {X Y : HList} (h : ∀ z, cnt X z = cnt Y z) : X.Perm Y := by
  classical
  rw [List.perm_iff_count]
  intro z
  have := h z
  unfold cnt at this
  exact this
open Classical in
theorem pcn {X Y : HList} (h : X.Perm Y) (z : Nat × Obj) : cnt X z = cnt Y z := by
  unfold cnt
  exact h.count_eq z
theorem psub {X Y : HList} (h : L.Perm (X ++ (A ++ Y))) : ∀ p ∈ A, p ∈ L := fun p hp => h.symm.subset (by simp [hp])
theorem psub0 {Y : HList} (h : L.Perm (A ++ Y)) : ∀ p ∈ A, p ∈ L := fun p hp => h.symm.subset (by simp [hp])
theorem apv_pm {t t2 ty e : TypeId} {sz bytes : Nat} {z : List Value} (hT : ElemT P t e sz bytes z) (h2 : SrcT P t2) {v : SlV} {vs ws : List Value} {n : Nat} {seg Y : HList} (own : Own v sz e vs seg) (hL : L.Perm (seg ++ Y)) (hn : n * sz = ws.length) (hws : ws.all plainV = true)
    (hb : (v.len + n) * bytes ≤ 140737488355328) {k : SlV → HP} (hk : ∀ v' seg', v'.len = v.len + n → Own v' sz e (vs ++ ws) seg' → k v' (seg' ++ Y)) : apv P t t2 ty e v n ws k L := fun m =>
  SemF.permL (hL.cons _) (apv_in hT h2 [] Y own rfl hn hws hb hk m)
theorem app_pm {t t2 ty e : TypeId} {sz bytes : Nat} {z : List Value} (hT : ElemT P t e sz bytes z) (h2 : SrcT P t2) {v : SlV} {vs ws : List Value} {x : Value} {n : Nat} {seg Y : HList} (own : Own v sz e vs seg) (hL : L.Perm (seg ++ Y)) (src : Src L x sz n ws) (hws : ws.all plainV = true)
    (hb : (v.len + n) * bytes ≤ 140737488355328) {k : RsV [.lf .sl] → HP} (hk : ∀ v' seg', v'.len = v.len + n → Own v' sz e (vs ++ ws) seg' → k (v', ()) (seg' ++ Y)) : smW P (Builtin.append_ #[t, t2] ty #[.slice v.a v.len v.cap, x]) [.lf .sl] k L := by
  refine SemF.permL hL (append_in hT h2 [] Y own rfl (n := n) (ws := ws) ?_ hws hb hk)
  cases src with
  | sl h => exact .sl (h.mono fun p hq => hL.subset hq)
  | str s => exact .str s
theorem st_pm {ad : Addr} {ws : List Value} {k : HP} {n off : Nat} {c : Array Value} {T : TypeId} {fz : Nat × Nat} {Y : HList} (hL : L.Perm ((n, Obj.cells c T fz) :: Y)) (had : ad = ⟨n, off, none⟩) (hsz : off + ws.length ≤ c.size)
    (hfz : fz.2 ≤ fz.1 ∨ c.size ≤ fz.1) (c' : Array Value) (hc : wr c off ws = c') (hk : ∀ L', L'.Perm ((n, Obj.cells c' T fz) :: Y) → k L') : st ad ws k L := by
  obtain ⟨A2, B2, rfl⟩ := List.append_of_mem (hL.symm.subset (List.mem_cons_self))
  exact st_of A2 B2 had rfl hsz hfz c' hc (hk _ (List.perm_middle.trans (((List.perm_cons _).1 (List.perm_middle.symm.trans hL)).cons _)))
theorem cl_p {f : FuncId} {args : Array Value} {rs : List Sh} {k : RsV rs → HP} {K : Value → HP} (h : CallF P f args A K) (hp : L.Perm A) (hk : ∀ v L', K v L' → ∃ r, v = rsVal rs r ∧ k r L') : cl P f args rs k L :=
  cl_of (CallF.perm hp.symm h) fun v L' _ hK => hk v L' hK
theorem ends_p {K : Value → HP} {v : Value} {J : HList} (h : K v A) (hp : L.Perm (A ++ J)) : Ends K v L := ⟨A, J, hp, h⟩
theorem wf_mk {n : Int} (h : -9223372036854775808 ≤ n ∧ n ≤ 9223372036854775807) : intWf .i64 n := by
  show (Lit.int .i64 n).wf = true
  simp only [Lit.wf, Bool.and_eq_true, decide_eq_true_eq]
  exact h
theorem LdAt.hd {ad : Addr} {v : Value} {vs : List Value} (h : LdAt ad (v :: vs) L) : LdAt ad [v] L := h.pre fun i u hu => by
  cases i with
  | zero => exact hu
  | succ i => simp at hu
theorem mem_r {X : HList} : ∀ p ∈ A, p ∈ X ++ A := fun _ h => List.mem_append_right _ h
theorem mem_l {X : HList} : ∀ p ∈ A, p ∈ A ++ X := fun _ h => List.mem_append_left _ h
theorem ifb_of {p : Prop} [Decidable p] {A B : HP} (h1 : p → A L) (h2 : ¬ p → B L) : ifB (decide p) A B L := ifD_of h1 h2
end
end Go.HL
