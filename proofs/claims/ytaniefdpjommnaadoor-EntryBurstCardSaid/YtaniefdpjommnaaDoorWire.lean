/-
  It is proved what the functions of the layer wire and of its document's answer compute: numbers as bytes. There are no further conditions than those that each theorem names.
-/
import Derived.Test.YtaniefdpjommnaaDoorHL19
import Derived.Test.YtaniefdpjommnaaDoorT
set_option linter.unusedVariables false
set_option linter.unusedSimpArgs false
namespace Go.Proofs.YtaniefdpjommnaaDoor
open Go.HL

abbrev tB : TypeId := 22
abbrev eB : TypeId := 5
theorem undB : PP.underlying tB = some (.slice eB) := by kernel_rfl
theorem elemB : ElemT PP tB eB 1 1 [.int .u8 0] := elemT_of (by kernel_rfl) (by kernel_rfl) rfl (by decide) (by decide)
theorem srcB : SrcT PP tB := .inl ⟨eB, by kernel_rfl⟩
theorem srcS : SrcT PP 9 := .inr (by kernel_rfl)
theorem constB {L : HList} {b : Nat} {l : List UInt8} {T : TypeId} {fz : Nat × Nat} (cap : Nat) (hc : l.length ≤ cap) (hm : (b, Obj.cells (bvs l).toArray T fz) ∈ L) : BSl L ⟨some ⟨b, 0, none⟩, l.length, cap⟩ l :=
  ⟨by rw [bvs_length]; simp, hc, .inr ⟨_, rfl, .blk hm fun i v hv => by simpa using hv⟩⟩
theorem own_empty {n : Nat} {e : TypeId} : Own ⟨some ⟨n, 0, none⟩, 0, 0⟩ 1 e [] [(n, Obj.cells #[] e)] := ⟨rfl, Nat.le_refl _, .inr ⟨n, 0, #[], (0, 0), rfl, rfl, by simp, .inl (Nat.le_refl _), fun i u hu => by simp at hu⟩⟩
theorem own_nil {sz : Nat} {e : TypeId} : Own ⟨none, 0, 0⟩ sz e [] [] := ⟨by simp, Nat.le_refl _, .inl ⟨rfl, rfl, rfl⟩⟩

/-! ### a number's bytes -/
def dig (n i : Nat) : UInt8 := UInt8.ofNat (n / 256 ^ i)
def digs (n w : Nat) : List UInt8 := (List.range w).map (dig n)
theorem digs_len (n w : Nat) : (digs n w).length = w := by simp [digs]
theorem digs_succ (n w : Nat) : digs n (w + 1) = digs n w ++ [dig n w] := by simp [digs, List.range_succ]
theorem digs_cons (n w : Nat) : digs n (w + 1) = UInt8.ofNat n :: digs (n / 256) w := by
  induction w with
  | zero => simp [digs, dig]
  | succ w ih =>
    rw [digs_succ n (w + 1), ih, digs_succ (n / 256) w]
    have : dig n (w + 1) = dig (n / 256) w := by
      unfold dig
      rw [Nat.pow_succ, Nat.mul_comm, Nat.div_div_eq_div_mul]
    rw [this]; rfl
/-- A list's number, the lowest byte first. -/
def num : List UInt8 → Nat
  | [] => 0
  | x :: r => x.toNat + 256 * num r
theorem num_lt : ∀ l : List UInt8, num l < 256 ^ l.length
  | [] => by simp [num]
  | x :: r => by
    have h1 := num_lt r
    have h2 := x.toNat_lt
    rw [List.length_cons, Nat.pow_succ]
    simp only [num]
    omega
theorem num_snoc (l : List UInt8) (x : UInt8) : num (l ++ [x]) = num l + 256 ^ l.length * x.toNat := by
  induction l with
  | nil => simp [num]
  | cons y r ih =>
    rw [List.cons_append]
    simp only [num, ih, List.length_cons, Nat.pow_succ]
    rw [Nat.mul_add, ← Nat.add_assoc, Nat.mul_comm (256 ^ r.length) 256, Nat.mul_assoc]
theorem num_digs (w : Nat) : ∀ n, n < 256 ^ w → num (digs n w) = n := by
  induction w with
  | zero => intro n h; simp at h; subst h; rfl
  | succ w ih =>
    intro n h
    rw [digs_cons]
    simp only [num]
    rw [ih (n / 256) (by rw [Nat.pow_succ] at h; omega)]
    have : (UInt8.ofNat n).toNat = n % 256 := by simp
    rw [this]
    exact Nat.mod_add_div n 256

/-- What is put. -/
def wput (b : List UInt8) (n w : Int) : List UInt8 × Int :=
  if w < 1 ∨ 7 < w then ([], 2) else if n < 0 ∨ ((256 ^ w.toNat : Nat) : Int) ≤ n then ([], 3) else (b ++ digs n.toNat w.toNat, 0)
theorem wput_w {b : List UInt8} {n w : Int} (h : w < 1 ∨ 7 < w) : wput b n w = ([], 2) := by unfold wput; rw [if_pos h]
theorem wput_neg {b : List UInt8} {n w : Int} (h : ¬ (w < 1 ∨ 7 < w)) (h2 : n < 0) : wput b n w = ([], 3) := by unfold wput; rw [if_neg h, if_pos (Or.inl h2)]
theorem wput_big {b : List UInt8} {n w : Int} (h : ¬ (w < 1 ∨ 7 < w)) (h2 : ((256 ^ w.toNat : Nat) : Int) ≤ n) : wput b n w = ([], 3) := by unfold wput; rw [if_neg h, if_pos (Or.inr h2)]
theorem wput_ok {b : List UInt8} {n w : Int} (h : ¬ (w < 1 ∨ 7 < w)) (h1 : ¬ n < 0) (h2 : n.toNat < 256 ^ w.toNat) : wput b n w = (b ++ digs n.toNat w.toNat, 0) := by
  unfold wput
  rw [if_neg h, if_neg]
  rintro (h3 | h3)
  · exact h1 h3
  · generalize 256 ^ w.toNat = q at h2 h3
    omega
def PutK (b : List UInt8) (n w : Int) (A : HList) (v : Value) (L' : HList) : Prop := ∃ (s : SlV) (seg : HList), v = .tuple #[.slice s.a s.len s.cap, .int .i64 (wput b n w).2] ∧ L' = seg ++ A ∧ Own s 1 eB (bvs (wput b n w).1) seg
theorem PutK.err {b : List UInt8} {n w : Int} {A : HList} {e : Int} (h : wput b n w = ([], e)) : PutK b n w A (.tuple #[.slice none 0 0, .int .i64 e]) A :=
  ⟨⟨none, 0, 0⟩, [], by rw [h], rfl, by rw [h]; exact own_nil⟩

theorem shr_dig (n : Nat) (i : Nat) : Int.fdiv (n : Int) (2 ^ (8 * i)) = ((n / 256 ^ i : Nat) : Int) := by
  rw [Int.fdiv_eq_ediv_of_nonneg _ (Int.le_of_lt (Int.pow_pos (by omega)))]
  have : (2 : Int) ^ (8 * i) = ((256 ^ i : Nat) : Int) := by rw [Int.pow_mul, Int.natCast_pow]; rfl
  rw [this, Int.natCast_ediv]
theorem wrap_dig (n i : Nat) : IntKind.u8.wrap ((n / 256 ^ i : Nat) : Int) = ((dig n i).toNat : Int) := by
  rw [w8_bv, BitVec.toNat_ofInt]
  unfold dig
  have : (UInt8.ofNat (n / 256 ^ i)).toNat = n / 256 ^ i % 256 := by simp
  rw [this]
  omega
theorem digs8 (n : Nat) : digs n 8 = [dig n 0, dig n 1, dig n 2, dig n 3, dig n 4, dig n 5, dig n 6, dig n 7] := rfl
theorem wr8 (c : Array Value) (hc : c.size = 8) (a b c' d e f g h : UInt8) : wr c 0 [.int .u8 a.toNat, .int .u8 b.toNat, .int .u8 c'.toNat, .int .u8 d.toNat, .int .u8 e.toNat, .int .u8 f.toNat, .int .u8 g.toNat, .int .u8 h.toNat] = (bvs [a, b, c', d, e, f, g, h]).toArray := wr_all _ _ (by rw [hc]; rfl)
theorem agg8 (a b c d e f g h : UInt8) : (bvs [a, b, c, d, e, f, g, h]).toArray = #[.int .u8 a.toNat, .int .u8 b.toNat, .int .u8 c.toNat, .int .u8 d.toNat, .int .u8 e.toNat, .int .u8 f.toNat, .int .u8 g.toNat, .int .u8 h.toNat] := rfl
def digA (n k : Nat) : Array Value := ((List.range 8).map fun j => Value.int .u8 (if j < k then (dig n j).toNat else 0)).toArray
theorem of_rd (L : HList) (n : Nat) : Reads PP 39 #[.int .i64 n] L (.agg (bvs (digs n 8)).toArray) := by
  refine Reads.of (args := [.int .i64 n]) noNum mixed Tryd.func39 (e39 n _) ?_
  unfold t39
  refine nw_of fun n1 _ => nw_of fun n2 _ => ?_
  refine lp_of (fun k z L' => ∃ i, i ≤ 8 ∧ k = 8 - i ∧ z = ((i : Int), ()) ∧ L' = (n2, Obj.cells (digA n i) 72) :: (n1, Obj.cells #[.int .u8 0, .int .u8 0, .int .u8 0, .int .u8 0, .int .u8 0, .int .u8 0, .int .u8 0, .int .u8 0] 72) :: L) 8 ⟨0, by omega, by omega, rfl, rfl⟩ ?_
  rintro k z L' ⟨i, hi, rfl, rfl, rfl⟩
  refine ifD_of (fun (hlt : (i : Int) < 8) => ?_) (fun (hge : ¬ (i : Int) < 8) => ?_)
  · have hw : IntKind.i64.wrap (8 * (i : Int)) = ((8 * i : Nat) : Int) := by rw [w64_id (by omega) (by omega)]; omega
    have hm : min (8 * i) IntKind.i64.bits = 8 * i := Nat.min_eq_left (show 8 * i ≤ 64 by omega)
    simp only [hw, Int.toNat_natCast, hm, shr_dig, wrap_dig, Nat.mul_one]
    refine req_of (by omega) (ixn_of (by omega) hlt (st_of (n := n2) (off := i) [] _ (by rw [addr_add (ad := ⟨n2, 0, none⟩) rfl, Nat.zero_add]) rfl ?_ (.inl (Nat.le_refl _)) (digA n (i + 1)) ?_ ?_))
    · have : (digA n i).size = 8 := by simp [digA]
      rw [this]; simp only [List.length_cons, List.length_nil]; omega
    · rcases (show i = 0 ∨ i = 1 ∨ i = 2 ∨ i = 3 ∨ i = 4 ∨ i = 5 ∨ i = 6 ∨ i = 7 by omega) with rfl | rfl | rfl | rfl | rfl | rfl | rfl | rfl <;> rfl
    · refine ⟨8 - (i + 1), by omega, i + 1, by omega, rfl, ?_, rfl⟩
      rw [w64_id (by first | omega | (simp only; omega)) (by first | omega | (simp only; omega))]
      rfl
  · obtain rfl : i = 8 := by omega
    refine ld_of ((dig n 0).toNat, (dig n 1).toNat, (dig n 2).toNat, (dig n 3).toNat, (dig n 4).toNat, (dig n 5).toNat, (dig n 6).toNat, (dig n 7).toNat, ()) (ldB List.mem_cons_self rfl) ?_
    rw [digs8]
    refine st_of [(n2, Obj.cells (digA n 8) 72)] L rfl rfl (by simp) (.inl (Nat.le_refl _)) _ (wr8 _ rfl _ _ _ _ _ _ _ _) ?_
    refine ld_of ((dig n 0).toNat, (dig n 1).toNat, (dig n 2).toNat, (dig n 3).toNat, (dig n 4).toNat, (dig n 5).toNat, (dig n 6).toNat, (dig n 7).toNat, ()) (ldB (List.mem_cons_of_mem _ List.mem_cons_self) rfl) ?_
    exact .drop (A := L) (J := [_, _]) ⟨rfl, rfl⟩ (List.perm_append_comm (l₁ := [_, _]))
theorem pow_bits (w : Nat) : ((2 : Int) ^ (8 * w)) = ((256 ^ w : Nat) : Int) := by rw [Int.pow_mul, Int.natCast_pow]; rfl
theorem pow_le7 {w : Nat} (h : w ≤ 7) : 256 ^ w ≤ 72057594037927936 := Nat.pow_le_pow_right (n := 256) (by omega) h
theorem wput_cl (A : HList) (v : SlV) (b : List UInt8) (hb : BSl A v b) (hl : b.length ≤ 1000000) (n w : Int) (hn : n ≤ 9223372036854775807) :
    CallF PP 24 #[.slice v.a v.len v.cap, .int .i64 n, .int .i64 w] A (PutK b n w A) := by
  refine CallF.of (args := [.slice v.a v.len v.cap, .int .i64 n, .int .i64 w]) noNum mixed Tryd.func24 (e24 v n w _) ?_
  unfold t24
  have hlen := hb.len
  refine ifD_of (fun (h1 : w < 1) => .of (.err (wput_w (by omega)))) (fun (h1 : ¬ w < 1) => ?_)
  refine ifD_of (fun (h2 : w > 7) => .of (.err (wput_w (by omega)))) (fun (h2 : ¬ w > 7) => ?_)
  refine ifD_of (fun (h3 : n < 0) => .of (.err (wput_neg (by omega) h3))) (fun (h3 : ¬ n < 0) => ?_)
  obtain ⟨m, rfl⟩ : ∃ m : Nat, n = m := ⟨n.toNat, by omega⟩
  obtain ⟨u, rfl⟩ : ∃ u : Nat, w = u := ⟨w.toNat, by omega⟩
  have hp7 := pow_le7 (w := u) (by omega)
  have hw : IntKind.i64.wrap (8 * (u : Int)) = ((8 * u : Nat) : Int) := by rw [w64_id (by omega) (by omega)]; omega
  have hm : min (8 * u) IntKind.i64.bits = 8 * u := Nat.min_eq_left (show 8 * u ≤ 64 by omega)
  simp only [hw, Int.toNat_natCast, hm, shr_dig]
  refine req_of (by omega) (ifNe_of (fun (h4 : ((m / 256 ^ u : Nat) : Int) ≠ 0) => .of (.err ?_)) (fun (h4 : ((m / 256 ^ u : Nat) : Int) = 0) => ?_))
  · refine wput_big (by omega) ?_
    rw [Int.toNat_natCast]
    have : 256 ^ u ≤ m := by
      refine Nat.le_of_not_lt fun hlt => h4 ?_
      simp [Nat.div_eq_of_lt hlt]
    generalize 256 ^ u = q at this
    omega
  · have hlt : m < 256 ^ u := by
      refine Nat.lt_of_not_le fun hle => ?_
      have := Nat.div_pos hle (Nat.pow_pos (by omega))
      omega
    have hput : wput b m u = (b ++ digs m u, 0) := by
      have := wput_ok (b := b) (n := m) (w := u) (by omega) (by omega) (by simpa using hlt)
      simpa using this
    refine cl_rd (of_rd A m) (((dig m 0).toNat, (dig m 1).toNat, (dig m 2).toNat, (dig m 3).toNat, (dig m 4).toNat, (dig m 5).toNat, (dig m 6).toNat, (dig m 7).toNat, ()), ()) rfl ?_
    refine nw_of fun n1 _ => st_of [] A rfl rfl (by simp) (.inl (Nat.le_refl _)) (bvs (digs m 8)).toArray (by rw [digs8]; exact wr8 _ rfl _ _ _ _ _ _ _ _) ?_
    have hc : IntKind.i64.wrap ((v.len : Int) + (u : Int)) = ((v.len + u : Nat) : Int) := by rw [w64_id (by omega) (by omega)]; omega
    rw [hc]
    refine make_of (l := 0) (c := v.len + u) elemB (by omega) (by omega) fun n2 ob own0 _ _ => ?_
    have z0 : zeros [Value.int .u8 0] 0 = [] := rfl
    rw [z0] at own0
    refine append_in elemB srcB [] ([(n1, Obj.cells (bvs (digs m 8)).toArray 72)] ++ A) own0 (by simp) (.sl (hb.mono fun p hp => by simp [hp])) (bvs_plain _) (by simp only; omega) fun s1 seg1 hs1 own1 => ?_
    simp only at hs1
    refine slc_of (l' := 0) (h' := u) (m' := 8) rfl rfl rfl (by omega) (by omega) (Nat.le_refl _) ?_
    have hd : BSl ([] ++ seg1 ++ ([(n1, Obj.cells (bvs (digs m 8)).toArray 72)] ++ A)) ⟨some ⟨n1, 0, none⟩, 8, 8⟩ (digs m 8) := constB (l := digs m 8) (T := 72) (fz := (0, 0)) 8 (by rw [digs_len]; exact Nat.le_refl _) (by simp)
    have hd2 := Sl.slc (l := 0) (h' := u) (m := 8) hd (by omega) (by omega) (by simp only; omega) (by omega)
    rw [bvs_slc] at hd2
    have e1 : ((digs m 8).drop 0).take (u - 0) = digs m u := by
      rcases (show u = 1 ∨ u = 2 ∨ u = 3 ∨ u = 4 ∨ u = 5 ∨ u = 6 ∨ u = 7 by omega) with rfl | rfl | rfl | rfl | rfl | rfl | rfl <;> rfl
    rw [e1] at hd2
    refine append_in elemB srcB [] ([(n1, Obj.cells (bvs (digs m 8)).toArray 72)] ++ A) own1 rfl (.sl hd2) (bvs_plain _) (by simp only [slcV, Int.toNat_natCast]; omega) fun s2 seg2 hs2 own2 => ?_
    rw [List.nil_append, ← bvs_append] at own2
    refine .drop (A := seg2 ++ A) (J := [(n1, Obj.cells (bvs (digs m 8)).toArray 72)]) ⟨s2, seg2, by rw [hput], rfl, by rw [hput]; exact own2⟩ ?_
    have h1 : ([(n1, Obj.cells (bvs (digs m 8)).toArray 72)] ++ A).Perm (A ++ [(n1, Obj.cells (bvs (digs m 8)).toArray 72)]) := List.perm_append_comm
    simpa [List.append_assoc] using List.Perm.append_left seg2 h1
theorem tdiv_step (n i : Nat) : Int.tdiv ((n / 256 ^ i : Nat) : Int) 256 = ((n / 256 ^ (i + 1) : Nat) : Int) := by
  rw [Int.tdiv_eq_ediv_of_nonneg (Int.natCast_nonneg _), Nat.pow_succ, ← Nat.div_div_eq_div_mul]
  omega
theorem tmod_dig (n i : Nat) : IntKind.u8.wrap (Int.tmod ((n / 256 ^ i : Nat) : Int) 256) = ((dig n i).toNat : Int) := by
  rw [Int.tmod_eq_emod_of_nonneg (Int.natCast_nonneg _), w8_bv, BitVec.toNat_ofInt]
  unfold dig
  have : (UInt8.ofNat (n / 256 ^ i)).toNat = n / 256 ^ i % 256 := by simp
  rw [this]
  omega
theorem tmod_any (x : Int) : ∃ d : UInt8, IntKind.u8.wrap x = (d.toNat : Int) := by
  refine ⟨UInt8.ofNat (BitVec.ofInt 8 x).toNat, ?_⟩
  rw [w8_bv]
  have h := (BitVec.ofInt 8 x).isLt
  have : (UInt8.ofNat (BitVec.ofInt 8 x).toNat).toNat = (BitVec.ofInt 8 x).toNat % 256 := by simp
  rw [this]
  omega
theorem rput_cl (A : HList) (v : SlV) (b : List UInt8) (hb : BSl A v b) (hl : b.length ≤ 1000000) (n w : Int) (hn : n ≤ 9223372036854775807) (hn0 : -9223372036854775808 ≤ n) :
    CallF PP 27 #[.slice v.a v.len v.cap, .int .i64 n, .int .i64 w] A (PutK b n w A) := by
  refine CallF.of (args := [.slice v.a v.len v.cap, .int .i64 n, .int .i64 w]) noNum mixed Tryd.func27 (e27 v n w _) ?_
  unfold t27
  have hlen := hb.len
  refine ifD_of (fun (h1 : w < 1) => .of (.err (wput_w (by omega)))) (fun (h1 : ¬ w < 1) => ?_)
  refine ifD_of (fun (h2 : w > 7) => .of (.err (wput_w (by omega)))) (fun (h2 : ¬ w > 7) => ?_)
  obtain ⟨u, rfl⟩ : ∃ u : Nat, w = u := ⟨w.toNat, by omega⟩
  refine nw_of fun q _ => append_in elemB srcB [] A own_empty (by simp) (.sl hb.cons) (bvs_plain _) (by simp only; omega) fun s0 seg0 hs0 own0 => ?_
  simp only at hs0
  refine lp_of (fun k z L' => ∃ (i : Nat) (s : SlV) (left : Int) (bs : List UInt8) (seg J : HList), i ≤ u ∧ k = u - i ∧ z = (s, left, (i : Int), ()) ∧ L' = J ++ seg ++ A ∧ bs.length = i ∧ Own s 1 eB (bvs (b ++ bs)) seg ∧ -9223372036854775808 ≤ left ∧ left ≤ 9223372036854775807 ∧
      (0 ≤ n → bs = digs n.toNat i ∧ left = ((n.toNat / 256 ^ i : Nat) : Int))) u
    ⟨0, s0, n, [], seg0, [], by omega, by omega, rfl, by simp, rfl, by simpa using own0, hn0, hn, fun h0 => ⟨rfl, by rw [Nat.pow_zero, Nat.div_one]; omega⟩⟩ ?_
  rintro k z L' ⟨i, s, left, bs, seg, J, hi, rfl, rfl, rfl, hbs, own, hlo, hhi, hd⟩
  have hsl := own.sl.len
  rw [bvs_length, List.length_append] at hsl
  refine ifD_of (fun (hlt : (i : Int) < u) => ?_) (fun (hge : ¬ (i : Int) < u) => ?_)
  · obtain ⟨d, hdd⟩ := tmod_any (Int.tmod left 256)
    have hq : -9223372036854775808 ≤ Int.tdiv left 256 ∧ Int.tdiv left 256 ≤ 9223372036854775807 := by
      rcases Int.lt_or_le left 0 with hneg | hpos
      · have : Int.tdiv left 256 = -(Int.tdiv (-left) 256) := by rw [Int.neg_tdiv, Int.neg_neg]
        have h2 : Int.tdiv (-left) 256 = (-left) / 256 := Int.tdiv_eq_ediv_of_nonneg (by omega)
        omega
      · have h2 : Int.tdiv left 256 = left / 256 := Int.tdiv_eq_ediv_of_nonneg hpos
        omega
    simp only [hdd]
    refine req_of (by decide) (nw_of fun m _ => append_in elemB srcB ((m, Obj.cells #[.int .u8 (d.toNat : Int)] eB) :: J) A own rfl (.sl (constB (l := [d]) 1 (Nat.le_refl _) List.mem_cons_self)) (bvs_plain _) (by simp only [List.length_cons, List.length_nil]; omega) fun s' seg' hs' own' => ?_)
    rw [← bvs_append, List.append_assoc] at own'
    refine req_of (by decide) ⟨u - (i + 1), by omega, i + 1, s', Int.tdiv left 256, bs ++ [d], seg', (m, Obj.cells #[.int .u8 (d.toNat : Int)] eB) :: J, by omega, rfl, ?_, rfl, by simp [hbs], own', hq.1, hq.2, fun h0 => ?_⟩
    · rw [w64_id (n := Int.tdiv left 256) hq.1 hq.2, w64_id (by first | omega | (simp only; omega)) (by first | omega | (simp only; omega))]
      rfl
    · obtain ⟨e1, e2⟩ := hd h0
      rw [e2, tmod_dig] at hdd
      have hd2 : dig n.toNat i = d := UInt8.toNat_inj.1 (by omega)
      rw [e1, e2, tdiv_step, digs_succ, hd2]
      exact ⟨rfl, rfl⟩
  · obtain rfl : i = u := by omega
    have fin : ∀ {v : Value}, PutK b n i A v A → HL.Ends (PutK b n i A) v (J ++ seg ++ A) := fun h => .drop (A := A) (J := J ++ seg) h List.perm_append_comm
    refine ifD_of (fun (h3 : n < 0) => fin (.err (wput_neg (by omega) h3))) (fun (h3 : ¬ n < 0) => ?_)
    obtain ⟨e1, e2⟩ := hd (by omega)
    have hpos : 0 < 256 ^ i := Nat.pow_pos (by omega)
    refine ifD_of (fun (h4 : left > 0) => fin (.err ?_)) (fun (h4 : ¬ left > 0) => ?_)
    · refine wput_big (by omega) ?_
      rw [Int.toNat_natCast]
      have : 256 ^ i ≤ n.toNat := by
        refine Nat.le_of_not_lt fun hlt => ?_
        rw [Nat.div_eq_of_lt hlt] at e2
        omega
      generalize 256 ^ i = q at this
      omega
    · have hlt : n.toNat < 256 ^ i := by
        refine Nat.lt_of_not_le fun hle => ?_
        have := Nat.div_pos hle hpos
        omega
      have hput : wput b n i = (b ++ digs n.toNat i, 0) := by
        have := wput_ok (b := b) (n := n) (w := i) (by omega) h3 (by simpa using hlt)
        simpa using this
      rw [e1] at own
      refine .drop (A := seg ++ A) (J := J) ⟨s, seg, by rw [hput], rfl, by rw [hput]; exact own⟩ ?_
      rw [List.append_assoc]
      exact List.perm_append_comm
end Go.Proofs.YtaniefdpjommnaaDoor
