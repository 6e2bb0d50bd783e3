/-
  It is proved what the functions of the layer wire and of its document's answer compute: Get, PutText, the Reader. There are no further conditions than those that each theorem names.
-/
import Derived.Test.YtaniefdpjommnaaDoorWire
set_option linter.unusedVariables false
set_option linter.unusedSimpArgs false
namespace Go.Proofs.YtaniefdpjommnaaDoor
open Go.HL

/-- What is got. -/
def wget (b : List UInt8) (at' w : Int) : Int × Int :=
  if w < 1 ∨ 7 < w then (0, 2) else if at' < 0 ∨ (b.length : Int) < at' + w then (0, 6) else ((num ((b.drop at'.toNat).take w.toNat) : Int), 0)
theorem wget_w {b : List UInt8} {a w : Int} (h : w < 1 ∨ 7 < w) : wget b a w = (0, 2) := by unfold wget; rw [if_pos h]
theorem wget_short {b : List UInt8} {a w : Int} (h : ¬ (w < 1 ∨ 7 < w)) (h2 : a < 0 ∨ (b.length : Int) < a + w) : wget b a w = (0, 6) := by unfold wget; rw [if_neg h, if_pos h2]
theorem wget_ok {b : List UInt8} {a w : Nat} (h : 1 ≤ w) (h7 : w ≤ 7) (h2 : a + w ≤ b.length) : wget b a w = ((num ((b.drop a).take w) : Int), 0) := by
  unfold wget
  rw [if_neg (by omega), if_neg (by omega), Int.toNat_natCast, Int.toNat_natCast]
theorem pow256 (w : Nat) (h : w ≤ 7) : 0 < 256 ^ w ∧ 256 ^ w ≤ 72057594037927936 := ⟨Nat.pow_pos (by omega), pow_le7 h⟩
theorem num_le {l : List UInt8} {w : Nat} (hl : l.length ≤ w) (hw : w ≤ 7) : num l < 256 ^ w := Nat.lt_of_lt_of_le (num_lt l) (Nat.pow_le_pow_right (by omega) hl)
theorem wget_rng (b : List UInt8) (a w : Int) : 0 ≤ (wget b a w).1 ∧ (wget b a w).1 < 72057594037927936 ∧ ((wget b a w).2 = 0 ∨ (wget b a w).2 = 2 ∨ (wget b a w).2 = 6) ∧ ((wget b a w).2 = 0 → 0 ≤ a ∧ 1 ≤ w ∧ w ≤ 7 ∧ a + w ≤ b.length) := by
  unfold wget
  split
  · exact ⟨by simp, by simp, .inr (.inl rfl), fun h => absurd h (by decide)⟩
  · split
    · exact ⟨by simp, by simp, .inr (.inr rfl), fun h => absurd h (by decide)⟩
    · have h1 := num_le (l := (b.drop a.toNat).take w.toNat) (w := w.toNat) (List.length_take_le _ _) (by omega)
      have h2 := pow_le7 (w := w.toNat) (by omega)
      refine ⟨by simp only; omega, by simp only; omega, .inl rfl, fun _ => ⟨by omega, by omega, by omega, by omega⟩⟩
theorem take_step (b : List UInt8) (a i : Nat) (h : a + i < b.length) : (b.drop a).take (i + 1) = (b.drop a).take i ++ [b[a + i]] := by
  rw [List.take_succ_eq_append_getElem (by rw [List.length_drop]; omega)]
  congr 2
  simp
theorem wget_rd (L : HList) (v : SlV) (b : List UInt8) (hb : BSl L v b) (hl : b.length ≤ 1000000000) (a w : Int) :
    Reads PP 43 #[.slice v.a v.len v.cap, .int .i64 a, .int .i64 w] L (.tuple #[.int .i64 (wget b a w).1, .int .i64 (wget b a w).2]) := by
  refine Reads.of (args := [.slice v.a v.len v.cap, .int .i64 a, .int .i64 w]) noNum mixed Tryd.func43 (e43 v a w _) ?_
  unfold t43
  have hlen := hb.len
  refine ifD_of (fun (h1 : w < 1) => .of ⟨by rw [wget_w (by omega)], rfl⟩) (fun (h1 : ¬ w < 1) => ?_)
  refine ifD_of (fun (h2 : w > 7) => .of ⟨by rw [wget_w (by omega)], rfl⟩) (fun (h2 : ¬ w > 7) => ?_)
  refine ifD_of (fun (h3 : a < 0) => .of ⟨by rw [wget_short (by omega) (.inl h3)], rfl⟩) (fun (h3 : ¬ a < 0) => ?_)
  refine ifD_of (fun (h4 : a > v.len) => .of ⟨by rw [wget_short (by omega) (.inr (by omega))], rfl⟩) (fun (h4 : ¬ a > v.len) => ?_)
  rw [w64_id (n := (v.len : Int) - a) (by omega) (by omega)]
  refine ifD_of (fun (h5 : w > (v.len : Int) - a) => .of ⟨by rw [wget_short (by omega) (.inr (by omega))], rfl⟩) (fun (h5 : ¬ w > (v.len : Int) - a) => ?_)
  obtain ⟨a, rfl⟩ : ∃ u : Nat, a = u := ⟨a.toNat, by omega⟩
  obtain ⟨w, rfl⟩ : ∃ u : Nat, w = u := ⟨w.toNat, by omega⟩
  have hfit : a + w ≤ b.length := by omega
  rw [wget_ok (by omega) (by omega) hfit]
  refine lp_of (fun k z L' => L' = L ∧ ∃ i : Nat, i ≤ w ∧ k = w - i ∧ z = ((num ((b.drop a).take i) : Int), ((256 ^ i : Nat) : Int), (i : Int), ())) w ⟨rfl, 0, by omega, by omega, rfl⟩ ?_
  rintro k z L ⟨rfl, i, hi, rfl, rfl⟩
  refine ifD_of (fun (hlt : (i : Int) < w) => ?_) (fun (hge : ¬ (i : Int) < w) => ?_)
  · have hai : a + i < b.length := by omega
    obtain ⟨ad, ha⟩ := hb.some hai
    have e1 : IntKind.i64.wrap ((a : Int) + i) = ((a + i : Nat) : Int) := by rw [w64_id (by omega) (by omega)]; omega
    simp only [e1]
    refine nilc_of ha (ixn_of (by omega) (by omega) (ld_of (b[a + i].toNat : Int) (hb.rd hai ha _ (by omega)) ?_))
    have hp := pow256 i (by omega)
    have hx := b[a + i].toNat_lt
    have hn := num_le (l := (b.drop a).take i) (w := i) (List.length_take_le _ _) (by omega)
    have hlt6 : 256 ^ i ≤ 281474976710656 := Nat.le_trans (Nat.pow_le_pow_right (by omega) (show i ≤ 6 by omega)) (by decide)
    have hm : 256 ^ i * b[a + i].toNat ≤ 281474976710656 * 255 := Nat.mul_le_mul hlt6 (by omega)
    refine ⟨w - (i + 1), by omega, rfl, i + 1, by omega, rfl, ?_⟩
    have hli : ((b.drop a).take i).length = i := by rw [List.length_take, List.length_drop]; omega
    rw [take_step b a i hai, num_snoc, hli]
    have e2 : ((256 ^ i : Nat) : Int) * (b[a + i].toNat : Int) = ((256 ^ i * b[a + i].toNat : Nat) : Int) := by rw [Int.natCast_mul]
    have e3 : ((256 ^ i : Nat) : Int) * 256 = ((256 ^ (i + 1) : Nat) : Int) := by rw [Nat.pow_succ, Int.natCast_mul]; rfl
    have hp1 := pow256 (i + 1) (by omega)
    simp only [w64_id (n := (b[a + i].toNat : Int)) (by omega) (by omega), e2, e3]
    generalize 256 ^ i * b[a + i].toNat = q at hm ⊢
    generalize 256 ^ (i + 1) = q2 at hp1 ⊢
    generalize 256 ^ i = q3 at hn hlt6
    rw [w64_id (n := (q : Int)) (by omega) (by omega), w64_id (n := (num ((b.drop a).take i) : Int) + q) (by omega) (by omega), w64_id (n := (q2 : Int)) (by omega) (by omega), w64_id (n := (i : Int) + 1) (by omega) (by omega)]
    simp only [Int.natCast_add, Int.cast_ofNat_Int]
  · obtain rfl : i = w := by omega
    exact .of ⟨rfl, rfl⟩
theorem rget_rd (L : HList) (v : SlV) (b : List UInt8) (hb : BSl L v b) (hl : b.length ≤ 1000000000) (a w : Int) :
    Reads PP 36 #[.slice v.a v.len v.cap, .int .i64 a, .int .i64 w] L (.tuple #[.int .i64 (wget b a w).1, .int .i64 (wget b a w).2]) := by
  refine Reads.of (args := [.slice v.a v.len v.cap, .int .i64 a, .int .i64 w]) noNum mixed Tryd.func36 (e36 v a w _) ?_
  unfold t36
  have hlen := hb.len
  refine ifD_of (fun (h1 : w < 1) => .of ⟨by rw [wget_w (by omega)], rfl⟩) (fun (h1 : ¬ w < 1) => ?_)
  refine ifD_of (fun (h2 : w > 7) => .of ⟨by rw [wget_w (by omega)], rfl⟩) (fun (h2 : ¬ w > 7) => ?_)
  refine ifD_of (fun (h3 : a < 0) => .of ⟨by rw [wget_short (by omega) (.inl h3)], rfl⟩) (fun (h3 : ¬ a < 0) => ?_)
  refine ifD_of (fun (h4 : a > v.len) => .of ⟨by rw [wget_short (by omega) (.inr (by omega))], rfl⟩) (fun (h4 : ¬ a > v.len) => ?_)
  rw [w64_id (n := (v.len : Int) - a) (by omega) (by omega)]
  refine ifD_of (fun (h5 : (v.len : Int) - a < w) => .of ⟨by rw [wget_short (by omega) (.inr (by omega))], rfl⟩) (fun (h5 : ¬ (v.len : Int) - a < w) => ?_)
  obtain ⟨a, rfl⟩ : ∃ u : Nat, a = u := ⟨a.toNat, by omega⟩
  obtain ⟨w, rfl⟩ : ∃ u : Nat, w = u := ⟨w.toNat, by omega⟩
  have hfit : a + w ≤ b.length := by omega
  rw [wget_ok (by omega) (by omega) hfit]
  refine lp_of (fun k z L' => L' = L ∧ k ≤ w ∧ z = ((num ((b.drop (a + k)).take (w - k)) : Int), (k : Int) - 1, ())) w ⟨rfl, Nat.le_refl _, by rw [w64_id (by omega) (by omega), Nat.sub_self]; rfl⟩ ?_
  rintro k z L ⟨rfl, hk, rfl⟩
  refine ifD_of (fun (hge : (k : Int) - 1 ≥ 0) => ?_) (fun (hlt : ¬ (k : Int) - 1 ≥ 0) => ?_)
  · obtain ⟨j, rfl⟩ : ∃ j, k = j + 1 := ⟨k - 1, by omega⟩
    have hj1 : ((j + 1 : Nat) : Int) - 1 = j := by omega
    have hai : a + j < b.length := by omega
    obtain ⟨ad, ha⟩ := hb.some hai
    have e1 : IntKind.i64.wrap ((a : Int) + j) = ((a + j : Nat) : Int) := by rw [w64_id (by omega) (by omega)]; omega
    simp only [hj1, e1]
    refine nilc_of ha (ixn_of (by omega) (by omega) (ld_of (b[a + j].toNat : Int) (hb.rd hai ha _ (by omega)) ?_))
    refine ⟨j, by omega, rfl, by omega, ?_⟩
    have e2 : (b.drop (a + j)).take (w - j) = b[a + j] :: (b.drop (a + (j + 1))).take (w - (j + 1)) := by
      rw [List.drop_eq_getElem_cons hai, show w - j = (w - (j + 1)) + 1 by omega, List.take_succ_cons]
      rfl
    rw [e2]
    simp only [num]
    have hx := b[a + j].toNat_lt
    have hn := num_le (l := (b.drop (a + (j + 1))).take (w - (j + 1))) (w := 6) (by rw [List.length_take]; omega) (by omega)
    have h6 : 256 ^ 6 = 281474976710656 := by decide
    rw [w64_id (n := (b[a + j].toNat : Int)) (by omega) (by omega), w64_id (n := 256 * (num ((b.drop (a + (j + 1))).take (w - (j + 1))) : Int)) (by omega) (by omega), w64_id (n := 256 * (num ((b.drop (a + (j + 1))).take (w - (j + 1))) : Int) + b[a + j].toNat) (by omega) (by omega), w64_id (n := (j : Int) - 1) (by omega) (by omega)]
    refine Prod.ext ?_ rfl
    simp only [Int.natCast_add, Int.natCast_mul, Int.cast_ofNat_Int]
    exact Int.add_comm _ _
  · obtain rfl : k = 0 := by omega
    exact .of ⟨rfl, rfl⟩

/-- What a text is put as. -/
def wtxt (b : List UInt8) (s : ByteArray) : List UInt8 × Int := if 65536 < s.size then ([], 4) else (b ++ digs s.size 4 ++ s.data.toList, 0)
def TxtK (b : List UInt8) (s : ByteArray) (A : HList) (v : Value) (L' : HList) : Prop := ∃ (u : SlV) (seg : HList), v = .tuple #[.slice u.a u.len u.cap, .int .i64 (wtxt b s).2] ∧ L' = seg ++ A ∧ Own u 1 eB (bvs (wtxt b s).1) seg
theorem size_list (s : ByteArray) : s.data.toList.length = s.size := by rw [Array.length_toList]; rfl
theorem wput4 (b : List UInt8) (n : Nat) (h : n ≤ 65536) : wput b n 4 = (b ++ digs n 4, 0) := by
  have := wput_ok (b := b) (n := n) (w := 4) (by omega) (by omega) (by simp; omega)
  simpa using this
theorem str_bvs (s : ByteArray) : (s.data.toList.map fun b => Value.int .u8 b.toNat) = bvs s.data.toList := rfl
theorem wtxt_cl (A : HList) (v : SlV) (b : List UInt8) (hb : BSl A v b) (hl : b.length ≤ 1000000) (s : ByteArray) (hs : s.size ≤ maxLen) :
    CallF PP 22 #[.slice v.a v.len v.cap, .string s] A (TxtK b s A) := by
  refine CallF.of (args := [.slice v.a v.len v.cap, .string s]) noNum mixed Tryd.func22 (e22 v s _) ?_
  unfold t22
  refine ifD_of (fun (h1 : (s.size : Int) > 65536) => .of ?_) (fun (h1 : ¬ (s.size : Int) > 65536) => ?_)
  · have e : wtxt b s = ([], 4) := by unfold wtxt; rw [if_pos (by omega)]
    exact ⟨⟨none, 0, 0⟩, [], by rw [e], rfl, by rw [e]; exact own_nil⟩
  · have e : wtxt b s = (b ++ digs s.size 4 ++ s.data.toList, 0) := by unfold wtxt; rw [if_neg (by omega)]
    refine cl_in [] [] (wput_cl A v b hb hl s.size 4 (by omega)) (by simp) ?_
    rintro w A' - ⟨u, seg, rfl, rfl, own⟩
    rw [wput4 b s.size (by omega)] at own ⊢
    refine ⟨(u, 0, ()), rfl, ?_⟩
    have hul := own.sl.len
    rw [bvs_length, List.length_append, digs_len] at hul
    refine append_in elemB srcS [] A own (by simp) (.str s) (bvs_plain _) (by first | omega | (simp only; omega)) fun u' seg' hu' own' => ?_
    rw [str_bvs, ← bvs_append] at own'
    exact .of ⟨u', seg', by rw [e], rfl, by rw [e]; exact own'⟩
theorem rtxt_cl (A : HList) (v : SlV) (b : List UInt8) (hb : BSl A v b) (hl : b.length ≤ 1000000) (s : ByteArray) (hs : s.size ≤ maxLen) :
    CallF PP 26 #[.slice v.a v.len v.cap, .string s] A (TxtK b s A) := by
  refine CallF.of (args := [.slice v.a v.len v.cap, .string s]) noNum mixed Tryd.func26 (e26 v s _) ?_
  unfold t26
  refine ifD_of (fun (h1 : (s.size : Int) > 65536) => .of ?_) (fun (h1 : ¬ (s.size : Int) > 65536) => ?_)
  · have e : wtxt b s = ([], 4) := by unfold wtxt; rw [if_pos (by omega)]
    exact ⟨⟨none, 0, 0⟩, [], by rw [e], rfl, by rw [e]; exact own_nil⟩
  · have e : wtxt b s = (b ++ digs s.size 4 ++ s.data.toList, 0) := by unfold wtxt; rw [if_neg (by omega)]
    refine cl_in [] [] (rput_cl A v b hb hl s.size 4 (by omega) (by omega)) (by simp) ?_
    rintro w A' - ⟨u, seg, rfl, rfl, own⟩
    rw [wput4 b s.size (by omega)] at own ⊢
    refine ⟨(u, 0, ()), rfl, ?_⟩
    have hul := own.sl.len
    rw [bvs_length, List.length_append, digs_len] at hul
    refine append_in elemB srcS [] A own (by simp) (.str s) (bvs_plain _) (by first | omega | (simp only; omega)) fun u' seg' hu' own' => ?_
    rw [str_bvs, ← bvs_append] at own'
    exact .of ⟨u', seg', by rw [e], rfl, by rw [e]; exact own'⟩
theorem same_rd (L : HList) (u v : SlV) (a : List UInt8) (hu : BSl L u a) (hv : BSl L v a) : Reads PP 18 #[.slice u.a u.len u.cap, .slice v.a v.len v.cap] L (.bool true) := by
  refine Reads.of (args := [.slice u.a u.len u.cap, .slice v.a v.len v.cap]) noNum mixed Tryd.func18 (e18 u v _) ?_
  unfold t18
  exact b2s_of hu (b2s_of hv (.of ⟨by simp, rfl⟩))
end Go.Proofs.YtaniefdpjommnaaDoor
