/-
  It is proved that the law about what is read back of numbers and texts returns true for every input. There are no further conditions than those that each theorem names.
-/
import Derived.Test.YtefllmfoneocaaaWireLaws2
set_option linter.unusedVariables false
set_option linter.unusedSimpArgs false
namespace Go.Proofs.Ytefllmfoneocaaa
open Go.HL

theorem lt_p5 {n : Nat} (h : n < 1099511627776) : n < 256 ^ 5 := h
theorem lt_p4 {n : Nat} (h : n < 4294967296) : n < 256 ^ 4 := h
def encOne (s : ByteArray) (x : Int) : List UInt8 := digs x.toNat 5 ++ (digs s.size 4 ++ s.data.toList)
theorem encOne_len (s : ByteArray) (x : Int) : (encOne s x).length = 9 + s.size := by
  unfold encOne
  rw [List.length_append, List.length_append, digs_len, digs_len, size_list]; omega
def encAll (s : ByteArray) (l : List Int) : List UInt8 := l.flatMap (encOne s)
theorem encAll_len (s : ByteArray) (l : List Int) : (encAll s l).length = l.length * (9 + s.size) := by
  induction l with
  | nil => simp [encAll]
  | cons x r ih =>
    show (encOne s x ++ encAll s r).length = _
    rw [List.length_append, ih, encOne_len, List.length_cons, Nat.succ_mul]; omega
theorem encAll_snoc (s : ByteArray) (l : List Int) (x : Int) : encAll s (l ++ [x]) = encAll s l ++ encOne s x := by simp [encAll]
theorem encAll_drop (s : ByteArray) (l : List Int) (i : Nat) (hi : i < l.length) : (encAll s l).drop (i * (9 + s.size)) = encOne s l[i] ++ encAll s (l.drop (i + 1)) := by
  have h1 : encAll s l = encAll s (l.take i) ++ (encOne s l[i] ++ encAll s (l.drop (i + 1))) := by
    have h2 : encAll s (l.take i ++ l[i] :: l.drop (i + 1)) = encAll s (l.take i) ++ (encOne s l[i] ++ encAll s (l.drop (i + 1))) := by simp only [encAll, List.flatMap_append, List.flatMap_cons]
    rw [← List.drop_eq_getElem_cons hi, List.take_append_drop] at h2
    exact h2
  rw [h1]
  refine List.drop_left' ?_
  rw [encAll_len, List.length_take, Nat.min_eq_left (by omega)]
theorem back_num (s : ByteArray) (l : List Int) (i : Nat) (hi : i < l.length) (h0 : 0 ≤ l[i]) (h1 : l[i] < 1099511627776) (hs : s.size ≤ 300) : wget (encAll s l) ((i * (9 + s.size) : Nat) : Int) 5 = (l[i], 0) := by
  have hl := encAll_len s l
  have hle : i * (9 + s.size) + (9 + s.size) ≤ l.length * (9 + s.size) := by rw [← Nat.succ_mul]; exact Nat.mul_le_mul_right _ hi
  have := wget_ok (b := encAll s l) (a := i * (9 + s.size)) (w := 5) (by omega) (by omega) (by omega)
  rw [encAll_drop s l i hi] at this
  unfold encOne at this
  rw [List.append_assoc, List.take_left' (digs_len _ _), num_digs 5 l[i].toNat (lt_p5 (by omega))] at this
  have h2 : ((l[i].toNat : Nat) : Int) = l[i] := by omega
  rw [h2] at this
  exact this
theorem back_text (s : ByteArray) (l : List Int) (i : Nat) (hi : i < l.length) (hs : s.size ≤ 300) : wtext (encAll s l) (i * (9 + s.size) + 5) = (s.data.toList, (i + 1) * (9 + s.size), 0) := by
  have hl := encAll_len s l
  have hle : i * (9 + s.size) + (9 + s.size) ≤ l.length * (9 + s.size) := by rw [← Nat.succ_mul]; exact Nat.mul_le_mul_right _ hi
  have hd5 : (encAll s l).drop (i * (9 + s.size) + 5) = digs s.size 4 ++ (s.data.toList ++ encAll s (l.drop (i + 1))) := by
    rw [← List.drop_drop, encAll_drop s l i hi]
    unfold encOne
    rw [List.append_assoc, List.drop_left' (digs_len _ _), List.append_assoc]
  have hg : wget (encAll s l) ((i * (9 + s.size) + 5 : Nat) : Int) 4 = ((s.size : Int), 0) := by
    have := wget_ok (b := encAll s l) (a := i * (9 + s.size) + 5) (w := 4) (by omega) (by omega) (by omega)
    rw [hd5, List.take_left' (digs_len _ _), num_digs 4 s.size (lt_p4 (by omega))] at this
    exact this
  unfold wtext
  rw [hg, if_neg (by simp), if_neg (by simp only; omega), if_neg (by simp only; omega)]
  simp only [Int.toNat_natCast]
  have hd9 : (encAll s l).drop (i * (9 + s.size) + 5 + 4) = s.data.toList ++ encAll s (l.drop (i + 1)) := by
    rw [← List.drop_drop, hd5, List.drop_left' (digs_len _ _)]
  rw [hd9, List.take_left' (size_list s), Nat.succ_mul]
  refine Prod.ext rfl (Prod.ext ?_ rfl)
  simp only
  omega
theorem wput5 (b : List UInt8) (n : Int) (h0 : 0 ≤ n) (h1 : n < 1099511627776) : wput b n 5 = (b ++ digs n.toNat 5, 0) := by
  have := wput_ok (b := b) (n := n) (w := 5) (by omega) (by omega) (lt_p5 (by omega))
  simpa using this

theorem law_WireBack (L : HList) (v : SlV) (l : List Int) (hv : ISl L v .i64 l) (hi64 : ∀ x ∈ l, -9223372036854775808 ≤ x ∧ x ≤ 9223372036854775807) (s : ByteArray) (hs : s.size ≤ maxLen) :
    Reads PP 4 #[.slice v.a v.len v.cap, .string s] L (.bool true) := by
  refine Reads.of (args := [.slice v.a v.len v.cap, .string s]) noNum mixed Try.func4 (e4 v s _) ?_
  unfold t4
  have hlen := hv.len
  refine ifD_of (fun (h1 : (v.len : Int) > 40) => cl_rd (carries_rd L) (true, ()) rfl (.of ⟨rfl, rfl⟩)) (fun (h1 : ¬ (v.len : Int) > 40) => ?_)
  refine ifD_of (fun (h2 : (s.size : Int) > 300) => cl_rd (carries_rd L) (true, ()) rfl (.of ⟨rfl, rfl⟩)) (fun (h2 : ¬ (s.size : Int) > 300) => ?_)
  refine lp_of (fun k z L' => ∃ (i : Nat) (x : SlV) (seg J : HList), i ≤ l.length ∧ k = l.length - i ∧ z = (x, (i : Int), ()) ∧ L' = seg ++ (J ++ L) ∧ Own x 1 eB (bvs (encAll s (l.take i))) seg ∧ ∀ n ∈ l.take i, 0 ≤ n ∧ n < 1099511627776) l.length
    ⟨0, ⟨none, 0, 0⟩, [], [], by omega, by omega, rfl, rfl, own_nil, by simp⟩ ?_
  rintro k z L' ⟨i, x, seg, J, hi, rfl, rfl, rfl, own, hall⟩
  have hv' : ISl (seg ++ (J ++ L)) v .i64 l := (hv.right (R := J)).right
  have fin : ∀ {K : RsV [.lf .bool] → HP}, (∀ {A}, K (true, ()) (A ++ (J ++ L))) → ∀ A, cl PP 15 #[] [.lf .bool] K (A ++ (J ++ L)) := fun h A => cl_rd (carries_rd _) (true, ()) rfl h
  have hbl := encAll_len s (l.take i)
  have hti : (l.take i).length = i := by rw [List.length_take]; omega
  rw [hti] at hbl
  have hmul : i * (9 + s.size) ≤ 40 * 309 := Nat.mul_le_mul (by omega) (by omega)
  refine ifD_of (fun (hlt : (i : Int) < v.len) => ?_) (fun (hge : ¬ (i : Int) < v.len) => ?_)
  · have hi' : i < l.length := by omega
    have h0 : (0 : Int) ≤ (i : Int) := by omega
    obtain ⟨a, ha⟩ := hv'.some hi'
    have hld := hv'.rd hi' ha ((i : Int).toNat * 1) (by simp)
    have hr := hi64 l[i] (List.getElem_mem hi')
    refine nilc_of ha (ixn_of h0 hlt (ld_of l[i] hld ?_))
    refine ifD_of (fun (h3 : l[i] < 0) => fin (.app (.app (.of ⟨rfl, rfl⟩))) seg) (fun (h3 : ¬ l[i] < 0) => ?_)
    refine nilc_of ha (ixn_of h0 hlt (ld_of l[i] hld ?_))
    refine ifD_of (fun (h4 : l[i] ≥ 1099511627776) => fin (.app (.app (.of ⟨rfl, rfl⟩))) seg) (fun (h4 : ¬ l[i] ≥ 1099511627776) => ?_)
    refine nilc_of ha (ixn_of h0 hlt (ld_of l[i] hld ?_))
    have hxl := own.sl.len
    rw [bvs_length, Nat.mul_one] at hxl
    refine cl_in [] [] (wput_cl (seg ++ (J ++ L)) x _ own.sl.left (by omega) l[i] 5 hr.2) (by simp) ?_
    rintro _ _ - ⟨p, gp, rfl, rfl, ownp⟩
    rw [wput5 _ _ (by omega) (by omega)] at ownp ⊢
    refine ⟨(p, 0, ()), rfl, ?_⟩
    simp only [List.nil_append, List.append_nil]
    have hpl := ownp.sl.len
    rw [bvs_length, Nat.mul_one, List.length_append, digs_len] at hpl
    refine cl_in [] [] (wtxt_cl (gp ++ (seg ++ (J ++ L))) p _ ownp.sl.left (by rw [List.length_append, digs_len]; omega) s hs) (by simp) ?_
    rintro _ _ - ⟨q, gq, rfl, rfl, ownq⟩
    have et : wtxt (encAll s (l.take i) ++ digs l[i].toNat 5) s = (encAll s (l.take (i + 1)), 0) := by
      unfold wtxt
      rw [if_neg (by omega), List.take_succ_eq_append_getElem hi', encAll_snoc]
      unfold encOne
      simp [List.append_assoc]
    rw [et] at ownq ⊢
    refine ⟨(q, 0, ()), rfl, ifF rfl (ifF rfl (ifF ?_ (ifF ?_ ?_)))⟩
    · have e1 : IntKind.i64.wrap ((x.len : Int) + 5) = (p.len : Int) := by rw [w64_id (by omega) (by omega)]; omega
      simp only [e1, bne_self_eq_false]
    · have hql := ownq.sl.len
      rw [bvs_length, Nat.mul_one, encAll_len, List.length_take, Nat.min_eq_left (by omega), Nat.succ_mul] at hql
      have e1 : IntKind.i64.wrap (IntKind.i64.wrap ((p.len : Int) + 4) + s.size) = (q.len : Int) := by rw [w64_id (n := (p.len : Int) + 4) (by omega) (by omega), w64_id (by omega) (by omega)]; omega
      simp only [e1, bne_self_eq_false]
    · refine ⟨l.length - (i + 1), by omega, i + 1, q, gq, gp ++ (seg ++ J), by omega, rfl, ?_, by simp, ownq, fun n hn => ?_⟩
      · rw [w64_id (by first | omega | (simp only; omega)) (by first | omega | (simp only; omega))]
        rfl
      · rw [List.take_succ_eq_append_getElem hi'] at hn
        rcases List.mem_append.1 hn with hn | hn
        · exact hall n hn
        · rw [List.mem_singleton.1 hn]; omega
  · obtain rfl : i = l.length := by omega
    rw [List.take_length] at own hall hbl
    refine cl_in [] [] (rdnew_cl (seg ++ (J ++ L)) x _ own.sl.left (by omega)) (by simp) ?_
    rintro _ _ - ⟨m, R, rfl, rfl, hR⟩
    refine ⟨(some ⟨m, 0, none⟩, ()), rfl, ?_⟩
    refine lp_of (fun k z L' => ∃ (i : Nat) (R : HList), i ≤ l.length ∧ k = l.length - i ∧ z = ((i : Int), ()) ∧ L' = R ++ (seg ++ (J ++ L)) ∧ RD m (encAll s l) (i * (9 + s.size)) R) l.length
      ⟨0, R, by omega, by omega, rfl, by simp, by rw [Nat.zero_mul]; exact hR⟩ ?_
    clear hR
    rintro k z L' ⟨i, R, hi, rfl, rfl, rfl, hR⟩
    refine ifD_of (fun (hlt : (i : Int) < v.len) => ?_) (fun (hge : ¬ (i : Int) < v.len) => ?_)
    · have hi' : i < l.length := by omega
      have hx := hall l[i] (List.getElem_mem hi')
      have hg := back_num s l i hi' hx.1 hx.2 (by omega)
      refine cl_in [] (seg ++ (J ++ L)) (num_cl m _ _ R hR 5) (by simp) ?_
      rintro _ R1 - ⟨rfl, hR1⟩
      unfold rdNext at hR1
      rw [hg] at hR1 ⊢
      rw [if_pos rfl] at hR1
      refine ⟨(l[i], 0, ()), rfl, ?_⟩
      refine cl_in [] (seg ++ (J ++ L)) (text_cl m _ _ R1 hR1) (by simp) ?_
      rintro _ R2 - ⟨rfl, hR2⟩
      have e5 : (5 : Int).toNat = 5 := rfl
      rw [e5, back_text s l i hi' (by omega)] at hR2 ⊢
      have hsame : (⟨s.data.toList.toArray⟩ : ByteArray) = s := by cases s; simp
      refine ⟨(s, 0, ()), by unfold strOf; rw [hsame]; rfl, ?_⟩
      have hv2 : ISl ([] ++ R2 ++ (seg ++ (J ++ L))) v .i64 l := ((hv.right (R := J)).right (R := seg)).right
      obtain ⟨a, ha⟩ := hv2.some hi'
      refine nilc_of ha (ixn_of (show (0 : Int) ≤ (i : Int) by omega) hlt (ld_of l[i] (hv2.rd hi' ha _ (by simp)) (ifF (by simp) (ifF rfl (ifF (by simp) (ifF rfl ?_))))))
      refine ⟨l.length - (i + 1), by omega, i + 1, R2, by omega, rfl, ?_, by simp, hR2⟩
      rw [w64_id (by first | omega | (simp only; omega)) (by first | omega | (simp only; omega))]
      rfl
    · obtain rfl : i = l.length := by omega
      have hlr := left_rd m _ _ R hR
      rw [encAll_len, Int.sub_self] at hlr
      refine cl_rd (Reads.in (X := []) (Y := seg ++ (J ++ L)) hlr) ((0 : Int), ()) rfl (ifT rfl ?_)
      exact cl_rd (carries_rd _) (true, ()) rfl (.app (.app (.app (.of ⟨rfl, rfl⟩))))

theorem row_WirePuts (W : World) (a0 : SlV) (l0 : List UInt8) (w0 : SlOk W (fun b => [bv b]) (fun _ => True) 1 (a0, l0)) (a1 : Int) (w1 : intWf .i64 a1) (a2 : Int) (w2 : intWf .i64 a2) (a3 : Int) (w3 : intWf .i64 a3) :
    Reads PP 3 #[.slice a0.a a0.len a0.cap, .int .i64 a1, .int .i64 a2, .int .i64 a3] (allB W) (.bool true) :=
  law_WirePuts _ a0 l0 w0.bytes a1 a2 a3 (wf_i64 w1)
theorem row_WireBack (W : World) (a0 : SlV) (l0 : List Int) (w0 : SlOk W (fun n => [.int .i64 n]) (intWf .i64) 1 (a0, l0)) (a1 : ByteArray) (w1 : a1.size ≤ maxLen) :
    Reads PP 4 #[.slice a0.a a0.len a0.cap, .string a1] (allB W) (.bool true) :=
  law_WireBack _ a0 l0 w0.ints (fun x hx => wf_i64 (w0.all x hx)) a1 w1
theorem row_WireKeeps (W : World) (a0 : SlV) (l0 : List UInt8) (w0 : SlOk W (fun b => [bv b]) (fun _ => True) 1 (a0, l0)) (a1 : Int) (w1 : intWf .i64 a1) :
    Reads PP 5 #[.slice a0.a a0.len a0.cap, .int .i64 a1] (allB W) (.bool true) :=
  law_WireKeeps _ a0 l0 w0.bytes a1 (wf_i64 w1)
theorem row_WireReads (W : World) (a0 : SlV) (l0 : List UInt8) (w0 : SlOk W (fun b => [bv b]) (fun _ => True) 1 (a0, l0)) (a1 : SlV) (l1 : List Ask) (w1 : SlOk W askEnc (fun x => intWf .i64 x.1 ∧ intWf .i64 x.2.1 ∧ True) 2 (a1, l1)) :
    Reads PP 9 #[.slice a0.a a0.len a0.cap, .slice a1.a a1.len a1.cap] (allB W) (.bool true) :=
  law_WireReads _ a0 l0 w0.bytes a1 l1 w1.sl
end Go.Proofs.Ytefllmfoneocaaa
