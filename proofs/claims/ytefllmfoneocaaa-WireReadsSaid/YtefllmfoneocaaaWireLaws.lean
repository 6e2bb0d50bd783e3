/-
  It is proved that the laws about the layer wire return true for every input. There are no further conditions than those that each theorem names.
-/
import Derived.Test.YtefllmfoneocaaaWire3
set_option linter.unusedVariables false
set_option linter.unusedSimpArgs false
namespace Go.Proofs.Ytefllmfoneocaaa
open Go.HL

theorem law_WirePuts (L : HList) (v : SlV) (b : List UInt8) (hb : BSl L v b) (n w a : Int) (hn : -9223372036854775808 ≤ n ∧ n ≤ 9223372036854775807) :
    Reads PP 3 #[.slice v.a v.len v.cap, .int .i64 n, .int .i64 w, .int .i64 a] L (.bool true) := by
  refine Reads.of (args := [.slice v.a v.len v.cap, .int .i64 n, .int .i64 w, .int .i64 a]) noNum mixed Try.func3 (e3 v n w a _) ?_
  unfold t3
  have hlen := hb.len
  refine ifD_of (fun (h1 : (v.len : Int) > 300) => cl_rd (carries_rd L) (true, ()) rfl (.of ⟨rfl, rfl⟩)) (fun (h1 : ¬ (v.len : Int) > 300) => ?_)
  have hl : b.length ≤ 1000000 := by omega
  refine b2s_of hb ?_
  have hbs : (⟨b.toArray⟩ : ByteArray).size ≤ maxLen := by
    have : (⟨b.toArray⟩ : ByteArray).size = b.length := by show b.toArray.size = _; simp
    rw [this]; have : (300 : Nat) ≤ maxLen := by decide
    omega
  refine cl_in [] [] (wput_cl L v b hb hl n w hn.2) (by simp) ?_
  rintro _ _ - ⟨s2, g2, rfl, rfl, own2⟩
  refine ⟨(s2, (wput b n w).2, ()), rfl, ?_⟩
  simp only [List.nil_append, List.append_nil]
  refine cl_in [] [] (rput_cl (g2 ++ L) v b hb.right hl n w hn.2 hn.1) (by simp) ?_
  rintro _ _ - ⟨s3, g3, rfl, rfl, own3⟩
  refine ⟨(s3, (wput b n w).2, ()), rfl, ?_⟩
  simp only [List.nil_append, List.append_nil]
  have hb3 : BSl (g3 ++ (g2 ++ L)) v b := (hb.right (R := g2)).right
  refine cl_rd (wget_rd _ v b hb3 (by omega) a w) ((wget b a w).1, (wget b a w).2, ()) rfl (cl_rd (rget_rd _ v b hb3 (by omega) a w) ((wget b a w).1, (wget b a w).2, ()) rfl ?_)
  refine cl_in [] [] (wtxt_cl (g3 ++ (g2 ++ L)) v b hb3 hl ⟨b.toArray⟩ hbs) (by simp) ?_
  rintro _ _ - ⟨s6, g6, rfl, rfl, own6⟩
  refine ⟨(s6, (wtxt b ⟨b.toArray⟩).2, ()), rfl, ?_⟩
  simp only [List.nil_append, List.append_nil]
  refine cl_in [] [] (rtxt_cl (g6 ++ (g3 ++ (g2 ++ L))) v b hb3.right hl ⟨b.toArray⟩ hbs) (by simp) ?_
  rintro _ _ - ⟨s7, g7, rfl, rfl, own7⟩
  refine ⟨(s7, (wtxt b ⟨b.toArray⟩).2, ()), rfl, ?_⟩
  simp only [List.nil_append, List.append_nil]
  refine cl_rd (same_rd _ s2 s3 (wput b n w).1 own2.sl.left.right.right.right own3.sl.left.right.right) (true, ()) rfl (ifT rfl (ifT (by simp) (ifT (by simp) (ifT (by simp) ?_))))
  refine cl_rd (same_rd _ s6 s7 (wtxt b ⟨b.toArray⟩).1 own6.sl.left.right own7.sl.left) (true, ()) rfl (ifT rfl (ifT (by simp) (b2s_of hb3.right.right (ifT (by simp) ?_))))
  exact cl_rd (carries_rd _) (true, ()) rfl (.app (.app (.app (.app (.of ⟨rfl, rfl⟩)))))

abbrev Ask := Int × Int × Unit
def askEnc (x : Ask) : List Value := [.int .i64 x.1, .int .i64 x.2.1]
theorem ask_len (x : Ask) : (askEnc x).length = 2 := rfl
theorem ask_at {L : HList} {v : SlV} {l : List Ask} (h : Sl L v 2 (l.flatMap askEnc)) {i : Nat} (hi : i < l.length) : ∃ a, v.a = some a ∧ LdAt (Addr.add a ((i : Int).toNat * 2)) [.int .i64 l[i].1] L ∧ LdAt (Addr.add (Addr.add a ((i : Int).toNat * 2)) 1) [.int .i64 l[i].2.1] L := by
  obtain ⟨a, ha, hl⟩ := h.el ask_len (by decide) hi
  rw [Int.toNat_natCast]
  exact ⟨a, ha, hl.pre fun i u hu => by cases i with | zero => exact hu | succ i => simp at hu, hl.one 1 rfl⟩
theorem law_WireReads (L : HList) (v : SlV) (b : List UInt8) (hb : BSl L v b) (u : SlV) (l : List Ask) (hu : Sl L u 2 (l.flatMap askEnc)) :
    Reads PP 9 #[.slice v.a v.len v.cap, .slice u.a u.len u.cap] L (.bool true) := by
  refine Reads.of (args := [.slice v.a v.len v.cap, .slice u.a u.len u.cap]) noNum mixed Try.func9 (e9 v u _) ?_
  unfold t9
  have hlen := hb.len
  have hul := hu.els_len ask_len (by decide)
  refine ifD_of (fun (h1 : (v.len : Int) > 300) => cl_rd (carries_rd L) (true, ()) rfl (.of ⟨rfl, rfl⟩)) (fun (h1 : ¬ (v.len : Int) > 300) => ?_)
  refine ifD_of (fun (h1 : (u.len : Int) > 60) => cl_rd (carries_rd L) (true, ()) rfl (.of ⟨rfl, rfl⟩)) (fun (h2 : ¬ (u.len : Int) > 60) => ?_)
  have hl : b.length ≤ 1000000 := by omega
  refine cl_in [] [] (rdnew_cl L v b hb hl) (by simp) ?_
  rintro _ _ - ⟨m, R, rfl, rfl, hR⟩
  refine ⟨(some ⟨m, 0, none⟩, ()), rfl, ?_⟩
  refine lp_of (fun k z L' => ∃ (i a : Nat) (R : HList), i ≤ l.length ∧ k = l.length - i ∧ z = ((a : Int), (i : Int), ()) ∧ L' = R ++ L ∧ RD m b a R) l.length ⟨0, 0, R, by omega, by omega, rfl, by simp, hR⟩ ?_
  clear hR
  rintro k z L' ⟨i, a, R, hi, rfl, rfl, rfl, hR⟩
  have ha : a ≤ b.length := by obtain ⟨_, _, _, _, ha, _⟩ := hR; exact ha
  refine ifD_of (fun (hlt : (i : Int) < u.len) => ?_) (fun (hge : ¬ (i : Int) < u.len) => ?_)
  · have hi' : i < l.length := by omega
    have h0 : (0 : Int) ≤ (i : Int) := by omega
    have at' : ∀ R : HList, ∃ a, u.a = some a ∧ LdAt (Addr.add a ((i : Int).toNat * 2)) [.int .i64 l[i].1] (R ++ L) ∧ LdAt (Addr.add (Addr.add a ((i : Int).toNat * 2)) 1) [.int .i64 l[i].2.1] (R ++ L) := fun R => ask_at (L := R ++ L) hu.right hi'
    generalize l[i] = x at at'
    refine jn_of (fun y L' => ∃ (a : Nat) (R : HList), y = ((a : Int), ()) ∧ L' = R ++ L ∧ RD m b a R) ?_ ?_
    · rintro y L' ⟨a, R, rfl, rfl, hR⟩
      have ha : a ≤ b.length := by obtain ⟨_, _, _, _, ha, _⟩ := hR; exact ha
      refine cl_rd (Reads.in (X := []) (Y := L) (left_rd m b a R hR)) ((b.length : Int) - a, ()) rfl (ifF ?_ ?_)
      · rw [w64_id (by first | omega | (simp only; omega)) (by first | omega | (simp only; omega)), hlen]
        simp
      · refine ⟨l.length - (i + 1), by omega, i + 1, a, R, by omega, rfl, ?_, rfl, hR⟩
        rw [w64_id (by first | omega | (simp only; omega)) (by first | omega | (simp only; omega))]
        rfl
    · intro j hj
      obtain ⟨ad, had, l0, l1⟩ := at' R
      refine nilc_of had (ixn_of h0 hlt (ld_of x.1 l0 ?_))
      refine ifE_of (fun hk => ?_) (fun hk => ?_)
      · refine cl_in [] L (text_cl m b a R hR) (by simp) ?_
        rintro _ R' - ⟨rfl, hR'⟩
        refine ⟨(⟨(wtext b a).1.toArray⟩, (wtext b a).2.2, ()), rfl, ?_⟩
        refine cl_rd (rtext_rd _ v b hb.right hl a ha) (⟨(wtext b a).1.toArray⟩, ((wtext b a).2.1 : Int), (wtext b a).2.2, ()) rfl (ifF (by simp) (ifF (by simp) (hj _ _ ⟨_, R', rfl, by simp, hR'⟩)))
      refine ifE_of (fun hk => ?_) (fun hk => ?_)
      · refine cl_in [] L (flag_cl m b a R hR) (by simp) ?_
        rintro _ R' - ⟨rfl, hR'⟩
        refine ⟨((wflag b a).1, (wflag b a).2.2, ()), rfl, ?_⟩
        refine cl_rd (rflag_rd _ v b hb.right hl a ha) ((wflag b a).1, ((wflag b a).2.1 : Int), (wflag b a).2.2, ()) rfl (ifF (by simp) (ifF (by simp) (hj _ _ ⟨_, R', rfl, by simp, hR'⟩)))
      · refine nilc_of had (ixn_of h0 hlt (ld_of x.2.1 l1 ?_))
        refine cl_in [] L (num_cl m b a R hR x.2.1) (by simp) ?_
        rintro _ R' - ⟨rfl, hR'⟩
        obtain ⟨ad', had', _, l1'⟩ := at' R'
        refine ⟨((wget b a x.2.1).1, (wget b a x.2.1).2, ()), rfl, nilc_of had' (ixn_of h0 hlt (ld_of x.2.1 l1' ?_))⟩
        refine cl_rd (rget_rd _ v b hb.right (by omega) a x.2.1) ((wget b a x.2.1).1, (wget b a x.2.1).2, ()) rfl (ifF (by simp) (ifF (by simp) ?_))
        have hr := wget_rng b a x.2.1
        unfold rdNext at hR'
        generalize wget b a x.2.1 = g at hr hR'
        refine ifE_of (fun (he : g.2 = 0) => ?_) (fun (he : g.2 ≠ 0) => ?_)
        · have h7 := hr.2.2.2 he
          rw [if_pos he] at hR'
          refine nilc_of had' (ixn_of h0 hlt (ld_of x.2.1 l1' (hj _ _ ⟨_, R', ?_, by simp, hR'⟩)))
          rw [w64_id (by first | omega | (simp only; omega)) (by first | omega | (simp only; omega))]
          refine Prod.ext ?_ rfl
          show (a : Int) + x.2.1 = ((a + x.2.1.toNat : Nat) : Int)
          omega
        · rw [if_neg he] at hR'
          exact hj _ _ ⟨a, R', rfl, by simp, hR'⟩
  · exact cl_rd (carries_rd _) (true, ()) rfl (.app (.of ⟨rfl, rfl⟩))
end Go.Proofs.Ytefllmfoneocaaa
