/-
  It is proved that the laws about what a Reader keeps and gives back return true for every input. There are no further conditions than those that each theorem names.
-/
import Derived.Test.YtefllmfoneocaaaWireLaws
set_option linter.unusedVariables false
set_option linter.unusedSimpArgs false
namespace Go.Proofs.Ytefllmfoneocaaa
open Go.HL

theorem keeps_end (L X Y : HList) (m : Nat) (b : List UInt8) (a : Nat) (R : HList) (hR : RD m b a R) (hL : L = X ++ R ++ Y) {K : Value → HP} (hK : ∀ R, K (.bool true) (X ++ R ++ Y)) :
    (cl PP 26 #[.pointer (some ⟨m, 0, none⟩)] [.lf (.int .i64)] fun r10 =>
     cl PP 25 #[.pointer (some ⟨m, 0, none⟩)] [.lf .str, .lf (.int .i64)] fun r11 =>
     ifB ((r11.2.1 : Int) == 0) (
      cl PP 15 #[] [.lf .bool] fun r12 =>
      K (.bool r12.1)) (
      cl PP 26 #[.pointer (some ⟨m, 0, none⟩)] [.lf (.int .i64)] fun r13 =>
      ifB ((r13.1 : Int) == r10.1) (
       cl PP 15 #[] [.lf .bool] fun r14 =>
       K (.bool r14.1)) (
       K (.bool false)))) L := by
  subst hL
  refine cl_rd (Reads.in (left_rd m b a R hR)) ((b.length : Int) - a, ()) rfl ?_
  refine cl_in X Y (text_cl m b a R hR) rfl ?_
  rintro _ R' - ⟨rfl, hR'⟩
  refine ⟨(⟨(wtext b a).1.toArray⟩, (wtext b a).2.2, ()), rfl, ?_⟩
  have hat : (wtext b a).2.2 ≠ 0 → (wtext b a).2.1 = a := by
    unfold wtext
    split
    · exact fun _ => rfl
    · split
      · exact fun _ => rfl
      · split
        · exact fun _ => rfl
        · exact fun h => absurd rfl h
  generalize wtext b a = t at hR' hat
  refine ifE_of (fun he => cl_rd (carries_rd _) (true, ()) rfl (hK R')) (fun (he : t.2.2 ≠ 0) => ?_)
  rw [hat he] at hR'
  refine cl_rd (Reads.in (left_rd m b a R' hR')) ((b.length : Int) - a, ()) rfl (ifEq rfl ?_)
  exact cl_rd (carries_rd _) (true, ()) rfl (hK R')
theorem bvs_one (l : List UInt8) (i : Nat) (x : Int) (hi : i < l.length) (h : ∃ d : UInt8, x = d.toNat) : ∃ l', l'.length = l.length ∧ (bvs l).set i (.int .u8 x) = bvs l' := by
  obtain ⟨d, rfl⟩ := h
  exact ⟨l.set i d, by simp, bvs_set l i d⟩
theorem law_WireKeeps (L : HList) (v : SlV) (b : List UInt8) (hb : BSl L v b) (w : Int) (hw : -9223372036854775808 ≤ w ∧ w ≤ 9223372036854775807) :
    Reads PP 5 #[.slice v.a v.len v.cap, .int .i64 w] L (.bool true) := by
  refine Reads.of (args := [.slice v.a v.len v.cap, .int .i64 w]) noNum mixed Try.func5 (e5 v w _) ?_
  unfold t5
  have hlen := hb.len
  refine ifD_of (fun (h1 : (v.len : Int) > 300) => cl_rd (carries_rd L) (true, ()) rfl (.of ⟨rfl, rfl⟩)) (fun (h1 : ¬ (v.len : Int) > 300) => ?_)
  have hl : b.length ≤ 1000000 := by omega
  refine cl_in [] [] (rdnew_cl L v b hb hl) (by simp) ?_
  rintro _ _ - ⟨m, R, rfl, rfl, hR⟩
  refine ⟨(some ⟨m, 0, none⟩, ()), rfl, nw_of fun q _ => ?_⟩
  simp only [List.nil_append, List.append_nil]
  refine append_in elemB srcB [] (R ++ L) own_empty (by simp) (.sl hb.right.cons) (bvs_plain _) (by first | omega | (simp only; omega)) fun c seg hc own => ?_
  rw [List.nil_append] at own
  simp only at hc
  refine cl_in [] [] (rdnew_cl ([] ++ seg ++ (R ++ L)) c b (own.sl.right.left) hl) (by simp) ?_
  rintro _ _ - ⟨m2, R2, rfl, rfl, hR2⟩
  refine ⟨(some ⟨m2, 0, none⟩, ()), rfl, ?_⟩
  refine lp_of (fun k z L' => ∃ (i : Nat) (cb : List UInt8) (seg : HList), i ≤ c.len ∧ k = c.len - i ∧ z = ((i : Int), ()) ∧ L' = R2 ++ seg ++ (R ++ L) ∧ cb.length = b.length ∧ Own c 1 eB (bvs cb) seg) c.len
    ⟨0, b, seg, by omega, by omega, rfl, by simp, rfl, own⟩ ?_
  clear own
  rintro k z L' ⟨i, cb, seg, hi, rfl, rfl, rfl, hcb, own⟩
  refine ifD_of (fun (hlt : (i : Int) < c.len) => ?_) (fun (hge : ¬ (i : Int) < c.len) => ?_)
  · have hi' : i < cb.length := by omega
    have hsl : BSl (R2 ++ seg ++ (R ++ L)) c cb := own.sl.right.left
    obtain ⟨a, ha⟩ := hsl.some hi'
    refine nilc_of ha (ixn_of (show (0 : Int) ≤ i by omega) hlt (ld_of (cb[i].toNat : Int) (hsl.rd hi' ha _ (by simp)) (nilc_of ha (ixn_of (show (0 : Int) ≤ i by omega) hlt ?_))))
    have hd : ∃ d : UInt8, bitI .xor .u8 (cb[i].toNat : Int) 255 = (d.toNat : Int) := by
      obtain ⟨d, hd⟩ := tmod_any ((BitVec.ofInt 8 (cb[i].toNat : Int) ^^^ BitVec.ofInt 8 255).toNat : Int)
      refine ⟨d, ?_⟩
      rw [xor8, ← hd, w8_bv, bv_nat]
    obtain ⟨cb', hcb', he⟩ := bvs_one cb i _ hi' hd
    refine own.st R2 (R ++ L) (p := i) (by rw [bvs_length]; simp only [List.length_cons, List.length_nil]; omega) (by simp) ha (by simp) rfl fun seg' own' => ?_
    rw [putL_one (by rw [bvs_length]; omega), he] at own'
    refine ⟨c.len - (i + 1), by omega, i + 1, cb', seg', by omega, rfl, ?_, rfl, by omega, own'⟩
    rw [w64_id (by first | omega | (simp only; omega)) (by first | omega | (simp only; omega))]
    rfl
  · refine cl_in (R2 ++ seg) L (num_cl m b 0 R hR w) (by simp) ?_
    rintro _ R' - ⟨rfl, hR'⟩
    refine ⟨((wget b 0 w).1, (wget b 0 w).2, ()), rfl, ?_⟩
    refine cl_in [] (seg ++ R' ++ L) (num_cl m2 b 0 R2 hR2 w) (by simp) ?_
    rintro _ R2' - ⟨rfl, hR2'⟩
    refine ⟨((wget b 0 w).1, (wget b 0 w).2, ()), rfl, ?_⟩
    have hr := wget_rng b 0 w
    have e : rdNext b 0 w = if (wget b (0 : Nat) w).2 = 0 then 0 + w.toNat else 0 := rfl
    have e0 : wget b ((0 : Nat) : Int) w = wget b 0 w := rfl
    rw [e0] at e
    generalize hq : rdNext b 0 w = q at hR' hR2' e
    generalize wget b 0 w = g at hr e
    refine ifF (by simp) (ifF (by simp) ?_)
    have hL : [] ++ R2' ++ (seg ++ R' ++ L) = (R2' ++ seg) ++ R' ++ L := by simp
    have hleft : Reads PP 26 #[.pointer (some ⟨m, 0, none⟩)] ([] ++ R2' ++ (seg ++ R' ++ L)) (.int .i64 ((b.length : Int) - q)) := by rw [hL]; exact Reads.in (left_rd m b q R' hR')
    have fin : ∀ R, HL.Ends (fun v' L' => v' = Value.bool true ∧ L' = L) (.bool true) (R2' ++ seg ++ R ++ L) := fun R => by
      rw [List.append_assoc (R2' ++ seg)]; exact .app (.app (.of ⟨rfl, rfl⟩))
    refine cl_rd hleft ((b.length : Int) - q, ()) rfl (cl_rd (Reads.in (left_rd m2 b q R2' hR2')) ((b.length : Int) - q, ()) rfl (ifF (by simp) ?_))
    refine ifNe_of (fun (h1 : g.2 ≠ 0) => ?_) (fun (h1 : g.2 = 0) => ?_)
    · rw [if_neg h1] at e
      subst e
      refine cl_rd hleft ((b.length : Int) - (0 : Nat), ()) rfl (ifF (by simp [hlen]) (ifF (by simpa using h1) ?_))
      exact keeps_end _ (R2' ++ seg) L m b _ R' hR' hL fin
    · have h7 := hr.2.2.2 h1
      rw [if_pos h1] at e
      refine ifEq h1 (cl_rd hleft ((b.length : Int) - q, ()) rfl (ifF ?_ ?_))
      · rw [w64_id (by omega) (by omega), hlen, e]
        refine bne_eq_false_iff_eq.2 ?_
        show (b.length : Int) - ((0 + w.toNat : Nat) : Int) = (b.length : Int) - w
        omega
      exact keeps_end _ (R2' ++ seg) L m b _ R' hR' hL fin
end Go.Proofs.Ytefllmfoneocaaa
