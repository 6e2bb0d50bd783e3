/-
  It is proved that the laws about the layer bucket's ticks and limits return true for every input. There are no further conditions than those that each theorem names.
-/
import Derived.Test.YtnhpojbjkfgeoaaBucketLaws
set_option linter.unusedVariables false
set_option linter.unusedSimpArgs false
namespace Go.Proofs.Ytnhpojbjkfgeoaa
open Go.HL

theorem cut_mono {x y m : Int} (h : x ≤ y) (hm : 0 ≤ m) : cut x m ≤ cut y m := by unfold cut; split <;> split <;> (try split) <;> (try split) <;> omega
theorem cut_max (x y m : Int) (hm : 0 ≤ m) : cut (imax x y) m = if cut x m < cut y m then cut y m else cut x m := by
  unfold imax
  split
  · have := cut_mono (x := x) (y := y) (m := m) (by omega) hm
    split <;> omega
  · have := cut_mono (x := y) (y := x) (m := m) (by omega) hm
    split <;> omega
theorem tick_tick {b : Bk} (h : b.Ok) (s t : Int) (hs : b.last ≤ cut s 253402300799) : bkTick (bkTick b s) t = bkTick b (imax s t) := by
  have c0 : (0 : Int) ≤ 253402300799 := by decide
  have hS := cut_rng s 253402300799 c0
  have hT := cut_rng t 253402300799 c0
  have ok := bkTick_ok h s
  unfold bkTick
  rw [cut_max s t _ c0]
  generalize cut s 253402300799 = S at hs hS ⊢
  generalize cut t 253402300799 = T at hT ⊢
  have l0 := h.l0
  have t0 := h.t0
  have t1 := h.t1
  have b0 := h.b0
  have r0 := h.r0
  have hlast : (if S ≤ b.last then b.last else S) = S := by split <;> omega
  have hcS : bkCame b S = b.rate * (S - b.last) := by
    unfold bkCame
    split
    · have : S - b.last = 0 := by omega
      rw [this, Int.mul_zero]
    · rfl
  simp only [hlast]
  by_cases hST : S < T
  · rw [if_pos hST, if_neg (by omega), if_neg (by omega)]
    have h1 : bkCame ⟨b.rate, S, b.burst, cut (b.tokens + bkCame b S) b.burst⟩ T = b.rate * (T - S) := by unfold bkCame; rw [if_neg (by simp only; omega)]
    have h2 : bkCame b T = b.rate * (S - b.last) + b.rate * (T - S) := by unfold bkCame; rw [if_neg (by omega), ← Int.mul_add]; congr 1; omega
    rw [h1, h2, hcS]
    have p0 := Int.mul_nonneg r0 (show 0 ≤ S - b.last by omega)
    have q0 := Int.mul_nonneg r0 (show 0 ≤ T - S by omega)
    generalize b.rate * (S - b.last) = p at p0 ⊢
    generalize b.rate * (T - S) = q at q0 ⊢
    congr 1
    unfold cut
    split <;> split <;> (try split) <;> (try split) <;> (try split) <;> omega
  · rw [if_neg hST, if_pos (by omega), hlast]
    have h1 : bkCame ⟨b.rate, S, b.burst, cut (b.tokens + bkCame b S) b.burst⟩ T = 0 := by unfold bkCame; rw [if_pos (by simp only; omega)]
    rw [h1, Int.add_zero]
    have h2 := cut_rng (b.tokens + bkCame b S) b.burst b0
    rw [cut_id _ _ h2.1 h2.2]
theorem tick_now (rate burst now tokens : Int) : bkTick (bkNew rate burst now tokens) now = bkNew rate burst now tokens := by
  have h := bkNew_ok rate burst now tokens
  have h1 : (bkNew rate burst now tokens).last = cut now 253402300799 := rfl
  have t0 := h.t0
  have t1 := h.t1
  unfold bkTick
  have h2 : bkCame (bkNew rate burst now tokens) (cut now 253402300799) = 0 := by unfold bkCame; rw [h1, if_pos (Int.le_refl _)]
  simp only [h2, h1, Int.le_refl, if_true, Int.add_zero]
  rw [cut_id _ _ t0 t1]
  rfl

theorem law_BucketTicks (L : HList) (rate burst now tokens : Int) (v : SlV) (l : List Int) (h : ISl L v .i64 l) :
    Reads PP 12 #[.int .i64 rate, .int .i64 burst, .int .i64 now, .int .i64 tokens, .slice v.a v.len v.cap] L (.bool true) := by
  refine Reads.of (args := [.int .i64 rate, .int .i64 burst, .int .i64 now, .int .i64 tokens, .slice v.a v.len v.cap]) noNum mixed Try.func12 (e12 rate burst now tokens v _) ?_
  unfold t12
  have hlen := h.len
  refine ifD_of (fun (h1 : (v.len : Int) > 100) => cl_rd (holds_rd L) (true, ()) rfl (.of ⟨rfl, rfl⟩)) (fun (h1 : ¬ (v.len : Int) > 100) => ?_)
  refine cl_in [] L (bnew_cl rate burst now tokens) rfl ?_
  rintro w A' - ⟨n, rfl, rfl⟩
  refine ⟨(some ⟨n, 0, none⟩, ()), rfl, ?_⟩
  refine cl_in [] _ (bnew_cl rate burst now tokens) rfl ?_
  rintro w A' - ⟨m, rfl, rfl⟩
  refine ⟨(some ⟨m, 0, none⟩, ()), rfl, ?_⟩
  have o0 := bkNew_ok rate burst now tokens
  have ht := tick_now rate burst now tokens
  have hl : (bkNew rate burst now tokens).last = cut now 253402300799 := rfl
  generalize bkNew rate burst now tokens = b at o0 ht hl ⊢
  refine lp_of (fun k z L' => ∃ i last, i ≤ l.length ∧ k = l.length - i ∧ z = (last, (i : Int), ()) ∧ now ≤ last ∧ L' = (m, bObj b) :: (n, bObj (bkTick b last)) :: L) l.length ⟨0, now, by omega, by omega, rfl, Int.le_refl _, by rw [ht]; rfl⟩ ?_
  rintro k z L' ⟨i, last, hi, rfl, rfl, hnow, rfl⟩
  have hs : b.last ≤ cut last 253402300799 := by rw [hl]; exact cut_mono hnow (by decide)
  have ok1 := bkTick_ok o0 last
  refine ifD_of (fun (hlt : (i : Int) < v.len) => ?_) (fun (hge : ¬ (i : Int) < v.len) => ?_)
  · have hi' : i < l.length := by omega
    have h' : ISl ((m, bObj b) :: (n, bObj (bkTick b last)) :: L) v .i64 l := h.cons.cons
    obtain ⟨a, ha⟩ := h'.some hi'
    refine nilc_of ha (ixn_of (show (0 : Int) ≤ i by omega) hlt (ld_of l[i] (h'.rd hi' ha _ (by simp)) ?_))
    refine cl_in [_] L (tick_cl n _ ok1 l[i]) rfl ?_
    rintro w A' - ⟨rfl, rfl⟩
    have h2 : ISl ((m, bObj b) :: (n, bObj (bkTick (bkTick b last) l[i])) :: L) v .i64 l := h.cons.cons
    refine ⟨(), rfl, nilc_of ha (ixn_of (show (0 : Int) ≤ i by omega) hlt (ld_of l[i] (h2.rd hi' ha _ (by simp)) ?_))⟩
    refine ⟨l.length - (i + 1), by omega, i + 1, imax last l[i], by omega, rfl, ?_, ?_, ?_⟩
    · rw [w64_id (by first | omega | (simp only; omega)) (by first | omega | (simp only; omega))]
      rfl
    · unfold imax; split <;> omega
    · rw [tick_tick o0 last l[i] hs]
      rfl
  · refine cl_in [] (_ :: L) (tick_cl m _ o0 last) rfl ?_
    rintro w A' - ⟨rfl, rfl⟩
    refine ⟨(), rfl, ?_⟩
    generalize bkTick b last = c at ok1 ⊢
    have t0 := ok1.t0
    have t1 := ok1.t1
    have b1 := ok1.b1
    refine cl_rd (tokens_rd _ n c (List.mem_cons_of_mem _ List.mem_cons_self)) (c.tokens, ()) rfl (cl_rd (tokens_rd _ m c List.mem_cons_self) (c.tokens, ()) rfl (ifEq rfl ?_))
    refine cl_rd (now_rd _ n c (List.mem_cons_of_mem _ List.mem_cons_self)) (c.last, ()) rfl (cl_rd (now_rd _ m c List.mem_cons_self) (c.last, ()) rfl (ifEq rfl ?_))
    refine ifP (show c.tokens ≥ 0 from t0) ?_
    simp only [w64_id (n := c.tokens + 1) (by omega) (by omega)]
    refine cl_in [_] L (take_cl n c ok1 (c.tokens + 1)) rfl ?_
    rintro w A' - ⟨rfl, rfl⟩
    have f1 : bkTakes c (c.tokens + 1) = false := by unfold bkTakes; exact decide_eq_false (by omega)
    have f2 : bkTake c (c.tokens + 1) = c := by unfold bkTake; rw [if_neg (by omega)]
    rw [f1, f2]
    refine ⟨(false, ()), rfl, ifT rfl ?_⟩
    refine cl_in [_] L (take_cl n c ok1 c.tokens) rfl ?_
    rintro w A' - ⟨rfl, rfl⟩
    have f3 : bkTakes c c.tokens = true := by unfold bkTakes; exact decide_eq_true (by omega)
    have f4 : bkTake c c.tokens = { c with tokens := 0 } := by unfold bkTake; rw [if_pos (by omega), Int.sub_self]
    rw [f3, f4]
    refine ⟨(true, ()), rfl, ifT rfl ?_⟩
    refine cl_rd (tokens_rd _ n _ (List.mem_cons_of_mem _ List.mem_cons_self)) ((0 : Int), ()) rfl (ifEq rfl ?_)
    exact cl_rd (holds_rd _) (true, ()) rfl (.drop (A := L) (J := [_, _]) ⟨rfl, rfl⟩ (List.perm_append_comm (l₁ := [_, _])))
end Go.Proofs.Ytnhpojbjkfgeoaa
