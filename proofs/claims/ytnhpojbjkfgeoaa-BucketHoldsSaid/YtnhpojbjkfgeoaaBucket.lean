/-
  It is proved what the functions of the layer bucket and of its document's answer compute. There are no further conditions than those that each theorem names.
-/
import Derived.Test.YtnhpojbjkfgeoaaHL18
import Derived.Test.YtnhpojbjkfgeoaaT
set_option linter.unusedVariables false
set_option linter.unusedSimpArgs false
namespace Go.Proofs.Ytnhpojbjkfgeoaa
open Go.HL

/-! ### the bucket as plain data -/
def cut (n m : Int) : Int := if n < 0 then 0 else if m < n then m else n
theorem cut_rng (n m : Int) (h : 0 ≤ m) : 0 ≤ cut n m ∧ cut n m ≤ m := by unfold cut; split <;> (try split) <;> omega
theorem cut_id (n m : Int) (h : 0 ≤ n) (h2 : n ≤ m) : cut n m = n := by unfold cut; split <;> (try split) <;> omega
theorem held_cut (n m : Int) (h : 0 ≤ m) : imax (imin n m) 0 = cut n m := by unfold cut imax imin; split <;> split <;> (try split) <;> (try split) <;> omega
theorem ref_cut (n m : Int) (h : 0 ≤ m) : imin (imax n 0) m = cut n m := by unfold cut imax imin; split <;> split <;> (try split) <;> (try split) <;> omega
structure Bk where
  rate : Int
  last : Int
  burst : Int
  tokens : Int
structure Bk.Ok (b : Bk) : Prop where
  r0 : 0 ≤ b.rate
  r1 : b.rate ≤ 1048576
  l0 : 0 ≤ b.last
  l1 : b.last ≤ 253402300799
  b0 : 0 ≤ b.burst
  b1 : b.burst ≤ 1073741824
  t0 : 0 ≤ b.tokens
  t1 : b.tokens ≤ b.burst
def bkNew (rate burst now tokens : Int) : Bk := ⟨cut rate 1048576, cut now 253402300799, cut burst 1073741824, cut tokens (cut burst 1073741824)⟩
theorem bkNew_ok (rate burst now tokens : Int) : (bkNew rate burst now tokens).Ok := by
  have h1 := cut_rng rate 1048576 (by decide)
  have h2 := cut_rng now 253402300799 (by decide)
  have h3 := cut_rng burst 1073741824 (by decide)
  have h4 := cut_rng tokens (cut burst 1073741824) h3.1
  exact ⟨h1.1, h1.2, h2.1, h2.2, h3.1, h3.2, h4.1, h4.2⟩
/-- How many came. -/
def bkCame (b : Bk) (t : Int) : Int := if t ≤ b.last then 0 else b.rate * (t - b.last)
def bkTick (b : Bk) (now : Int) : Bk :=
  let t := cut now 253402300799
  ⟨b.rate, if t ≤ b.last then b.last else t, b.burst, cut (b.tokens + bkCame b t) b.burst⟩
theorem mul_bound {a b : Int} (h1 : 0 ≤ a) (h2 : a ≤ 1048576) (h3 : 0 ≤ b) (h4 : b ≤ 253402300799) : 0 ≤ a * b ∧ a * b ≤ 265711571000000000 := by
  refine ⟨Int.mul_nonneg h1 h3, ?_⟩
  have h5 : a * b ≤ 1048576 * 253402300799 := Int.mul_le_mul h2 h4 h3 (by decide)
  omega
theorem bkCame_rng {b : Bk} (h : b.Ok) {t : Int} (h0 : 0 ≤ t) (h1 : t ≤ 253402300799) : 0 ≤ bkCame b t ∧ bkCame b t ≤ 265711571000000000 := by
  unfold bkCame
  split
  · omega
  · have := h.l0
    exact mul_bound h.r0 h.r1 (by omega) (by omega)
theorem bkTick_ok {b : Bk} (h : b.Ok) (now : Int) : (bkTick b now).Ok := by
  have h1 := cut_rng now 253402300799 (by decide)
  have h2 := cut_rng (b.tokens + bkCame b (cut now 253402300799)) b.burst h.b0
  have h3 := h.l0
  have h4 := h.l1
  refine ⟨h.r0, h.r1, ?_, ?_, h.b0, h.b1, h2.1, h2.2⟩ <;> (simp only [bkTick]; split <;> omega)
def bkTakes (b : Bk) (n : Int) : Bool := decide (0 ≤ n ∧ n ≤ b.tokens)
def bkTake (b : Bk) (n : Int) : Bk := if 0 ≤ n ∧ n ≤ b.tokens then { b with tokens := b.tokens - n } else b
theorem bkTake_ok {b : Bk} (h : b.Ok) (n : Int) : (bkTake b n).Ok := by
  unfold bkTake
  split
  · have := h.t1
    exact ⟨h.r0, h.r1, h.l0, h.l1, h.b0, h.b1, by first | omega | (simp only; omega), by first | omega | (simp only; omega)⟩
  · exact h

/-! ### its objects -/
abbrev bObj (b : Bk) : Obj := .cells #[.int .i64 b.rate, .int .i64 b.last, .int .i64 b.burst, .int .i64 b.tokens] 80
abbrev rObj (b : Bk) : Obj := .cells #[.int .i64 b.rate, .int .i64 b.burst, .int .i64 b.last, .int .i64 b.tokens] 46

theorem held_rd (L : HList) (n m : Int) (b : Nat) (h : 0 ≤ m) (hm : (b, Obj.cells #[.int .i64 m] 3) ∈ L) : Reads PP 58 #[.int .i64 n, .slice (some ⟨b, 0, none⟩) 1 1] L (.int .i64 (cut n m)) := by
  refine Reads.of (args := [.int .i64 n, .slice (some ⟨b, 0, none⟩) 1 1]) noNum mixed Try.func58 (e58 n ⟨some ⟨b, 0, none⟩, 1, 1⟩ _) ?_
  unfold t58
  refine lp_of (fun k z L' => L' = L ∧ ((k = 1 ∧ z = (n, 0, ())) ∨ (k = 0 ∧ z = (imin n m, 1, ())))) 1 ⟨rfl, .inl ⟨rfl, rfl⟩⟩ ?_
  rintro k z L ⟨rfl, ⟨rfl, rfl⟩ | ⟨rfl, rfl⟩⟩
  · refine ifP (show (0 : Int) < 1 by decide) (ixn_of (show (0 : Int) ≤ 0 by decide) (show (0 : Int) < 1 by decide) (ld_of m (ldB hm rfl) ⟨0, by omega, rfl, .inr ⟨rfl, rfl⟩⟩))
  · refine ifN (show ¬ (1 : Int) < 1 by decide) (.of ⟨?_, rfl⟩)
    simp only [held_cut n m h]
theorem cut_rd (L : HList) (n m : Int) (h : 0 ≤ m) : Reads PP 59 #[.int .i64 n, .int .i64 m] L (.int .i64 (cut n m)) := by
  refine Reads.of (args := [.int .i64 n, .int .i64 m]) noNum mixed Try.func59 (e59 n m _) ?_
  unfold t59
  exact .of ⟨by rw [ref_cut n m h], rfl⟩
theorem bnew_cl (rate burst now tokens : Int) : CallF PP 35 #[.int .i64 rate, .int .i64 burst, .int .i64 now, .int .i64 tokens] [] fun v L' => ∃ n, v = .pointer (some ⟨n, 0, none⟩) ∧ L' = [(n, bObj (bkNew rate burst now tokens))] := by
  refine CallF.of (args := [.int .i64 rate, .int .i64 burst, .int .i64 now, .int .i64 tokens]) noNum mixed Try.func35 (e35 rate burst now tokens _) ?_
  unfold t35
  have h3 := cut_rng burst 1073741824 (by decide)
  refine nw_of fun n1 _ => cl_rd (held_rd _ rate 1048576 n1 (by decide) List.mem_cons_self) (cut rate 1048576, ()) rfl ?_
  refine nw_of fun n2 _ => cl_rd (held_rd _ now 253402300799 n2 (by decide) List.mem_cons_self) (cut now 253402300799, ()) rfl ?_
  refine nw_of fun n3 _ => cl_rd (held_rd _ burst 1073741824 n3 (by decide) List.mem_cons_self) (cut burst 1073741824, ()) rfl ?_
  refine nw_of fun n4 _ => ld_of (cut burst 1073741824) (ldB List.mem_cons_self rfl) ?_
  refine nw_of fun n5 _ => cl_rd (held_rd _ tokens (cut burst 1073741824) n5 h3.1 List.mem_cons_self) (cut tokens (cut burst 1073741824), ()) rfl ?_
  refine st_of [_] _ rfl rfl (by simp [wr_size]) (.inl (Nat.le_refl _)) _ rfl ?_
  exact .drop (A := [_]) (J := [_, _, _, _]) ⟨n4, rfl, rfl⟩ (List.Perm.swap _ _ _)
theorem since_rd (L : HList) (b : Bk) (hb : b.Ok) (t : Int) (h0 : 0 ≤ t) (h1 : t ≤ 253402300799) : Reads PP 60 #[.agg #[.int .i64 b.rate, .int .i64 b.last], .int .i64 t] L
    (.tuple #[.int .i64 (bkCame b t), .agg #[.int .i64 b.rate, .int .i64 (if t ≤ b.last then b.last else t)]]) := by
  refine Reads.of (args := [.agg #[.int .i64 b.rate, .int .i64 b.last], .int .i64 t]) noNum mixed Try.func60 (e60 (b.rate, b.last, ()) t _) ?_
  unfold t60
  have hr := bkCame_rng hb h0 h1
  have hl0 := hb.l0
  have hl1 := hb.l1
  refine nw_of fun n1 _ => nw_of fun n2 _ => ld_of b.last (ldB (List.mem_cons_of_mem _ List.mem_cons_self) rfl) ?_
  refine ifD_of (fun (h : t ≤ b.last) => ?_) (fun (h : ¬ t ≤ b.last) => ?_)
  · refine ld_of (b.rate, b.last, ()) (ldB (List.mem_cons_of_mem _ List.mem_cons_self) rfl) (st_of [] _ rfl rfl (by simp [wr_size]) (.inl (Nat.le_refl _)) _ rfl (ld_of (b.rate, b.last, ()) (ldB List.mem_cons_self rfl) ?_))
    refine .drop (A := L) (J := [_, _]) ⟨?_, rfl⟩ (List.perm_append_comm (l₁ := [_, _]))
    unfold bkCame
    rw [if_pos h, if_pos h]
  · refine ld_of b.rate (ldB (List.mem_cons_of_mem _ List.mem_cons_self) rfl) (ld_of b.last (ldB (List.mem_cons_of_mem _ List.mem_cons_self) rfl) (ld_of b.rate (ldB (List.mem_cons_of_mem _ List.mem_cons_self) rfl) ?_))
    refine st_of [] _ rfl rfl (by simp [wr_size]) (.inl (Nat.le_refl _)) _ rfl (ld_of (b.rate, t, ()) (ldB List.mem_cons_self rfl) ?_)
    refine .drop (A := L) (J := [_, _]) ⟨?_, rfl⟩ (List.perm_append_comm (l₁ := [_, _]))
    unfold bkCame at hr ⊢
    rw [if_neg h] at hr
    rw [if_neg h, if_neg h, w64_id (n := t - b.last) (by omega) (by omega), w64_id (by omega) (by omega)]
theorem tick_cl (n : Nat) (b : Bk) (hb : b.Ok) (t : Int) : CallF PP 41 #[.pointer (some ⟨n, 0, none⟩), .int .i64 t] [(n, bObj b)] fun v L' => v = .tuple #[] ∧ L' = [(n, bObj (bkTick b t))] := by
  refine CallF.of (args := [.pointer (some ⟨n, 0, none⟩), .int .i64 t]) noNum mixed Try.func41 (e41 (some ⟨n, 0, none⟩) t _) ?_
  unfold t41
  have hc := cut_rng t 253402300799 (by decide)
  have hr := bkCame_rng hb hc.1 hc.2
  have ht0 := hb.t0
  have ht1 := hb.t1
  have hb1 := hb.b1
  refine ifF rfl (nilc_of rfl (ld_of (b.rate, b.last, ()) (ldB List.mem_cons_self rfl) ?_))
  refine nw_of fun n1 _ => cl_rd (held_rd _ t 253402300799 n1 (by decide) List.mem_cons_self) (cut t 253402300799, ()) rfl (keep_of (ldB (List.mem_cons_of_mem _ List.mem_cons_self) rfl) ?_)
  refine cl_rd (since_rd _ b hb (cut t 253402300799) hc.1 hc.2) (bkCame b (cut t 253402300799), (b.rate, (if cut t 253402300799 ≤ b.last then b.last else cut t 253402300799), ()), ()) rfl ?_
  refine nw_of fun n2 _ => st_of [] _ rfl rfl (by simp [wr_size]) (.inl (Nat.le_refl _)) _ rfl ?_
  refine nilc_of rfl (nilc_of rfl (ld_of b.tokens (ldB (List.mem_cons_of_mem _ (List.mem_cons_of_mem _ List.mem_cons_self)) rfl) (ld_of b.burst (ldB (List.mem_cons_of_mem _ (List.mem_cons_of_mem _ List.mem_cons_self)) rfl) ?_)))
  refine ld_of (b.rate, (if cut t 253402300799 ≤ b.last then b.last else cut t 253402300799), ()) (ldB List.mem_cons_self rfl) ?_
  have hw : IntKind.i64.wrap (b.tokens + bkCame b (cut t 253402300799)) = b.tokens + bkCame b (cut t 253402300799) := w64_id (by omega) (by omega)
  refine nw_of fun n3 _ => ?_
  simp only [hw]
  refine cl_rd (held_rd _ _ b.burst n3 hb.b0 List.mem_cons_self) (cut (b.tokens + bkCame b (cut t 253402300799)) b.burst, ()) rfl (keep_of (ldB (List.mem_cons_of_mem _ List.mem_cons_self) rfl) ?_)
  refine nilc_of rfl (st_of [_, _, _] [] rfl rfl (by simp [wr_size]) (.inl (Nat.le_refl _)) _ rfl (keep_of (ldB (List.mem_cons_of_mem _ List.mem_cons_self) rfl) (nilc_of rfl (st_of [_, _, _] [] rfl rfl (by simp [wr_size]) (.inl (Nat.le_refl _)) _ rfl ?_))))
  exact .drop (A := [_]) (J := [_, _, _]) ⟨rfl, rfl⟩ (List.perm_append_comm (l₁ := [_, _, _]))
theorem tick_nil (L : HList) (t : Int) : Reads PP 41 #[.pointer none, .int .i64 t] L (.tuple #[]) := by
  refine Reads.of (args := [.pointer none, .int .i64 t]) noNum mixed Try.func41 (e41 none t _) ?_
  unfold t41
  exact ifT rfl (.of ⟨rfl, rfl⟩)
theorem tokens_rd (L : HList) (n : Nat) (b : Bk) (hm : (n, bObj b) ∈ L) : Reads PP 37 #[.pointer (some ⟨n, 0, none⟩)] L (.int .i64 b.tokens) := by
  refine Reads.of (args := [.pointer (some ⟨n, 0, none⟩)]) noNum mixed Try.func37 (e37 (some ⟨n, 0, none⟩) _) ?_
  unfold t37
  exact ifF rfl (nilc_of rfl (ld_of b.tokens (ldB hm rfl) (.of ⟨rfl, rfl⟩)))
theorem tokens_nil (L : HList) : Reads PP 37 #[.pointer none] L (.int .i64 0) := by
  refine Reads.of (args := [.pointer none]) noNum mixed Try.func37 (e37 none _) ?_
  unfold t37
  exact ifT rfl (.of ⟨rfl, rfl⟩)
theorem now_rd (L : HList) (n : Nat) (b : Bk) (hm : (n, bObj b) ∈ L) : Reads PP 38 #[.pointer (some ⟨n, 0, none⟩)] L (.int .i64 b.last) := by
  refine Reads.of (args := [.pointer (some ⟨n, 0, none⟩)]) noNum mixed Try.func38 (e38 (some ⟨n, 0, none⟩) _) ?_
  unfold t38
  exact ifF rfl (nilc_of rfl (ld_of b.last (ldB hm rfl) (.of ⟨rfl, rfl⟩)))
theorem now_nil (L : HList) : Reads PP 38 #[.pointer none] L (.int .i64 0) := by
  refine Reads.of (args := [.pointer none]) noNum mixed Try.func38 (e38 none _) ?_
  unfold t38
  exact ifT rfl (.of ⟨rfl, rfl⟩)
theorem take_cl (n : Nat) (b : Bk) (hb : b.Ok) (t : Int) : CallF PP 39 #[.pointer (some ⟨n, 0, none⟩), .int .i64 t] [(n, bObj b)] fun v L' => v = .bool (bkTakes b t) ∧ L' = [(n, bObj (bkTake b t))] := by
  refine CallF.of (args := [.pointer (some ⟨n, 0, none⟩), .int .i64 t]) noNum mixed Try.func39 (e39 (some ⟨n, 0, none⟩) t _) ?_
  unfold t39
  have ht1 := hb.t1
  have hb1 := hb.b1
  unfold bkTakes bkTake
  refine ifF rfl (ifD_of (fun (h : t < 0) => .of ⟨?_, ?_⟩) (fun (h : ¬ t < 0) => nilc_of rfl (ld_of b.tokens (ldB List.mem_cons_self rfl) (ifD_of (fun (h2 : t > b.tokens) => .of ⟨?_, ?_⟩) (fun (h2 : ¬ t > b.tokens) => ?_)))))
  · rw [decide_eq_false (by omega)]
  · rw [if_neg (by omega)]
  · rw [decide_eq_false (by omega)]
  · rw [if_neg (by omega)]
  · refine nilc_of rfl (ld_of b.tokens (ldB List.mem_cons_self rfl) (nilc_of rfl (st_of [] [] rfl rfl (by simp [wr_size]) (.inl (Nat.le_refl _)) _ rfl (.of ⟨?_, ?_⟩))))
    · rw [decide_eq_true (by omega)]
    · rw [if_pos (by omega), w64_id (by first | omega | (simp only; omega)) (by first | omega | (simp only; omega))]
      rfl
theorem take_nil (L : HList) (t : Int) : Reads PP 39 #[.pointer none, .int .i64 t] L (.bool false) := by
  refine Reads.of (args := [.pointer none, .int .i64 t]) noNum mixed Try.func39 (e39 none t _) ?_
  unfold t39
  exact ifT rfl (.of ⟨rfl, rfl⟩)

/-! ### the document's -/
theorem rnew_rd (L : HList) (rate burst now tokens : Int) : Reads PP 36 #[.int .i64 rate, .int .i64 burst, .int .i64 now, .int .i64 tokens] L
    (.agg #[.int .i64 (bkNew rate burst now tokens).rate, .int .i64 (bkNew rate burst now tokens).burst, .int .i64 (bkNew rate burst now tokens).last, .int .i64 (bkNew rate burst now tokens).tokens]) := by
  refine Reads.of (args := [.int .i64 rate, .int .i64 burst, .int .i64 now, .int .i64 tokens]) noNum mixed Try.func36 (e36 rate burst now tokens _) ?_
  unfold t36
  have h3 := cut_rng burst 1073741824 (by decide)
  refine nw_of fun n1 _ => cl_rd (cut_rd _ rate 1048576 (by decide)) (cut rate 1048576, ()) rfl (cl_rd (cut_rd _ burst 1073741824 (by decide)) (cut burst 1073741824, ()) rfl (cl_rd (cut_rd _ now 253402300799 (by decide)) (cut now 253402300799, ()) rfl ?_))
  refine cl_rd (cut_rd _ burst 1073741824 (by decide)) (cut burst 1073741824, ()) rfl (cl_rd (cut_rd _ tokens (cut burst 1073741824) h3.1) (cut tokens (cut burst 1073741824), ()) rfl ?_)
  refine st_of [] _ rfl rfl (by simp [wr_size]) (.inl (Nat.le_refl _)) _ rfl (ld_of (cut rate 1048576, cut burst 1073741824, cut now 253402300799, cut tokens (cut burst 1073741824), ()) (ldB List.mem_cons_self rfl) ?_)
  exact .drop (A := L) (J := [_]) ⟨rfl, rfl⟩ (List.perm_append_comm (l₁ := [_]))
theorem rtick_cl (n : Nat) (b : Bk) (hb : b.Ok) (t : Int) : CallF PP 42 #[.pointer (some ⟨n, 0, none⟩), .int .i64 t] [(n, rObj b)] fun v L' => v = .tuple #[] ∧ L' = [(n, rObj (bkTick b t))] := by
  refine CallF.of (args := [.pointer (some ⟨n, 0, none⟩), .int .i64 t]) noNum mixed Try.func42 (e42 (some ⟨n, 0, none⟩) t _) ?_
  unfold t42
  have hc := cut_rng t 253402300799 (by decide)
  have hr := bkCame_rng hb hc.1 hc.2
  have ht0 := hb.t0
  have ht1 := hb.t1
  have hb1 := hb.b1
  have hl0 := hb.l0
  have hl1 := hb.l1
  refine cl_rd (cut_rd _ t 253402300799 (by decide)) (cut t 253402300799, ()) rfl (nilc_of rfl (ld_of b.last (ldB List.mem_cons_self rfl) ?_))
  have hm : ∀ {o : Obj}, (n, o) ∈ [(n, o)] := List.mem_cons_self
  refine ifD_of (fun (h : cut t 253402300799 > b.last) => ?_) (fun (h : ¬ cut t 253402300799 > b.last) => .of ⟨rfl, ?_⟩)
  · refine nilc_of rfl (nilc_of rfl (nilc_of rfl (nilc_of rfl (ld_of b.tokens (ldB hm rfl) (ld_of b.rate (ldB hm rfl) (ld_of b.last (ldB hm rfl) (ld_of b.burst (ldB hm rfl) ?_)))))))
    refine nilc_of rfl (st_of [] [] rfl rfl (by simp [wr_size]) (.inl (Nat.le_refl _)) _ rfl (nilc_of rfl (st_of [] [] rfl rfl (by simp [wr_size]) (.inl (Nat.le_refl _)) _ rfl (.of ⟨rfl, ?_⟩))))
    have hcame : bkCame b (cut t 253402300799) = b.rate * (cut t 253402300799 - b.last) := by unfold bkCame; rw [if_neg (by omega)]
    rw [hcame] at hr
    simp only [bkTick, hcame]
    rw [w64_id (n := cut t 253402300799 - b.last) (by omega) (by omega), w64_id (n := b.rate * (cut t 253402300799 - b.last)) (by omega) (by omega), w64_id (by omega) (by omega), if_neg (by omega)]
    have hcut : imin (b.tokens + b.rate * (cut t 253402300799 - b.last)) b.burst = cut (b.tokens + b.rate * (cut t 253402300799 - b.last)) b.burst := by
      generalize b.rate * (cut t 253402300799 - b.last) = q at hr ⊢
      unfold imin cut; split <;> split <;> (try split) <;> omega
    rw [hcut]
    rfl
  · have hcame : bkCame b (cut t 253402300799) = 0 := by unfold bkCame; rw [if_pos (by omega)]
    simp only [bkTick, hcame]
    rw [if_pos (by omega), Int.add_zero, cut_id _ _ ht0 ht1]
theorem rtake_cl (n : Nat) (b : Bk) (hb : b.Ok) (t : Int) : CallF PP 40 #[.pointer (some ⟨n, 0, none⟩), .int .i64 t] [(n, rObj b)] fun v L' => v = .bool (bkTakes b t) ∧ L' = [(n, rObj (bkTake b t))] := by
  refine CallF.of (args := [.pointer (some ⟨n, 0, none⟩), .int .i64 t]) noNum mixed Try.func40 (e40 (some ⟨n, 0, none⟩) t _) ?_
  unfold t40
  have ht1 := hb.t1
  have hb1 := hb.b1
  unfold bkTakes bkTake
  refine ifD_of (fun (h : t < 0) => .of ⟨?_, ?_⟩) (fun (h : ¬ t < 0) => nilc_of rfl (ld_of b.tokens (ldB List.mem_cons_self rfl) (ifD_of (fun (h2 : t > b.tokens) => .of ⟨?_, ?_⟩) (fun (h2 : ¬ t > b.tokens) => ?_))))
  · rw [decide_eq_false (by omega)]
  · rw [if_neg (by omega)]
  · rw [decide_eq_false (by omega)]
  · rw [if_neg (by omega)]
  · refine nilc_of rfl (ld_of b.tokens (ldB List.mem_cons_self rfl) (nilc_of rfl (st_of [] [] rfl rfl (by simp [wr_size]) (.inl (Nat.le_refl _)) _ rfl (.of ⟨?_, ?_⟩))))
    · rw [decide_eq_true (by omega)]
    · rw [if_pos (by omega), w64_id (by first | omega | (simp only; omega)) (by first | omega | (simp only; omega))]
      rfl

/-! ### the page's example -/
theorem holds_rd (L : HList) : Reads PP 34 #[] L (.bool true) := by
  refine Reads.of (args := []) noNum mixed Try.func34 (e34 _) ?_
  unfold t34
  have o0 := bkNew_ok 10 100 0 0
  refine cl_in [] L (bnew_cl 10 100 0 0) rfl ?_
  rintro v A' - ⟨n, rfl, rfl⟩
  refine ⟨(some ⟨n, 0, none⟩, ()), rfl, ?_⟩
  have o1 := bkTick_ok o0 5
  refine cl_in [] L (tick_cl n _ o0 5) rfl ?_
  rintro v A' - ⟨rfl, rfl⟩
  refine ⟨(), rfl, cl_rd (tokens_rd _ n _ List.mem_cons_self) ((50 : Int), ()) (congrArg (Value.int .i64) (by decide)) ?_⟩
  refine cl_in [] L (take_cl n _ o1 60) rfl ?_
  rintro v A' - ⟨rfl, rfl⟩
  refine ⟨(false, ()), congrArg Value.bool (by decide), ?_⟩
  have o2 := bkTake_ok o1 60
  refine cl_in [] L (tick_cl n _ o2 50) rfl ?_
  rintro v A' - ⟨rfl, rfl⟩
  refine ⟨(), rfl, ?_⟩
  have o3 := bkTick_ok o2 50
  refine cl_in [] L (take_cl n _ o3 30) rfl ?_
  rintro v A' - ⟨rfl, rfl⟩
  refine ⟨(true, ()), congrArg Value.bool (by decide), ?_⟩
  refine cl_rd (tick_nil _ 5) () rfl (ifT rfl (ifT rfl (ifT rfl ?_)))
  refine cl_rd (tokens_rd _ n _ List.mem_cons_self) ((70 : Int), ()) (congrArg (Value.int .i64) (by decide)) (ifT rfl ?_)
  refine cl_rd (now_rd _ n _ List.mem_cons_self) ((50 : Int), ()) (congrArg (Value.int .i64) (by decide)) (ifT rfl ?_)
  refine cl_rd (take_nil _ 0) (false, ()) rfl (ifT rfl (cl_rd (tokens_nil _) ((0 : Int), ()) rfl (cl_rd (now_nil _) ((0 : Int), ()) rfl ?_)))
  exact .drop (A := L) (J := [_]) ⟨rfl, rfl⟩ (List.perm_append_comm (l₁ := [_]))
end Go.Proofs.Ytnhpojbjkfgeoaa
