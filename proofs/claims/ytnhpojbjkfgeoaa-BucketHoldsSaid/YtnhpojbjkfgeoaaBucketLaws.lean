/-
  It is proved that the laws about the layer bucket return true for every input. There are no further conditions than those that each theorem names.
-/
import Derived.Test.YtnhpojbjkfgeoaaBucket
set_option linter.unusedVariables false
set_option linter.unusedSimpArgs false
namespace Go.Proofs.Ytnhpojbjkfgeoaa
open Go.HL

abbrev Act22 := Bool × Int × Unit
def actEnc (x : Act22) : List Value := [.bool x.1, .int .i64 x.2.1]
theorem actEnc_len (x : Act22) : (actEnc x).length = 2 := rfl
def bkAct (b : Bk) (x : Act22) : Bk := if x.1 then bkTake b x.2.1 else bkTick b x.2.1
theorem bkAct_ok {b : Bk} (h : b.Ok) (x : Act22) : (bkAct b x).Ok := by
  unfold bkAct; split
  · exact bkTake_ok h _
  · exact bkTick_ok h _
/-- The fields of an act in a slice. -/
theorem act_at {L : HList} {v : SlV} {l : List Act22} (h : Sl L v 2 (l.flatMap actEnc)) {i : Nat} (hi : i < l.length) : ∃ a, v.a = some a ∧ LdAt (Addr.add a ((i : Int).toNat * 2)) [.bool l[i].1] L ∧ LdAt (Addr.add (Addr.add a ((i : Int).toNat * 2)) 1) [.int .i64 l[i].2.1] L := by
  obtain ⟨a, ha, hl⟩ := h.el actEnc_len (by decide) hi
  rw [Int.toNat_natCast]
  exact ⟨a, ha, hl.pre fun i u hu => by cases i with | zero => exact hu | succ i => simp at hu, hl.one 1 rfl⟩

theorem law_BucketDoes (L : HList) (rate burst now tokens : Int) (v : SlV) (l : List Act22) (h : Sl L v 2 (l.flatMap actEnc)) :
    Reads PP 10 #[.int .i64 rate, .int .i64 burst, .int .i64 now, .int .i64 tokens, .slice v.a v.len v.cap] L (.bool true) := by
  refine Reads.of (args := [.int .i64 rate, .int .i64 burst, .int .i64 now, .int .i64 tokens, .slice v.a v.len v.cap]) noNum mixed Try.func10 (e10 rate burst now tokens v _) ?_
  unfold t10
  have hlen := h.els_len actEnc_len (by decide)
  refine ifD_of (fun (h1 : (v.len : Int) > 500) => cl_rd (holds_rd L) (true, ()) rfl (.of ⟨rfl, rfl⟩)) (fun (h1 : ¬ (v.len : Int) > 500) => ?_)
  refine cl_in [] L (bnew_cl rate burst now tokens) rfl ?_
  rintro w A' - ⟨n, rfl, rfl⟩
  refine ⟨(some ⟨n, 0, none⟩, ()), rfl, ?_⟩
  have o0 := bkNew_ok rate burst now tokens
  refine cl_rd (rnew_rd _ rate burst now tokens) (((bkNew rate burst now tokens).rate, (bkNew rate burst now tokens).burst, (bkNew rate burst now tokens).last, (bkNew rate burst now tokens).tokens, ()), ()) rfl ?_
  generalize bkNew rate burst now tokens = b at o0 ⊢
  refine nw_of fun m hs => st_of [] _ rfl rfl (by simp) (.inl (Nat.le_refl _)) _ rfl ?_
  refine ld_of b.tokens (ldB List.mem_cons_self rfl) (cl_rd (tokens_rd _ n b (List.mem_cons_of_mem _ List.mem_cons_self)) (b.tokens, ()) rfl (keep_of (ldB List.mem_cons_self rfl) (ifF (by simp) ?_)))
  refine ld_of b.last (ldB List.mem_cons_self rfl) (cl_rd (now_rd _ n b (List.mem_cons_of_mem _ List.mem_cons_self)) (b.last, ()) rfl (keep_of (ldB List.mem_cons_self rfl) (ifF (by simp) ?_)))
  refine lp_of (fun k z L' => ∃ i b, i ≤ l.length ∧ k = l.length - i ∧ z = ((i : Int), ()) ∧ b.Ok ∧ L' = (m, rObj b) :: (n, bObj b) :: L) l.length ⟨0, b, by omega, by omega, rfl, o0, rfl⟩ ?_
  clear o0
  rintro k z L' ⟨i, b, hi, rfl, rfl, ob, rfl⟩
  have h' : Sl ((m, rObj b) :: (n, bObj b) :: L) v 2 (l.flatMap actEnc) := h.cons.cons
  refine ifD_of (fun (hlt : (i : Int) < v.len) => ?_) (fun (hge : ¬ (i : Int) < v.len) => ?_)
  · have hi' : i < l.length := by omega
    have oa := bkAct_ok ob l[i]
    refine jn_of (fun y L' => L' = (m, rObj (bkAct b l[i])) :: (n, bObj (bkAct b l[i])) :: L) ?_ ?_
    · rintro y L' rfl
      generalize bkAct b l[i] = b at oa ⊢
      refine ld_of b.tokens (ldB List.mem_cons_self rfl) (cl_rd (tokens_rd _ n b (List.mem_cons_of_mem _ List.mem_cons_self)) (b.tokens, ()) rfl (keep_of (ldB List.mem_cons_self rfl) (ifF (by simp) ?_)))
      refine ld_of b.last (ldB List.mem_cons_self rfl) (cl_rd (now_rd _ n b (List.mem_cons_of_mem _ List.mem_cons_self)) (b.last, ()) rfl (keep_of (ldB List.mem_cons_self rfl) (ifF (by simp) ?_)))
      refine ⟨l.length - (i + 1), by omega, i + 1, b, by omega, rfl, ?_, oa, rfl⟩
      rw [w64_id (by first | omega | (simp only; omega)) (by first | omega | (simp only; omega))]
      rfl
    · intro j hj
      obtain ⟨a, ha, l0, l1⟩ := act_at h' hi'
      have h0 : (0 : Int) ≤ (i : Int) := by omega
      refine nilc_of ha (ixn_of h0 hlt (ld_of l[i].1 l0 ?_))
      refine ifB_of (fun ht => ?_) (fun ht => ?_)
      · refine nilc_of ha (ixn_of h0 hlt (nilc_of ha (ixn_of h0 hlt (ld_of l[i].2.1 l1 (ld_of l[i].2.1 l1 ?_)))))
        refine cl_in [_] L (take_cl n b ob l[i].2.1) rfl ?_
        rintro w A' - ⟨rfl, rfl⟩
        refine ⟨(bkTakes b l[i].2.1, ()), rfl, keep_of ?_ ?_⟩
        · have h2 : Sl ((m, rObj b) :: (n, bObj (bkTake b l[i].2.1)) :: L) v 2 (l.flatMap actEnc) := h.cons.cons
          obtain ⟨a', ha', _, l1'⟩ := act_at h2 hi'
          rw [ha] at ha'
          obtain rfl := Option.some.inj ha'
          exact l1'
        refine cl_in [] (_ :: L) (rtake_cl m b ob l[i].2.1) rfl ?_
        rintro w A' - ⟨rfl, rfl⟩
        refine ⟨(bkTakes b l[i].2.1, ()), rfl, ifF (by simp) (hj _ _ ?_)⟩
        unfold bkAct
        rw [if_pos ht]
        rfl
      · refine nilc_of ha (ixn_of h0 hlt (ld_of l[i].2.1 l1 ?_))
        refine cl_in [_] L (tick_cl n b ob l[i].2.1) rfl ?_
        rintro w A' - ⟨rfl, rfl⟩
        have h2 : Sl ((m, rObj b) :: (n, bObj (bkTick b l[i].2.1)) :: L) v 2 (l.flatMap actEnc) := h.cons.cons
        obtain ⟨a', ha', _, l1'⟩ := act_at h2 hi'
        refine ⟨(), rfl, nilc_of ha' (ixn_of h0 hlt (ld_of l[i].2.1 l1' ?_))⟩
        refine cl_in [] (_ :: L) (rtick_cl m b ob l[i].2.1) rfl ?_
        rintro w A' - ⟨rfl, rfl⟩
        refine ⟨(), rfl, hj _ _ ?_⟩
        unfold bkAct
        rw [if_neg (by rw [ht]; decide)]
        rfl
  · exact cl_rd (holds_rd _) (true, ()) rfl (.drop (A := L) (J := [_, _]) ⟨rfl, rfl⟩ (List.perm_append_comm (l₁ := [_, _])))
end Go.Proofs.Ytnhpojbjkfgeoaa
