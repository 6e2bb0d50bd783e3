/-
  It is proved that the law about what a bucket gives between two acts returns true for every input. There are no further conditions than those that each theorem names.
-/
import Derived.Test.YtnhpojbjkfgeoaaBucketLaws2
set_option linter.unusedVariables false
set_option linter.unusedSimpArgs false
namespace Go.Proofs.Ytnhpojbjkfgeoaa
open Go.HL

structure HInv (b : Bk) (A T : List Int) (i : Nat) (t : Int) : Prop where
  lenA : A.length = i + 1
  lenT : T.length = i + 1
  ok : b.Ok
  lastA : ∀ a, A[i]? = some a → a = b.last
  lastT : ∀ x, T[i]? = some x → x = t
  pairs : ∀ (j k : Nat) (aj ak tj tk : Int), j ≤ k → A[j]? = some aj → A[k]? = some ak → T[j]? = some tj → T[k]? = some tk → aj ≤ ak ∧ tj ≤ tk ∧ tk - tj ≤ b.burst + b.rate * (ak - aj)
  pot : ∀ (j : Nat) (aj tj : Int), A[j]? = some aj → T[j]? = some tj → aj ≤ b.last ∧ tj ≤ t ∧ b.tokens + t - tj ≤ b.burst + b.rate * (b.last - aj)
  rngA : ∀ a ∈ A, 0 ≤ a ∧ a ≤ 253402300799
  rngT : ∀ x ∈ T, 0 ≤ x ∧ x ≤ i * 1073741824
  rngt : 0 ≤ t ∧ t ≤ i * 1073741824
theorem snoc_get {l : List Int} {x y : Int} {j : Nat} (h : (l ++ [x])[j]? = some y) : l[j]? = some y ∨ (j = l.length ∧ y = x) := by
  rw [List.getElem?_append] at h
  split at h
  · exact .inl h
  · rename_i hj
    have hlt := (List.getElem?_eq_some_iff.1 h).1
    simp at hlt
    have : j = l.length := by omega
    subst this
    simp at h
    exact .inr ⟨rfl, h.symm⟩
theorem HInv.step {b : Bk} {A T : List Int} {i : Nat} {t : Int} (h : HInv b A T i t) {b' : Bk} {t' : Int} (ok : b'.Ok) (hr : b'.rate = b.rate) (hb : b'.burst = b.burst) (hl : b.last ≤ b'.last) (ht : t ≤ t') (ht2 : t' ≤ t + 1073741824)
    (hp : b'.tokens + t' ≤ b.tokens + t + b.rate * (b'.last - b.last)) : HInv b' (A ++ [b'.last]) (T ++ [t']) (i + 1) t' := by
  have key : ∀ (j : Nat) (aj tj : Int), A[j]? = some aj → T[j]? = some tj → aj ≤ b'.last ∧ tj ≤ t' ∧ b'.tokens + t' - tj ≤ b'.burst + b'.rate * (b'.last - aj) := by
    intro j aj tj ha hj
    obtain ⟨h1, h2, h3⟩ := h.pot j aj tj ha hj
    have e : b.rate * (b'.last - aj) = b.rate * (b.last - aj) + b.rate * (b'.last - b.last) := by rw [← Int.mul_add]; congr 1; omega
    rw [hr, hb, e]
    omega
  have hl' : (A ++ [b'.last]).length = i + 2 := by rw [List.length_append, h.lenA]; rfl
  have t0 := ok.t0
  have t1 := ok.t1
  have b0 := ok.b0
  have hrt := h.rngt
  have key2 : ∀ (j : Nat) (aj tj : Int), (A ++ [b'.last])[j]? = some aj → (T ++ [t'])[j]? = some tj → aj ≤ b'.last ∧ tj ≤ t' ∧ b'.tokens + t' - tj ≤ b'.burst + b'.rate * (b'.last - aj) := by
    intro j aj tj ha hj
    rcases snoc_get ha with ha | ⟨ej, rfl⟩
    · rcases snoc_get hj with hj | ⟨ej, rfl⟩
      · exact key j aj tj ha hj
      · have := (List.getElem?_eq_some_iff.1 ha).1
        rw [h.lenA] at this; rw [h.lenT] at ej; omega
    · rcases snoc_get hj with hj | ⟨ej', rfl⟩
      · have := (List.getElem?_eq_some_iff.1 hj).1
        rw [h.lenT] at this; rw [h.lenA] at ej; omega
      · rw [Int.sub_self, Int.mul_zero]; omega
  refine ⟨hl', by rw [List.length_append, h.lenT]; rfl, ok, ?_, ?_, ?_, key2, ?_, ?_, by omega⟩
  · intro a ha
    rcases snoc_get ha with ha | ⟨_, rfl⟩
    · have := (List.getElem?_eq_some_iff.1 ha).1
      rw [h.lenA] at this; omega
    · rfl
  · intro a ha
    rcases snoc_get ha with ha | ⟨_, rfl⟩
    · have := (List.getElem?_eq_some_iff.1 ha).1
      rw [h.lenT] at this; omega
    · rfl
  · intro j k aj ak tj tk hjk haj hak htj htk
    rcases snoc_get hak with hak | ⟨ek, rfl⟩
    · have hk := (List.getElem?_eq_some_iff.1 hak).1
      rcases snoc_get htk with htk | ⟨ek, rfl⟩
      · rcases snoc_get haj with haj | ⟨ej, rfl⟩
        · rcases snoc_get htj with htj | ⟨ej, rfl⟩
          · rw [hr, hb]; exact h.pairs j k aj ak tj tk hjk haj hak htj htk
          · rw [h.lenA] at hk; rw [h.lenT] at ej; omega
        · omega
      · rw [h.lenA] at hk; rw [h.lenT] at ek; omega
    · rcases snoc_get htk with htk | ⟨_, rfl⟩
      · have := (List.getElem?_eq_some_iff.1 htk).1
        rw [h.lenT] at this; rw [h.lenA] at ek; omega
      · obtain ⟨h1, h2, h3⟩ := key2 j aj tj haj htj
        exact ⟨h1, h2, by omega⟩
  · intro a ha
    rcases List.mem_append.1 ha with ha | ha
    · exact h.rngA a ha
    · rw [List.mem_singleton.1 ha]; exact ⟨ok.l0, ok.l1⟩
  · intro x hx
    rcases List.mem_append.1 hx with hx | hx
    · have := h.rngT x hx; omega
    · rw [List.mem_singleton.1 hx]; omega
theorem tick_facts {b : Bk} (h : b.Ok) (now : Int) : (bkTick b now).rate = b.rate ∧ (bkTick b now).burst = b.burst ∧ b.last ≤ (bkTick b now).last ∧ (bkTick b now).tokens ≤ b.tokens + b.rate * ((bkTick b now).last - b.last) := by
  have hc := cut_rng now 253402300799 (by decide)
  have hr := bkCame_rng h hc.1 hc.2
  have t0 := h.t0
  refine ⟨rfl, rfl, ?_, ?_⟩
  · simp only [bkTick]; split <;> omega
  · have e : bkCame b (cut now 253402300799) = b.rate * ((bkTick b now).last - b.last) := by
      simp only [bkTick]; unfold bkCame; split
      · rw [Int.sub_self, Int.mul_zero]
      · rfl
    rw [← e]
    simp only [bkTick]
    generalize bkCame b (cut now 253402300799) = q at hr ⊢
    unfold cut; split <;> (try split) <;> omega

theorem elemInt : ElemT PP 54 3 1 8 [.int .i64 0] := elemT_of (by kernel_rfl) (by kernel_rfl) rfl (by decide) (by decide)
theorem srcInt : SrcT PP 54 := .inl ⟨3, by kernel_rfl⟩
theorem ownOne {n : Nat} {x : Int} : Own ⟨some ⟨n, 0, none⟩, 1, 1⟩ 1 3 (ivs .i64 [x]) [(n, Obj.cells #[.int .i64 x] 3)] :=
  ⟨rfl, Nat.le_refl _, .inr ⟨n, 0, _, (0, 0), rfl, rfl, by simp, .inl (Nat.le_refl _), fun i u hu => by cases i with | zero => simpa [ivs] using hu | succ i => simp [ivs] at hu⟩⟩

theorem law_BucketHolds (L : HList) (rate burst : Int) (v : SlV) (l : List Act22) (h : Sl L v 2 (l.flatMap actEnc)) (hi64 : ∀ x ∈ l, -9223372036854775808 ≤ x.2.1 ∧ x.2.1 ≤ 9223372036854775807) :
    Reads PP 11 #[.int .i64 rate, .int .i64 burst, .slice v.a v.len v.cap] L (.bool true) := by
  refine Reads.of (args := [.int .i64 rate, .int .i64 burst, .slice v.a v.len v.cap]) noNum mixed Try.func11 (e11 rate burst v _) ?_
  unfold t11
  have hlen := h.els_len actEnc_len (by decide)
  have done : ∀ {k : RsV [.lf .bool] → HP}, k (true, ()) L → cl PP 34 #[] [.lf .bool] k L := fun hk => cl_rd (holds_rd L) (true, ()) rfl hk
  refine ifD_of (fun (h1 : rate < 0) => done (.of ⟨rfl, rfl⟩)) (fun (r0 : ¬ rate < 0) => ?_)
  refine ifD_of (fun (h1 : rate > 1048576) => done (.of ⟨rfl, rfl⟩)) (fun (r1 : ¬ rate > 1048576) => ?_)
  refine ifD_of (fun (h1 : burst < 0) => done (.of ⟨rfl, rfl⟩)) (fun (b0 : ¬ burst < 0) => ?_)
  refine ifD_of (fun (h1 : burst > 1073741824) => done (.of ⟨rfl, rfl⟩)) (fun (b1 : ¬ burst > 1073741824) => ?_)
  refine ifD_of (fun (h1 : (v.len : Int) > 100) => done (.of ⟨rfl, rfl⟩)) (fun (h1 : ¬ (v.len : Int) > 100) => ?_)
  refine cl_in [] L (bnew_cl rate burst 0 burst) rfl ?_
  rintro w A' - ⟨n, rfl, rfl⟩
  refine ⟨(some ⟨n, 0, none⟩, ()), rfl, nw_of fun n1 _ => nw_of fun n2 _ => ?_⟩
  have o0 := bkNew_ok rate burst 0 burst
  have hr : (bkNew rate burst 0 burst).rate = rate := cut_id _ _ (by omega) (by omega)
  have hbu : (bkNew rate burst 0 burst).burst = burst := cut_id _ _ (by omega) (by omega)
  have hl0 : (bkNew rate burst 0 burst).last = 0 := rfl
  generalize bkNew rate burst 0 burst = b at o0 hr hbu hl0 ⊢
  have inv0 : HInv b [0] [0] 0 0 := by
    have t1 := o0.t1
    refine ⟨rfl, rfl, o0, ?_, ?_, ?_, ?_, ?_, ?_, by omega⟩
    · intro a ha; simp at ha; omega
    · intro a ha; simp at ha; omega
    · intro j k aj ak tj tk hjk haj hak htj htk
      cases j with
      | succ j => simp at haj
      | zero => cases k with
        | succ k => simp at hak
        | zero =>
          simp at haj hak htj htk
          subst haj hak htj htk
          rw [Int.sub_self, Int.mul_zero]; omega
    · intro j aj tj haj htj
      cases j with
      | succ j => simp at haj
      | zero =>
        simp at haj htj
        subst haj htj
        rw [hl0, Int.sub_self, Int.mul_zero]; omega
    · intro a ha; simp at ha; subst ha; omega
    · intro a ha; simp at ha; subst ha; omega
  refine lp_of (fun k z L' => ∃ i b A T t at' tk J sA sT, i ≤ l.length ∧ k = l.length - i ∧ z = (at', tk, (i : Int), ()) ∧ HInv b A T i t ∧ b.rate = rate ∧ b.burst = burst ∧ Own at' 1 3 (ivs .i64 A) sA ∧ Own tk 1 3 (ivs .i64 T) sT ∧
      L' = J ++ sT ++ sA ++ [(n, bObj b)] ++ L) l.length ⟨0, b, [0], [0], 0, _, _, [], _, _, by omega, by omega, rfl, inv0, hr, hbu, ownOne, ownOne, rfl⟩ ?_
  clear inv0 hr hbu hl0 o0
  rintro k z L' ⟨i, b, A, T, t, at', tk, J, sA, sT, hi, rfl, rfl, inv, hr, hbu, ownA, ownT, rfl⟩
  have slA : ISl (J ++ sT ++ sA ++ [(n, bObj b)] ++ L) at' .i64 A := ownA.sl.right.left.left
  have slT : ISl (J ++ sT ++ sA ++ [(n, bObj b)] ++ L) tk .i64 T := ownT.sl.right.left.left.left
  have lenA := slA.len
  have lenT := slT.len
  have iA := inv.lenA
  have iT := inv.lenT
  refine ifD_of (fun (hlt : (i : Int) < v.len) => ?_) (fun (hge : ¬ (i : Int) < v.len) => ?_)
  · have hi' : i < l.length := by omega
    have h0 : (0 : Int) ≤ (i : Int) := by omega
    have hiT : i < T.length := by omega
    obtain ⟨aT, haT⟩ := slT.some hiT
    have htT : T[i] = t := inv.lastT _ (List.getElem?_eq_getElem hiT)
    refine nilc_of haT (ixn_of h0 (show (i : Int) < tk.len by omega) (ld_of t (by have := slT.rd hiT haT _ rfl; rw [htT] at this; exact this) ?_))
    have hx := hi64 l[i] (List.getElem_mem hi')
    generalize hxe : l[i] = x at hx
    have hrt := inv.rngt
    have hbt := inv.ok.t1
    have hbb := inv.ok.b1
    refine jn_of (fun y L' => ∃ b' t', y = (t', ()) ∧ L' = J ++ sT ++ sA ++ [(n, bObj b')] ++ L ∧ b'.rate = rate ∧ b'.burst = burst ∧ HInv b' (A ++ [b'.last]) (T ++ [t']) (i + 1) t') ?_ ?_
    · rintro y L' ⟨b', t', rfl, rfl, hr', hbu', inv'⟩
      refine cl_rd (now_rd _ n b' (by simp)) (b'.last, ()) rfl ?_
      refine nw_of fun n3 _ => append_in elemInt srcInt ((n3, Obj.cells #[.int .i64 b'.last] 3) :: (J ++ sT)) ([(n, bObj b')] ++ L) ownA (by simp [ivs]) (.sl (ISl.const (l := [b'.last]) 1 (Nat.le_refl _) List.mem_cons_self)) (ivs_plain _ _)
        (by simp only [List.length_cons, List.length_nil]; omega) fun at2 sA2 hat2 ownA2 => ?_
      refine nw_of fun n4 _ => append_in elemInt srcInt ((n4, Obj.cells #[.int .i64 t'] 3) :: (n3, Obj.cells #[.int .i64 b'.last] 3) :: J) (sA2 ++ ([(n, bObj b')] ++ L)) ownT (by simp [ivs]) (.sl (ISl.const (l := [t']) 1 (Nat.le_refl _) List.mem_cons_self)) (ivs_plain _ _)
        (by simp only [List.length_cons, List.length_nil]; omega) fun tk2 sT2 htk2 ownT2 => ?_
      rw [← ivs_append] at ownA2 ownT2
      refine ⟨l.length - (i + 1), by omega, i + 1, b', A ++ [b'.last], T ++ [t'], t', at2, tk2, (n4, Obj.cells #[.int .i64 t'] 3) :: (n3, Obj.cells #[.int .i64 b'.last] 3) :: J, sA2, sT2, by omega, rfl, ?_, inv', hr', hbu', ownA2, ownT2, by simp⟩
      rw [w64_id (by first | omega | (simp only; omega)) (by first | omega | (simp only; omega))]
      rfl
    · intro j hj
      obtain ⟨a, ha, l0, l1⟩ := act_at (h.right (R := J ++ sT ++ sA ++ [(n, bObj b)])) hi'
      rw [hxe] at l0 l1
      refine nilc_of ha (ixn_of h0 hlt (ld_of x.1 l0 ?_))
      refine ifB_of (fun hx1 => ?_) (fun hx1 => ?_)
      · refine nilc_of ha (ixn_of h0 hlt (ld_of x.2.1 l1 ?_))
        refine cl_in (J ++ sT ++ sA) L (take_cl n b inv.ok x.2.1) rfl ?_
        rintro w A' - ⟨rfl, rfl⟩
        refine ⟨(bkTakes b x.2.1, ()), rfl, ?_⟩
        have ok' := bkTake_ok inv.ok x.2.1
        refine ifB_of (fun h2 => ?_) (fun h2 => ?_)
        · have h3 : 0 ≤ x.2.1 ∧ x.2.1 ≤ b.tokens := of_decide_eq_true h2
          obtain ⟨a', ha', _, l1'⟩ := act_at (h.right (R := J ++ sT ++ sA ++ [(n, bObj (bkTake b x.2.1))])) hi'
          rw [hxe] at l1'
          have f : bkTake b x.2.1 = { b with tokens := b.tokens - x.2.1 } := by unfold bkTake; rw [if_pos h3]
          refine nilc_of ha' (ixn_of h0 hlt (ld_of x.2.1 l1' (hj _ _ ⟨bkTake b x.2.1, t + x.2.1, ?_, rfl, by rw [f]; exact hr, by rw [f]; exact hbu, ?_⟩)))
          · rw [w64_id (by omega) (by omega)]
          · refine inv.step ok' (by rw [f]) (by rw [f]) (by rw [f]; exact Int.le_refl _) (by omega) (by omega) ?_
            rw [f]
            simp only [Int.sub_self, Int.mul_zero]
            omega
        · have h3 : ¬ (0 ≤ x.2.1 ∧ x.2.1 ≤ b.tokens) := of_decide_eq_false h2
          have f : bkTake b x.2.1 = b := by unfold bkTake; rw [if_neg h3]
          rw [f]
          refine hj _ _ ⟨b, t, rfl, rfl, hr, hbu, inv.step inv.ok rfl rfl (Int.le_refl _) (Int.le_refl _) (by omega) ?_⟩
          rw [Int.sub_self, Int.mul_zero]; omega
      · refine nilc_of ha (ixn_of h0 hlt (ld_of x.2.1 l1 ?_))
        refine cl_in (J ++ sT ++ sA) L (tick_cl n b inv.ok x.2.1) rfl ?_
        rintro w A' - ⟨rfl, rfl⟩
        obtain ⟨f1, f2, f3, f4⟩ := tick_facts inv.ok x.2.1
        refine ⟨(), rfl, hj _ _ ⟨bkTick b x.2.1, t, rfl, rfl, hr, hbu, inv.step (bkTick_ok inv.ok _) f1 f2 f3 (Int.le_refl _) (by omega) (by omega)⟩⟩
  · have hb : i ≤ 100 := by omega
    refine lp_of (fun k z L' => L' = J ++ sT ++ sA ++ [(n, bObj b)] ++ L ∧ ∃ p, p ≤ A.length ∧ k = A.length - p ∧ z = ((p : Int), ())) A.length ⟨rfl, 0, by omega, by omega, rfl⟩ ?_
    rintro k z L' ⟨rfl, p, hp, rfl, rfl⟩
    refine ifD_of (fun (hlt : (p : Int) < at'.len) => ?_) (fun (hge : ¬ (p : Int) < at'.len) => ?_)
    · refine lp_of (fun k z L' => L' = J ++ sT ++ sA ++ [(n, bObj b)] ++ L ∧ ∃ q, p ≤ q ∧ q ≤ A.length ∧ k = A.length - q ∧ z = ((q : Int), ())) (A.length - p) ⟨rfl, p, by omega, by omega, rfl, rfl⟩ ?_
      rintro k z L' ⟨rfl, q, hpq, hq, rfl, rfl⟩
      refine ifD_of (fun (hlt2 : (q : Int) < at'.len) => ?_) (fun (hge : ¬ (q : Int) < at'.len) => ?_)
      · have hqA : q < A.length := by omega
        have hpA : p < A.length := by omega
        have hqT : q < T.length := by omega
        have hpT : p < T.length := by omega
        obtain ⟨a, ha⟩ := slA.some hqA
        obtain ⟨c, hc⟩ := slT.some hqT
        have q0 : (0 : Int) ≤ (q : Int) := by omega
        have p0 : (0 : Int) ≤ (p : Int) := by omega
        have q1 : (q : Int) < tk.len := by omega
        have p1 : (p : Int) < tk.len := by omega
        obtain ⟨f1, f2, f3⟩ := inv.pairs p q A[p] A[q] T[p] T[q] hpq (List.getElem?_eq_getElem hpA) (List.getElem?_eq_getElem hqA) (List.getElem?_eq_getElem hpT) (List.getElem?_eq_getElem hqT)
        have g1 := inv.rngA _ (List.getElem_mem hpA)
        have g2 := inv.rngA _ (List.getElem_mem hqA)
        have g3 := inv.rngT _ (List.getElem_mem hpT)
        have g4 := inv.rngT _ (List.getElem_mem hqT)
        have dA : ∀ (j : Nat), j = q → LdAt (Addr.add a ((j : Int).toNat * 1)) [.int .i64 A[q]] (J ++ sT ++ sA ++ [(n, bObj b)] ++ L) := fun j e => by subst e; exact slA.rd hqA ha _ rfl
        have dA2 : LdAt (Addr.add a ((p : Int).toNat * 1)) [.int .i64 A[p]] (J ++ sT ++ sA ++ [(n, bObj b)] ++ L) := slA.rd hpA ha _ rfl
        have dT : LdAt (Addr.add c ((q : Int).toNat * 1)) [.int .i64 T[q]] (J ++ sT ++ sA ++ [(n, bObj b)] ++ L) := slT.rd hqT hc _ rfl
        have dT2 : LdAt (Addr.add c ((p : Int).toNat * 1)) [.int .i64 T[p]] (J ++ sT ++ sA ++ [(n, bObj b)] ++ L) := slT.rd hpT hc _ rfl
        refine nilc_of ha (ixn_of q0 hlt2 (nilc_of ha (ixn_of p0 hlt (ld_of A[q] (dA q rfl) (ld_of A[p] dA2 (ifN (show ¬ A[q] < A[p] by omega) ?_))))))
        refine nilc_of hc (ixn_of q0 q1 (nilc_of hc (ixn_of p0 p1 (nilc_of ha (ixn_of q0 hlt2 (nilc_of ha (ixn_of p0 hlt (ld_of T[q] dT (ld_of T[p] dT2 (ld_of A[q] (dA q rfl) (ld_of A[p] dA2 ?_)))))))))))
        have hm := mul_bound (a := rate) (b := A[q] - A[p]) (by omega) (by omega) (by omega) (by omega)
        rw [hr, hbu] at f3
        refine ifN (by
          rw [w64_id (n := A[q] - A[p]) (by omega) (by omega), w64_id (n := rate * (A[q] - A[p])) (by omega) (by omega), w64_id (n := T[q] - T[p]) (by omega) (by omega), w64_id (n := burst + rate * (A[q] - A[p])) (by omega) (by omega)]
          omega) ?_
        refine nilc_of hc (ixn_of q0 q1 (nilc_of hc (ixn_of p0 p1 (ld_of T[q] dT (ld_of T[p] dT2 (ifN (show ¬ T[q] < T[p] by omega) ?_))))))
        refine ⟨A.length - (q + 1), by omega, rfl, q + 1, by omega, by omega, rfl, ?_⟩
        rw [w64_id (by first | omega | (simp only; omega)) (by first | omega | (simp only; omega))]
        rfl
      · refine ⟨A.length - (p + 1), by omega, rfl, p + 1, by omega, rfl, ?_⟩
        rw [w64_id (by first | omega | (simp only; omega)) (by first | omega | (simp only; omega))]
        rfl
    · exact cl_rd (holds_rd _) (true, ()) rfl (.drop (A := L) (J := J ++ sT ++ sA ++ [(n, bObj b)]) ⟨rfl, rfl⟩ List.perm_append_comm)

theorem row_BucketDoes (W : World) (a0 : Int) (w0 : intWf .i64 a0) (a1 : Int) (w1 : intWf .i64 a1) (a2 : Int) (w2 : intWf .i64 a2) (a3 : Int) (w3 : intWf .i64 a3) (a4 : SlV) (l4 : List Act22) (w4 : SlOk W actEnc (fun x => True ∧ intWf .i64 x.2.1 ∧ True) 2 (a4, l4)) :
    Reads PP 10 #[.int .i64 a0, .int .i64 a1, .int .i64 a2, .int .i64 a3, .slice a4.a a4.len a4.cap] (allB W) (.bool true) :=
  law_BucketDoes _ a0 a1 a2 a3 a4 l4 w4.sl
theorem row_BucketHolds (W : World) (a0 : Int) (w0 : intWf .i64 a0) (a1 : Int) (w1 : intWf .i64 a1) (a2 : SlV) (l2 : List Act22) (w2 : SlOk W actEnc (fun x => True ∧ intWf .i64 x.2.1 ∧ True) 2 (a2, l2)) :
    Reads PP 11 #[.int .i64 a0, .int .i64 a1, .slice a2.a a2.len a2.cap] (allB W) (.bool true) :=
  law_BucketHolds _ a0 a1 a2 l2 w2.sl fun x hx => wf_i64 (w2.all x hx).2.1
theorem row_BucketTicks (W : World) (a0 : Int) (w0 : intWf .i64 a0) (a1 : Int) (w1 : intWf .i64 a1) (a2 : Int) (w2 : intWf .i64 a2) (a3 : Int) (w3 : intWf .i64 a3) (a4 : SlV) (l4 : List Int) (w4 : SlOk W (fun n => [.int .i64 n]) (intWf .i64) 1 (a4, l4)) :
    Reads PP 12 #[.int .i64 a0, .int .i64 a1, .int .i64 a2, .int .i64 a3, .slice a4.a a4.len a4.cap] (allB W) (.bool true) :=
  law_BucketTicks _ a0 a1 a2 a3 a4 l4 w4.ints
end Go.Proofs.Ytnhpojbjkfgeoaa
