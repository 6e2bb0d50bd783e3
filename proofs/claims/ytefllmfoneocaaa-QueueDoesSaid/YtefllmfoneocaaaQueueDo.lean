/-
  It is proved that the law about what a queue does returns true for every input. There are no further conditions than those that each theorem names.
-/
import Derived.Test.YtefllmfoneocaaaQueueRef4
set_option linter.unusedVariables false
set_option linter.unusedSimpArgs false
namespace Go.Proofs.Ytefllmfoneocaaa
open Go.HL

def actO (x : QAct) : Obj := .cells #[.int .i64 x.1, .string x.2.1, .slice x.2.2.1.1.a x.2.2.1.1.len x.2.2.1.1.cap] 51
theorem do_cl (mq mp : Nat) (r : Int) (lq lp : List QE) (R R2 A0 : HList) (hR : QH mq r lq R) (hR2 : RQ mp r lp R2) (tw : Tw lq lp) (hfew : lq.length < 100000) (x : QAct) (hk : x.2.1.size ≤ 100000) (hv : BSl A0 x.2.2.1.1 x.2.2.1.2) (hb : x.2.2.1.2.length ≤ 100000) :
    CallF PP 39 #[.pointer (some ⟨mq, 0, none⟩), .pointer (some ⟨mp, 0, none⟩), .agg #[.int .i64 x.1, .string x.2.1, .slice x.2.2.1.1.a x.2.2.1.1.len x.2.2.1.1.cap]] (R ++ R2 ++ A0)
      fun v L' => v = .bool true ∧ ∃ lq' lp' R' R2', L' = R' ++ R2' ++ A0 ∧ QH mq r lq' R' ∧ RQ mp r lp' R2' ∧ Tw lq' lp' ∧ lq'.length ≤ lq.length + 1 := by
  obtain ⟨kind, key, ⟨v, b⟩, u⟩ := x
  simp only at hk hv hb ⊢
  refine CallF.of (args := [.pointer (some ⟨mq, 0, none⟩), .pointer (some ⟨mp, 0, none⟩), .agg #[.int .i64 kind, .string key, .slice v.a v.len v.cap]]) noNum mixed Try.func39 (e39 (some ⟨mq, 0, none⟩) (some ⟨mp, 0, none⟩) (kind, key, v, ()) _) ?_
  unfold t39
  refine nw_of fun n1 _ => ?_
  have hlp : lp.length < 100000 := by rw [← tw.len]; exact hfew
  generalize ho : (n1, Obj.cells #[.int .i64 kind, .string key, .slice v.a v.len v.cap] 51) = o1
  have l0 : ∀ {Z : HList}, LdAt ⟨n1, 0, none⟩ [.int .i64 kind] (o1 :: Z) := by subst ho; exact ldB List.mem_cons_self rfl
  have l1 : ∀ {Z : HList}, LdAt (Addr.add ⟨n1, 0, none⟩ 1) [.string key] (o1 :: Z) := by subst ho; exact ldB List.mem_cons_self rfl
  have l2 : ∀ {Z : HList}, LdAt (Addr.add ⟨n1, 0, none⟩ 2) [.slice v.a v.len v.cap] (o1 :: Z) := by subst ho; exact ldB List.mem_cons_self rfl
  clear ho
  have hf := tw.find key
  refine ld_of kind l0 (ifE_of (fun _ => ?_) (fun _ => ifE_of (fun _ => ?_) (fun _ => ifE_of (fun _ => ?_) (fun _ => ?_))))
  · refine ld_of key l1 (ld_of v l2 (cl_pm (R := o1 :: R2) (qput_cl mq r lq R A0 hR hfew key hk v b hv hb) ?_ ?_))
    · classical
      rw [List.perm_iff_count]
      intro x
      simp only [List.append_eq, List.nil_append, List.cons_append, List.count_append, List.count_cons, List.count_nil]
      omega
    rintro _ A' ⟨rfl, R', e, rfl, hR', ek, ev, ef⟩
    refine ⟨o1 :: (R' ++ R2 ++ A0), ?_, (), rfl, ?_⟩
    · classical
      rw [List.perm_iff_count]
      intro x
      simp only [List.append_eq, List.nil_append, List.cons_append, List.count_append, List.count_cons, List.count_nil]
      omega
    refine ld_of key l1 (ld_of v l2 (cl_pm (R := o1 :: R') (rqput_cl mp r lp R2 A0 hR2 hlp key hk v b hv hb) ?_ ?_))
    · classical
      rw [List.perm_iff_count]
      intro x
      simp only [List.append_eq, List.nil_append, List.cons_append, List.count_append, List.count_cons, List.count_nil]
      omega
    rintro _ A' ⟨rfl, R2', e', rfl, hR2', ek', ev', ef'⟩
    refine ⟨o1 :: (R' ++ R2' ++ A0), ?_, (), rfl, ?_⟩
    · classical
      rw [List.perm_iff_count]
      intro x
      simp only [List.append_eq, List.nil_append, List.cons_append, List.count_append, List.count_cons, List.count_nil]
      omega
    have := qdrop_len lq key
    exact .cons (.of ⟨rfl, _, _, R', R2', rfl, hR', hR2', (tw.drop key).snoc (by unfold qd; rw [ek, ev, ef, ek', ev', ef']), by rw [List.length_append]; simp only [List.length_cons, List.length_nil]; omega⟩)
  · refine ld_of key l1 (cl_pm (R := o1 :: (R2 ++ A0)) (qget_cl mq r lq R hR key) ?_ ?_)
    · classical
      rw [List.perm_iff_count]
      intro x
      simp only [List.append_eq, List.nil_append, List.cons_append, List.count_append, List.count_cons, List.count_nil]
      omega
    rintro _ A' ⟨s1, sg1, R', rfl, rfl, own1, hR'⟩
    refine ⟨o1 :: (sg1 ++ (R' ++ R2 ++ A0)), ?_, (s1, (qfind lq key).isSome, ()), rfl, ?_⟩
    · classical
      rw [List.perm_iff_count]
      intro x
      simp only [List.append_eq, List.nil_append, List.cons_append, List.count_append, List.count_cons, List.count_nil]
      omega
    refine ld_of key l1 (cl_pm (R := o1 :: (sg1 ++ (R' ++ A0))) (rqget_cl mp r lp R2 hR2 key) ?_ ?_)
    · classical
      rw [List.perm_iff_count]
      intro x
      simp only [List.append_eq, List.nil_append, List.cons_append, List.count_append, List.count_cons, List.count_nil]
      omega
    rintro _ A' ⟨s2, sg2, R2', rfl, rfl, own2, hR2'⟩
    refine ⟨o1 :: (sg1 ++ (sg2 ++ (R' ++ R2' ++ A0))), ?_, (s2, (qfind lp key).isSome, ()), rfl, ?_⟩
    · classical
      rw [List.perm_iff_count]
      intro x
      simp only [List.append_eq, List.nil_append, List.cons_append, List.count_append, List.count_cons, List.count_nil]
      omega
    rw [← hf.2] at own2
    refine cl_rd (same_rd _ s1 s2 _ own1.sl.left.cons (own2.sl.left.right.cons)) (true, ()) rfl (ifT rfl ?_)
    rw [hf.1]
    exact .cons (.app (.app (.of ⟨by simp, _, _, R', R2', rfl, hR', hR2', tw.bump key, by unfold qbump; rw [List.length_map]; omega⟩)))
  · refine ld_of key l1 (ld_of key l1 (cl_pm (R := o1 :: (R2 ++ A0)) (qdrop_cl mq r lq R hR key) ?_ ?_))
    · classical
      rw [List.perm_iff_count]
      intro x
      simp only [List.append_eq, List.nil_append, List.cons_append, List.count_append, List.count_cons, List.count_nil]
      omega
    rintro _ R' ⟨rfl, hR'⟩
    refine ⟨o1 :: (R' ++ R2 ++ A0), ?_, ((qfind lq key).isSome, ()), rfl, keep_of l1 ?_⟩
    · classical
      rw [List.perm_iff_count]
      intro x
      simp only [List.append_eq, List.nil_append, List.cons_append, List.count_append, List.count_cons, List.count_nil]
      omega
    refine cl_pm (R := o1 :: (R' ++ A0)) (rqdrop_cl mp r lp R2 hR2 key) ?_ ?_
    · classical
      rw [List.perm_iff_count]
      intro x
      simp only [List.append_eq, List.nil_append, List.cons_append, List.count_append, List.count_cons, List.count_nil]
      omega
    rintro _ R2' ⟨rfl, hR2'⟩
    refine ⟨o1 :: (R' ++ R2' ++ A0), ?_, ((qfind lp key).isSome, ()), rfl, ?_⟩
    · classical
      rw [List.perm_iff_count]
      intro x
      simp only [List.append_eq, List.nil_append, List.cons_append, List.count_append, List.count_cons, List.count_nil]
      omega
    have := qdrop_len lq key
    exact .cons (.of ⟨by rw [hf.1]; simp, _, _, R', R2', rfl, hR', hR2', tw.drop key, by omega⟩)
  · cases lq with
    | nil =>
      cases lp with
      | cons e t => have := tw.len; simp at this
      | nil =>
        refine cl_rpm (R := o1 :: (R2 ++ A0)) (qpop_nil mq r R hR) ?_ ((ByteArray.empty, ⟨none, 0, 0⟩, 0, ()), false, ()) rfl ?_
        · classical
          rw [List.perm_iff_count]
          intro x
          simp only [List.append_eq, List.nil_append, List.cons_append, List.count_append, List.count_cons, List.count_nil]
          omega
        refine nw_of fun n2 _ => st_of [] _ rfl rfl (by simp) (.inl (Nat.le_refl _)) #[.string ByteArray.empty, .slice none 0 0, .int .i64 0] rfl ?_
        rw [List.nil_append]
        generalize ho2 : (n2, Obj.cells #[.string ByteArray.empty, .slice none 0 0, .int .i64 0] 56) = o2
        refine cl_rpm (R := o2 :: o1 :: (R ++ A0)) (rqpop_nil mp r R2 hR2) ?_ ((ByteArray.empty, ⟨none, 0, 0⟩, 0, ()), false, ()) rfl ?_
        · classical
          rw [List.perm_iff_count]
          intro x
          simp only [List.append_eq, List.nil_append, List.cons_append, List.count_append, List.count_cons, List.count_nil]
          omega
        refine nw_of fun n3 _ => st_of [] _ rfl rfl (by simp) (.inl (Nat.le_refl _)) #[.string ByteArray.empty, .slice none 0 0, .int .i64 0] rfl ?_
        rw [List.nil_append]
        have g2 : ∀ {off : Nat} {vs : List Value}, ((#[Value.string ByteArray.empty, .slice none 0 0, .int .i64 0].toList.drop off).take vs.length = vs) → LdAt ⟨n2, off, none⟩ vs ((n3, Obj.cells #[.string ByteArray.empty, .slice none 0 0, .int .i64 0] eYg) :: o2 :: o1 :: (R ++ R2 ++ A0)) := fun h => ldB (n := n2) (c := #[.string ByteArray.empty, .slice none 0 0, .int .i64 0]) (T := 56) (fz := (0, 0)) (by subst ho2; simp) h
        refine ld_of ByteArray.empty (g2 rfl) (ld_of ByteArray.empty (ldB List.mem_cons_self rfl) (ifT (by simp) ?_))
        refine ld_of 0 (g2 rfl) (ld_of 0 (ldB List.mem_cons_self rfl) (ifT rfl ?_))
        refine ld_of ⟨none, 0, 0⟩ (g2 rfl) (ld_of ⟨none, 0, 0⟩ (ldB List.mem_cons_self rfl) ?_)
        refine cl_rd (same_rd _ ⟨none, 0, 0⟩ ⟨none, 0, 0⟩ [] (Sl.nil 1) (Sl.nil 1)) (true, ()) rfl (ifT rfl ?_)
        exact .cons (.cons (.cons (.of ⟨rfl, [], [], R, R2, rfl, hR, hR2, tw, by simp⟩)))
    | cons e t =>
      cases lp with
      | nil => have := tw.len; simp at this
      | cons e' t' =>
        have htw : qd e = qd e' ∧ Tw t t' := by
          unfold Tw at tw
          rw [List.map_cons, List.map_cons] at tw
          injection tw with a1 a2
          exact ⟨a1, a2⟩
        obtain ⟨hq, htt⟩ := htw
        have ek : e.key = e'.key := congrArg Prod.fst hq
        have ev : e.val = e'.val := congrArg (fun d : QD => d.2.1) hq
        have ef : e.freq = e'.freq := congrArg (fun d : QD => d.2.2) hq
        have own1 := hR.ok.own e (by simp)
        have own2 := hR2.ok.own e' (by simp)
        refine cl_pm (R := o1 :: (R2 ++ A0)) (qpop_cl mq r e t R hR) ?_ ?_
        · classical
          rw [List.perm_iff_count]
          intro x
          simp only [List.append_eq, List.nil_append, List.cons_append, List.count_append, List.count_cons, List.count_nil]
          omega
        rintro _ _ ⟨rfl, R', rfl, hR'⟩
        refine ⟨o1 :: (e.seg ++ (R' ++ R2 ++ A0)), ?_, ((e.key, e.v, e.freq, ()), true, ()), rfl, ?_⟩
        · classical
          rw [List.perm_iff_count]
          intro x
          simp only [List.append_eq, List.nil_append, List.cons_append, List.count_append, List.count_cons, List.count_nil]
          omega
        refine nw_of fun n2 _ => st_of [] _ rfl rfl (by simp) (.inl (Nat.le_refl _)) #[.string e.key, .slice e.v.a e.v.len e.v.cap, .int .i64 e.freq] rfl ?_
        rw [List.nil_append]
        generalize ho2 : (n2, Obj.cells #[.string e.key, .slice e.v.a e.v.len e.v.cap, .int .i64 e.freq] 56) = o2
        refine cl_pm (R := o2 :: o1 :: (e.seg ++ (R' ++ A0))) (rqpop_cl mp r e' t' R2 hR2) ?_ ?_
        · classical
          rw [List.perm_iff_count]
          intro x
          simp only [List.append_eq, List.nil_append, List.cons_append, List.count_append, List.count_cons, List.count_nil]
          omega
        rintro _ _ ⟨rfl, R2', rfl, hR2'⟩
        refine ⟨o2 :: o1 :: (e.seg ++ (e'.seg ++ (R' ++ R2' ++ A0))), ?_, ((e'.key, e'.v, e'.freq, ()), true, ()), rfl, ?_⟩
        · classical
          rw [List.perm_iff_count]
          intro x
          simp only [List.append_eq, List.nil_append, List.cons_append, List.count_append, List.count_cons, List.count_nil]
          omega
        refine nw_of fun n3 _ => st_of [] _ rfl rfl (by simp) (.inl (Nat.le_refl _)) #[.string e'.key, .slice e'.v.a e'.v.len e'.v.cap, .int .i64 e'.freq] rfl ?_
        rw [List.nil_append]
        have g2 : ∀ {Z : HList} {off : Nat} {vs : List Value}, ((#[Value.string e.key, .slice e.v.a e.v.len e.v.cap, .int .i64 e.freq].toList.drop off).take vs.length = vs) → LdAt ⟨n2, off, none⟩ vs ((n3, Obj.cells #[.string e'.key, .slice e'.v.a e'.v.len e'.v.cap, .int .i64 e'.freq] eYg) :: o2 :: o1 :: Z) := fun h => ldB (n := n2) (c := #[.string e.key, .slice e.v.a e.v.len e.v.cap, .int .i64 e.freq]) (T := 56) (fz := (0, 0)) (by subst ho2; simp) h
        refine ld_of e.key (g2 rfl) (ld_of e'.key (ldB List.mem_cons_self rfl) (ifT (by rw [ek]; simp) ?_))
        refine ld_of e.freq (g2 rfl) (ld_of e'.freq (ldB List.mem_cons_self rfl) (ifT (by rw [ef]; simp) ?_))
        refine ld_of e.v (g2 rfl) (ld_of e'.v (ldB List.mem_cons_self rfl) ?_)
        rw [← ev] at own2
        refine cl_rd (same_rd _ e.v e'.v e.val own1.sl.left.cons.cons.cons (own2.sl.left.right.cons.cons.cons)) (true, ()) rfl (ifT rfl ?_)
        exact .cons (.cons (.cons (.app (.app (.of ⟨rfl, t, t', R', R2', rfl, hR', hR2', htt, by rw [List.length_cons]; omega⟩)))))
theorem law_QueueDoes (L : HList) (room : Int) (v : SlV) (l : List QAct) (h : QActs L v l) (hl : l.length ≤ 9223372036854775807) :
    Reads PP 7 #[.int .i64 room, .slice v.a v.len v.cap] L (.bool true) := by
  refine Reads.of (args := [.int .i64 room, .slice v.a v.len v.cap]) noNum mixed Try.func7 (e7 room v _) ?_
  unfold t7
  have hvl := h.len
  refine cl_in [] [] (few_cl L v l h hl 200 300) (by simp) ?_
  rintro _ LL - ⟨rfl, b, rfl, hfew⟩
  refine ⟨(b, ()), rfl, ?_⟩
  simp only [List.nil_append, List.append_nil]
  cases b with
  | false => exact ifT rfl (cl_rd (queues_rd _) (true, ()) rfl (.of ⟨rfl, rfl⟩))
  | true =>
    obtain ⟨hn, hall⟩ := hfew rfl
    have hsm : ∀ x ∈ l, x.2.1.size ≤ 300 ∧ x.2.2.1.2.length ≤ 300 := fun x hx => by have := hall x hx; omega
    refine ifF rfl ?_
    refine cl_in [] _ (qnew_cl room) rfl ?_
    rintro _ R0 - ⟨mq, rfl, hR0⟩
    refine ⟨(some ⟨mq, 0, none⟩, ()), rfl, ?_⟩
    refine cl_pm (R := R0 ++ LL) (rqnew_cl room) (by simp) ?_
    rintro _ R1 ⟨mp, rfl, hR1⟩
    refine ⟨[] ++ (R0 ++ R1 ++ LL), ?_, (some ⟨mp, 0, none⟩, ()), rfl, ?_⟩
    · classical
      rw [List.perm_iff_count]
      intro x
      simp only [List.append_eq, List.nil_append, List.cons_append, List.count_append, List.count_cons, List.count_nil]
      omega
    have hroom : 0 ≤ imax room 0 := by unfold imax; split <;> omega
    generalize imax room 0 = r at hR0 hR1 hroom
    refine lp_of (fun k z L' => ∃ (i : Nat) (lq lp : List QE) (J R R2 : HList), i ≤ l.length ∧ k = l.length - i ∧ z = ((i : Int), ()) ∧ L' = J ++ (R ++ R2 ++ LL) ∧ QH mq r lq R ∧ RQ mp r lp R2 ∧ Tw lq lp ∧ lq.length ≤ i) l.length
      ⟨0, [], [], [], R0, R1, by omega, by omega, rfl, rfl, hR0, hR1, rfl, by simp⟩ ?_
    rintro k z L' ⟨i, lq, lp, J, R, R2, hi, rfl, rfl, rfl, hR, hR2, tw, hlq⟩
    refine ifD_of (fun (hlt : (i : Int) < v.len) => ?_) (fun (hge : ¬ (i : Int) < v.len) => ?_)
    · have hi' : i < l.length := by omega
      have hi0 : (0 : Int) ≤ (i : Int) := by omega
      have hx := hsm l[i] (List.getElem_mem hi')
      have hacts : ∀ {J' R' R2' : HList}, QActs (J' ++ (R' ++ R2' ++ LL)) v l := fun {J' R' R2'} => by rw [← List.append_assoc, ]; exact h.right
      obtain ⟨a, ha, _, l1, _, l3⟩ := (hacts (J' := J) (R' := R) (R2' := R2)).at' hi'
      refine nilc_of ha (ixn_of hi0 hlt (ld_of l[i].2.1 l1 (cl_pm (R := J ++ (R2 ++ LL)) (qpeek_cl mq r lq R hR l[i].2.1) ?_ ?_)))
      · classical
        rw [List.perm_iff_count]
        intro x
        simp only [List.append_eq, List.nil_append, List.cons_append, List.count_append, List.count_cons, List.count_nil]
        omega
      rintro _ _ ⟨s1, sg, rfl, rfl, own1⟩
      refine ⟨(sg ++ J) ++ (R ++ R2 ++ LL), ?_, (s1, (qfind lq l[i].2.1).isSome, ()), rfl, ?_⟩
      · classical
        rw [List.perm_iff_count]
        intro x
        simp only [List.append_eq, List.nil_append, List.cons_append, List.count_append, List.count_cons, List.count_nil]
        omega
      obtain ⟨a', ha', _, l1, _, l3⟩ := (hacts (J' := sg ++ J) (R' := R) (R2' := R2)).at' hi'
      rw [ha] at ha'
      obtain rfl := Option.some.inj ha'
      refine nilc_of ha (ixn_of hi0 hlt (ld_of l[i].2.1 l1 (cl_pm (R := (sg ++ J) ++ (R ++ LL)) (rqpeek_cl mp r lp R2 hR2 l[i].2.1) ?_ ?_)))
      · classical
        rw [List.perm_iff_count]
        intro x
        simp only [List.append_eq, List.nil_append, List.cons_append, List.count_append, List.count_cons, List.count_nil]
        omega
      rintro _ A2 ⟨hA2, s2, rfl, bs2⟩
      have hA2 := hA2.symm
      subst hA2
      refine ⟨(sg ++ J) ++ (R ++ R2 ++ LL), ?_, (s2, (qfind lp l[i].2.1).isSome, ()), rfl, ?_⟩
      · classical
        rw [List.perm_iff_count]
        intro x
        simp only [List.append_eq, List.nil_append, List.cons_append, List.count_append, List.count_cons, List.count_nil]
        omega
      have hf := tw.find l[i].2.1
      rw [← hf.2] at bs2
      refine cl_rd (same_rd _ s1 s2 _ own1.sl.left.left (bs2.mono fun x hx => by simp [hx])) (true, ()) rfl (ifF rfl ?_)
      refine ifF (by rw [hf.1]; simp) ?_
      clear own1 bs2
      refine nilc_of ha (ixn_of hi0 hlt (ld_of (l[i].1, l[i].2.1, l[i].2.2.1.1, ()) l3 ?_))
      refine cl_pm (R := sg ++ J) (do_cl mq mp r lq lp R R2 LL hR hR2 tw (by omega) l[i] (by omega) (h.val _ (List.getElem_mem hi')) (by omega)) ?_ ?_
      · classical
        rw [List.perm_iff_count]
        intro x
        simp only [List.append_eq, List.nil_append, List.cons_append, List.count_append, List.count_cons, List.count_nil]
        omega
      rintro _ _ ⟨rfl, lq', lp', R', R2', rfl, hR', hR2', tw', hlq'⟩
      refine ⟨(sg ++ J) ++ (R' ++ R2' ++ LL), ?_, (true, ()), rfl, ifF rfl ?_⟩
      · classical
        rw [List.perm_iff_count]
        intro x
        simp only [List.append_eq, List.nil_append, List.cons_append, List.count_append, List.count_cons, List.count_nil]
        omega
      clear l1 l3 hR hR2 tw
      generalize sg ++ J = J'
      refine cl_rpm (R := J' ++ (R2' ++ LL)) (qbytes_rd mq r lq' R' hR') ?_ ((qsum lq' : Int), ()) rfl ?_
      · classical
        rw [List.perm_iff_count]
        intro x
        simp only [List.append_eq, List.nil_append, List.cons_append, List.count_append, List.count_cons, List.count_nil]
        omega
      refine cl_rpm (R := J' ++ (R' ++ LL)) (rqbytes_rd mp r lp' R2' hR2') ?_ ((qsum lp' : Int), ()) rfl (ifF (by rw [tw'.sum]; simp) ?_)
      · classical
        rw [List.perm_iff_count]
        intro x
        simp only [List.append_eq, List.nil_append, List.cons_append, List.count_append, List.count_cons, List.count_nil]
        omega
      refine cl_rpm (R := J' ++ (R2' ++ LL)) (qover_rd mq r lq' R' hR') ?_ (decide ((qsum lq' : Int) > r), ()) rfl ?_
      · classical
        rw [List.perm_iff_count]
        intro x
        simp only [List.append_eq, List.nil_append, List.cons_append, List.count_append, List.count_cons, List.count_nil]
        omega
      refine cl_rpm (R := J' ++ (R' ++ LL)) (rqover_rd mp r lp' R2' hR2') ?_ (decide ((qsum lp' : Int) > r), ()) rfl (ifF (by rw [tw'.sum]; simp) ?_)
      · classical
        rw [List.perm_iff_count]
        intro x
        simp only [List.append_eq, List.nil_append, List.cons_append, List.count_append, List.count_cons, List.count_nil]
        omega
      have hlen2 : ∃ s : SlV, s.len = lp'.length ∧ LdAt ⟨mp, 1, none⟩ [.slice s.a s.len s.cap] (J' ++ (R' ++ R2' ++ LL)) := by
        obtain ⟨s, seg, rfl, own, ok⟩ := hR2'
        exact ⟨s, own.sl.els_len yEnc_len (by decide), r_l (room := r) (by simp)⟩
      obtain ⟨s, hs, hls⟩ := hlen2
      refine nilc_of rfl (ld_of s hls (cl_rpm (R := J' ++ (R2' ++ LL)) (qlen_rd mq r lq' R' hR') ?_ ((lq'.length : Int), ()) rfl (keep_of hls (ifF (by rw [hs, tw'.len]; simp) ?_))))
      · classical
        rw [List.perm_iff_count]
        intro x
        simp only [List.append_eq, List.nil_append, List.cons_append, List.count_append, List.count_cons, List.count_nil]
        omega
      obtain ⟨a', ha', _, l1, _, _⟩ := (hacts (J' := J') (R' := R') (R2' := R2')).at' hi'
      rw [ha] at ha'
      obtain rfl := Option.some.inj ha'
      have hf := tw'.find l[i].2.1
      refine nilc_of ha (ixn_of hi0 hlt (nilc_of ha (ixn_of hi0 hlt (ld_of l[i].2.1 l1 (ld_of l[i].2.1 l1 (cl_rpm (R := J' ++ (R2' ++ LL)) (qhas_rd mq r lq' R' hR' l[i].2.1) ?_ ((qfind lq' l[i].2.1).isSome, ()) rfl (keep_of l1 (cl_rpm (R := J' ++ (R' ++ LL)) (rqhas_rd mp r lp' R2' hR2' l[i].2.1) ?_ ((qfind lp' l[i].2.1).isSome, ()) rfl (ifF (by rw [hf.1]; simp) ?_)))))))))
      · classical
        rw [List.perm_iff_count]
        intro x
        simp only [List.append_eq, List.nil_append, List.cons_append, List.count_append, List.count_cons, List.count_nil]
        omega
      · classical
        rw [List.perm_iff_count]
        intro x
        simp only [List.append_eq, List.nil_append, List.cons_append, List.count_append, List.count_cons, List.count_nil]
        omega
      refine ⟨l.length - (i + 1), by omega, i + 1, lq', lp', J', R', R2', by omega, rfl, ?_, rfl, hR', hR2', tw', by omega⟩
      rw [w64_id (by first | omega | (simp only; omega)) (by first | omega | (simp only; omega))]
      rfl
    · exact cl_rd (queues_rd _) (true, ()) rfl (.app (.drop (A := LL) (J := R ++ R2) ⟨rfl, rfl⟩ List.perm_append_comm))
theorem row_QueueDoes (W : World) (a0 : Int) (w0 : intWf .i64 a0) (a1 : SlV) (l1 : List QAct) (w1 : SlOk W qactEnc (qactWf W) 3 (a1, l1)) :
    Reads PP 7 #[.int .i64 a0, .slice a1.a a1.len a1.cap] (allB W) (.bool true) := by
  have hm : maxLen = 9223372036854775807 := rfl
  have h1 := w1.len'
  have h2 := w1.sl.cap
  have h3 := w1.cap
  simp only at h2 h3
  exact law_QueueDoes _ a0 a1 l1 ⟨w1.sl, fun x hx => (w1.all x hx).2.2.1.bytes⟩ (by omega)
end Go.Proofs.Ytefllmfoneocaaa
