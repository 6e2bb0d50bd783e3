/-
  It is proved that the law about the order of a queue returns true for every input. There are no further conditions than those that each theorem names.
-/
import Derived.Test.YtefllmfoneocaaaQueue8
set_option linter.unusedVariables false
set_option linter.unusedSimpArgs false
namespace Go.Proofs.Ytefllmfoneocaaa
open Go.HL

theorem law_QueueOrder (L : HList) (room : Int) (v : SlV) (l : List QAct) (h : QActs L v l) (hl : l.length ≤ 9223372036854775807) (got : ByteArray) :
    Reads PP 6 #[.int .i64 room, .slice v.a v.len v.cap, .string got] L (.bool true) := by
  refine Reads.of (args := [.int .i64 room, .slice v.a v.len v.cap, .string got]) noNum mixed Try.func6 (e6 room v got _) ?_
  unfold t6
  have hvl := h.len
  refine cl_in [] [] (few_cl L v l h hl 60 300) (by simp) ?_
  rintro _ LL - ⟨rfl, b, rfl, hfew⟩
  refine ⟨(b, ()), rfl, ?_⟩
  simp only [List.nil_append, List.append_nil]
  cases b with
  | false => exact ifT rfl (cl_rd (queues_rd _) (true, ()) rfl (.of ⟨rfl, rfl⟩))
  | true =>
    obtain ⟨hn, hall⟩ := hfew rfl
    have hsm : ∀ x ∈ l, x.2.1.size ≤ 300 ∧ x.2.2.1.2.length ≤ 300 := fun x hx => by have := hall x hx; omega
    refine ifF rfl ?_
    refine ifD_of (fun (h1 : (got.size : Int) > 300) => cl_rd (queues_rd _) (true, ()) rfl (.of ⟨rfl, rfl⟩)) (fun (h1 : ¬ (got.size : Int) > 300) => ?_)
    refine cl_in [] _ (qnew_cl room) rfl ?_
    rintro _ R0 - ⟨m, rfl, hR0⟩
    refine ⟨(some ⟨m, 0, none⟩, ()), rfl, ?_⟩
    have hroom : 0 ≤ imax room 0 := by unfold imax; split <;> omega
    generalize imax room 0 = r at hR0 hroom
    refine lp_of (fun k z L' => ∃ (i : Nat) (lq : List QE) (J R : HList), i ≤ l.length ∧ k = l.length - i ∧ z = ((i : Int), ()) ∧ L' = J ++ R ++ LL ∧ QH m r lq R ∧ dataOf lq = lasts ((l.take i).map kvOf) ∧ Got lq got) l.length
      ⟨0, [], [], R0, by omega, by omega, rfl, rfl, hR0, by simp [dataOf, lasts], fun e he => by simp at he⟩ ?_
    rintro k z L' ⟨i, lq, J, R, hi, rfl, rfl, rfl, hR, hd, hg⟩
    refine ifD_of (fun (hlt : (i : Int) < v.len) => ?_) (fun (hge : ¬ (i : Int) < v.len) => ?_)
    · have hi' : i < l.length := by omega
      refine queue_put_loop _ r v l h (by omega) hsm m i hi' lq J R hR hd got hg fun lq' J' R' hR' hd' hg' => ?_
      refine ⟨l.length - (i + 1), by omega, i + 1, lq', J', R', by omega, rfl, ?_, rfl, hR', hd', hg'⟩
      rw [w64_id (by first | omega | (simp only; omega)) (by first | omega | (simp only; omega))]
      rfl
    · obtain rfl : i = l.length := by omega
      rw [List.take_length] at hd
      refine lp_of (fun k z L' => ∃ (i : Nat) (lq : List QE) (J R : HList), i ≤ l.length ∧ k = l.length - i ∧ z = ((i : Int), ()) ∧ L' = J ++ R ++ LL ∧ QH m r lq R ∧ dataOf lq = lasts ((l.drop i).map kvOf) ∧ Got lq got) l.length
        ⟨0, lq, J, R, by omega, by omega, rfl, rfl, hR, by simpa using hd, hg⟩ ?_
      clear hd hg hR
      rintro k z L' ⟨i, lq, J, R, hi, rfl, rfl, rfl, hR, hd, hg⟩
      refine ifD_of (fun (hlt : (i : Int) < v.len) => ?_) (fun (hge : ¬ (i : Int) < v.len) => ?_)
      · have hi' : i < l.length := by omega
        have hi0 : (0 : Int) ≤ (i : Int) := by omega
        have hw : IntKind.i64.wrap ((i : Int) + 1) = ((i + 1 : Nat) : Int) := by rw [w64_id (by omega) (by omega)]; omega
        simp only [hw]
        have hdi : l.drop i = l[i] :: l.drop (i + 1) := List.drop_eq_getElem_cons hi'
        refine lp_of (fun k z L' => ∃ (j : Nat) (ag : Bool), i + 1 ≤ j ∧ j ≤ l.length ∧ k = l.length - j ∧ z = (ag, (j : Int), ()) ∧ L' = J ++ R ++ LL ∧ (ag = true ↔ ∃ x ∈ (l.drop (i + 1)).take (j - (i + 1)), x.2.1 = l[i].2.1)) (l.length - (i + 1))
          ⟨i + 1, false, by omega, by omega, rfl, rfl, rfl, by simp⟩ ?_
        rintro k z L' ⟨j, ag, hj1, hj2, rfl, rfl, rfl, hag⟩
        refine ifD_of (fun (hlj : (j : Int) < v.len) => ?_) (fun (hgj : ¬ (j : Int) < v.len) => ?_)
        · have hj' : j < l.length := by omega
          have hwj : IntKind.i64.wrap ((j : Int) + 1) = ((j + 1 : Nat) : Int) := by rw [w64_id (by omega) (by omega)]; omega
          have hstep : (l.drop (i + 1)).take (j + 1 - (i + 1)) = (l.drop (i + 1)).take (j - (i + 1)) ++ [l[j]] := by
            rw [show j + 1 - (i + 1) = (j - (i + 1)) + 1 by omega, List.take_succ_eq_append_getElem (by rw [List.length_drop]; omega)]
            congr 2
            rw [List.getElem_drop]
            congr 1; omega
          simp only [hwj]
          refine ifB_of (fun hat => ?_) (fun haf => ?_)
          · refine ⟨l.length - (j + 1), by omega, j + 1, true, by omega, by omega, rfl, rfl, rfl, ?_⟩
            obtain ⟨x, hx, he⟩ := hag.1 hat
            exact ⟨fun _ => ⟨x, by rw [hstep]; exact List.mem_append_left _ hx, he⟩, fun _ => rfl⟩
          · obtain ⟨a, ha, _, lj, _, _⟩ := (h.right (R := J ++ R)).at' hj'
            obtain ⟨a2, ha2, _, li, _, _⟩ := (h.right (R := J ++ R)).at' hi'
            rw [ha] at ha2
            obtain rfl := Option.some.inj ha2
            refine nilc_of ha (ixn_of (show (0 : Int) ≤ (j : Int) by omega) hlj (nilc_of ha (ixn_of hi0 hlt (ld_of l[j].2.1 lj (ld_of l[i].2.1 li ?_)))))
            refine ⟨l.length - (j + 1), by omega, j + 1, decide (l[j].2.1 = l[i].2.1), by omega, by omega, rfl, by rw [str_beq], rfl, ?_⟩
            rw [decide_eq_true_iff, hstep]
            constructor
            · exact fun he => ⟨l[j], by simp, he⟩
            · rintro ⟨x, hx, he⟩
              rcases List.mem_append.1 hx with hx | hx
              · have := hag.2 ⟨x, hx, he⟩
                rw [this] at haf; cases haf
              · rw [List.mem_singleton.1 hx] at he; exact he
        · obtain rfl : j = l.length := by omega
          have htk : (l.drop (i + 1)).take (l.length - (i + 1)) = l.drop (i + 1) := List.take_of_length_le (by rw [List.length_drop]; omega)
          rw [htk] at hag
          have hkeys : ag = true ↔ (kvOf l[i]).1 ∈ ((l.drop (i + 1)).map kvOf).map Prod.fst := by
            rw [hag, List.map_map, List.mem_map]
            exact Iff.rfl
          rw [hdi, List.map_cons] at hd
          refine ifB_of (fun hat => ?_) (fun haf => ?_)
          · refine ⟨l.length - (i + 1), by omega, i + 1, lq, J, R, by omega, rfl, rfl, rfl, hR, ?_, hg⟩
            rw [hd, lasts_in (hkeys.1 hat)]
          · have hnk : (kvOf l[i]).1 ∉ ((l.drop (i + 1)).map kvOf).map Prod.fst := fun he => by rw [hkeys.2 he] at haf; cases haf
            rw [lasts_out hnk] at hd
            cases lq with
            | nil => simp [dataOf] at hd
            | cons e rest =>
              have hd2 : (e.key, e.val) = kvOf l[i] ∧ dataOf rest = lasts ((l.drop (i + 1)).map kvOf) := by
                have : (e.key, e.val) :: dataOf rest = kvOf l[i] :: lasts ((l.drop (i + 1)).map kvOf) := hd
                injection this with a1 a2
                exact ⟨a1, a2⟩
              have hek : e.key = l[i].2.1 := congrArg Prod.fst hd2.1
              have hev : e.val = l[i].2.2.1.2 := congrArg Prod.snd hd2.1
              have oke : 0 ≤ e.freq ∧ e.freq ≤ 3 ∧ Own e.v 1 tyb (bvs e.val) e.seg := by
                obtain ⟨_, _, _, _, _, ok⟩ := hR
                exact ⟨(ok.fr e (by simp)).1, (ok.fr e (by simp)).2, ok.own e (by simp)⟩
              refine cl_pm (R := J ++ LL) (qpop_cl m r e rest R hR) ?_ ?_
              · classical
                rw [List.perm_iff_count]
                intro x
                simp only [List.append_eq, List.count_append]
                omega
              rintro _ _ ⟨rfl, R', rfl, hR'⟩
              refine ⟨(J ++ e.seg) ++ R' ++ LL, ?_, ((e.key, e.v, e.freq, ()), true, ()), rfl, nw_of fun n2 _ => st_of [] _ rfl rfl (by simp) (.inl (Nat.le_refl _)) #[.string e.key, .slice e.v.a e.v.len e.v.cap, .int .i64 e.freq] rfl (ifF rfl ?_)⟩
              · classical
                rw [List.perm_iff_count]
                intro x
                simp only [List.append_eq, List.count_append]
                omega
              rw [List.nil_append]
              have hact := (h.right (R := (n2, Obj.cells #[.string e.key, .slice e.v.a e.v.len e.v.cap, .int .i64 e.freq] 56) :: ((J ++ e.seg) ++ R'))).at' hi'
              obtain ⟨a, ha, _, lk, lv, _⟩ := hact
              have hm : ∀ {Z : HList}, (n2, Obj.cells #[.string e.key, .slice e.v.a e.v.len e.v.cap, .int .i64 e.freq] 56) ∈ (n2, Obj.cells #[.string e.key, .slice e.v.a e.v.len e.v.cap, .int .i64 e.freq] 56) :: Z := List.mem_cons_self
              refine nilc_of ha (ixn_of hi0 hlt (ld_of e.key (ldB hm rfl) (ld_of l[i].2.1 lk (ifF (by rw [str_beq, hek]; simp) ?_))))
              refine nilc_of ha (ixn_of hi0 hlt (ld_of e.v (ldB hm rfl) (ld_of l[i].2.2.1.1 lv ?_)))
              have hs1 : BSl ((n2, Obj.cells #[.string e.key, .slice e.v.a e.v.len e.v.cap, .int .i64 e.freq] 56) :: ((J ++ e.seg) ++ R' ++ LL)) e.v l[i].2.2.1.2 := by
                rw [← hev]
                exact (((oke.2.2.sl.right (R := J)).left (R := R')).left (R := LL)).cons
              have hs2 : BSl ((n2, Obj.cells #[.string e.key, .slice e.v.a e.v.len e.v.cap, .int .i64 e.freq] 56) :: ((J ++ e.seg) ++ R' ++ LL)) l[i].2.2.1.1 l[i].2.2.1.2 := ((h.val l[i] (List.getElem_mem hi')).right (R := (J ++ e.seg) ++ R')).cons
              refine cl_rd (same_rd _ e.v l[i].2.2.1.1 l[i].2.2.1.2 hs1 hs2) (true, ()) rfl (ifF rfl ?_)
              have hg' : Got rest got := fun x hx hf => hg x (List.mem_cons_of_mem _ hx) hf
              refine ld_of e.freq (ldB hm rfl) (ifN (show ¬ e.freq < 0 by omega) (ld_of e.freq (ldB hm rfl) (ifN (show ¬ e.freq > 3 by omega) (ld_of e.freq (ldB hm rfl) ?_))))
              refine ifD_of (fun (h3 : e.freq > 0) => ld_of e.key (ldB hm rfl) (ifF (by rw [str_beq, hg e List.mem_cons_self h3]; simp) ?_)) (fun (h3 : ¬ e.freq > 0) => ?_) <;>
              exact ⟨l.length - (i + 1), by omega, i + 1, rest, (n2, Obj.cells #[.string e.key, .slice e.v.a e.v.len e.v.cap, .int .i64 e.freq] 56) :: (J ++ e.seg), R', by omega, rfl, rfl, rfl, hR', hd2.2, hg'⟩
      · obtain rfl : i = l.length := by omega
        have hnil : lq = [] := by
          rw [List.drop_length] at hd
          unfold dataOf at hd
          simpa [lasts] using hd
        subst hnil
        refine cl_rd (Reads.in (X := J) (Y := LL) (qpop_nil m r R hR)) ((ByteArray.empty, ⟨none, 0, 0⟩, 0, ()), false, ()) rfl ?_
        refine nw_of fun n3 _ => st_of [] _ rfl rfl (by simp) (.inl (Nat.le_refl _)) #[.string ByteArray.empty, .slice none 0 0, .int .i64 0] rfl (ifT rfl ?_)
        rw [List.nil_append]
        refine cl_rd (Reads.in (X := (n3, Obj.cells #[.string ByteArray.empty, .slice none 0 0, .int .i64 0] 56) :: J) (Y := LL) (qbytes_rd m r [] R hR)) ((0 : Int), ()) rfl ?_
        refine cl_rd (Reads.in (X := (n3, Obj.cells #[.string ByteArray.empty, .slice none 0 0, .int .i64 0] 56) :: J) (Y := LL) (qlen_rd m r [] R hR)) ((0 : Int), ()) rfl (ifT rfl ?_)
        have hov := qover_rd m r [] R hR
        have h0 : decide (((qsum [] : Nat) : Int) > r) = false := decide_eq_false (by show ¬ (0 : Int) > r; omega)
        rw [h0] at hov
        refine cl_rd (Reads.in (X := (n3, Obj.cells #[.string ByteArray.empty, .slice none 0 0, .int .i64 0] 56) :: J) (Y := LL) hov) (false, ()) rfl (ifT rfl ?_)
        exact cl_rd (queues_rd _) (true, ()) rfl (.cons (.app (.of ⟨rfl, rfl⟩)))

abbrev qactWf (W : World) (x : QAct) : Prop := intWf .i64 x.1 ∧ x.2.1.size ≤ maxLen ∧ SlOk W (fun b => [bv b]) (fun _ => True) 1 x.2.2.1 ∧ True
theorem row_QueueOrder (W : World) (a0 : Int) (w0 : intWf .i64 a0) (a1 : SlV) (l1 : List QAct) (w1 : SlOk W qactEnc (qactWf W) 3 (a1, l1)) (a2 : ByteArray) (w2 : a2.size ≤ maxLen) :
    Reads PP 6 #[.int .i64 a0, .slice a1.a a1.len a1.cap, .string a2] (allB W) (.bool true) := by
  have hm : maxLen = 9223372036854775807 := rfl
  have h1 := w1.len'
  have h2 := w1.sl.cap
  have h3 := w1.cap
  simp only at h2 h3
  exact law_QueueOrder _ a0 a1 l1 ⟨w1.sl, fun x hx => (w1.all x hx).2.2.1.bytes⟩ (by omega) a2
end Go.Proofs.Ytefllmfoneocaaa
