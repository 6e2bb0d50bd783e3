/-
  It is proved that the law BlocksFree returns true for every input. There are no further conditions than those that each theorem names.
-/
import Derived.Test.YtefllmfoneocaaaBlocksPlain2
set_option linter.unusedVariables false
set_option linter.unusedSimpArgs false
namespace Go.Proofs.Ytefllmfoneocaaa
open Go.HL

theorem ints_rd (L : HList) (u v : SlV) (l : List Int) (hu : ISl L u .i64 l) (hv : ISl L v .i64 l) (hb : l.length ≤ 1000000) : Reads PP 69 #[.slice u.a u.len u.cap, .slice v.a v.len v.cap] L (.bool true) := by
  refine Reads.of (args := [.slice u.a u.len u.cap, .slice v.a v.len v.cap]) noNum mixed Try.func69 (e69 u v _) ?_
  unfold t69
  have h1 := hu.len
  have h2 := hv.len
  refine ifF (by rw [h1, h2]; simp) ?_
  refine lp_of (fun k z L' => L' = L ∧ ∃ i : Nat, i ≤ l.length ∧ k = l.length - i ∧ z = ((i : Int), ())) l.length ⟨rfl, 0, by omega, by omega, rfl⟩ ?_
  rintro k z L' ⟨rfl, i, hi, rfl, rfl⟩
  refine ifD_of (fun (hlt : (i : Int) < u.len) => ?_) (fun (hge : ¬ (i : Int) < u.len) => .of ⟨rfl, rfl⟩)
  have hi' : i < l.length := by omega
  have hi0 : (0 : Int) ≤ (i : Int) := by omega
  obtain ⟨a, ha⟩ := hu.some hi'
  obtain ⟨b, hb'⟩ := hv.some hi'
  refine nilc_of ha (ixn_of hi0 hlt (nilc_of hb' (ixn_of hi0 (show (i : Int) < v.len by omega) (ld_of l[i] (hu.rd hi' ha _ (by simp)) (ld_of l[i] (hv.rd hi' hb' _ (by simp)) (ifF (by simp) ?_))))))
  refine ⟨l.length - (i + 1), by omega, rfl, i + 1, by omega, rfl, ?_⟩
  rw [w64_id (by first | omega | (simp only; omega)) (by first | omega | (simp only; omega))]
  rfl
def wss : List BS := [⟨2, false, false⟩, ⟨1, false, true⟩, ⟨2, false, false⟩]
theorem wex0 : bnewR wss [] = some (wss, []) := by kernel_rfl
theorem wex1 : bnewR [] [] = none := by kernel_rfl
theorem wex2 : bpick wss [] = (true, ⟨2, false, false⟩, 0) := by kernel_rfl
theorem wears_rd (L : HList) : Reads PP 62 #[] L (.bool true) := by
  refine Reads.of (args := []) noNum mixed Try.func62 (e62 _) ?_
  unfold t62
  refine nw_of fun n1 _ => ?_
  have hs : ∀ {Z : HList}, Sl ((n1, Obj.cells #[.int .i64 2, .bool false, .bool false, .int .i64 1, .bool false, .bool true, .int .i64 2, .bool false, .bool false] eSt) :: Z) ⟨some ⟨n1, 0, none⟩, 3, 3⟩ 3 (wss.flatMap bsEnc) := fun {Z} => ⟨rfl, Nat.le_refl _, .inr ⟨_, rfl, ldB List.mem_cons_self rfl⟩⟩
  refine cl_in [] [] (bnew_cl ((n1, Obj.cells #[.int .i64 2, .bool false, .bool false, .int .i64 1, .bool false, .bool true, .int .i64 2, .bool false, .bool false] eSt) :: L) ⟨some ⟨n1, 0, none⟩, 3, 3⟩ wss hs ⟨none, 0, 0⟩ [] (Sl.nil 1) (by decide)) (by simp) ?_
  generalize (n1, Obj.cells #[.int .i64 2, .bool false, .bool false, .int .i64 1, .bool false, .bool true, .int .i64 2, .bool false, .bool false] eSt) = o1
  rintro _ A0 - hK
  unfold BNewK at hK
  rw [wex0] at hK
  obtain ⟨m, B, rfl, rfl, hB, -⟩ := hK
  rw [List.append_nil, List.nil_append]
  refine ⟨(some ⟨m, 0, none⟩, 0, ()), rfl, ?_⟩
  refine cl_in [] [] (bnew_cl (B ++ (o1 :: L)) ⟨none, 0, 0⟩ [] (Sl.nil 3) ⟨none, 0, 0⟩ [] (Sl.nil 1) (by decide)) (by simp) ?_
  rintro _ A1 - hK
  unfold BNewK at hK
  rw [wex1] at hK
  obtain ⟨rfl, rfl⟩ := hK
  rw [List.append_nil, List.nil_append]
  refine ⟨(none, 2, ()), rfl, ifF rfl (ifF rfl ?_)⟩
  refine cl_rpm (R := o1 :: L) (bpick_cl m _ _ B hB) (.refl _) ((0 : Int), false, true, ()) (by show _ = _; rw [wex2]; rfl) ?_
  refine cl_in [] (o1 :: L) (bopened_cl m _ _ B hB (by decide) 0) rfl ?_
  rintro _ B1 - ⟨rfl, hB1⟩
  have hB1' : BX m wss [0] B1 := hB1
  refine ⟨(true, ()), rfl, ?_⟩
  refine cl_in [] (o1 :: L) (bused_cl m _ _ B1 hB1') rfl ?_
  rintro _ _ - ⟨s, sg, rfl, rfl, own⟩
  refine ⟨(s, ()), rfl, ?_⟩
  refine cl_rpm (R := sg ++ (o1 :: L)) (boldest_rd m _ _ B1 hB1') (by
    classical
    rw [List.perm_iff_count]
    intro x
    simp only [List.append_eq, List.nil_append, List.cons_append, List.count_append, List.count_cons, List.count_nil]
    omega) ((0 : Int), true, ()) rfl ?_
  refine cl_in sg (o1 :: L) (berased_cl m _ _ B1 hB1' (by unfold wss; intro s hs; simp at hs; rcases hs with rfl | rfl | rfl <;> decide) 0 false) rfl ?_
  rintro _ B2 - ⟨rfl, hB2⟩
  have hB2' : BX m [⟨3, false, false⟩, ⟨1, false, true⟩, ⟨2, false, false⟩] [] B2 := hB2
  refine ⟨(true, ()), rfl, ifT rfl (ifT rfl (ifT rfl (ifT rfl (nw_of fun n2 _ => ?_))))⟩
  have hc : ∀ {Z : HList}, ISl ((n2, Obj.cells #[.int .i64 0] eIn) :: Z) ⟨some ⟨n2, 0, none⟩, 1, 1⟩ .i64 [0] := fun {Z} => ⟨rfl, Nat.le_refl _, .inr ⟨_, rfl, ldB List.mem_cons_self rfl⟩⟩
  refine cl_rd (ints_rd _ s ⟨some ⟨n2, 0, none⟩, 1, 1⟩ [0] (own.sl.left.left.cons) hc (by decide)) (true, ()) rfl (ifT rfl (ifT rfl (ifT rfl (ifT rfl ?_))))
  generalize (n2, Obj.cells #[.int .i64 0] eIn) = o2
  have hp : (o2 :: (sg ++ B2 ++ (o1 :: L))).Perm (B2 ++ (o2 :: (sg ++ (o1 :: L)))) := by
    classical
    rw [List.perm_iff_count]
    intro x
    simp only [List.append_eq, List.cons_append, List.count_append, List.count_cons, List.count_nil]
    omega
  refine cl_rpm (bspread_rd m _ _ B2 hB2') hp ((2 : Int), ()) (congrArg (Value.int .i64) (by kernel_rfl)) (ifT rfl ?_)
  refine cl_rpm (bfreeN_cl m _ _ B2 hB2') hp ((3 : Int), ()) (congrArg (Value.int .i64) (by kernel_rfl)) (ifT rfl ?_)
  refine cl_pm (bopened_cl m _ _ B2 hB2' (by decide) 1) hp ?_
  rintro _ B3 ⟨rfl, hB3⟩
  refine ⟨B3 ++ (o2 :: (sg ++ (o1 :: L))), .refl _, (false, ()), rfl, ifT rfl ?_⟩
  refine cl_rd (bfreeN_nil _) ((0 : Int), ()) rfl (cl_rd (bspread_nil _) ((0 : Int), ()) rfl (ifT rfl (cl_rd (bopened_nil _ 0) (false, ()) rfl ?_)))
  exact .app (.cons (.app (.cons (.of ⟨rfl, rfl⟩))))
/-! ### acts -/
abbrev BAct := Int × Int × Bool × Unit
def bactEnc (x : BAct) : List Value := [.int .i64 x.1, .int .i64 x.2.1, .bool x.2.2.1]
theorem bact_len (x : BAct) : (bactEnc x).length = 3 := rfl
theorem zeros_bs (n : Nat) : zeros [.int .i64 0, .bool false, .bool false] n = (List.replicate n bs0).flatMap bsEnc := by
  induction n with
  | zero => rfl
  | succ n ih => rw [List.replicate_succ, List.flatMap_cons, ← ih]; simp [zeros, List.replicate_succ, bsEnc, bs0]
theorem bnewR_zero {n : Nat} (h : 1 ≤ n ∧ n ≤ 16) : bnewR (List.replicate n bs0) [] = some (List.replicate n bs0, []) := by
  have hw : bwear (List.replicate n bs0) = true := by
    unfold bwear
    rw [List.all_eq_true]
    intro s hs
    rw [List.eq_of_mem_replicate hs]
    decide
  unfold bnewR
  rw [if_pos ⟨by rw [List.length_replicate]; exact h.1, by rw [List.length_replicate]; exact h.2, hw⟩]
  rfl
theorem without_cl (A : HList) (v : SlV) (l : List Int) (h : ISl A v .i64 l) (hb : l.length ≤ 1000000) (x : Int) :
    CallF PP 79 #[.slice v.a v.len v.cap, .int .i64 x] A fun r L' => ∃ (s : SlV) (seg : HList), r = .slice s.a s.len s.cap ∧ L' = seg ++ A ∧ Own s 1 eIn (ivs .i64 (iwo l x)) seg := by
  refine CallF.of (args := [.slice v.a v.len v.cap, .int .i64 x]) noNum mixed Try.func79 (e79 v x _) ?_
  unfold t79
  have hlen := h.len
  refine lp_of (fun k z L' => ∃ (i : Nat) (u : SlV) (seg J : HList), i ≤ l.length ∧ k = l.length - i ∧ z = (u, (i : Int), ()) ∧ L' = J ++ seg ++ A ∧ Own u 1 eIn (ivs .i64 (iwo (l.take i) x)) seg) l.length
    ⟨0, ⟨none, 0, 0⟩, [], [], by omega, by omega, rfl, rfl, own_z⟩ ?_
  rintro k z L' ⟨i, u, seg, J, hi, rfl, rfl, rfl, own⟩
  refine ifD_of (fun (hlt : (i : Int) < v.len) => ?_) (fun (hge : ¬ (i : Int) < v.len) => ?_)
  · have hi' : i < l.length := by omega
    have hi0 : (0 : Int) ≤ (i : Int) := by omega
    have h' : ISl (J ++ seg ++ A) v .i64 l := Sl.right h
    obtain ⟨a, ha⟩ := h'.some hi'
    have hsn := iwo_snoc (l.take i) x l[i]
    rw [← List.take_succ_eq_append_getElem hi'] at hsn
    have hul := own.sl.len
    rw [ivs_length] at hul
    have hle := iwo_len (l.take i) x
    rw [List.length_take] at hle
    have hw : IntKind.i64.wrap ((i : Int) + 1) = ((i + 1 : Nat) : Int) := by rw [w64_id (by omega) (by omega)]; omega
    refine nilc_of ha (ixn_of hi0 hlt (ld_of l[i] (h'.rd hi' ha _ (by simp)) ?_))
    refine ifNe_of (fun hne => ?_) (fun he => ?_)
    · rw [if_neg hne] at hsn
      refine nilc_of ha (ixn_of hi0 hlt (ld_of l[i] (h'.rd hi' ha _ (by simp)) (nw_of fun n1 _ => ?_)))
      generalize l[i] = y at hsn ⊢
      have hsrc : ∀ {Z : HList}, Sl ((n1, Obj.cells #[.int .i64 y] eIn) :: Z) ⟨some ⟨n1, 0, none⟩, 1, 1⟩ 1 (ivs .i64 [y]) := fun {Z} => ⟨rfl, Nat.le_refl _, .inr ⟨_, rfl, ldB List.mem_cons_self rfl⟩⟩
      refine append_in elemIn srcIn ((n1, Obj.cells #[.int .i64 y] eIn) :: J) A own (by simp) (.sl hsrc) (ivs_plain _ _) (by first | omega | (simp only; omega)) fun v2 seg2 hv2 own2 => ?_
      rw [← ivs_append, ← hsn] at own2
      refine ⟨l.length - (i + 1), by omega, i + 1, v2, seg2, _, by omega, rfl, ?_, rfl, own2⟩
      show (v2, IntKind.i64.wrap ((i : Int) + 1), ()) = _
      rw [hw]
    · rw [if_pos he, List.append_nil] at hsn
      rw [← hsn] at own
      refine ⟨l.length - (i + 1), by omega, i + 1, u, seg, J, by omega, rfl, ?_, rfl, own⟩
      show (u, IntKind.i64.wrap ((i : Int) + 1), ()) = _
      rw [hw]
  · obtain rfl : i = l.length := by omega
    rw [List.take_length] at own
    rw [List.append_assoc]
    exact .app (.of ⟨u, seg, rfl, rfl, own⟩)
structure FInv (n : Nat) (ss : List BS) (us : List Int) (bad : Int) (i : Nat) : Prop where
  len : ss.length = n
  use : buse ss us
  wear : ∀ x ∈ ss, 0 ≤ x.wear ∧ x.wear ≤ i
  cnt : (bgoodN ss : Int) + bad = n
  rng : 0 ≤ bad ∧ bad ≤ i
theorem FInv.up {n : Nat} {ss : List BS} {us : List Int} {bad : Int} {i : Nat} (h : FInv n ss us bad i) : FInv n ss us bad (i + 1) := ⟨h.len, h.use, fun x hx => by have := h.wear x hx; omega, h.cnt, by have := h.rng; omega⟩
theorem FInv.few {n : Nat} {ss : List BS} {us : List Int} {bad : Int} {i : Nat} (h : FInv n ss us bad i) : us.length ≤ n := by
  have := bus_few (buse_bus h.use)
  have := h.len
  omega
theorem FInv.opn {n : Nat} {ss : List BS} {us : List Int} {bad : Int} {i : Nat} (h : FInv n ss us bad i) {k : Int} (hk : bfree ss us k = true) : FInv n ss (us ++ [k]) bad i := ⟨h.len, buse_snoc h.use hk, h.wear, h.cnt, h.rng⟩
theorem FInv.ers {n : Nat} {ss : List BS} {us : List Int} {bad : Int} {i : Nat} (h : FInv n ss us bad i) {k : Int} (hk : bgood ss k = true) (b : Bool) : FInv n (bmod ss k (gErase b)) (iwo us k) (if b = true then bad + 1 else bad) (i + 1) := by
  have hc := bgoodN_mod hk (gErase b) (bad := b) (fun s _ => rfl)
  have h1 := h.cnt
  have h2 := h.rng
  refine ⟨by rw [bmod_len]; exact h.len, buse_mod h.use hk _, wear_mod h.wear k (fun x => by unfold gErase; simp only; omega), ?_, ?_⟩
  · rw [hc]; cases b <;> simp <;> omega
  · cases b <;> simp <;> omega
theorem FInv.spl {n : Nat} {ss : List BS} {us : List Int} {bad : Int} {i : Nat} (h : FInv n ss us bad i) {k : Int} (hk : bgood ss k = true) : FInv n (bmod ss k gSpoil) (iwo us k) bad (i + 1) := by
  obtain ⟨h0, hi, hb⟩ := bgood_at hk
  have hc := bgoodN_mod hk gSpoil (bad := false) (fun s hs => by
    rw [List.getElem?_eq_getElem hi] at hs
    rw [← Option.some.inj hs]
    exact hb)
  have h1 := h.cnt
  have h2 := h.rng
  refine ⟨by rw [bmod_len]; exact h.len, buse_mod h.use hk _, wear_mod h.wear k (fun x => by unfold gSpoil; simp only; omega), ?_, by omega⟩
  rw [hc]; simpa using h1
theorem law_BlocksFree (L : HList) (n : Int) (v : SlV) (l : List BAct) (hv : Sl L v 3 (l.flatMap bactEnc)) : Reads PP 14 #[.int .i64 n, .slice v.a v.len v.cap] L (.bool true) := by
  refine Reads.of (args := [.int .i64 n, .slice v.a v.len v.cap]) noNum mixed Try.func14 (e14 n v _) ?_
  unfold t14
  have hlen := hv.els_len bact_len (by decide)
  refine ifD_of (fun _ => cl_rd (wears_rd _) (true, ()) rfl (.of ⟨rfl, rfl⟩)) (fun (h1 : ¬ n < 1) => ?_)
  refine ifD_of (fun _ => cl_rd (wears_rd _) (true, ()) rfl (.of ⟨rfl, rfl⟩)) (fun (h2 : ¬ n > 16) => ?_)
  refine ifD_of (fun _ => cl_rd (wears_rd _) (true, ()) rfl (.of ⟨rfl, rfl⟩)) (fun (h3 : ¬ (v.len : Int) > 300) => ?_)
  obtain ⟨N, rfl⟩ : ∃ N : Nat, n = N := ⟨n.toNat, by omega⟩
  refine make_of elemSt (l := N) (c := N) (Nat.le_refl _) (by omega) fun n0 ob own0 _ _ => ?_
  rw [zeros_bs] at own0
  have hin : Sl ((n0, ob) :: L) ⟨some ⟨n0, 0, none⟩, N, N⟩ 3 ((List.replicate N bs0).flatMap bsEnc) := own0.sl.mono fun x hx => by rw [List.mem_singleton.1 hx]; exact List.mem_cons_self
  generalize (n0, ob) = o0 at hin ⊢
  refine cl_in [] [] (bnew_cl (o0 :: L) _ _ hin ⟨none, 0, 0⟩ [] (Sl.nil 1) (by decide)) (by simp) ?_
  rintro _ A0 - hK
  unfold BNewK at hK
  rw [bnewR_zero (by omega)] at hK
  obtain ⟨m, B, rfl, rfl, hB, -⟩ := hK
  rw [List.append_nil, List.nil_append]
  refine ⟨(some ⟨m, 0, none⟩, 0, ()), rfl, ifF rfl ?_⟩
  have hg0 : bgoodN (List.replicate N bs0) = N := by
    unfold bgoodN
    rw [List.length_replicate]
    have : ∀ k, k ≤ N → cnt (fun i => bgood (List.replicate N bs0) (i : Int)) k = k := by
      intro k
      induction k with
      | zero => intro _; rfl
      | succ k ih =>
        intro hk
        unfold cnt
        rw [ih (by omega)]
        have : bgood (List.replicate N bs0) (k : Int) = true := by
          unfold bgood
          rw [Int.toNat_natCast, List.getElem?_replicate, if_pos (by omega), decide_eq_true (show (0 : Int) ≤ (k : Int) by omega)]
          rfl
        rw [if_pos this]
    exact this N (Nat.le_refl _)
  refine lp_of (fun k z L' => ∃ (i : Nat) (bad : Int) (J A : HList) (ss : List BS) (us : List Int), i ≤ l.length ∧ k = l.length - i ∧ z = (bad, (i : Int), ()) ∧ L' = J ++ (A ++ (o0 :: L)) ∧ BX m ss us A ∧ FInv N ss us bad i) l.length
    ⟨0, 0, [], B, _, _, by omega, by omega, rfl, rfl, hB, ⟨List.length_replicate, ⟨by simp, by simp⟩, fun x hx => by rw [List.eq_of_mem_replicate hx]; decide, by rw [hg0]; omega, by omega⟩⟩ ?_
  clear hB hg0
  rintro k z L' ⟨i, bad, J, A, ss, us, hi, rfl, rfl, rfl, hA, inv⟩
  refine ifD_of (fun (hl : (i : Int) < v.len) => ?_) (fun (hge : ¬ (i : Int) < v.len) => cl_rd (wears_rd _) (true, ()) rfl (.app (.app (.cons (.of ⟨rfl, rfl⟩)))))
  have hi' : i < l.length := by omega
  have hi0 : (0 : Int) ≤ (i : Int) := by omega
  obtain ⟨a, ha, lx⟩ := (Sl.right (R := J ++ (A ++ [o0])) hv).el bact_len (by decide) hi'
  have hLL : J ++ (A ++ [o0]) ++ L = J ++ (A ++ (o0 :: L)) := by simp
  rw [hLL] at lx
  refine nilc_of ha (ixn_of hi0 hl (ld_of l[i] (by rw [Int.toNat_natCast]; exact lx) ?_))
  generalize l[i] = x
  refine nw_of fun n1 _ => st_of [] _ rfl rfl (by simp) (.inl (Nat.le_refl _)) #[.int .i64 x.1, .int .i64 x.2.1, .bool x.2.2.1] rfl ?_
  rw [List.nil_append]
  generalize ho1 : (n1, Obj.cells #[.int .i64 x.1, .int .i64 x.2.1, .bool x.2.2.1] 118) = o1
  have l0 : ∀ {Z : HList}, LdAt ⟨n1, 0, none⟩ [.int .i64 x.1] (o1 :: Z) := by subst ho1; exact ldB List.mem_cons_self rfl
  have l1 : ∀ {Z : HList}, LdAt (Addr.add ⟨n1, 0, none⟩ 1) [.int .i64 x.2.1] (o1 :: Z) := by subst ho1; exact ldB List.mem_cons_self rfl
  have l2 : ∀ {Z : HList}, LdAt (Addr.add ⟨n1, 0, none⟩ 2) [.bool x.2.2.1] (o1 :: Z) := by subst ho1; exact ldB List.mem_cons_self rfl
  clear ho1
  generalize x.1 = kind at l0
  generalize x.2.1 = n at l1
  generalize x.2.2.1 = xb at l2
  generalize o0 :: L = L0
  have hfew := inv.few
  refine cl_pm (R := o1 :: (J ++ L0)) (bused_cl m ss us A hA) ?_ ?_
  · classical
    rw [List.perm_iff_count]
    intro x
    simp only [List.append_eq, List.cons_append, List.count_append, List.count_cons, List.count_nil]
    omega
  rintro _ _ ⟨u, seg, rfl, rfl, own⟩
  refine ⟨o1 :: (J ++ (seg ++ (A ++ L0))), ?_, (u, ()), rfl, ?_⟩
  · classical
    rw [List.perm_iff_count]
    intro x
    simp only [List.append_eq, List.cons_append, List.count_append, List.count_cons, List.count_nil]
    omega
  have hul := own.sl.len
  rw [ivs_length, Nat.mul_one] at hul
  refine jn_of (fun (y : RsV [.lf (.int .i64), .lf .sl]) L' => ∃ (J seg A : HList) (ss : List BS) (us : List Int), L' = J ++ (seg ++ (A ++ L0)) ∧ BX m ss us A ∧ FInv N ss us y.1 (i + 1) ∧ Own y.2.1 1 eIn (ivs .i64 us) seg) ?_ ?_
  · clear hA inv own hfew hul
    rintro ⟨bad', u', ⟨⟩⟩ _ ⟨J, seg, A, ss, us, rfl, hA, inv, own⟩
    simp only at inv own
    have hfew := inv.few
    have hul := own.sl.len
    rw [ivs_length, Nat.mul_one] at hul
    refine cl_pm (R := J ++ (seg ++ L0)) (bused_cl m ss us A hA) ?_ ?_
    · classical
      rw [List.perm_iff_count]
      intro x
      simp only [List.append_eq, List.cons_append, List.count_append, List.count_cons, List.count_nil]
      omega
    rintro _ _ ⟨w, sg2, rfl, rfl, own2⟩
    refine ⟨(J ++ seg ++ sg2) ++ (A ++ L0), ?_, (w, ()), rfl, ?_⟩
    · classical
      rw [List.perm_iff_count]
      intro x
      simp only [List.append_eq, List.cons_append, List.count_append, List.count_cons, List.count_nil]
      omega
    refine cl_rd (ints_rd _ w u' us (own2.sl.mono fun x hx => by simp [hx]) (own.sl.mono fun x hx => by simp [hx]) (by omega)) (true, ()) rfl (ifF rfl ?_)
    have hfr := bfreeN_val inv.use
    have hcn := inv.cnt
    have hrg := inv.rng
    have hgN : bgoodN ss ≤ N := by have h1 := cnt_le (fun i => bgood ss (i : Int)) ss.length; have := inv.len; unfold bgoodN; omega
    refine cl_rpm (R := (J ++ seg ++ sg2) ++ L0) (bfreeN_cl m ss us A hA) ?_ (bfreeN ss us, ()) rfl ?_
    · classical
      rw [List.perm_iff_count]
      intro x
      simp only [List.append_eq, List.cons_append, List.count_append, List.count_cons, List.count_nil]
      omega
    refine ifNe_of (fun hne => absurd ?_ hne) (fun _ => ?_)
    · show bfreeN ss us = IntKind.i64.wrap (IntKind.i64.wrap ((N : Int) - bad') - (u'.len : Int))
      rw [w64_id (n := (N : Int) - bad') (by omega) (by omega), w64_id (by omega) (by omega), hfr]
      omega
    refine ⟨l.length - (i + 1), by omega, i + 1, bad', J ++ seg ++ sg2, A, ss, us, by omega, rfl, ?_, rfl, hA, inv⟩
    show (bad', IntKind.i64.wrap ((i : Int) + 1), ()) = _
    rw [w64_id (by omega) (by omega)]
    rfl
  intro j hj
  have hwr : ∀ s ∈ ss, 0 ≤ s.wear ∧ s.wear ≤ 900000000 := fun s hs => by have := inv.wear s hs; omega
  have hpA : (o1 :: (J ++ (seg ++ (A ++ L0)))).Perm (A ++ (o1 :: (J ++ (seg ++ L0)))) := by
    classical
    rw [List.perm_iff_count]
    intro x
    simp only [List.append_eq, List.cons_append, List.count_append, List.count_cons, List.count_nil]
    omega
  have hpB : ∀ A' : HList, (A' ++ (o1 :: (J ++ (seg ++ L0)))).Perm (o1 :: (J ++ (seg ++ (A' ++ L0)))) := by
    intro A'
    classical
    rw [List.perm_iff_count]
    intro x
    simp only [List.append_eq, List.cons_append, List.count_append, List.count_cons, List.count_nil]
    omega
  have wo : ∀ (A' : HList) (k : RsV [.lf .sl] → HP), (∀ w sg8, Own w 1 eIn (ivs .i64 (iwo us n)) sg8 → k (w, ()) (o1 :: ((J ++ seg) ++ (sg8 ++ (A' ++ L0))))) → cl PP 79 #[.slice u.a u.len u.cap, .int .i64 n] [.lf .sl] k (o1 :: (J ++ (seg ++ (A' ++ L0)))) := by
    intro A' k hk
    refine cl_pm (R := o1 :: (J ++ (A' ++ L0))) (without_cl seg u us own.sl (by omega) n) ?_ ?_
    · classical
      rw [List.perm_iff_count]
      intro x
      simp only [List.append_eq, List.cons_append, List.count_append, List.count_cons, List.count_nil]
      omega
    rintro _ _ ⟨w, sg8, rfl, rfl, own8⟩
    refine ⟨_, ?_, (w, ()), rfl, hk w sg8 own8⟩
    classical
    rw [List.perm_iff_count]
    intro x
    simp only [List.append_eq, List.cons_append, List.count_append, List.count_cons, List.count_nil]
    omega
  refine ld_of kind l0 (ifE_of (fun _ => ?_) (fun _ => ifE_of (fun _ => ?_) (fun _ => ?_)))
  · refine ld_of n l1 (cl_pm (bopened_cl m ss us A hA (by omega) n) hpA ?_)
    rintro _ A' ⟨rfl, hA'⟩
    refine ⟨_, hpB A', (bopens ss us n, ()), rfl, ?_⟩
    cases hop : bopens ss us n with
    | false =>
      rw [hop] at hA'
      exact ifF rfl (hj (bad, u, ()) _ ⟨o1 :: J, seg, A', ss, us, rfl, hA', inv.up, own⟩)
    | true =>
      rw [hop] at hA'
      have hfr : bfree ss us n = true := by unfold bopens at hop; rw [Bool.and_eq_true] at hop; exact hop.1
      refine ifT rfl (ld_of n l1 (nw_of fun n2 _ => ?_))
      have hsrc : ∀ {Z : HList}, Sl ((n2, Obj.cells #[.int .i64 n] eIn) :: Z) ⟨some ⟨n2, 0, none⟩, 1, 1⟩ 1 (ivs .i64 [n]) := fun {Z} => ⟨rfl, Nat.le_refl _, .inr ⟨_, rfl, ldB List.mem_cons_self rfl⟩⟩
      refine append_in' elemIn srcIn ((n2, Obj.cells #[.int .i64 n] eIn) :: o1 :: J) (A' ++ L0) own (by simp) (.sl hsrc) (ivs_plain _ _) (by first | omega | (simp only; omega)) fun v2 seg2 hv2 _ _ own2 => ?_
      rw [← ivs_append] at own2
      exact hj (bad, v2, ()) _ ⟨(n2, Obj.cells #[.int .i64 n] eIn) :: o1 :: J, seg2, A', ss, us ++ [n], by simp, hA', (inv.opn hfr).up, own2⟩
  · refine ld_of n l1 (ld_of xb l2 (cl_pm (berased_cl m ss us A hA hwr n xb) hpA ?_))
    rintro _ A' ⟨rfl, hA'⟩
    refine ⟨_, hpB A', (bgood ss n, ()), rfl, ?_⟩
    cases hg : bgood ss n with
    | false =>
      rw [hg] at hA'
      exact ifF rfl (hj (bad, u, ()) _ ⟨o1 :: J, seg, A', ss, us, rfl, hA', inv.up, own⟩)
    | true =>
      rw [hg] at hA'
      simp only [if_true] at hA'
      refine ifT rfl (ld_of n l1 (wo A' _ fun w sg8 own8 => ld_of xb l2 ?_))
      have inv' := inv.ers hg xb
      have hrg := inv.rng
      refine ifB_of (fun hb => ?_) (fun hb => ?_)
      · have hb' : xb = true := hb
        subst hb'
        rw [w64_id (by omega) (by omega)]
        exact hj (bad + 1, w, ()) _ ⟨o1 :: (J ++ seg), sg8, A', _, _, rfl, hA', inv', own8⟩
      · have hb' : xb = false := hb
        subst hb'
        exact hj (bad, w, ()) _ ⟨o1 :: (J ++ seg), sg8, A', _, _, rfl, hA', inv', own8⟩
  · refine ld_of n l1 (cl_pm (bspoilt_cl m ss us A hA n) hpA ?_)
    rintro _ A' ⟨rfl, hA'⟩
    refine ⟨_, hpB A', (bgood ss n, ()), rfl, ?_⟩
    cases hg : bgood ss n with
    | false =>
      rw [hg] at hA'
      exact ifF rfl (hj (bad, u, ()) _ ⟨o1 :: J, seg, A', ss, us, rfl, hA', inv.up, own⟩)
    | true =>
      rw [hg] at hA'
      simp only [if_true] at hA'
      refine ifT rfl (ld_of n l1 (wo A' _ fun w sg8 own8 => ?_))
      exact hj (bad, w, ()) _ ⟨o1 :: (J ++ seg), sg8, A', _, _, rfl, hA', inv.spl hg, own8⟩
theorem row_BlocksFree (W : World) (a0 : Int) (w0 : intWf .i64 a0) (a1 : SlV) (l1 : List BAct) (w1 : SlOk W bactEnc (fun x => intWf .i64 x.1 ∧ intWf .i64 x.2.1 ∧ True ∧ True) 3 (a1, l1)) :
    Reads PP 14 #[.int .i64 a0, .slice a1.a a1.len a1.cap] (allB W) (.bool true) := law_BlocksFree _ a0 a1 l1 w1.sl
end Go.Proofs.Ytefllmfoneocaaa
