/-
  It is proved what the functions of the layer page and of its document's answer compute: sized, Room, check, put, Image. There are no further conditions than those that each theorem names.
-/
import Derived.Test.YtaniefdpjommnaaWireGet
import Derived.Test.YtaniefdpjommnaaCrcCore
import Derived.Test.YtaniefdpjommnaaHL22
set_option linter.unusedVariables false
set_option linter.unusedSimpArgs false
namespace Go.Proofs.Ytaniefdpjommnaa
open Go.HL

/-- A head: kind, part, parts, epoch, page. -/
abbrev Hd := Int × Int × Int × Int × Int × Unit
def hEnc (h : Hd) : List Value := [.int .i64 h.1, .int .i64 h.2.1, .int .i64 h.2.2.1, .int .i64 h.2.2.2.1, .int .i64 h.2.2.2.2.1]
def hErr (h : Hd) : Int := if h.1 < 1 ∨ h.1 > 4 then 16 else if h.2.2.1 < 1 ∨ h.2.2.1 > 16 ∨ h.2.1 < 0 ∨ h.2.1 ≥ h.2.2.1 ∨ h.2.2.2.1 < 1 ∨ h.2.2.2.1 > 1073741824 ∨ h.2.2.2.2.1 < 0 ∨ h.2.2.2.2.1 > 15 then 3 else 0
def szd (n : Int) : Bool := decide (64 ≤ n ∧ n ≤ 512)
def roomOf (n : Int) : Int := if 64 ≤ n ∧ n ≤ 512 then n - 16 else 0
theorem psized_rd (L : HList) (n : Int) : Reads PP 41 #[.int .i64 n] L (.bool (szd n)) := by
  refine Reads.of (args := [.int .i64 n]) noNum mixed Try.func41 (e41 n _) ?_
  unfold t41
  refine ifD_of (fun (h : n ≥ 64) => .of ⟨?_, rfl⟩) (fun (h : ¬ n ≥ 64) => .of ⟨?_, rfl⟩)
  · unfold szd; congr 1; rw [decide_eq_decide]; omega
  · unfold szd; rw [decide_eq_false (by omega)]
theorem rsized_rd (L : HList) (n : Int) : Reads PP 45 #[.int .i64 n] L (.bool (szd n)) := by
  refine Reads.of (args := [.int .i64 n]) noNum mixed Try.func45 (e45 n _) ?_
  unfold t45
  refine ifD_of (fun (h : n ≥ 64) => .of ⟨?_, rfl⟩) (fun (h : ¬ n ≥ 64) => .of ⟨?_, rfl⟩)
  · unfold szd; congr 1; rw [decide_eq_decide]; omega
  · unfold szd; rw [decide_eq_false (by omega)]
theorem szd_t {n : Int} (h : szd n = true) : 64 ≤ n ∧ n ≤ 512 := of_decide_eq_true h
theorem szd_f {n : Int} (h : szd n = false) : ¬ (64 ≤ n ∧ n ≤ 512) := of_decide_eq_false h
theorem proom_rd (L : HList) (n : Int) : Reads PP 15 #[.int .i64 n] L (.int .i64 (roomOf n)) := by
  refine Reads.of (args := [.int .i64 n]) noNum mixed Try.func15 (e15 n _) ?_
  unfold t15
  refine cl_rd (psized_rd _ n) (szd n, ()) rfl ?_
  cases h : szd n with
  | false => exact ifT rfl (.of ⟨by unfold roomOf; rw [if_neg (szd_f h)], rfl⟩)
  | true =>
    have := szd_t h
    refine ifF rfl (.of ⟨?_, rfl⟩)
    unfold roomOf; rw [if_pos this, w64_id (by omega) (by omega)]
theorem rroom_rd (L : HList) (n : Int) : Reads PP 16 #[.int .i64 n] L (.int .i64 (roomOf n)) := by
  refine Reads.of (args := [.int .i64 n]) noNum mixed Try.func16 (e16 n _) ?_
  unfold t16
  refine cl_rd (rsized_rd _ n) (szd n, ()) rfl ?_
  cases h : szd n with
  | false => exact ifT rfl (.of ⟨by unfold roomOf; rw [if_neg (szd_f h)], rfl⟩)
  | true =>
    have := szd_t h
    refine ifF rfl (.of ⟨?_, rfl⟩)
    unfold roomOf; rw [if_pos this, w64_id (by omega) (by omega)]
theorem hErr_k {h : Hd} (c : h.1 < 1 ∨ h.1 > 4) : hErr h = 16 := by unfold hErr; rw [if_pos c]
theorem hErr_r {h : Hd} (c : ¬ (h.1 < 1 ∨ h.1 > 4)) (d : h.2.2.1 < 1 ∨ h.2.2.1 > 16 ∨ h.2.1 < 0 ∨ h.2.1 ≥ h.2.2.1 ∨ h.2.2.2.1 < 1 ∨ h.2.2.2.1 > 1073741824 ∨ h.2.2.2.2.1 < 0 ∨ h.2.2.2.2.1 > 15) : hErr h = 3 := by unfold hErr; rw [if_neg c, if_pos d]
theorem hErr_0 {h : Hd} (c : ¬ (h.1 < 1 ∨ h.1 > 4)) (d : ¬ (h.2.2.1 < 1 ∨ h.2.2.1 > 16 ∨ h.2.1 < 0 ∨ h.2.1 ≥ h.2.2.1 ∨ h.2.2.2.1 < 1 ∨ h.2.2.2.1 > 1073741824 ∨ h.2.2.2.2.1 < 0 ∨ h.2.2.2.2.1 > 15)) : hErr h = 0 := by unfold hErr; rw [if_neg c, if_neg d]
theorem hErr_ok {h : Hd} (e : hErr h = 0) : 1 ≤ h.1 ∧ h.1 ≤ 4 ∧ 1 ≤ h.2.2.1 ∧ h.2.2.1 ≤ 16 ∧ 0 ≤ h.2.1 ∧ h.2.1 < h.2.2.1 ∧ 1 ≤ h.2.2.2.1 ∧ h.2.2.2.1 ≤ 1073741824 ∧ 0 ≤ h.2.2.2.2.1 ∧ h.2.2.2.2.1 ≤ 15 := by
  unfold hErr at e
  split at e
  · cases e
  · split at e
    · cases e
    · omega
theorem pcheck_rd (L : HList) (h : Hd) : Reads PP 42 #[.agg #[.int .i64 h.1, .int .i64 h.2.1, .int .i64 h.2.2.1, .int .i64 h.2.2.2.1, .int .i64 h.2.2.2.2.1]] L (.int .i64 (hErr h)) := by
  refine Reads.of (args := [.agg #[.int .i64 h.1, .int .i64 h.2.1, .int .i64 h.2.2.1, .int .i64 h.2.2.2.1, .int .i64 h.2.2.2.2.1]]) noNum mixed Try.func42 (e42 h _) ?_
  unfold t42
  refine nw_of fun n1 _ => ?_
  generalize ho : (n1, Obj.cells #[.int .i64 h.1, .int .i64 h.2.1, .int .i64 h.2.2.1, .int .i64 h.2.2.2.1, .int .i64 h.2.2.2.2.1] 23) = o1
  have l0 : LdAt ⟨n1, 0, none⟩ [.int .i64 h.1] (o1 :: L) := by subst ho; exact ldB List.mem_cons_self rfl
  have l1 : LdAt (Addr.add ⟨n1, 0, none⟩ 1) [.int .i64 h.2.1] (o1 :: L) := by subst ho; exact ldB List.mem_cons_self rfl
  have l2 : LdAt (Addr.add ⟨n1, 0, none⟩ 2) [.int .i64 h.2.2.1] (o1 :: L) := by subst ho; exact ldB List.mem_cons_self rfl
  have l3 : LdAt (Addr.add ⟨n1, 0, none⟩ 3) [.int .i64 h.2.2.2.1] (o1 :: L) := by subst ho; exact ldB List.mem_cons_self rfl
  have l4 : LdAt (Addr.add ⟨n1, 0, none⟩ 4) [.int .i64 h.2.2.2.2.1] (o1 :: L) := by subst ho; exact ldB List.mem_cons_self rfl
  clear ho
  refine ld_of h.1 l0 (ifD_of (fun (c : h.1 < 1) => .cons (.of ⟨by rw [hErr_k (.inl c)], rfl⟩)) (fun (c1 : ¬ h.1 < 1) => ?_))
  refine ld_of h.1 l0 (ifD_of (fun (c : h.1 > 4) => .cons (.of ⟨by rw [hErr_k (.inr c)], rfl⟩)) (fun (c2 : ¬ h.1 > 4) => ?_))
  refine ld_of h.2.2.1 l2 (ifD_of (fun (c : h.2.2.1 < 1) => .cons (.of ⟨by rw [hErr_r (by omega) (by omega)], rfl⟩)) (fun (c3 : ¬ h.2.2.1 < 1) => ?_))
  refine ld_of h.2.2.1 l2 (ifD_of (fun (c : h.2.2.1 > 16) => .cons (.of ⟨by rw [hErr_r (by omega) (by omega)], rfl⟩)) (fun (c4 : ¬ h.2.2.1 > 16) => ?_))
  refine ld_of h.2.1 l1 (ifD_of (fun (c : h.2.1 < 0) => .cons (.of ⟨by rw [hErr_r (by omega) (by omega)], rfl⟩)) (fun (c5 : ¬ h.2.1 < 0) => ?_))
  refine ld_of h.2.1 l1 (ld_of h.2.2.1 l2 (ifD_of (fun (c : h.2.1 ≥ h.2.2.1) => .cons (.of ⟨by rw [hErr_r (by omega) (by omega)], rfl⟩)) (fun (c6 : ¬ h.2.1 ≥ h.2.2.1) => ?_)))
  refine ld_of h.2.2.2.1 l3 (ifD_of (fun (c : h.2.2.2.1 < 1) => .cons (.of ⟨by rw [hErr_r (by omega) (by omega)], rfl⟩)) (fun (c7 : ¬ h.2.2.2.1 < 1) => ?_))
  refine ld_of h.2.2.2.1 l3 (ifD_of (fun (c : h.2.2.2.1 > 1073741824) => .cons (.of ⟨by rw [hErr_r (by omega) (by omega)], rfl⟩)) (fun (c8 : ¬ h.2.2.2.1 > 1073741824) => ?_))
  refine ld_of h.2.2.2.2.1 l4 (ifD_of (fun (c : h.2.2.2.2.1 < 0) => .cons (.of ⟨by rw [hErr_r (by omega) (by omega)], rfl⟩)) (fun (c9 : ¬ h.2.2.2.2.1 < 0) => ?_))
  refine ld_of h.2.2.2.2.1 l4 (ifD_of (fun (c : h.2.2.2.2.1 ≥ 16) => .cons (.of ⟨by rw [hErr_r (by omega) (by omega)], rfl⟩)) (fun (c10 : ¬ h.2.2.2.2.1 ≥ 16) => .cons (.of ⟨by rw [hErr_0 (by omega) (by omega)], rfl⟩)))
theorem rright_rd (L : HList) (h : Hd) : Reads PP 46 #[.agg #[.int .i64 h.1, .int .i64 h.2.1, .int .i64 h.2.2.1, .int .i64 h.2.2.2.1, .int .i64 h.2.2.2.2.1]] L (.int .i64 (hErr h)) := by
  refine Reads.of (args := [.agg #[.int .i64 h.1, .int .i64 h.2.1, .int .i64 h.2.2.1, .int .i64 h.2.2.2.1, .int .i64 h.2.2.2.2.1]]) noNum mixed Try.func46 (e46 h _) ?_
  unfold t46
  refine nw_of fun n1 _ => ?_
  generalize ho : (n1, Obj.cells #[.int .i64 h.1, .int .i64 h.2.1, .int .i64 h.2.2.1, .int .i64 h.2.2.2.1, .int .i64 h.2.2.2.2.1] 23) = o1
  have l0 : LdAt ⟨n1, 0, none⟩ [.int .i64 h.1] (o1 :: L) := by subst ho; exact ldB List.mem_cons_self rfl
  have l1 : LdAt (Addr.add ⟨n1, 0, none⟩ 1) [.int .i64 h.2.1] (o1 :: L) := by subst ho; exact ldB List.mem_cons_self rfl
  have l2 : LdAt (Addr.add ⟨n1, 0, none⟩ 2) [.int .i64 h.2.2.1] (o1 :: L) := by subst ho; exact ldB List.mem_cons_self rfl
  have l3 : LdAt (Addr.add ⟨n1, 0, none⟩ 3) [.int .i64 h.2.2.2.1] (o1 :: L) := by subst ho; exact ldB List.mem_cons_self rfl
  have l4 : LdAt (Addr.add ⟨n1, 0, none⟩ 4) [.int .i64 h.2.2.2.2.1] (o1 :: L) := by subst ho; exact ldB List.mem_cons_self rfl
  clear ho
  refine ld_of h.1 l0 (ifD_of (fun (c : h.1 < 1) => .cons (.of ⟨by rw [hErr_k (.inl c)], rfl⟩)) (fun (c1 : ¬ h.1 < 1) => ?_))
  refine ld_of h.1 l0 (ifD_of (fun (c : h.1 > 4) => .cons (.of ⟨by rw [hErr_k (.inr c)], rfl⟩)) (fun (c2 : ¬ h.1 > 4) => ?_))
  refine ld_of h.2.2.1 l2 (ifD_of (fun (c : h.2.2.1 < 1) => .cons (.of ⟨by rw [hErr_r (by omega) (by omega)], rfl⟩)) (fun (c3 : ¬ h.2.2.1 < 1) => ?_))
  refine ld_of h.2.2.1 l2 (ifD_of (fun (c : h.2.2.1 > 16) => .cons (.of ⟨by rw [hErr_r (by omega) (by omega)], rfl⟩)) (fun (c4 : ¬ h.2.2.1 > 16) => ?_))
  refine ld_of h.2.1 l1 (ifD_of (fun (c : h.2.1 < 0) => .cons (.of ⟨by rw [hErr_r (by omega) (by omega)], rfl⟩)) (fun (c5 : ¬ h.2.1 < 0) => ?_))
  refine ld_of h.2.1 l1 (ld_of h.2.2.1 l2 (ifD_of (fun (c : h.2.1 ≥ h.2.2.1) => .cons (.of ⟨by rw [hErr_r (by omega) (by omega)], rfl⟩)) (fun (c6 : ¬ h.2.1 ≥ h.2.2.1) => ?_)))
  refine ld_of h.2.2.2.1 l3 (ifD_of (fun (c : h.2.2.2.1 < 1) => .cons (.of ⟨by rw [hErr_r (by omega) (by omega)], rfl⟩)) (fun (c7 : ¬ h.2.2.2.1 < 1) => ?_))
  refine ld_of h.2.2.2.1 l3 (ifD_of (fun (c : h.2.2.2.1 > 1073741824) => .cons (.of ⟨by rw [hErr_r (by omega) (by omega)], rfl⟩)) (fun (c8 : ¬ h.2.2.2.1 > 1073741824) => ?_))
  refine ld_of h.2.2.2.2.1 l4 (ifD_of (fun (c : h.2.2.2.2.1 < 0) => .cons (.of ⟨by rw [hErr_r (by omega) (by omega)], rfl⟩)) (fun (c9 : ¬ h.2.2.2.2.1 < 0) => ?_))
  refine ld_of h.2.2.2.2.1 l4 (ifD_of (fun (c : h.2.2.2.2.1 > 15) => .cons (.of ⟨by rw [hErr_r (by omega) (by omega)], rfl⟩)) (fun (c10 : ¬ h.2.2.2.2.1 > 15) => .cons (.of ⟨by rw [hErr_0 (by omega) (by omega)], rfl⟩)))
/-! ### put -/
abbrev PNum := Int × Int × Unit
def pnEnc (x : PNum) : List Value := [.int .i64 x.1, .int .i64 x.2.1]
theorem pnEnc_len (x : PNum) : (pnEnc x).length = 2 := rfl
def putsL (b : List UInt8) (l : List PNum) : List UInt8 := l.foldl (fun b x => (wput b x.1 x.2.1).1) b
theorem putsL_snoc (b : List UInt8) (l : List PNum) (x : PNum) : putsL b (l ++ [x]) = (wput (putsL b l) x.1 x.2.1).1 := by simp [putsL]
theorem wput_len (b : List UInt8) (n w : Int) : (wput b n w).1.length ≤ b.length + 7 := by
  unfold wput
  split
  · simp
  · split
    · simp
    · simp only [List.length_append, digs_len]; omega
theorem putsL_len (b : List UInt8) (l : List PNum) : (putsL b l).length ≤ b.length + 7 * l.length := by
  induction l generalizing b with
  | nil => simp [putsL]
  | cons x r ih =>
    have h1 := ih (wput b x.1 x.2.1).1
    have h2 := wput_len b x.1 x.2.1
    have h3 : putsL b (x :: r) = putsL (wput b x.1 x.2.1).1 r := rfl
    rw [h3, List.length_cons]; omega
theorem pput_cl (A : HList) (v : SlV) (b : List UInt8) (hb : BSl A v b) (hl : b.length ≤ 1000) (u : SlV) (l : List PNum) (hu : Sl A u 2 (l.flatMap pnEnc)) (hne : 0 < l.length) (hl2 : l.length ≤ 100) (hn : ∀ x ∈ l, x.1 ≤ 9223372036854775807) :
    CallF PP 43 #[.slice v.a v.len v.cap, .slice u.a u.len u.cap] A fun r L' => ∃ (s : SlV) (seg : HList), r = .slice s.a s.len s.cap ∧ L' = seg ++ A ∧ Own s 1 eB (bvs (putsL b l)) seg := by
  refine CallF.of (args := [.slice v.a v.len v.cap, .slice u.a u.len u.cap]) noNum mixed Try.func43 (e43 v u _) ?_
  unfold t43
  have hul := hu.els_len pnEnc_len (by decide)
  refine lp_of (fun k z L' => ∃ (i : Nat) (s : SlV) (J : HList), i ≤ l.length ∧ k = l.length - i ∧ z = (s, (i : Int), ()) ∧ L' = J ++ A ∧ BSl L' s (putsL b (l.take i)) ∧ (0 < i → ∃ (seg J' : HList), J = seg ++ J' ∧ Own s 1 eB (bvs (putsL b (l.take i))) seg)) l.length
    ⟨0, v, [], by omega, by omega, rfl, rfl, hb, fun h => by omega⟩ ?_
  rintro k z L' ⟨i, s, J, hi, rfl, rfl, rfl, hs, hown⟩
  refine ifD_of (fun (hlt : (i : Int) < u.len) => ?_) (fun (hge : ¬ (i : Int) < u.len) => ?_)
  · have hi' : i < l.length := by omega
    obtain ⟨a, ha, la⟩ := (hu.right (R := J)).el pnEnc_len (by decide) hi'
    refine nilc_of ha (ixn_of (show (0 : Int) ≤ (i : Int) by omega) hlt (ld_of l[i] (by rw [Int.toNat_natCast]; exact la) ?_))
    have hbl := putsL_len b (l.take i)
    rw [List.length_take, Nat.min_eq_left hi] at hbl
    have hsn := putsL_snoc b (l.take i) l[i]
    rw [← List.take_succ_eq_append_getElem hi'] at hsn
    have hnx := hn _ (List.getElem_mem hi')
    generalize l[i] = x at hsn hnx ⊢
    refine nw_of fun n1 _ => st_of [] _ rfl rfl (by simp) (.inl (Nat.le_refl _)) #[.int .i64 x.1, .int .i64 x.2.1] rfl ?_
    rw [List.nil_append]
    refine ld_of x.1 (ldB List.mem_cons_self rfl) (ld_of x.2.1 (ldB List.mem_cons_self rfl) ?_)
    generalize (n1, Obj.cells #[.int .i64 x.1, .int .i64 x.2.1] 80) = o1
    refine cl_in [] [] (wput_cl (o1 :: (J ++ A)) s _ hs.cons (by omega) x.1 x.2.1 hnx) (by simp) ?_
    rintro _ _ - ⟨s', seg, rfl, rfl, own⟩
    rw [List.append_nil, List.nil_append]
    rw [← hsn] at own
    refine ⟨(s', _, ()), rfl, l.length - (i + 1), by omega, i + 1, s', seg ++ (o1 :: J), by omega, rfl, ?_, by simp, own.sl.left, fun _ => ⟨seg, o1 :: J, rfl, own⟩⟩
    show (s', IntKind.i64.wrap ((i : Int) + 1), ()) = _
    rw [w64_id (by omega) (by omega)]
    rfl
  · obtain rfl : i = l.length := by omega
    rw [List.take_length] at hown
    obtain ⟨seg, J', rfl, own⟩ := hown hne
    refine .drop (A := seg ++ A) (J := J') ⟨s, seg, rfl, rfl, own⟩ ?_
    rw [List.append_assoc, List.append_assoc]
    exact List.Perm.append_left _ List.perm_append_comm
end Go.Proofs.Ytaniefdpjommnaa
