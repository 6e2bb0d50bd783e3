/-
  It is proved what Class, Pages and joined of the layer entry, and Class and Pages of its document's answer, compute. There are no further conditions than those that each theorem names.
-/
import Derived.Test.YtaniefdpjommnaaDoorPageRoom
set_option linter.unusedVariables false
set_option linter.unusedSimpArgs false
namespace Go.Proofs.YtaniefdpjommnaaDoor
open Go.HL

/-- The table of classes lies where the program's text lays it. -/
abbrev Tab (L : HList) : Prop := LdAt ⟨0, 0, none⟩ [.int .i64 1, .int .i64 2, .int .i64 4, .int .i64 8] L
theorem Tab.mono {A L : HList} (h : Tab A) (hs : ∀ p ∈ A, p ∈ L) : Tab L := LdAt.mono h hs
theorem Tab.cons {L : HList} {p : Nat × Obj} (h : Tab L) : Tab (p :: L) := LdAt.mono h fun _ hp => List.mem_cons_of_mem _ hp
theorem Tab.right {L R : HList} (h : Tab L) : Tab (R ++ L) := LdAt.mono h fun _ hp => List.mem_append_right _ hp
theorem Tab.left {L R : HList} (h : Tab L) : Tab (L ++ R) := LdAt.mono h fun _ hp => List.mem_append_left _ hp
def clsL : List Int → Int → Int → Int
  | [], _, _ => 0
  | k :: r, n, p => if k ≥ n ∧ k ≤ p - 2 then k else clsL r n p
def cls (n p : Int) : Int := if n < 1 ∨ p < 2 then 0 else clsL [1, 2, 4, 8] n p
theorem class_rd (L : HList) (hT : Tab L) (n p : Int) (hp : p ≤ 9223372036854775807) : Reads PP 11 #[.int .i64 n, .int .i64 p] L (.int .i64 (cls n p)) := by
  refine Reads.of (args := [.int .i64 n, .int .i64 p]) noNum mixed Tryd.func11 (e11 n p _) ?_
  unfold t11 cls
  refine ifD_of (fun (h1 : n < 1) => .of ⟨by rw [if_pos (.inl h1)], rfl⟩) (fun (h1 : ¬ n < 1) => ?_)
  refine ifD_of (fun (h2 : p < 2) => .of ⟨by rw [if_pos (.inr h2)], rfl⟩) (fun (h2 : ¬ p < 2) => ?_)
  rw [if_neg (by omega)]
  refine ld_of (1, 2, 4, 8, ()) hT ?_
  refine lp_of (fun z' z L' => L' = L ∧ ∃ i : Nat, i ≤ 4 ∧ z' = 4 - i ∧ z = ((i : Int), ()) ∧ clsL (([1, 2, 4, 8] : List Int).drop i) n p = clsL [1, 2, 4, 8] n p) 4 ⟨rfl, 0, by omega, by omega, rfl, rfl⟩ ?_
  rintro z' z L1 ⟨hL1, i, hi, rfl, rfl, hc⟩
  rw [hL1]
  have hw : IntKind.i64.wrap (p - 2) = p - 2 := w64_id (by omega) (by omega)
  refine ifD_of (fun (hlt : (i : Int) < 4) => ?_) (fun (hge : ¬ (i : Int) < 4) => ?_)
  · obtain ⟨k, r, hdr, hrun, hdr2⟩ : ∃ (k : Int) (r : List Int), ([1, 2, 4, 8] : List Int).drop i = k :: r ∧ (∀ w, (Instr.index 58 (.agg #[.int .i64 1, .int .i64 2, .int .i64 4, .int .i64 8]) (.int .i64 (i : Int))).run PP w = .ok (.int .i64 k) w) ∧ ([1, 2, 4, 8] : List Int).drop (i + 1) = r := by
      have h4 : i = 0 ∨ i = 1 ∨ i = 2 ∨ i = 3 := by omega
      rcases h4 with rfl | rfl | rfl | rfl
      · exact ⟨1, [2, 4, 8], rfl, fun w => by kernel_rfl, rfl⟩
      · exact ⟨2, [4, 8], rfl, fun w => by kernel_rfl, rfl⟩
      · exact ⟨4, [8], rfl, fun w => by kernel_rfl, rfl⟩
      · exact ⟨8, [], rfl, fun w => by kernel_rfl, rfl⟩
    rw [hdr, show clsL (k :: r) n p = (if k ≥ n ∧ k ≤ p - 2 then k else clsL r n p) from rfl] at hc
    have hnext : ¬ (k ≥ n ∧ k ≤ p - 2) → ∃ k', k' < 4 - i ∧ L = L ∧ ∃ j : Nat, j ≤ 4 ∧ k' = 4 - j ∧ ((IntKind.i64.wrap ((i : Int) + 1), ()) : Int × Unit) = ((j : Int), ()) ∧ clsL (([1, 2, 4, 8] : List Int).drop j) n p = clsL [1, 2, 4, 8] n p := by
      intro hn
      refine ⟨4 - (i + 1), by omega, rfl, i + 1, by omega, rfl, ?_, ?_⟩
      · rw [w64_id (by first | omega | (simp only; omega)) (by first | omega | (simp only; omega))]
        rfl
      · rw [hdr2]
        rw [if_neg hn] at hc
        exact hc
    refine ⟨k, hrun, ?_⟩
    simp only [hw]
    refine ifD_of (fun (h3 : k ≥ n) => ?_) (fun (h3 : ¬ k ≥ n) => hnext fun h => h3 h.1)
    refine ifD_of (fun (h4 : k ≤ p - 2) => .of ⟨?_, rfl⟩) (fun (h4 : ¬ k ≤ p - 2) => hnext fun h => h4 h.2)
    rw [if_pos ⟨h3, h4⟩] at hc
    rw [hc]
  · obtain rfl : i = 4 := by omega
    refine .of ⟨?_, rfl⟩
    rw [← hc]; rfl
theorem rclass_rd (L : HList) (n p : Int) (hp : p ≤ 9223372036854775807) : Reads PP 12 #[.int .i64 n, .int .i64 p] L (.int .i64 (cls n p)) := by
  refine Reads.of (args := [.int .i64 n, .int .i64 p]) noNum mixed Tryd.func12 (e12 n p _) ?_
  unfold t12 cls
  refine ifD_of (fun (h1 : n < 1) => .of ⟨by rw [if_pos (.inl h1)], rfl⟩) (fun (h1 : ¬ n < 1) => ?_)
  refine lp_of (fun z' z L' => L' = L ∧ ∃ (i : Nat) (k : Int), i ≤ 4 ∧ z' = 4 - i ∧ z = (k, ()) ∧ k = ((2 ^ i : Nat) : Int) ∧ (p ≥ 2 → clsL (([1, 2, 4, 8] : List Int).drop i) n p = clsL [1, 2, 4, 8] n p)) 4 ⟨rfl, 0, 1, by omega, by omega, rfl, rfl, fun _ => rfl⟩ ?_
  rintro z' z L1 ⟨hL1, i, k, hi, rfl, rfl, hk, hc⟩
  rw [hL1]
  refine ifD_of (fun (hlt : k ≤ 8) => ?_) (fun (hge : ¬ k ≤ 8) => ?_)
  · obtain ⟨hi4, r, hdr, hdr2, hk8⟩ : i < 4 ∧ ∃ (r : List Int), ([1, 2, 4, 8] : List Int).drop i = k :: r ∧ ([1, 2, 4, 8] : List Int).drop (i + 1) = r ∧ 1 ≤ k := by
      have h4 : i = 0 ∨ i = 1 ∨ i = 2 ∨ i = 3 ∨ i = 4 := by omega
      rcases h4 with rfl | rfl | rfl | rfl | rfl
      · subst hk; exact ⟨by omega, [2, 4, 8], rfl, rfl, by decide⟩
      · subst hk; exact ⟨by omega, [4, 8], rfl, rfl, by decide⟩
      · subst hk; exact ⟨by omega, [8], rfl, rfl, by decide⟩
      · subst hk; exact ⟨by omega, [], rfl, rfl, by decide⟩
      · subst hk; exact absurd hlt (by decide)
    rw [hdr, show clsL (k :: r) n p = (if k ≥ n ∧ k ≤ p - 2 then k else clsL r n p) from rfl] at hc
    have hnext : (p ≥ 2 → ¬ (k ≥ n ∧ k ≤ p - 2)) → ∃ k', k' < 4 - i ∧ L = L ∧ ∃ (j : Nat) (k2 : Int), j ≤ 4 ∧ k' = 4 - j ∧ ((IntKind.i64.wrap (2 * k), ()) : Int × Unit) = (k2, ()) ∧ k2 = ((2 ^ j : Nat) : Int) ∧ (p ≥ 2 → clsL (([1, 2, 4, 8] : List Int).drop j) n p = clsL [1, 2, 4, 8] n p) := by
      intro hn
      refine ⟨4 - (i + 1), by omega, rfl, i + 1, 2 * k, by omega, rfl, ?_, ?_, fun h2 => ?_⟩
      · rw [w64_id (by omega) (by omega)]
      · rw [hk, Nat.pow_succ]; omega
      · rw [hdr2]
        have := hc h2
        rw [if_neg (hn h2)] at this
        exact this
    refine ifD_of (fun (h3 : k ≥ n) => ?_) (fun (h3 : ¬ k ≥ n) => hnext fun _ h => h3 h.1)
    refine ifD_of (fun (h2 : p ≥ 2) => ?_) (fun (h2 : ¬ p ≥ 2) => hnext fun h => absurd h h2)
    have hw : IntKind.i64.wrap (p - 2) = p - 2 := w64_id (by omega) (by omega)
    simp only [hw]
    refine ifD_of (fun (h4 : k ≤ p - 2) => .of ⟨?_, rfl⟩) (fun (h4 : ¬ k ≤ p - 2) => hnext fun _ h => h4 h.2)
    have := hc h2
    rw [if_pos ⟨h3, h4⟩] at this
    rw [if_neg (by omega), ← this]
  · have h4 : i = 4 := by
      have : i = 0 ∨ i = 1 ∨ i = 2 ∨ i = 3 ∨ i = 4 := by omega
      rcases this with rfl | rfl | rfl | rfl | rfl
      · subst hk; exact absurd (by decide) hge
      · subst hk; exact absurd (by decide) hge
      · subst hk; exact absurd (by decide) hge
      · subst hk; exact absurd (by decide) hge
      · rfl
    subst h4
    refine .of ⟨?_, rfl⟩
    by_cases h2 : p ≥ 2
    · rw [if_neg (by omega), ← hc h2]; rfl
    · rw [if_pos (by omega)]
theorem cls_rng (n p : Int) : 0 ≤ cls n p ∧ cls n p ≤ 8 := by
  unfold cls
  split
  · exact ⟨by decide, by decide⟩
  · simp only [clsL]
    repeat' split
    all_goals omega
theorem cls_ge {n p : Int} (h : cls n p ≠ 0) : n ≤ cls n p ∧ cls n p ≤ p - 2 ∧ 1 ≤ cls n p ∧ cls (cls n p) p = cls n p := by
  unfold cls at h
  split at h
  · exact absurd rfl h
  · rename_i h0
    have hc : cls n p = clsL [1, 2, 4, 8] n p := by unfold cls; rw [if_neg h0]
    rw [hc]
    simp only [clsL] at h ⊢
    split at h
    · rename_i h1
      rw [if_pos h1]
      exact ⟨h1.1, h1.2, by decide, by unfold cls; rw [if_neg (by omega)]; simp only [clsL]; rw [if_pos (by omega)]⟩
    · rename_i h1
      rw [if_neg h1]
      split at h
      · rename_i h2
        rw [if_pos h2]
        exact ⟨h2.1, h2.2, by decide, by unfold cls; rw [if_neg (by omega)]; simp only [clsL]; rw [if_neg (by omega), if_pos (by omega)]⟩
      · rename_i h2
        rw [if_neg h2]
        split at h
        · rename_i h3
          rw [if_pos h3]
          exact ⟨h3.1, h3.2, by decide, by unfold cls; rw [if_neg (by omega)]; simp only [clsL]; rw [if_neg (by omega), if_neg (by omega), if_pos (by omega)]⟩
        · rename_i h3
          rw [if_neg h3]
          split at h
          · rename_i h4
            rw [if_pos h4]
            exact ⟨h4.1, h4.2, by decide, by unfold cls; rw [if_neg (by omega)]; simp only [clsL]; rw [if_neg (by omega), if_neg (by omega), if_neg (by omega), if_pos (by omega)]⟩
          · exact absurd rfl h
theorem keyed_rd (L : HList) (n : Int) : Reads PP 21 #[.int .i64 n] L (.bool (decide (1 ≤ n ∧ n ≤ 255))) := by
  refine Reads.of (args := [.int .i64 n]) noNum mixed Tryd.func21 (e21 n _) ?_
  unfold t21
  refine ifD_of (fun (h : n ≥ 1) => .of ⟨?_, rfl⟩) (fun (h : ¬ n ≥ 1) => .of ⟨by rw [decide_eq_false (by omega)], rfl⟩)
  congr 1
  rw [decide_eq_decide]
  omega
abbrev Cf := Int × Int × Int × Int × Unit
/-- How many pages a key and a value have. -/
def pagesOf (key value : Int) (c : Cf) : Int :=
  if key < 1 ∨ key > 255 ∨ value < 0 ∨ value > 65536 ∨ roomOf c.2.2.1 = 0 then 0 else cls ((key + value + 12 + roomOf c.2.2.1 - 1) / roomOf c.2.2.1) c.2.1
theorem roomOf_rng {n : Int} (h : roomOf n ≠ 0) : 48 ≤ roomOf n ∧ roomOf n ≤ 496 := by
  unfold roomOf at h ⊢
  split at h
  · rename_i h1; rw [if_pos h1]; omega
  · exact absurd rfl h
theorem pages_rd (L : HList) (hT : Tab L) (key value : Int) (c : Cf) (hc : c.2.1 ≤ 9223372036854775807) : Reads PP 13 #[.int .i64 key, .int .i64 value, .agg #[.int .i64 c.1, .int .i64 c.2.1, .int .i64 c.2.2.1, .int .i64 c.2.2.2.1]] L (.int .i64 (pagesOf key value c)) := by
  refine Reads.of (args := [.int .i64 key, .int .i64 value, .agg #[.int .i64 c.1, .int .i64 c.2.1, .int .i64 c.2.2.1, .int .i64 c.2.2.2.1]]) noNum mixed Tryd.func13 (e13 key value c _) ?_
  unfold t13
  refine nw_of fun n1 _ => ?_
  generalize ho : (n1, Obj.cells #[.int .i64 c.1, .int .i64 c.2.1, .int .i64 c.2.2.1, .int .i64 c.2.2.2.1] 24) = o1
  have lc : LdAt ⟨n1, 0, none⟩ [.int .i64 c.1, .int .i64 c.2.1, .int .i64 c.2.2.1, .int .i64 c.2.2.2.1] (o1 :: L) := ldB (by rw [← ho]; exact List.mem_cons_self) rfl
  clear ho
  refine ld_of c.2.2.1 (lc.one 2 rfl) (cl_rd (proom_rd _ c.2.2.1) (roomOf c.2.2.1, ()) rfl (cl_rd (keyed_rd _ key) (decide (1 ≤ key ∧ key ≤ 255), ()) rfl ?_))
  have hno : (key < 1 ∨ key > 255 ∨ value < 0 ∨ value > 65536 ∨ roomOf c.2.2.1 = 0) → HL.Ends (fun v' L' => v' = Value.int .i64 (pagesOf key value c) ∧ L' = L) (.int .i64 0) (o1 :: L) := fun h => .cons (.of ⟨by unfold pagesOf; rw [if_pos h], rfl⟩)
  by_cases hk : 1 ≤ key ∧ key ≤ 255
  case neg => rw [decide_eq_false hk]; exact ifT rfl (hno (by omega))
  rw [decide_eq_true hk]
  refine ifF rfl (ifD_of (fun (h1 : value < 0) => hno (by omega)) (fun (h1 : ¬ value < 0) => ifD_of (fun (h2 : value > 65536) => hno (by omega)) (fun (h2 : ¬ value > 65536) => ?_)))
  refine ifE_of (fun (h3 : roomOf c.2.2.1 = 0) => hno (by omega)) (fun (h3 : roomOf c.2.2.1 ≠ 0) => req_of h3 ?_)
  have hr := roomOf_rng h3
  have hp : pagesOf key value c = cls ((key + value + 12 + roomOf c.2.2.1 - 1) / roomOf c.2.2.1) c.2.1 := by unfold pagesOf; rw [if_neg (by omega)]
  have e1 : IntKind.i64.wrap (key + value) = key + value := w64_id (by omega) (by omega)
  have e2 : IntKind.i64.wrap (key + value + 12) = key + value + 12 := w64_id (by omega) (by omega)
  have e3 : IntKind.i64.wrap (key + value + 12 + roomOf c.2.2.1) = key + value + 12 + roomOf c.2.2.1 := w64_id (by omega) (by omega)
  have e4 : IntKind.i64.wrap (key + value + 12 + roomOf c.2.2.1 - 1) = key + value + 12 + roomOf c.2.2.1 - 1 := w64_id (by omega) (by omega)
  have e5 : Int.tdiv (key + value + 12 + roomOf c.2.2.1 - 1) (roomOf c.2.2.1) = (key + value + 12 + roomOf c.2.2.1 - 1) / roomOf c.2.2.1 := Int.tdiv_eq_ediv_of_nonneg (by omega)
  have e6 : IntKind.i64.wrap ((key + value + 12 + roomOf c.2.2.1 - 1) / roomOf c.2.2.1) = (key + value + 12 + roomOf c.2.2.1 - 1) / roomOf c.2.2.1 := by
    have h1 := Int.ediv_le_self (roomOf c.2.2.1) (show 0 ≤ key + value + 12 + roomOf c.2.2.1 - 1 by omega)
    have h2 := Int.ediv_nonneg (show 0 ≤ key + value + 12 + roomOf c.2.2.1 - 1 by omega) (show 0 ≤ roomOf c.2.2.1 by omega)
    exact w64_id (by omega) (by omega)
  simp only [e1, e2, e3, e4, e5, e6]
  refine ld_of c.2.1 (lc.one 1 rfl) (cl_rd (class_rd _ hT.cons _ c.2.1 hc) (cls ((key + value + 12 + roomOf c.2.2.1 - 1) / roomOf c.2.2.1) c.2.1, ()) rfl (.cons (.of ⟨by rw [hp], rfl⟩)))
theorem rpages_rd (L : HList) (key value : Int) (c : Cf) (hc : c.2.1 ≤ 9223372036854775807) : Reads PP 14 #[.int .i64 key, .int .i64 value, .agg #[.int .i64 c.1, .int .i64 c.2.1, .int .i64 c.2.2.1, .int .i64 c.2.2.2.1]] L (.int .i64 (pagesOf key value c)) := by
  refine Reads.of (args := [.int .i64 key, .int .i64 value, .agg #[.int .i64 c.1, .int .i64 c.2.1, .int .i64 c.2.2.1, .int .i64 c.2.2.2.1]]) noNum mixed Tryd.func14 (e14 key value c _) ?_
  unfold t14
  refine nw_of fun n1 _ => ?_
  generalize ho : (n1, Obj.cells #[.int .i64 c.1, .int .i64 c.2.1, .int .i64 c.2.2.1, .int .i64 c.2.2.2.1] 24) = o1
  have lc : LdAt ⟨n1, 0, none⟩ [.int .i64 c.1, .int .i64 c.2.1, .int .i64 c.2.2.1, .int .i64 c.2.2.2.1] (o1 :: L) := ldB (by rw [← ho]; exact List.mem_cons_self) rfl
  clear ho
  refine ld_of c.2.2.1 (lc.one 2 rfl) (cl_rd (rroom_rd _ c.2.2.1) (roomOf c.2.2.1, ()) rfl ?_)
  have hno : (key < 1 ∨ key > 255 ∨ value < 0 ∨ value > 65536 ∨ roomOf c.2.2.1 = 0) → HL.Ends (fun v' L' => v' = Value.int .i64 (pagesOf key value c) ∧ L' = L) (.int .i64 0) (o1 :: L) := fun h => .cons (.of ⟨by unfold pagesOf; rw [if_pos h], rfl⟩)
  refine ifD_of (fun (h1 : key < 1) => hno (by omega)) (fun (h1 : ¬ key < 1) => ifD_of (fun (h2 : key > 255) => hno (by omega)) (fun (h2 : ¬ key > 255) => ?_))
  refine ifD_of (fun (h3 : value < 0) => hno (by omega)) (fun (h3 : ¬ value < 0) => ifD_of (fun (h4 : value > 65536) => hno (by omega)) (fun (h4 : ¬ value > 65536) => ?_))
  refine ifE_of (fun (h5 : roomOf c.2.2.1 = 0) => hno (by omega)) (fun (h5 : roomOf c.2.2.1 ≠ 0) => ?_)
  have hr := roomOf_rng h5
  have hp : pagesOf key value c = cls ((key + value + 12 + roomOf c.2.2.1 - 1) / roomOf c.2.2.1) c.2.1 := by unfold pagesOf; rw [if_neg (by omega)]
  have e1 : IntKind.i64.wrap (key + value) = key + value := w64_id (by omega) (by omega)
  have e2 : IntKind.i64.wrap (key + value + 12) = key + value + 12 := w64_id (by omega) (by omega)
  simp only [e1, e2]
  generalize hrr : roomOf c.2.2.1 = room at hr hp
  generalize hq : (key + value + 12 + room - 1) / room = q at hp
  have hq1 : q * room ≤ key + value + 12 + room - 1 := by rw [← hq]; exact Int.ediv_mul_le _ (by omega)
  have hq2 : key + value + 12 + room - 1 < (q + 1) * room := by rw [← hq]; exact Int.lt_ediv_add_one_mul_self _ (by omega)
  rw [Int.add_mul, Int.one_mul] at hq2
  refine lp_of (fun z' z L' => L' = o1 :: L ∧ ∃ (i left : Int), z' = left.toNat ∧ z = (i, left, ()) ∧ 0 ≤ i ∧ i ≤ 100000 ∧ left = key + value + 12 - i * room ∧ left > -room) (key + value + 12).toNat ⟨rfl, 0, key + value + 12, rfl, rfl, by omega, by omega, by omega, by omega⟩ ?_
  rintro z' z L1 ⟨hL1, i, left, rfl, rfl, hi0, hi1, hl, hl2⟩
  rw [hL1]
  refine ifD_of (fun (hgt : left > 0) => ?_) (fun (hle : ¬ left > 0) => ?_)
  · have hm : i ≤ i * room := by
      have := Int.mul_le_mul_of_nonneg_left (show (1 : Int) ≤ room by omega) hi0
      omega
    refine ⟨(left - room).toNat, by omega, rfl, i + 1, left - room, rfl, ?_, by omega, by omega, ?_, by omega⟩
    · rw [w64_id (by first | omega | (simp only; omega)) (by first | omega | (simp only; omega)), w64_id (by first | omega | (simp only; omega)) (by first | omega | (simp only; omega))]
    · rw [hl, Int.add_mul]; omega
  · have hiq : i = q := by
      have h1 : (i - 1) * room < key + value + 12 := by rw [Int.sub_mul]; omega
      have h2 : i * room ≥ key + value + 12 := by omega
      rw [Int.sub_mul, Int.one_mul] at h1
      rcases Int.lt_trichotomy i q with h3 | h3 | h3
      · have := Int.mul_le_mul_of_nonneg_right (show i + 1 ≤ q by omega) (show 0 ≤ room by omega)
        rw [Int.add_mul, Int.one_mul] at this
        omega
      · exact h3
      · have := Int.mul_le_mul_of_nonneg_right (show q + 1 ≤ i by omega) (show 0 ≤ room by omega)
        rw [Int.add_mul, Int.one_mul] at this
        omega
    subst hiq
    refine ld_of c.2.1 (lc.one 1 rfl) (cl_rd (rclass_rd _ i c.2.1 hc) (cls i c.2.1, ()) rfl (.cons (.of ⟨by rw [hp], rfl⟩)))
end Go.Proofs.YtaniefdpjommnaaDoor
