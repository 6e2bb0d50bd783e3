/-
  It is proved that the law of what stays in a queue returns true for every input. There are no further conditions than those that each theorem names.
-/
import Derived.Test.YtnhpojbjkfgeoaaGhostLaws
set_option linter.unusedVariables false
set_option linter.unusedSimpArgs false
namespace Go.Proofs.Ytnhpojbjkfgeoaa
open Go.HL

theorem gAdd_nodup {room : Int} {l : List Int} {x : Int} (h : l.Nodup) : (gAdd room l x).Nodup := by
  have h1 : (l.erase x ++ [x]).Nodup := by
    rw [List.nodup_append]
    refine ⟨h.erase x, by simp, fun a ha b hb => ?_⟩
    rw [List.mem_singleton.1 hb]
    rintro rfl
    exact h.not_mem_erase ha
  unfold gAdd
  split
  · exact h1.sublist (List.drop_sublist 1 _)
  · exact h1
theorem gAct_nodup {room : Int} {l : List Int} {x : Act28} (h : l.Nodup) : (gAct room l x).Nodup := by
  unfold gAct
  split
  · exact h.erase _
  · exact gAdd_nodup h
/-- h is there, with at most k behind it. -/
def Stays (l : List Int) (h : Int) (k : Nat) : Prop := ∃ p q, l = p ++ h :: q ∧ q.length ≤ k
theorem Stays.mem {l : List Int} {h : Int} {k : Nat} (s : Stays l h k) : h ∈ l := by
  obtain ⟨p, q, rfl, _⟩ := s; simp
theorem stays_add {room : Int} {l : List Int} {x : Int} (h1 : 1 ≤ room) : Stays (gAdd room l x) x 0 := by
  unfold gAdd
  split
  · rename_i hgt
    cases he : l.erase x with
    | nil => rw [he] at hgt; simp at hgt; omega
    | cons a r => exact ⟨r, [], rfl, Nat.le_refl _⟩
  · exact ⟨l.erase x, [], rfl, Nat.le_refl _⟩
theorem stays_more {room : Int} {l : List Int} {h x : Int} {k : Nat} (s : Stays l h k) (hk : (k : Int) + 1 < room) : Stays (gAdd room l x) h (k + 1) := by
  by_cases hx : x = h
  · subst hx
    obtain ⟨p, q, e, hq⟩ := stays_add (l := l) (x := x) (show 1 ≤ room by omega)
    exact ⟨p, q, e, by omega⟩
  · have h1 : ∃ p q, l.erase x ++ [x] = p ++ h :: q ∧ q.length ≤ k + 1 := by
      obtain ⟨p, q, rfl, hq⟩ := s
      by_cases hp : x ∈ p
      · rw [List.erase_append_left _ hp]
        exact ⟨p.erase x, q ++ [x], by simp, by rw [List.length_append]; simp only [List.length_cons, List.length_nil]; omega⟩
      · rw [List.erase_append_right _ hp, List.erase_cons_tail (by simpa using fun e : h = x => hx e.symm)]
        have := erase_len q x
        exact ⟨p, q.erase x ++ [x], by simp, by rw [List.length_append]; simp only [List.length_cons, List.length_nil]; omega⟩
    obtain ⟨p, q, e, hq⟩ := h1
    unfold gAdd
    rw [e]
    split
    · rename_i hgt
      cases p with
      | nil => simp at hgt; omega
      | cons a r => exact ⟨r, q, rfl, hq⟩
    · exact ⟨p, q, rfl, hq⟩

theorem stays_end (L : HList) (n : Nat) (r : Int) (l : List Int) (o : Obj) (ho : GOb r l o) (hl : (l.length : Int) ≤ r) (hn : l.Nodup) (h : Int) (hm : h ∈ l) {K : Value → HP} (hK : ∀ o, K (.bool true) ([(n, o)] ++ L)) :
    (cl PP 51 #[.pointer (some ⟨n, 0, none⟩), .int .u64 h] [.lf .bool] fun r13 =>
     ifB r13.1 (
      cl PP 50 #[.pointer (some ⟨n, 0, none⟩)] [.lf (.int .i64)] fun r14 =>
      ifB (decide ((r14.1 : Int) ≤ r)) (
       cl PP 46 #[.pointer (some ⟨n, 0, none⟩), .int .u64 h] [.lf .bool] fun r15 =>
       ifB r15.1 (
        cl PP 51 #[.pointer (some ⟨n, 0, none⟩), .int .u64 h] [.lf .bool] fun r16 =>
        ifB (!r16.1) (
         cl PP 43 #[] [.lf .bool] fun r17 =>
         K (.bool r17.1)) (
         K (.bool false))) (
        K (.bool false))) (
       K (.bool false))) (
      K (.bool false))) ([(n, o)] ++ L) := by
  refine cl_rd (Reads.in (X := []) (Y := L) (has_cl n r l o ho h)) (true, ()) (congrArg Value.bool (decide_eq_true hm)) (ifT rfl ?_)
  refine cl_rd (Reads.in (X := []) (Y := L) (len_rd n r l o ho)) ((l.length : Int), ()) rfl (ifP hl ?_)
  refine cl_in [] L (drop_cl n r l o ho h) rfl ?_
  rintro w A' - ⟨rfl, o', rfl, ho'⟩
  refine ⟨(true, ()), congrArg Value.bool (decide_eq_true hm), ifT rfl ?_⟩
  refine cl_rd (Reads.in (X := []) (Y := L) (has_cl n r _ o' ho' h)) (false, ()) (congrArg Value.bool (decide_eq_false hn.not_mem_erase)) (ifT rfl ?_)
  exact cl_rd (ghosts_rd _) (true, ()) rfl (hK o')

theorem law_GhostStays (L : HList) (room : Int) (v : SlV) (acts : List Act28) (hv : Sl L v 2 (acts.flatMap act28Enc)) (h : Int) (u : SlV) (more : List Int) (hu : ISl L u .u64 more) :
    Reads PP 14 #[.int .i64 room, .slice v.a v.len v.cap, .int .u64 h, .slice u.a u.len u.cap] L (.bool true) := by
  refine Reads.of (args := [.int .i64 room, .slice v.a v.len v.cap, .int .u64 h, .slice u.a u.len u.cap]) noNum mixed Try.func14 (e14 room v h u _) ?_
  unfold t14
  have hvlen := hv.els_len act28_len (by decide)
  have hulen := hu.len
  have done : ∀ {k : RsV [.lf .bool] → HP}, k (true, ()) L → cl PP 43 #[] [.lf .bool] k L := fun hk => cl_rd (ghosts_rd L) (true, ()) rfl hk
  refine ifD_of (fun (h1 : room < 1) => done (.of ⟨rfl, rfl⟩)) (fun (r0 : ¬ room < 1) => ?_)
  refine ifD_of (fun (h1 : room > 64) => done (.of ⟨rfl, rfl⟩)) (fun (r1 : ¬ room > 64) => ?_)
  refine ifD_of (fun (h1 : (v.len : Int) > 200) => done (.of ⟨rfl, rfl⟩)) (fun (h1 : ¬ (v.len : Int) > 200) => ?_)
  refine ifD_of (fun (h1 : (u.len : Int) > 200) => done (.of ⟨rfl, rfl⟩)) (fun (h2 : ¬ (u.len : Int) > 200) => ?_)
  refine cl_in [] L (gnew_cl room) rfl ?_
  rintro w A' - ⟨n, o, rfl, rfl, ho⟩
  refine ⟨(some ⟨n, 0, none⟩, ()), rfl, ?_⟩
  have hroom : imin (imax room 0) 64 = room := by unfold imin imax; split <;> (try split) <;> omega
  rw [hroom] at ho
  refine lp_of (fun k z L' => ∃ i l o, i ≤ acts.length ∧ k = acts.length - i ∧ z = ((i : Int), ()) ∧ L' = [(n, o)] ++ L ∧ (l.length : Int) ≤ room ∧ l.Nodup ∧ GOb room l o) acts.length
    ⟨0, [], o, by omega, by omega, rfl, rfl, by simp; omega, by simp, ho⟩ ?_
  clear ho
  rintro k z L' ⟨i, l, o, hi, rfl, rfl, rfl, hl, hn, ho⟩
  have fin : ∀ (o : Obj), HL.Ends (fun v' L' => v' = Value.bool true ∧ L' = L) (.bool true) ([(n, o)] ++ L) := fun o => .drop (A := L) (J := [(n, o)]) ⟨rfl, rfl⟩ List.perm_append_comm
  refine ifD_of (fun (hlt : (i : Int) < v.len) => ?_) (fun (hge : ¬ (i : Int) < v.len) => ?_)
  · have hi' : i < acts.length := by omega
    have h0 : (0 : Int) ≤ (i : Int) := by omega
    have at' : ∀ o, ∃ a, v.a = some a ∧ LdAt (Addr.add a ((i : Int).toNat * 2)) [.bool acts[i].1] ([(n, o)] ++ L) ∧ LdAt (Addr.add (Addr.add a ((i : Int).toNat * 2)) 1) [.int .u64 acts[i].2.1] ([(n, o)] ++ L) := fun o => act28_at (L := [(n, o)] ++ L) hv.cons hi'
    generalize acts[i] = x at at'
    refine jn_of (fun y L' => ∃ o, L' = [(n, o)] ++ L ∧ GOb room (gAct room l x) o) ?_ ?_
    · rintro y L' ⟨o, rfl, ho⟩
      have hl' := gAct_len (x := x) hl
      have hn' := gAct_nodup (room := room) (x := x) hn
      generalize gAct room l x = l at ho hl' hn'
      refine cl_rd (Reads.in (X := []) (Y := L) (len_rd n room l o ho)) ((l.length : Int), ()) rfl (ifN (show ¬ (l.length : Int) > room by omega) ?_)
      refine ⟨acts.length - (i + 1), by omega, i + 1, l, o, by omega, rfl, ?_, rfl, hl', hn', ho⟩
      rw [w64_id (by first | omega | (simp only; omega)) (by first | omega | (simp only; omega))]
      rfl
    · intro j hj
      obtain ⟨a, ha, l0, l1⟩ := at' o
      refine nilc_of ha (ixn_of h0 hlt (ld_of x.1 l0 ?_))
      refine ifB_of (fun ht => ?_) (fun ht => ?_)
      · refine nilc_of ha (ixn_of h0 hlt (ld_of x.2.1 l1 ?_))
        refine cl_in [] L (drop_cl n room l o ho x.2.1) rfl ?_
        rintro w A' - ⟨rfl, o', rfl, ho'⟩
        obtain ⟨a', ha', _, l1'⟩ := at' o'
        refine ⟨(decide (x.2.1 ∈ l), ()), rfl, nilc_of ha' (ixn_of h0 hlt (ld_of x.2.1 l1' ?_))⟩
        refine cl_rd (Reads.in (X := []) (Y := L) (has_cl n room _ o' ho' x.2.1)) (false, ()) (congrArg Value.bool (decide_eq_false hn.not_mem_erase)) (ifF rfl (hj _ _ ⟨o', rfl, ?_⟩))
        unfold gAct; rw [if_pos ht]; exact ho'
      · refine nilc_of ha (ixn_of h0 hlt (ld_of x.2.1 l1 ?_))
        refine cl_in [] L (add_cl n room l o ho hl (by omega) x.2.1) rfl ?_
        rintro w A' - ⟨rfl, o', rfl, ho'⟩
        refine ⟨(), rfl, hj _ _ ⟨o', rfl, ?_⟩⟩
        unfold gAct; rw [if_neg (by rw [ht]; decide)]; exact ho'
  · refine cl_in [] L (add_cl n room l o ho hl (by omega) h) rfl ?_
    rintro w A' - ⟨rfl, o', rfl, ho'⟩
    have hs := stays_add (l := l) (x := h) (show 1 ≤ room by omega)
    have hl' := gAdd_len (x := h) hl
    have hn' := gAdd_nodup (room := room) (x := h) hn
    refine ⟨(), rfl, ?_⟩
    generalize gAdd room l h = l at ho' hs hl' hn'
    refine cl_rd (Reads.in (X := []) (Y := L) (has_cl n room l o' ho' h)) (true, ()) (congrArg Value.bool (decide_eq_true hs.mem)) (ifF rfl ?_)
    refine lp_of (fun k z L' => ∃ i l o, i ≤ more.length ∧ k = more.length - i ∧ z = ((i : Int), ()) ∧ L' = [(n, o)] ++ L ∧ (l.length : Int) ≤ room ∧ l.Nodup ∧ GOb room l o ∧ Stays l h i) more.length
      ⟨0, l, o', by omega, by omega, rfl, rfl, hl', hn', ho', hs⟩ ?_
    clear hs ho' hl' hn'
    rintro k z L' ⟨i, l, o, hi, rfl, rfl, rfl, hl, hn, ho, hs⟩
    refine ifD_of (fun (hlt : (i : Int) < u.len) => ?_) (fun (hge : ¬ (i : Int) < u.len) => ?_)
    · have hi' : i < more.length := by omega
      simp only [w64_id (n := room - 1) (by omega) (by omega)]
      refine ifD_of (fun (hlt2 : (i : Int) < room - 1) => ?_) (fun (hge : ¬ (i : Int) < room - 1) => ?_)
      · have hu' : ISl ([(n, o)] ++ L) u .u64 more := hu.cons
        obtain ⟨a, ha⟩ := hu'.some hi'
        refine nilc_of ha (ixn_of (show (0 : Int) ≤ i by omega) hlt (ld_of more[i] (hu'.rd hi' ha _ (by simp)) ?_))
        refine cl_in [] L (add_cl n room l o ho hl (by omega) more[i]) rfl ?_
        rintro w A' - ⟨rfl, o', rfl, ho'⟩
        refine ⟨(), rfl, more.length - (i + 1), by omega, i + 1, _, o', by omega, rfl, ?_, rfl, gAdd_len hl, gAdd_nodup hn, ho', stays_more hs (by omega)⟩
        rw [w64_id (by first | omega | (simp only; omega)) (by first | omega | (simp only; omega))]
        rfl
      · exact stays_end L n room l o ho hl hn h hs.mem fin
    · exact stays_end L n room l o ho hl hn h hs.mem fin

theorem row_GhostDoes (W : World) (a0 : Int) (w0 : intWf .i64 a0) (a1 : SlV) (l1 : List Act28) (w1 : SlOk W act28Enc (fun x => True ∧ intWf .u64 x.2.1 ∧ True) 2 (a1, l1)) (a2 : Int) (w2 : intWf .u64 a2) :
    Reads PP 13 #[.int .i64 a0, .slice a1.a a1.len a1.cap, .int .u64 a2] (allB W) (.bool true) :=
  law_GhostDoes _ a0 a1 l1 w1.sl a2
theorem row_GhostStays (W : World) (a0 : Int) (w0 : intWf .i64 a0) (a1 : SlV) (l1 : List Act28) (w1 : SlOk W act28Enc (fun x => True ∧ intWf .u64 x.2.1 ∧ True) 2 (a1, l1)) (a2 : Int) (w2 : intWf .u64 a2)
    (a3 : SlV) (l3 : List Int) (w3 : SlOk W (fun n => [.int .u64 n]) (intWf .u64) 1 (a3, l3)) :
    Reads PP 14 #[.int .i64 a0, .slice a1.a a1.len a1.cap, .int .u64 a2, .slice a3.a a3.len a3.cap] (allB W) (.bool true) :=
  law_GhostStays _ a0 a1 l1 w1.sl a2 a3 l3 w3.ints
end Go.Proofs.Ytnhpojbjkfgeoaa
