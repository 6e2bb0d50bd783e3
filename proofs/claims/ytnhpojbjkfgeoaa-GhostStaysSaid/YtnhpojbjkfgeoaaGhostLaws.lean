/-
  It is proved that the laws about the layer ghost return true for every input. There are no further conditions than those that each theorem names.
-/
import Derived.Test.YtnhpojbjkfgeoaaGhost3
set_option linter.unusedVariables false
set_option linter.unusedSimpArgs false
namespace Go.Proofs.Ytnhpojbjkfgeoaa
open Go.HL

theorem ghosts_rd (L : HList) : Reads PP 43 #[] L (.bool true) := by
  refine Reads.of (args := []) noNum mixed Try.func43 (e43 _) ?_
  unfold t43
  refine cl_in [] L (gnew_cl 2) rfl ?_
  rintro w A' - ⟨n, o, rfl, rfl, ho⟩
  refine ⟨(some ⟨n, 0, none⟩, ()), rfl, nw_of fun q _ => ?_⟩
  have e0 : imin (imax 2 0) 64 = 2 := by decide
  rw [e0] at ho
  refine lp_of (fun k z L' => ∃ i o, i ≤ 4 ∧ k = 4 - i ∧ z = ((i : Int), ()) ∧ L' = [(q, Obj.cells #[.int .u64 1, .int .u64 2, .int .u64 1, .int .u64 3] eU)] ++ [(n, o)] ++ L ∧ GOb 2 (([1, 2, 1, 3].take i).foldl (gAdd 2) []) o) 4
    ⟨0, o, by omega, by omega, rfl, rfl, ho⟩ ?_
  clear ho
  rintro k z L' ⟨i, o, hi, rfl, rfl, rfl, ho⟩
  refine ifD_of (fun (hlt : (i : Int) < 4) => ?_) (fun (hge : ¬ (i : Int) < 4) => ?_)
  · have h4 : ∀ i : Fin 4, (((([1, 2, 1, 3] : List Int).take i.val).foldl (gAdd 2) []).length : Int) ≤ 2 := by decide
    have hx : ∃ x, ([1, 2, 1, 3] : List Int)[i]? = some x ∧ (#[.int .u64 1, .int .u64 2, .int .u64 1, .int .u64 3] : Array Value)[i]? = some (.int .u64 x) := by
      rcases (show i = 0 ∨ i = 1 ∨ i = 2 ∨ i = 3 by omega) with rfl | rfl | rfl | rfl <;> exact ⟨_, rfl, rfl⟩
    obtain ⟨x, hx1, hx2⟩ := hx
    refine ixn_of (by omega) hlt (ld_of x ?_ ?_)
    · rw [addr_add (ad := ⟨q, 0, none⟩) rfl]
      rw [Nat.zero_add, Int.toNat_natCast, Nat.mul_one]
      exact ldC (c := #[.int .u64 1, .int .u64 2, .int .u64 1, .int .u64 3]) (T := eU) (fz := (0, 0)) (by simp) hx2
    refine cl_in [_] L (add_cl n 2 _ o ho (h4 ⟨i, by omega⟩) (by decide) x) rfl ?_
    rintro w A' - ⟨rfl, o', rfl, ho'⟩
    refine ⟨(), rfl, 4 - (i + 1), by omega, i + 1, o', by omega, rfl, ?_, rfl, ?_⟩
    · rw [w64_id (by first | omega | (simp only; omega)) (by first | omega | (simp only; omega))]
      rfl
    · rw [List.take_add_one, hx1, List.foldl_append]
      exact ho'
  · obtain rfl : i = 4 := by omega
    have e1 : ([1, 2, 1, 3].take 4).foldl (gAdd 2) [] = [1, 3] := by decide
    rw [e1] at ho
    refine cl_rd (Reads.in (X := [_]) (Y := L) (len_rd n 2 _ o ho)) ((2 : Int), ()) rfl ?_
    refine cl_rd (Reads.in (X := [_]) (Y := L) (has_cl n 2 _ o ho 1)) (true, ()) rfl ?_
    refine cl_rd (Reads.in (X := [_]) (Y := L) (has_cl n 2 _ o ho 2)) (false, ()) rfl ?_
    refine cl_rd (Reads.in (X := [_]) (Y := L) (has_cl n 2 _ o ho 3)) (true, ()) rfl ?_
    refine cl_in [_] L (drop_cl n 2 _ o ho 1) rfl ?_
    rintro w A' - ⟨rfl, o', rfl, ho'⟩
    have e2 : ([1, 3] : List Int).erase 1 = [3] := by decide
    rw [e2] at ho'
    refine ⟨(true, ()), rfl, cl_rd (add_nil _ 1) () rfl (ifT rfl (ifT rfl (ifT rfl (ifT rfl (ifT rfl ?_)))))⟩
    refine cl_in [_] L (drop_cl n 2 _ o' ho' 1) rfl ?_
    rintro w A' - ⟨rfl, o2, rfl, ho2⟩
    have e3 : ([3] : List Int).erase 1 = [3] := by decide
    rw [e3] at ho2
    refine ⟨(false, ()), rfl, ifT rfl (cl_rd (Reads.in (X := [_]) (Y := L) (len_rd n 2 _ o2 ho2)) ((1 : Int), ()) rfl (ifT rfl ?_))⟩
    refine cl_rd (has_nil _ 1) (false, ()) rfl (ifT rfl (cl_rd (drop_nil _ 1) (false, ()) rfl (ifT rfl (cl_rd (len_nil _) ((0 : Int), ()) rfl ?_))))
    exact .drop (A := L) (J := [_, _]) ⟨rfl, rfl⟩ (List.perm_append_comm (l₁ := [_, _]))

abbrev Act28 := Bool × Int × Unit
def act28Enc (x : Act28) : List Value := [.bool x.1, .int .u64 x.2.1]
theorem act28_len (x : Act28) : (act28Enc x).length = 2 := rfl
theorem act28_at {L : HList} {v : SlV} {l : List Act28} (h : Sl L v 2 (l.flatMap act28Enc)) {i : Nat} (hi : i < l.length) : ∃ a, v.a = some a ∧ LdAt (Addr.add a ((i : Int).toNat * 2)) [.bool l[i].1] L ∧ LdAt (Addr.add (Addr.add a ((i : Int).toNat * 2)) 1) [.int .u64 l[i].2.1] L := by
  obtain ⟨a, ha, hl⟩ := h.el act28_len (by decide) hi
  rw [Int.toNat_natCast]
  exact ⟨a, ha, hl.pre fun i u hu => by cases i with | zero => exact hu | succ i => simp at hu, hl.one 1 rfl⟩
def gAct (room : Int) (l : List Int) (x : Act28) : List Int := if x.1 then l.erase x.2.1 else gAdd room l x.2.1
theorem gAct_len {room : Int} {l : List Int} {x : Act28} (h : (l.length : Int) ≤ room) : ((gAct room l x).length : Int) ≤ room := by
  unfold gAct
  split
  · have := erase_len l x.2.1; omega
  · exact gAdd_len h

theorem law_GhostDoes (L : HList) (room : Int) (v : SlV) (acts : List Act28) (h : Sl L v 2 (acts.flatMap act28Enc)) (more : Int) :
    Reads PP 13 #[.int .i64 room, .slice v.a v.len v.cap, .int .u64 more] L (.bool true) := by
  refine Reads.of (args := [.int .i64 room, .slice v.a v.len v.cap, .int .u64 more]) noNum mixed Try.func13 (e13 room v more _) ?_
  unfold t13
  have hlen := h.els_len act28_len (by decide)
  refine ifD_of (fun (h1 : (v.len : Int) > 500) => cl_rd (ghosts_rd L) (true, ()) rfl (.of ⟨rfl, rfl⟩)) (fun (h1 : ¬ (v.len : Int) > 500) => ?_)
  refine cl_in [] L (gnew_cl room) rfl ?_
  rintro w A' - ⟨n, o, rfl, rfl, ho⟩
  refine ⟨(some ⟨n, 0, none⟩, ()), rfl, ?_⟩
  refine cl_in [] _ (rgnew_cl room) rfl ?_
  rintro w A - ⟨m, rfl, hA⟩
  refine ⟨(some ⟨m, 0, none⟩, ()), rfl, ?_⟩
  have hroom := room_rng room
  generalize imin (imax room 0) 64 = r at ho hA hroom
  refine lp_of (fun k z L' => ∃ i l o A, i ≤ acts.length ∧ k = acts.length - i ∧ z = ((i : Int), ()) ∧ L' = A ++ [(n, o)] ++ L ∧ (l.length : Int) ≤ r ∧ GOb r l o ∧ RG m r l A) acts.length
    ⟨0, [], o, A, by omega, by omega, rfl, by simp, by simp; omega, ho, hA⟩ ?_
  clear ho hA
  rintro k z L' ⟨i, l, o, A, hi, rfl, rfl, rfl, hl, ho, hA⟩
  have h' : Sl (A ++ [(n, o)] ++ L) v 2 (acts.flatMap act28Enc) := h.right
  refine ifD_of (fun (hlt : (i : Int) < v.len) => ?_) (fun (hge : ¬ (i : Int) < v.len) => ?_)
  · have hi' : i < acts.length := by omega
    have h0 : (0 : Int) ≤ (i : Int) := by omega
    obtain ⟨a, ha, l0, l1⟩ := act28_at h' hi'
    refine nilc_of ha (ixn_of h0 hlt (ld_of acts[i].2.1 l1 ?_))
    generalize acts[i] = x at l0 l1
    refine jn_of (fun y L' => ∃ o A, L' = A ++ [(n, o)] ++ L ∧ GOb r (gAct r l x) o ∧ RG m r (gAct r l x) A) ?_ ?_
    · rintro y L' ⟨o, A, rfl, ho, hA⟩
      have hl' := gAct_len (x := x) hl
      generalize gAct r l x = l at ho hA hl'
      obtain ⟨s, seg, rfl, own⟩ := id hA
      have hslen := own.sl.len
      rw [ivs_length, Nat.mul_one] at hslen
      have hm : LdAt ⟨m, 1, none⟩ [.slice s.a s.len s.cap] ((m, Obj.cells #[.int .i64 r, .slice s.a s.len s.cap] 68) :: seg ++ [(n, o)] ++ L) := ldB (c := #[.int .i64 r, .slice s.a s.len s.cap]) (T := 68) (fz := (0, 0)) (by simp) rfl
      have rg : ∀ x, Reads PP 52 #[.pointer (some ⟨m, 0, none⟩), .int .u64 x] ((m, Obj.cells #[.int .i64 r, .slice s.a s.len s.cap] 68) :: seg ++ [(n, o)] ++ L) (.bool (decide (x ∈ l))) := fun x => by
        have := Reads.in (X := []) (Y := [(n, o)] ++ L) (rhas_rd m r l _ hA (by omega) x)
        simpa using this
      have gg : ∀ x, Reads PP 51 #[.pointer (some ⟨n, 0, none⟩), .int .u64 x] ((m, Obj.cells #[.int .i64 r, .slice s.a s.len s.cap] 68) :: seg ++ [(n, o)] ++ L) (.bool (decide (x ∈ l))) := fun x =>
        Reads.in (X := (m, Obj.cells #[.int .i64 r, .slice s.a s.len s.cap] 68) :: seg) (Y := L) (has_cl n r l o ho x)
      refine nilc_of rfl (ld_of s hm (cl_rd (Reads.in (X := (m, Obj.cells #[.int .i64 r, .slice s.a s.len s.cap] 68) :: seg) (Y := L) (len_rd n r l o ho)) ((l.length : Int), ()) rfl (keep_of hm (ifF ?_ ?_))))
      · simp [hslen]
      refine cl_rd (gg x.2.1) (decide (x.2.1 ∈ l), ()) rfl (cl_rd (rg x.2.1) (decide (x.2.1 ∈ l), ()) rfl (ifF (by simp) ?_))
      refine cl_rd (gg more) (decide (more ∈ l), ()) rfl (cl_rd (rg more) (decide (more ∈ l), ()) rfl (ifF (by simp) ?_))
      refine ⟨acts.length - (i + 1), by omega, i + 1, l, o, _, by omega, rfl, ?_, rfl, hl', ho, hA⟩
      rw [w64_id (by first | omega | (simp only; omega)) (by first | omega | (simp only; omega))]
      rfl
    · intro j hj
      refine nilc_of ha (ixn_of h0 hlt (ld_of x.1 l0 ?_))
      refine ifB_of (fun ht => ?_) (fun ht => ?_)
      · refine cl_in A L (drop_cl n r l o ho x.2.1) rfl ?_
        rintro w A' - ⟨rfl, o', rfl, ho'⟩
        refine ⟨(decide (x.2.1 ∈ l), ()), rfl, ?_⟩
        refine cl_in [] ([(n, o')] ++ L) (rdrop_cl m r l A hA (by omega) x.2.1) (by simp) ?_
        rintro w A' - ⟨rfl, hA'⟩
        refine ⟨(decide (x.2.1 ∈ l), ()), rfl, ifF (by simp) (hj _ _ ⟨o', A', by simp, ?_, ?_⟩)⟩ <;> (unfold gAct; rw [if_pos ht]; assumption)
      · refine cl_in A L (add_cl n r l o ho hl hroom.2 x.2.1) rfl ?_
        rintro w A' - ⟨rfl, o', rfl, ho'⟩
        refine ⟨(), rfl, ?_⟩
        refine cl_in [] ([(n, o')] ++ L) (radd_cl m r l A hA (by omega) hroom.1 x.2.1) (by simp) ?_
        rintro w A' - ⟨rfl, hA'⟩
        refine ⟨(), rfl, hj _ _ ⟨o', A', by simp, ?_, ?_⟩⟩ <;> (unfold gAct; rw [if_neg (by rw [ht]; decide)]; assumption)
  · exact cl_rd (ghosts_rd _) (true, ()) rfl (.drop (A := L) (J := A ++ [(n, o)]) ⟨rfl, rfl⟩ List.perm_append_comm)
end Go.Proofs.Ytnhpojbjkfgeoaa
