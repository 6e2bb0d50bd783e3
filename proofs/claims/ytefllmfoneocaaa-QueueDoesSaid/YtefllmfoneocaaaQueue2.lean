/-
  It is proved what unlinking an entry of a queue does. There are no further conditions than those that each theorem names.
-/
import Derived.Test.YtefllmfoneocaaaQueue
set_option linter.unusedVariables false
set_option linter.unusedSimpArgs false
namespace Go.Proofs.Ytefllmfoneocaaa
open Go.HL

section
variable {L : HList} {e : QE} {p n : Option Nat}
theorem node_key (h : (e.id, nodeO e p n) ∈ L) : LdAt ⟨e.id, 0, none⟩ [.string e.key] L := ldB (by unfold nodeO at h; exact h) rfl
theorem node_val (h : (e.id, nodeO e p n) ∈ L) : LdAt ⟨e.id, 1, none⟩ [.slice e.v.a e.v.len e.v.cap] L := ldB (by unfold nodeO at h; exact h) rfl
theorem node_freq (h : (e.id, nodeO e p n) ∈ L) : LdAt ⟨e.id, 2, none⟩ [.int .i64 e.freq] L := ldB (by unfold nodeO at h; exact h) rfl
theorem node_prev (h : (e.id, nodeO e p n) ∈ L) : LdAt ⟨e.id, 3, none⟩ [.pointer (pt p)] L := ldB (by unfold nodeO at h; exact h) rfl
theorem node_next (h : (e.id, nodeO e p n) ∈ L) : LdAt ⟨e.id, 4, none⟩ [.pointer (pt n)] L := ldB (by unfold nodeO at h; exact h) rfl
theorem node_young (h : (e.id, nodeO e p n) ∈ L) : LdAt ⟨e.id, 0, none⟩ [.string e.key, .slice e.v.a e.v.len e.v.cap, .int .i64 e.freq] L := ldB (by unfold nodeO at h; exact h) rfl
end
def qG (room bytes : Int) (o y : Option Nat) (mk : Nat) : Obj := .cells #[.int .i64 room, .int .i64 bytes, .pointer (pt o), .pointer (pt y), .map (some mk)] 132
section
variable {L : HList} {m mk : Nat} {room bytes : Int} {o y : Option Nat}
theorem q_room (h : (m, qG room bytes o y mk) ∈ L) : LdAt ⟨m, 0, none⟩ [.int .i64 room] L := ldB (by unfold qG at h; exact h) rfl
theorem q_bytes (h : (m, qG room bytes o y mk) ∈ L) : LdAt ⟨m, 1, none⟩ [.int .i64 bytes] L := ldB (by unfold qG at h; exact h) rfl
theorem q_old (h : (m, qG room bytes o y mk) ∈ L) : LdAt ⟨m, 2, none⟩ [.pointer (pt o)] L := ldB (by unfold qG at h; exact h) rfl
theorem q_yng (h : (m, qG room bytes o y mk) ∈ L) : LdAt ⟨m, 3, none⟩ [.pointer (pt y)] L := ldB (by unfold qG at h; exact h) rfl
theorem q_map (h : (m, qG room bytes o y mk) ∈ L) : LdAt ⟨m, 4, none⟩ [.map (some mk)] L := ldB (by unfold qG at h; exact h) rfl
end
theorem mdel_qmap {p s : List QE} {e : QE} (h : ((p ++ e :: s).map QE.key).Nodup) : mdel (qmap (p ++ e :: s)) e.key = qmap (p ++ s) := by
  induction p with
  | nil =>
    show (if e.key = e.key then _ else _) = _
    rw [if_pos rfl]; rfl
  | cons a r ih =>
    rw [List.cons_append, List.map_cons, List.nodup_cons] at h
    have hne : e.key ≠ a.key := fun he => h.1 (by rw [← he]; simp)
    show (if e.key = a.key then _ else _) = _
    rw [if_neg hne]
    have := ih h.2
    show (a.key, Value.pointer (pt (some a.id))) :: mdel (qmap (r ++ e :: s)) e.key = _
    rw [this]; rfl
theorem snoc_cases (p : List QE) : p = [] ∨ ∃ p0 a, p = p0 ++ [a] := by
  rcases List.eq_nil_or_concat p with h | ⟨p0, a, h⟩
  · exact .inl h
  · exact .inr ⟨p0, a, by simpa using h⟩
theorem nodes_snoc (p0 : List QE) (a : QE) (q n : Option Nat) : nodes q (p0 ++ [a]) n = nodes q p0 (some a.id) ++ [(a.id, nodeO a (lastId q p0) n)] := by
  rw [nodes_append]; rfl
theorem lastId_snoc (p0 : List QE) (a : QE) (q : Option Nat) : lastId q (p0 ++ [a]) = some a.id := by rw [lastId_append]; rfl

theorem unlink_cl (m : Nat) (room : Int) (p s : List QE) (e : QE) (mk : Nat) (mes : Array MapEntry) (clock : Nat) (hm : Mp Value.string mes (qmap (p ++ e :: s))) (ok : QOk (p ++ e :: s)) :
    CallF PP 83 #[.pointer (some ⟨m, 0, none⟩), .pointer (some ⟨e.id, 0, none⟩)] (QL m room (p ++ e :: s) mk mes clock)
      fun v L' => v = .tuple #[] ∧ ∃ mes' clock', L' = QL m room (p ++ s) mk mes' clock' ++ ((e.id, nodeO e (lastId none p) (headId s none)) :: e.seg) ∧ Mp Value.string mes' (qmap (p ++ s)) := by
  refine CallF.of (args := [.pointer (some ⟨m, 0, none⟩), .pointer (some ⟨e.id, 0, none⟩)]) noNum mixed Try.func83 (e83 (some ⟨m, 0, none⟩) (some ⟨e.id, 0, none⟩) _) ?_
  unfold t83
  have hsum := ok.sum
  have hmem : e ∈ p ++ e :: s := by simp
  have hve := (ok.own e hmem).sl.len
  rw [bvs_length, Nat.mul_one] at hve
  have hsm := ok.small e hmem
  have hqs : qsum (p ++ e :: s) = qsum (p ++ s) + (e.key.size + e.val.length) := by
    rw [qsum_append, qsum_append]
    simp only [qsum, List.map_cons, List.sum_cons]; omega
  refine jn_of (fun y L1 => L1 = (m, qG room (qsum (p ++ e :: s)) (headId (p ++ s) none) (lastId none (p ++ e :: s)) mk) :: (mk, Obj.map mes clock) :: ((nodes none p (headId s none) ++ (e.id, nodeO e (lastId none p) (headId s none)) :: nodes (some e.id) s none) ++ segs (p ++ e :: s))) ?_ ?_
  · rintro y L1 rfl
    refine jn_of (fun y L2 => L2 = (m, qG room (qsum (p ++ e :: s)) (headId (p ++ s) none) (lastId none (p ++ s)) mk) :: (mk, Obj.map mes clock) :: ((nodes none p (headId s none) ++ (e.id, nodeO e (lastId none p) (headId s none)) :: nodes (lastId none p) s none) ++ segs (p ++ e :: s))) ?_ ?_
    · rintro y L2 rfl
      refine nilc_of rfl (ld_of ((qsum (p ++ e :: s) : Nat) : Int) (q_bytes List.mem_cons_self) ?_)
      refine cl_rd (size_rd _ e (lastId none p) (headId s none) (by simp) hve hsm) (((e.key.size + e.val.length : Nat) : Int), ()) rfl (keep_of (q_bytes List.mem_cons_self) ?_)
      have hw : IntKind.i64.wrap (((qsum (p ++ e :: s) : Nat) : Int) - ((e.key.size + e.val.length : Nat) : Int)) = ((qsum (p ++ s) : Nat) : Int) := by rw [w64_id (by omega) (by omega)]; omega
      simp only [hw]
      refine nilc_of rfl (st_of [] _ rfl rfl (by simp) (.inl (Nat.le_refl _)) #[.int .i64 room, .int .i64 ((qsum (p ++ s) : Nat) : Int), .pointer (pt (headId (p ++ s) none)), .pointer (pt (lastId none (p ++ s))), .map (some mk)] rfl ?_)
      refine nilc_of rfl (nilc_of rfl (ld_of (some mk) (ldB (n := m) (c := #[.int .i64 room, .int .i64 ((qsum (p ++ s) : Nat) : Int), .pointer (pt (headId (p ++ s) none)), .pointer (pt (lastId none (p ++ s))), .map (some mk)]) (T := 132) (fz := (0, 0)) List.mem_cons_self rfl) (ld_of e.key (node_key (p := lastId none p) (n := headId s none) (by simp)) ?_)))
      refine delete_of mapQ [(m, _)] _ rfl hm e.key fun mes' clock' hm' => ?_
      rw [mdel_qmap ok.nd] at hm'
      refine .drop (A := QL m room (p ++ s) mk mes' clock' ++ ((e.id, nodeO e (lastId none p) (headId s none)) :: e.seg)) (J := []) ⟨rfl, mes', clock', rfl, hm'⟩ ?_
      rw [List.append_nil]
      unfold QL
      refine List.Perm.cons _ (List.Perm.cons _ ?_)
      rw [nodes_append]
      unfold segs
      classical
      rw [List.perm_iff_count]
      intro x
      simp only [List.append_eq, List.flatMap_append, List.flatMap_cons, List.count_append, List.count_cons]
      omega
    · intro j2 hj2
      refine nilc_of rfl (ld_of (pt (headId s none)) (node_next (p := lastId none p) (by simp)) ?_)
      cases s with
      | nil =>
        refine ifF rfl (nilc_of rfl (ld_of (pt (lastId none p)) (node_prev (n := headId [] none) (by simp)) (nilc_of rfl (st_of [] _ rfl rfl (by simp) (.inl (Nat.le_refl _)) #[.int .i64 room, .int .i64 (qsum (p ++ [e])), .pointer (pt (headId (p ++ []) none)), .pointer (pt (lastId none p)), .map (some mk)] rfl (hj2 _ _ ?_)))))
        rw [List.append_nil]
        rfl
      | cons b s0 =>
        refine ifT rfl (nilc_of rfl (nilc_of rfl (ld_of (pt (some b.id)) (node_next (p := lastId none p) (by simp [headId])) (ld_of (pt (lastId none p)) (node_prev (n := headId (b :: s0) none) (by simp)) (nilc_of rfl ?_)))))
        refine st_of (n := b.id) (off := 3) (c := #[.string b.key, .slice b.v.a b.v.len b.v.cap, .int .i64 b.freq, .pointer (pt (some e.id)), .pointer (pt (headId s0 none))]) (T := 134) (fz := (0, 0))
          ((m, qG room (qsum (p ++ e :: b :: s0)) (headId (p ++ b :: s0) none) (lastId none (p ++ e :: b :: s0)) mk) :: (mk, Obj.map mes clock) :: (nodes none p (headId (b :: s0) none) ++ [(e.id, nodeO e (lastId none p) (headId (b :: s0) none))]))
          (nodes (some b.id) s0 none ++ segs (p ++ e :: b :: s0)) rfl (by simp [nodes, nodeO]) (by simp) (.inl (Nat.le_refl _)) #[.string b.key, .slice b.v.a b.v.len b.v.cap, .int .i64 b.freq, .pointer (pt (lastId none p)), .pointer (pt (headId s0 none))] rfl (hj2 _ _ ?_)
        have hl : lastId none (p ++ e :: b :: s0) = lastId none (p ++ b :: s0) := by rw [lastId_append, lastId_append]; rfl
        rw [hl]
        simp [nodes, nodeO]
  · intro j1 hj1
    have hQL : QL m room (p ++ e :: s) mk mes clock = (m, qG room (qsum (p ++ e :: s)) (headId (p ++ e :: s) none) (lastId none (p ++ e :: s)) mk) :: (mk, Obj.map mes clock) :: ((nodes none p (some e.id) ++ (e.id, nodeO e (lastId none p) (headId s none)) :: nodes (some e.id) s none) ++ segs (p ++ e :: s)) := by
      unfold QL
      rw [nodes_append]
      rfl
    rw [hQL]
    refine nilc_of rfl (ld_of (pt (lastId none p)) (node_prev (n := headId s none) (by simp)) ?_)
    rcases snoc_cases p with rfl | ⟨p0, a, rfl⟩
    · refine ifF rfl (nilc_of rfl (ld_of (pt (headId s none)) (node_next (p := none) (by simp [lastId])) (nilc_of rfl (st_of [] _ rfl rfl (by simp) (.inl (Nat.le_refl _)) #[.int .i64 room, .int .i64 (qsum ([] ++ e :: s)), .pointer (pt (headId s none)), .pointer (pt (lastId none ([] ++ e :: s))), .map (some mk)] rfl (hj1 _ _ ?_)))))
      rfl
    · rw [lastId_snoc]
      refine ifT rfl (nilc_of rfl (nilc_of rfl (ld_of (pt (some a.id)) (node_prev (n := headId s none) (by simp)) (ld_of (pt (headId s none)) (node_next (p := some a.id) (by simp)) (nilc_of rfl ?_)))))
      refine st_of (n := a.id) (off := 4) (c := #[.string a.key, .slice a.v.a a.v.len a.v.cap, .int .i64 a.freq, .pointer (pt (lastId none p0)), .pointer (pt (some e.id))]) (T := 134) (fz := (0, 0))
        ((m, qG room (qsum (p0 ++ [a] ++ e :: s)) (headId (p0 ++ [a] ++ e :: s) none) (lastId none (p0 ++ [a] ++ e :: s)) mk) :: (mk, Obj.map mes clock) :: nodes none p0 (some a.id))
        ((e.id, nodeO e (some a.id) (headId s none)) :: nodes (some e.id) s none ++ segs (p0 ++ [a] ++ e :: s)) rfl (by simp [nodes_snoc, nodeO]) (by simp) (.inl (Nat.le_refl _)) #[.string a.key, .slice a.v.a a.v.len a.v.cap, .int .i64 a.freq, .pointer (pt (lastId none p0)), .pointer (pt (headId s none))] rfl (hj1 _ _ ?_)
      have hh : headId (p0 ++ [a] ++ e :: s) none = headId (p0 ++ [a] ++ s) none := by
        rw [headId_append, headId_append]
        cases p0 <;> rfl
      rw [hh, nodes_snoc, lastId_snoc]
      simp [nodeO]
end Go.Proofs.Ytefllmfoneocaaa
