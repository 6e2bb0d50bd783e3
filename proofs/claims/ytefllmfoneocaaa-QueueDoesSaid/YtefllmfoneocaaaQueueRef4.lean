/-
  It is proved what the document's answer for the layer queue does: Pop, Bytes, Over. There are no further conditions than those that each theorem names.
-/
import Derived.Test.YtefllmfoneocaaaQueueRef3
set_option linter.unusedVariables false
set_option linter.unusedSimpArgs false
namespace Go.Proofs.Ytefllmfoneocaaa
open Go.HL

theorem RQ.ok {m : Nat} {room : Int} {l : List QE} {A : HList} (h : RQ m room l A) : QOk l := by obtain ⟨_, _, _, _, ok⟩ := h; exact ok
theorem QH.ok {m : Nat} {room : Int} {l : List QE} {A : HList} (h : QH m room l A) : QOk l := by obtain ⟨_, _, _, _, _, ok⟩ := h; exact ok
theorem rqpop_nil (m : Nat) (room : Int) (A : HList) (h : RQ m room [] A) : Reads PP 88 #[.pointer (some ⟨m, 0, none⟩)] A (.tuple #[.agg #[.string ByteArray.empty, .slice none 0 0, .int .i64 0], .bool false]) := by
  obtain ⟨s, seg, rfl, own, ok⟩ := h
  refine Reads.of (args := [.pointer (some ⟨m, 0, none⟩)]) noNum mixed Try.func88 (e88 (some ⟨m, 0, none⟩) _) ?_
  unfold t88
  have hlen : s.len = 0 := own.sl.els_len yEnc_len (by decide)
  refine nw_of fun n1 _ => nilc_of rfl (ld_of s (r_l (room := room) (by simp)) ?_)
  refine ifE_of (fun _ => ?_) (fun h => absurd (show (s.len : Int) = 0 by omega) h)
  refine st_of [] _ rfl rfl (by simp) (.inl (Nat.le_refl _)) #[.string ByteArray.empty, .slice none 0 0, .int .i64 0] rfl ?_
  exact ld_of (ByteArray.empty, ⟨none, 0, 0⟩, 0, ()) (ldB (List.mem_cons_self) rfl) (.cons (.of ⟨rfl, rfl⟩))
theorem rqpop_cl (m : Nat) (room : Int) (e : QE) (t : List QE) (A : HList) (h : RQ m room (e :: t) A) :
    CallF PP 88 #[.pointer (some ⟨m, 0, none⟩)] A fun r L' => r = .tuple #[.agg #[.string e.key, .slice e.v.a e.v.len e.v.cap, .int .i64 e.freq], .bool true] ∧ ∃ A', L' = A' ++ e.seg ∧ RQ m room t A' := by
  obtain ⟨s, seg, rfl, own, ok⟩ := h
  refine CallF.of (args := [.pointer (some ⟨m, 0, none⟩)]) noNum mixed Try.func88 (e88 (some ⟨m, 0, none⟩) _) ?_
  unfold t88
  have hlen := own.sl.els_len yEnc_len (by decide)
  rw [List.length_cons] at hlen
  have hcap := own.cap
  have hsl : Sl (rO m room s :: (seg ++ segs (e :: t))) s 3 ((e :: t).flatMap yEnc) := own.sl.left.cons
  obtain ⟨a, ha, hy, _, _, _⟩ := y_at hsl (p := []) (t := t) (e := e) rfl
  refine nw_of fun n1 _ => nilc_of rfl (ld_of s (r_l (room := room) (by simp)) (ifF (by simp; omega) (nilc_of rfl (ld_of s (r_l (room := room) (by simp)) (nilc_of ha (ixn_of (by decide) (by omega) ?_))))))
  refine ld_of (e.key, e.v, e.freq, ()) (hy.mono fun _ hx => List.mem_cons_of_mem _ hx) (nw_of fun n2 _ => st_of [] _ rfl rfl (by simp) (.inl (Nat.le_refl _)) #[.string e.key, .slice e.v.a e.v.len e.v.cap, .int .i64 e.freq] rfl ?_)
  refine nilc_of rfl (ld_of s (r_l (room := room) (by simp)) (slc_of (l' := 1) (h' := s.len) (m' := s.cap) rfl rfl rfl (by omega) hcap (Nat.le_refl _) (nilc_of rfl ?_)))
  have own' := own.slc (l := 1) (h := s.len) (by omega) (Nat.le_refl _)
  rw [flat_slc yEnc_len] at own'
  rw [show ((e :: t).drop 1).take (s.len - 1) = t from by rw [List.drop_succ_cons, List.drop_zero]; exact List.take_of_length_le (by omega)] at own'
  have ok' : QOk t := ok.sub (p := [])
  generalize slcV s 1 s.len s.cap 3 = s' at own' ⊢
  refine st_of (n := m) (off := 1) (c := #[.int .i64 room, .slice s.a s.len s.cap]) (T := 65) (fz := (0, 0)) [(n2, Obj.cells #[.string e.key, .slice e.v.a e.v.len e.v.cap, .int .i64 e.freq] eYg), (n1, Obj.cells #[.string ByteArray.empty, .slice none 0 0, .int .i64 0] eYg)] (seg ++ segs (e :: t)) rfl (by simp [rO]) (by simp) (.inl (Nat.le_refl _)) #[.int .i64 room, .slice s'.a s'.len s'.cap] rfl ?_
  refine ld_of (e.key, e.v, e.freq, ()) (ldB List.mem_cons_self rfl) ?_
  refine st_of [(n2, Obj.cells #[.string e.key, .slice e.v.a e.v.len e.v.cap, .int .i64 e.freq] eYg)] _ rfl rfl (by simp) (.inl (Nat.le_refl _)) #[.string e.key, .slice e.v.a e.v.len e.v.cap, .int .i64 e.freq] rfl ?_
  refine ld_of (e.key, e.v, e.freq, ()) (ldB (n := n1) (off := 0) (c := #[.string e.key, .slice e.v.a e.v.len e.v.cap, .int .i64 e.freq]) (T := eYg) (fz := (0, 0)) (by simp) rfl) ?_
  refine .drop (A := (rO m room s' :: (seg ++ segs t)) ++ e.seg) (J := [(n2, Obj.cells #[.string e.key, .slice e.v.a e.v.len e.v.cap, .int .i64 e.freq] eYg), (n1, Obj.cells #[.string e.key, .slice e.v.a e.v.len e.v.cap, .int .i64 e.freq] eYg)]) ⟨rfl, _, rfl, s', seg, rfl, own', ok'⟩ ?_
  rw [segs_cons]
  unfold rO
  classical
  rw [List.perm_iff_count]
  intro x
  simp only [List.append_eq, List.nil_append, List.cons_append, List.count_append, List.count_cons, List.count_nil]
  omega
theorem qsum_snoc (l : List QE) (i : Nat) (hi : i < l.length) : qsum (l.take (i + 1)) = qsum (l.take i) + (l[i].key.size + l[i].val.length) := by
  rw [List.take_succ_eq_append_getElem hi, qsum_append]; simp [qsum]
theorem qsum_take (l : List QE) (i : Nat) : qsum (l.take i) ≤ qsum l := by
  conv => rhs; rw [← List.take_append_drop i l, qsum_append]
  omega
theorem rqbytes_rd (m : Nat) (room : Int) (l : List QE) (A : HList) (h : RQ m room l A) : Reads PP 40 #[.pointer (some ⟨m, 0, none⟩)] A (.int .i64 (qsum l)) := by
  obtain ⟨s, seg, rfl, own, ok⟩ := h
  refine Reads.of (args := [.pointer (some ⟨m, 0, none⟩)]) noNum mixed Try.func40 (e40 (some ⟨m, 0, none⟩) _) ?_
  unfold t40
  have hsl : Sl (rO m room s :: (seg ++ segs l)) s 3 (l.flatMap yEnc) := own.sl.left.cons
  have hlen := hsl.els_len yEnc_len (by decide)
  have hfew := ok.few
  have hsum := ok.sum
  refine lp_of (fun z' z L' => L' = rO m room s :: (seg ++ segs l) ∧ ∃ i : Nat, i ≤ l.length ∧ z' = l.length - i ∧ z = (((qsum (l.take i) : Nat) : Int), (i : Int), ())) l.length ⟨rfl, 0, by omega, by omega, rfl⟩ ?_
  rintro z' z L ⟨rfl, i, hi, rfl, rfl⟩
  refine nilc_of rfl (ld_of s (r_l (room := room) List.mem_cons_self) ?_)
  refine ifD_of (fun (hlt : (i : Int) < s.len) => ?_) (fun (hge : ¬ (i : Int) < s.len) => ?_)
  · have hi' : i < l.length := by omega
    have hx : l = l.take i ++ l[i] :: l.drop (i + 1) := by rw [← List.drop_eq_getElem_cons hi', List.take_append_drop]
    obtain ⟨a, ha, _, hk, hv, _⟩ := y_at hsl hx
    rw [show (l.take i).length = i by rw [List.length_take]; omega] at hk hv
    have hvl : l[i].v.len = l[i].val.length := by have h1 := (ok.own l[i] (List.getElem_mem hi')).sl.len; rw [bvs_length] at h1; omega
    have hi0 : (0 : Int) ≤ (i : Int) := by omega
    refine nilc_of rfl (nilc_of rfl (ld_of s (r_l (room := room) List.mem_cons_self) (nilc_of ha (ixn_of hi0 hlt (ld_of l[i].key hk (ld_of s (r_l (room := room) List.mem_cons_self) (nilc_of ha (ixn_of hi0 hlt (ld_of l[i].v hv ?_)))))))))
    refine ⟨l.length - (i + 1), by omega, rfl, i + 1, by omega, rfl, ?_⟩
    have h1 := qsum_take l (i + 1)
    have h2 := qsum_snoc l i hi'
    show (IntKind.i64.wrap (IntKind.i64.wrap ((qsum (l.take i) : Nat) + (l[i].key.size : Int)) + (l[i].v.len : Int)), IntKind.i64.wrap ((i : Int) + 1), ()) = _
    rw [w64_id (n := ((qsum (l.take i) : Nat) : Int) + (l[i].key.size : Int)) (by omega) (by omega), w64_id (n := ((qsum (l.take i) : Nat) : Int) + (l[i].key.size : Int) + (l[i].v.len : Int)) (by omega) (by omega), w64_id (n := (i : Int) + 1) (by omega) (by omega), h2, hvl]
    simp only [Int.natCast_add, Int.add_assoc]
    rfl
  · obtain rfl : i = l.length := by omega
    rw [List.take_length]
    exact .of ⟨rfl, rfl⟩
theorem rqover_rd (m : Nat) (room : Int) (l : List QE) (A : HList) (h : RQ m room l A) : Reads PP 41 #[.pointer (some ⟨m, 0, none⟩)] A (.bool (decide ((qsum l : Int) > room))) := by
  have hb := rqbytes_rd m room l A h
  obtain ⟨s, seg, rfl, own, ok⟩ := h
  refine Reads.of (args := [.pointer (some ⟨m, 0, none⟩)]) noNum mixed Try.func41 (e41 (some ⟨m, 0, none⟩) _) ?_
  unfold t41
  refine nilc_of rfl (ld_of room (r_room (s := s) List.mem_cons_self) (cl_rd hb ((qsum l : Int), ()) rfl (keep_of (r_room (s := s) List.mem_cons_self) (.of ⟨rfl, rfl⟩))))
/-- What a queue tells of an entry. -/
abbrev QD := ByteArray × List UInt8 × Int
def qd (e : QE) : QD := (e.key, e.val, e.freq)
/-- Two queues that tell the same. -/
def Tw (l l' : List QE) : Prop := l.map qd = l'.map qd
theorem qd_find (l : List QE) (k : ByteArray) : (qfind l k).map qd = (l.map qd).find? fun d => decide (k = d.1) := by
  unfold qfind; rw [List.find?_map]; rfl
theorem qd_drop (l : List QE) (k : ByteArray) : (qdrop l k).map qd = (l.map qd).eraseP fun d => decide (k = d.1) := by
  unfold qdrop; rw [List.eraseP_map]; rfl
theorem qd_bump (l : List QE) (k : ByteArray) : (qbump l k).map qd = (l.map qd).map fun d => if d.1 = k then (d.1, d.2.1, imin (d.2.2 + 1) 3) else d := by
  unfold qbump
  rw [List.map_map, List.map_map]
  apply List.map_congr_left
  intro e _
  simp only [Function.comp]
  by_cases h : e.key = k
  · rw [if_pos h, if_pos (show (qd e).1 = k from h)]; rfl
  · rw [if_neg h, if_neg (show ¬ (qd e).1 = k from h)]
theorem qd_sum (l : List QE) : qsum l = ((l.map qd).map fun d => d.1.size + d.2.1.length).sum := by
  rw [List.map_map]; rfl
theorem Tw.find {l l' : List QE} (h : Tw l l') (k : ByteArray) : (qfind l k).isSome = (qfind l' k).isSome ∧ ((qfind l k).map QE.val).getD [] = ((qfind l' k).map QE.val).getD [] := by
  have e1 := qd_find l k
  have e2 := qd_find l' k
  rw [h, ← e2] at e1
  cases h1 : qfind l k <;> cases h2 : qfind l' k <;> rw [h1, h2] at e1 <;> simp [qd] at e1 ⊢
  exact e1.2.1
theorem Tw.drop {l l' : List QE} (h : Tw l l') (k : ByteArray) : Tw (qdrop l k) (qdrop l' k) := by unfold Tw at *; rw [qd_drop, qd_drop, h]
theorem Tw.bump {l l' : List QE} (h : Tw l l') (k : ByteArray) : Tw (qbump l k) (qbump l' k) := by unfold Tw at *; rw [qd_bump, qd_bump, h]
theorem Tw.sum {l l' : List QE} (h : Tw l l') : qsum l = qsum l' := by rw [qd_sum, qd_sum, h]
theorem Tw.len {l l' : List QE} (h : Tw l l') : l.length = l'.length := by have := congrArg List.length h; rwa [List.length_map, List.length_map] at this
theorem Tw.snoc {l l' : List QE} {e e' : QE} (h : Tw l l') (he : qd e = qd e') : Tw (l ++ [e]) (l' ++ [e']) := by unfold Tw at *; rw [List.map_append, List.map_append, h]; simp [he]
end Go.Proofs.Ytefllmfoneocaaa
