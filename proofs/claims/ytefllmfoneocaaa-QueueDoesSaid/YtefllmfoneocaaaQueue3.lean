/-
  It is proved what New, Drop and Put of a queue do. There are no further conditions than those that each theorem names.
-/
import Derived.Test.YtefllmfoneocaaaQueue2
set_option linter.unusedVariables false
set_option linter.unusedSimpArgs false
namespace Go.Proofs.Ytefllmfoneocaaa
open Go.HL

def qdrop (l : List QE) (k : ByteArray) : List QE := l.eraseP fun e => decide (k = e.key)
theorem qfind_some {l : List QE} {k : ByteArray} {e : QE} (h : qfind l k = some e) : ∃ p s, l = p ++ e :: s ∧ e.key = k ∧ qdrop l k = p ++ s := by
  unfold qfind at h
  rw [List.find?_eq_some_iff_append] at h
  obtain ⟨hk, p, s, rfl, hp⟩ := h
  refine ⟨p, s, rfl, (of_decide_eq_true hk).symm, ?_⟩
  unfold qdrop
  rw [List.eraseP_append_right _ (fun b hb => by simpa using hp b hb), List.eraseP_cons_of_pos (p := fun e : QE => decide (k = e.key)) hk]
theorem qfind_none {l : List QE} {k : ByteArray} (h : qfind l k = none) : qdrop l k = l ∧ k ∉ l.map QE.key := by
  unfold qfind at h
  rw [List.find?_eq_none] at h
  refine ⟨List.eraseP_of_forall_not h, fun hm => ?_⟩
  obtain ⟨e, he, rfl⟩ := List.mem_map.1 hm
  exact h e he (by simp)
theorem qdrop_not {l : List QE} {k : ByteArray} (ok : QOk l) : k ∉ (qdrop l k).map QE.key := by
  cases hf : qfind l k with
  | none => rw [(qfind_none hf).1]; exact (qfind_none hf).2
  | some e =>
    obtain ⟨p, s, rfl, rfl, hd⟩ := qfind_some hf
    rw [hd]
    have h := ok.nd
    rw [List.map_append, List.map_cons] at h
    have h2 : (e.key :: (p.map QE.key ++ s.map QE.key)).Nodup := (List.perm_middle.nodup_iff).1 h
    rw [List.map_append]
    exact (List.nodup_cons.1 h2).1
theorem qdrop_len (l : List QE) (k : ByteArray) : (qdrop l k).length ≤ l.length := List.length_eraseP_le ..
theorem qdrop_ok {l : List QE} (ok : QOk l) (k : ByteArray) : QOk (qdrop l k) := by
  cases hf : qfind l k with
  | none => rw [(qfind_none hf).1]; exact ok
  | some e =>
    obtain ⟨p, s, rfl, rfl, hd⟩ := qfind_some hf
    rw [hd]; exact ok.sub

theorem qnew_cl (room : Int) : CallF PP 29 #[.int .i64 room] [] fun r L' => ∃ m, r = .pointer (some ⟨m, 0, none⟩) ∧ QH m (imax room 0) [] L' := by
  refine CallF.of (args := [.int .i64 room]) noNum mixed Try.func29 (e29 room _) ?_
  unfold t29
  refine nw_of fun mk _ => nw_of fun m _ => .of ⟨m, rfl, mk, #[], 0, rfl, rfl, ?_⟩
  exact ⟨fun e h => by simp at h, fun e h => by simp at h, by simp, by simp, fun e h => by simp at h⟩
theorem qdrop_cl (m : Nat) (room : Int) (l : List QE) (A : HList) (h : QH m room l A) (k : ByteArray) :
    CallF PP 44 #[.pointer (some ⟨m, 0, none⟩), .string k] A fun r L' => r = .bool (qfind l k).isSome ∧ QH m room (qdrop l k) L' := by
  refine CallF.of (args := [.pointer (some ⟨m, 0, none⟩), .string k]) noNum mixed Try.func44 (e44 (some ⟨m, 0, none⟩) k _) ?_
  unfold t44
  refine cl_rd (find_rd m room l A h k) (pt ((qfind l k).map QE.id), ()) rfl ?_
  cases hf : qfind l k with
  | none =>
    refine ifT rfl (.of ⟨rfl, ?_⟩)
    rw [(qfind_none hf).1]; exact h
  | some e =>
    obtain ⟨mk, mes, clock, rfl, hm, ok⟩ := h
    obtain ⟨p, s, rfl, rfl, hd⟩ := qfind_some hf
    refine ifF rfl (cl_in [] [] (unlink_cl m room p s e mk mes clock hm ok) (by simp) ?_)
    rintro _ _ - ⟨rfl, mes', clock', rfl, hm'⟩
    rw [hd]
    exact ⟨(), rfl, .drop (A := QL m room (p ++ s) mk mes' clock') (J := (e.id, nodeO e (lastId none p) (headId s none)) :: e.seg) ⟨rfl, mk, mes', clock', rfl, hm', ok.sub⟩ (by simp)⟩
theorem qdrop_nil (L : HList) (k : ByteArray) : Reads PP 44 #[.pointer none, .string k] L (.bool false) := by
  refine Reads.of (args := [.pointer none, .string k]) noNum mixed Try.func44 (e44 none k _) ?_
  unfold t44
  exact cl_rd (find_nil L k) (none, ()) rfl (ifT rfl (.of ⟨rfl, rfl⟩))

theorem elemY : ElemT PP tyB tyb 1 1 [.int .u8 0] := elemT_of (by kernel_rfl) (by kernel_rfl) rfl (by decide) (by decide)
theorem srcY : SrcT PP tyB := .inl ⟨tyb, by kernel_rfl⟩
theorem own_e {n : Nat} {e : TypeId} : Own ⟨some ⟨n, 0, none⟩, 0, 0⟩ 1 e [] [(n, Obj.cells #[] e)] := ⟨rfl, Nat.le_refl _, .inr ⟨n, 0, #[], (0, 0), rfl, rfl, by simp, .inl (Nat.le_refl _), fun i u hu => by simp at hu⟩⟩
theorem mput_qmap : ∀ (l : List QE) (k : ByteArray) (v : Value), k ∉ l.map QE.key → mput (qmap l) k v = qmap l ++ [(k, v)]
  | [], k, v, _ => rfl
  | e :: r, k, v, h => by
    rw [List.map_cons, List.mem_cons, not_or] at h
    show (if k = e.key then _ else _) = _
    rw [if_neg h.1]
    show (e.key, Value.pointer (pt (some e.id))) :: mput (qmap r) k v = _
    rw [mput_qmap r k v h.2]; rfl
theorem qput_cl (m : Nat) (room : Int) (l : List QE) (A A0 : HList) (h : QH m room l A) (hfew : l.length < 100000) (k : ByteArray) (hk : k.size ≤ 100000) (v : SlV) (b : List UInt8) (hv : BSl A0 v b) (hb : b.length ≤ 100000) :
    CallF PP 30 #[.pointer (some ⟨m, 0, none⟩), .string k, .slice v.a v.len v.cap] (A ++ A0)
      fun r L' => r = .tuple #[] ∧ ∃ A' e, L' = A' ++ A0 ∧ QH m room (qdrop l k ++ [e]) A' ∧ e.key = k ∧ e.val = b ∧ e.freq = 0 := by
  refine CallF.of (args := [.pointer (some ⟨m, 0, none⟩), .string k, .slice v.a v.len v.cap]) noNum mixed Try.func30 (e30 (some ⟨m, 0, none⟩) k v _) ?_
  unfold t30
  have hnot : k ∉ (qdrop l k).map QE.key := by obtain ⟨_, _, _, _, _, ok⟩ := h; exact qdrop_not ok
  have hfew2 := qdrop_len l k
  refine ifF rfl (cl_in [] A0 (qdrop_cl m room l A h k) (by simp) ?_)
  rintro _ _ - ⟨rfl, mk, mes, clock, rfl, hm, ok⟩
  refine ⟨((qfind l k).isSome, ()), rfl, ?_⟩
  generalize qdrop l k = l1 at hnot hfew2 hm ok ⊢
  have hlen := hv.len
  have hsum := ok.sum
  have hQ : QL m room l1 mk mes clock = (m, qG room (qsum l1) (headId l1 none) (lastId none l1) mk) :: (mk, Obj.map mes clock) :: (nodes none l1 none ++ segs l1) := rfl
  rw [hQ]
  refine nilc_of rfl (ld_of (pt (lastId none l1)) (q_yng (by simp; exact .inl rfl)) (nw_of fun n1 _ => ?_))
  refine append_in elemY srcY [] ([] ++ ((m, qG room (qsum l1) (headId l1 none) (lastId none l1) mk) :: (mk, Obj.map mes clock) :: (nodes none l1 none ++ segs l1)) ++ A0) own_e (by simp) (.sl ((hv.right (R := [] ++ ((m, qG room (qsum l1) (headId l1 none) (lastId none l1) mk) :: (mk, Obj.map mes clock) :: (nodes none l1 none ++ segs l1)))).cons)) (bvs_plain _)
    (by first | omega | (simp only; omega)) fun v2 seg hv2 own => ?_
  rw [List.nil_append] at own
  refine keep_of (q_yng (room := room) (bytes := qsum l1) (o := headId l1 none) (mk := mk) (by simp)) (nw_of fun n2 _ => ?_)
  obtain ⟨e, rfl, rfl, rfl, hfr0, rfl, rfl⟩ : ∃ e : QE, e.id = n2 ∧ e.key = k ∧ e.val = b ∧ e.freq = 0 ∧ e.v = v2 ∧ e.seg = seg := ⟨⟨n2, k, b, 0, v2, seg⟩, rfl, rfl, rfl, rfl, rfl, rfl⟩
  have hve : e.v.len = e.val.length := by have := own.sl.len; rw [bvs_length] at this; omega
  have hnode : (e.id, Obj.cells #[.string e.key, .slice e.v.a e.v.len e.v.cap, .int .i64 0, .pointer (pt (lastId none l1)), .pointer none] 134) = (e.id, nodeO e (lastId none l1) none) := by unfold nodeO; rw [hfr0]; rfl
  have hok : QOk (l1 ++ [e]) := by
    refine ⟨fun x hx => ?_, fun x hx => ?_, ?_, ?_, fun x hx => ?_⟩
    · rcases List.mem_append.1 hx with h1 | h1
      · exact ok.own x h1
      · rw [List.mem_singleton.1 h1]; exact own
    · rcases List.mem_append.1 hx with h1 | h1
      · exact ok.small x h1
      · rw [List.mem_singleton.1 h1]; exact ⟨hk, hb⟩
    · rw [List.length_append]; simp only [List.length_cons, List.length_nil]; omega
    · rw [List.map_append, List.nodup_append]
      refine ⟨ok.nd, by simp, fun x hx y hy => ?_⟩
      simp only [List.map_cons, List.map_nil, List.mem_singleton] at hy
      rintro rfl
      rw [hy] at hx
      exact hnot hx
    · rcases List.mem_append.1 hx with h1 | h1
      · exact ok.fr x h1
      · rw [List.mem_singleton.1 h1, hfr0]; omega
  have hsum2 := hok.sum
  have hqs : qsum (l1 ++ [e]) = qsum l1 + (e.key.size + e.val.length) := by rw [qsum_append]; simp [qsum]
  refine jn_of (fun y L' => L' = (e.id, nodeO e (lastId none l1) none) :: (e.seg ++ ((m, qG room (qsum l1) (headId (l1 ++ [e]) none) (lastId none l1) mk) :: (mk, Obj.map mes clock) :: (nodes none l1 (some e.id) ++ segs l1) ++ A0))) ?_ ?_
  · rintro y L' rfl
    refine nilc_of rfl (st_of ((e.id, nodeO e (lastId none l1) none) :: e.seg) ((mk, Obj.map mes clock) :: (nodes none l1 (some e.id) ++ segs l1) ++ A0) rfl rfl (by simp) (.inl (Nat.le_refl _)) #[.int .i64 room, .int .i64 (qsum l1), .pointer (pt (headId (l1 ++ [e]) none)), .pointer (some ⟨e.id, 0, none⟩), .map (some mk)] rfl ?_)
    have hm1 : ∀ {bb : Int}, (m, qG room bb (headId (l1 ++ [e]) none) (some e.id) mk) ∈ ((e.id, nodeO e (lastId none l1) none) :: e.seg) ++ (m, qG room bb (headId (l1 ++ [e]) none) (some e.id) mk) :: ((mk, Obj.map mes clock) :: (nodes none l1 (some e.id) ++ segs l1) ++ A0) := by simp
    refine nilc_of rfl (ld_of ((qsum l1 : Nat) : Int) (q_bytes hm1) ?_)
    have hsz := size_rd (((e.id, nodeO e (lastId none l1) none) :: e.seg) ++ (m, qG room (qsum l1) (headId (l1 ++ [e]) none) (some e.id) mk) :: ((mk, Obj.map mes clock) :: (nodes none l1 (some e.id) ++ segs l1) ++ A0)) e (lastId none l1) none List.mem_cons_self hve ⟨hk, hb⟩
    refine cl_rd hsz (((e.key.size + e.val.length : Nat) : Int), ()) rfl (keep_of (q_bytes hm1) ?_)
    have hw : IntKind.i64.wrap (((qsum l1 : Nat) : Int) + ((e.key.size + e.val.length : Nat) : Int)) = ((qsum (l1 ++ [e]) : Nat) : Int) := by
      rw [w64_id (by omega) (by omega)]; omega
    simp only [hw]
    refine nilc_of rfl (st_of ((e.id, nodeO e (lastId none l1) none) :: e.seg) ((mk, Obj.map mes clock) :: (nodes none l1 (some e.id) ++ segs l1) ++ A0) rfl rfl (by simp) (.inl (Nat.le_refl _)) #[.int .i64 room, .int .i64 ((qsum (l1 ++ [e]) : Nat) : Int), .pointer (pt (headId (l1 ++ [e]) none)), .pointer (some ⟨e.id, 0, none⟩), .map (some mk)] rfl ?_)
    refine nilc_of rfl (ld_of (some mk) (q_map (room := room) (bytes := ((qsum (l1 ++ [e]) : Nat) : Int)) (o := headId (l1 ++ [e]) none) (y := some e.id) hm1) ?_)
    refine update_of mapQ (((e.id, nodeO e (lastId none l1) none) :: e.seg) ++ [(m, qG room ((qsum (l1 ++ [e]) : Nat) : Int) (headId (l1 ++ [e]) none) (some e.id) mk)]) ((nodes none l1 (some e.id) ++ segs l1) ++ A0) (es := mes) (clock := clock) (by simp [qG, pt]) hm e.key _ fun mes' clock' hm' => ?_
    rw [mput_qmap l1 e.key _ hnot] at hm'
    have hmap : qmap l1 ++ [(e.key, Value.pointer (some ⟨e.id, 0, none⟩))] = qmap (l1 ++ [e]) := by simp [qmap, pt]
    rw [hmap] at hm'
    refine .drop (A := QL m room (l1 ++ [e]) mk mes' clock' ++ A0) (J := []) ⟨rfl, _, e, rfl, ⟨mk, mes', clock', rfl, hm', hok⟩, rfl, rfl, hfr0⟩ ?_
    have hlast : lastId none (l1 ++ [e]) = some e.id := by rw [lastId_snoc]
    have hseg : segs (l1 ++ [e]) = segs l1 ++ e.seg := by unfold segs; simp
    unfold QL
    rw [nodes_snoc, hseg]
    have hq : qO room (l1 ++ [e]) mk (qsum (l1 ++ [e])) = qG room ((qsum (l1 ++ [e]) : Nat) : Int) (headId (l1 ++ [e]) none) (some e.id) mk := by unfold qO; rw [hlast]; rfl
    rw [hq]
    classical
    rw [List.perm_iff_count]
    intro x
    simp only [List.append_eq, List.cons_append, List.nil_append, List.append_nil, List.count_append, List.count_cons, List.count_nil]
    omega
  · intro j hj
    rw [hnode]
    rcases snoc_cases l1 with rfl | ⟨p0, a, rfl⟩
    · refine nilc_of rfl (ld_of (pt (lastId none [])) (q_yng (room := room) (bytes := qsum []) (o := headId [] none) (mk := mk) (by simp)) (ifF rfl (nilc_of rfl ?_)))
      refine st_of (n := m) (off := 2) (c := #[.int .i64 room, .int .i64 (qsum []), .pointer (pt (headId [] none)), .pointer (pt (lastId none [])), .map (some mk)]) (T := 132) (fz := (0, 0)) ((e.id, nodeO e (lastId none []) none) :: e.seg) ((mk, Obj.map mes clock) :: (nodes none [] none ++ segs []) ++ A0) rfl (by simp [qG]) (by simp) (.inl (Nat.le_refl _)) #[.int .i64 room, .int .i64 (qsum []), .pointer (some ⟨e.id, 0, none⟩), .pointer (pt (lastId none [])), .map (some mk)] rfl (hj _ _ ?_)
      rfl
    · refine nilc_of rfl (ld_of (pt (lastId none (p0 ++ [a]))) (q_yng (room := room) (bytes := qsum (p0 ++ [a])) (o := headId (p0 ++ [a]) none) (mk := mk) (by simp)) ?_)
      rw [lastId_snoc]
      refine ifT rfl (nilc_of rfl (ld_of (pt (some a.id)) (q_yng (room := room) (bytes := qsum (p0 ++ [a])) (o := headId (p0 ++ [a]) none) (mk := mk) (by simp)) (nilc_of rfl ?_)))
      refine st_of (n := a.id) (off := 4) (c := #[.string a.key, .slice a.v.a a.v.len a.v.cap, .int .i64 a.freq, .pointer (pt (lastId none p0)), .pointer (pt none)]) (T := 134) (fz := (0, 0))
        ((e.id, nodeO e (some a.id) none) :: (e.seg ++ ((m, qG room (qsum (p0 ++ [a])) (headId (p0 ++ [a]) none) (some a.id) mk) :: (mk, Obj.map mes clock) :: nodes none p0 (some a.id))))
        (segs (p0 ++ [a]) ++ A0) rfl (by simp [nodes_snoc, nodeO]) (by simp) (.inl (Nat.le_refl _)) #[.string a.key, .slice a.v.a a.v.len a.v.cap, .int .i64 a.freq, .pointer (pt (lastId none p0)), .pointer (some ⟨e.id, 0, none⟩)] rfl (hj _ _ ?_)
      have hh : headId (p0 ++ [a] ++ [e]) none = headId (p0 ++ [a]) none := by rw [headId_append]; cases p0 <;> rfl
      rw [hh, nodes_snoc, lastId_snoc]
      simp [nodeO, pt]
end Go.Proofs.Ytefllmfoneocaaa
