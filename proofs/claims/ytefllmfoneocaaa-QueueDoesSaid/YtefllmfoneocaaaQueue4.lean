/-
  It is proved what Get, Peek, Has, Pop, Bytes, Len and Over of a queue do. There are no further conditions than those that each theorem names.
-/
import Derived.Test.YtefllmfoneocaaaQueue3
set_option linter.unusedVariables false
set_option linter.unusedSimpArgs false
namespace Go.Proofs.Ytefllmfoneocaaa
open Go.HL

def bump (e : QE) : QE := { e with freq := imin (e.freq + 1) 3 }
def qbump (l : List QE) (k : ByteArray) : List QE := l.map fun e => if e.key = k then bump e else e
theorem qbump_at {p s : List QE} {e : QE} (h : ((p ++ e :: s).map QE.key).Nodup) : qbump (p ++ e :: s) e.key = p ++ bump e :: s := by
  rw [List.map_append, List.map_cons] at h
  have h2 : (e.key :: (p.map QE.key ++ s.map QE.key)).Nodup := (List.perm_middle.nodup_iff).1 h
  have h3 := (List.nodup_cons.1 h2).1
  rw [List.mem_append, not_or] at h3
  have id_of : ∀ l : List QE, e.key ∉ l.map QE.key → l.map (fun x => if x.key = e.key then bump x else x) = l := by
    intro l hl
    induction l with
    | nil => rfl
    | cons a r ih =>
      rw [List.map_cons, List.mem_cons, not_or] at hl
      rw [List.map_cons, if_neg (fun he => hl.1 he.symm), ih hl.2]
  unfold qbump
  rw [List.map_append, List.map_cons, id_of p h3.1, id_of s h3.2, if_pos rfl]
theorem bump_ok {p s : List QE} {e : QE} (ok : QOk (p ++ e :: s)) : QOk (p ++ bump e :: s) := by
  have hk : (p ++ bump e :: s).map QE.key = (p ++ e :: s).map QE.key := by simp [bump]
  have hx : ∀ x, x ∈ p ++ bump e :: s → x = bump e ∨ x ∈ p ++ e :: s := by
    intro x hx
    rw [List.mem_append, List.mem_cons] at hx
    rcases hx with h | h | h
    · exact .inr (by simp [h])
    · exact .inl h
    · exact .inr (by simp [h])
  have he : e ∈ p ++ e :: s := by simp
  refine ⟨fun x h => ?_, fun x h => ?_, ?_, by rw [hk]; exact ok.nd, fun x h => ?_⟩
  · rcases hx x h with rfl | h
    · exact ok.own e he
    · exact ok.own x h
  · rcases hx x h with rfl | h
    · exact ok.small e he
    · exact ok.small x h
  · have := ok.few
    rw [List.length_append, List.length_cons] at this ⊢
    exact this
  · rcases hx x h with rfl | h
    · have := ok.fr e he
      show 0 ≤ imin (e.freq + 1) 3 ∧ imin (e.freq + 1) 3 ≤ 3
      unfold imin; split <;> omega
    · exact ok.fr x h
theorem QL_at (m : Nat) (room : Int) (p s : List QE) (e : QE) (mk : Nat) (mes : Array MapEntry) (clock : Nat) : QL m room (p ++ e :: s) mk mes clock =
    (m, qG room (qsum (p ++ e :: s)) (headId (p ++ e :: s) none) (lastId none (p ++ e :: s)) mk) :: (mk, Obj.map mes clock) :: ((nodes none p (some e.id) ++ (e.id, nodeO e (lastId none p) (headId s none)) :: nodes (some e.id) s none) ++ segs (p ++ e :: s)) := by
  unfold QL
  rw [nodes_append]
  rfl
theorem node_mem {m : Nat} {room : Int} {p s : List QE} {e : QE} {mk : Nat} {mes : Array MapEntry} {clock : Nat} : (e.id, nodeO e (lastId none p) (headId s none)) ∈ QL m room (p ++ e :: s) mk mes clock := by
  rw [QL_at]; simp
theorem seg_mem {m : Nat} {room : Int} {l : List QE} {mk : Nat} {mes : Array MapEntry} {clock : Nat} : ∀ x ∈ segs l, x ∈ QL m room l mk mes clock := by
  intro x hx
  unfold QL; simp [hx]
theorem own_in {l : List QE} {e : QE} {L : HList} (ok : QOk l) (he : e ∈ l) (hL : ∀ x ∈ segs l, x ∈ L) : BSl L e.v e.val :=
  (ok.own e he).sl.mono fun x hx => hL x (List.mem_flatMap.2 ⟨e, he, hx⟩)
theorem qpeek_cl (m : Nat) (room : Int) (l : List QE) (A : HList) (h : QH m room l A) (k : ByteArray) :
    CallF PP 37 #[.pointer (some ⟨m, 0, none⟩), .string k] A fun r L' => ∃ (u : SlV) (seg : HList), r = .tuple #[.slice u.a u.len u.cap, .bool (qfind l k).isSome] ∧ L' = seg ++ A ∧ Own u 1 tyb (bvs (((qfind l k).map QE.val).getD [])) seg := by
  refine CallF.of (args := [.pointer (some ⟨m, 0, none⟩), .string k]) noNum mixed Try.func37 (e37 (some ⟨m, 0, none⟩) k _) ?_
  unfold t37
  refine cl_rd (find_rd m room l A h k) (pt ((qfind l k).map QE.id), ()) rfl ?_
  cases hf : qfind l k with
  | none => exact ifT rfl (.of ⟨⟨none, 0, 0⟩, [], rfl, rfl, ⟨rfl, Nat.le_refl _, .inl ⟨rfl, rfl, rfl⟩⟩⟩)
  | some e =>
    obtain ⟨mk, mes, clock, rfl, hm, ok⟩ := h
    obtain ⟨p, s, rfl, rfl, hd⟩ := qfind_some hf
    have he : e ∈ p ++ e :: s := by simp
    have hsm := ok.small e he
    refine ifF rfl (nw_of fun n1 _ => nilc_of rfl (ld_of e.v (node_val (List.mem_cons_of_mem _ node_mem)) ?_))
    have hsl := own_in (L := (n1, Obj.cells #[] tyb) :: QL m room (p ++ e :: s) mk mes clock) ok he (fun x hx => List.mem_cons_of_mem _ (seg_mem x hx))
    have hvl := hsl.len
    refine append_in elemY srcY [] (QL m room (p ++ e :: s) mk mes clock) own_e rfl (.sl hsl) (bvs_plain _) (by first | omega | (simp only; omega)) fun u seg hu own => ?_
    exact .of ⟨u, seg, rfl, rfl, by simpa using own⟩
theorem qget_cl (m : Nat) (room : Int) (l : List QE) (A : HList) (h : QH m room l A) (k : ByteArray) :
    CallF PP 31 #[.pointer (some ⟨m, 0, none⟩), .string k] A fun r L' => ∃ (u : SlV) (seg A' : HList), r = .tuple #[.slice u.a u.len u.cap, .bool (qfind l k).isSome] ∧ L' = seg ++ A' ∧ Own u 1 tyb (bvs (((qfind l k).map QE.val).getD [])) seg ∧ QH m room (qbump l k) A' := by
  refine CallF.of (args := [.pointer (some ⟨m, 0, none⟩), .string k]) noNum mixed Try.func31 (e31 (some ⟨m, 0, none⟩) k _) ?_
  unfold t31
  refine cl_rd (find_rd m room l A h k) (pt ((qfind l k).map QE.id), ()) rfl ?_
  cases hf : qfind l k with
  | none =>
    have hb : qbump l k = l := by
      have hn := (qfind_none hf).2
      unfold qbump
      clear hf h
      induction l with
      | nil => rfl
      | cons a r ih =>
        rw [List.map_cons, List.mem_cons, not_or] at hn
        rw [List.map_cons, if_neg (fun he => hn.1 he.symm), ih hn.2]
    exact ifT rfl (.of ⟨⟨none, 0, 0⟩, [], A, rfl, rfl, ⟨rfl, Nat.le_refl _, .inl ⟨rfl, rfl, rfl⟩⟩, by rw [hb]; exact h⟩)
  | some e =>
    obtain ⟨mk, mes, clock, rfl, hm, ok⟩ := h
    obtain ⟨p, s, rfl, rfl, hd⟩ := qfind_some hf
    have he : e ∈ p ++ e :: s := by simp
    have hsm := ok.small e he
    have hfr := ok.fr e he
    have hw : IntKind.i64.wrap (e.freq + 1) = e.freq + 1 := w64_id (by omega) (by omega)
    refine ifF rfl (nilc_of rfl (ld_of e.freq (node_freq node_mem) (nilc_of rfl ?_)))
    rw [hw]
    have ok' := bump_ok ok
    have he' : bump e ∈ p ++ bump e :: s := by simp
    refine st_of (n := e.id) (off := 2) (c := #[.string e.key, .slice e.v.a e.v.len e.v.cap, .int .i64 e.freq, .pointer (pt (lastId none p)), .pointer (pt (headId s none))]) (T := 134) (fz := (0, 0))
      ((m, qG room (qsum (p ++ e :: s)) (headId (p ++ e :: s) none) (lastId none (p ++ e :: s)) mk) :: (mk, Obj.map mes clock) :: nodes none p (some e.id)) (nodes (some e.id) s none ++ segs (p ++ e :: s)) rfl (by rw [QL_at]; simp [nodeO]) (by simp) (.inl (Nat.le_refl _))
      #[.string e.key, .slice e.v.a e.v.len e.v.cap, .int .i64 (imin (e.freq + 1) 3), .pointer (pt (lastId none p)), .pointer (pt (headId s none))] rfl ?_
    have e1 : qsum (p ++ e :: s) = qsum (p ++ bump e :: s) := by simp [qsum, bump]
    have e2 : headId (p ++ e :: s) none = headId (p ++ bump e :: s) none := by rw [headId_append, headId_append]; rfl
    have e3 : lastId none (p ++ e :: s) = lastId none (p ++ bump e :: s) := by rw [lastId_append, lastId_append]; rfl
    have e4 : segs (p ++ e :: s) = segs (p ++ bump e :: s) := by simp [segs, bump]
    have e5 : qmap (p ++ e :: s) = qmap (p ++ bump e :: s) := by simp [qmap, bump]
    have hL : ((m, qG room (qsum (p ++ e :: s)) (headId (p ++ e :: s) none) (lastId none (p ++ e :: s)) mk) :: (mk, Obj.map mes clock) :: nodes none p (some e.id)) ++ (e.id, Obj.cells #[.string e.key, .slice e.v.a e.v.len e.v.cap, .int .i64 (imin (e.freq + 1) 3), .pointer (pt (lastId none p)), .pointer (pt (headId s none))] 134) :: (nodes (some e.id) s none ++ segs (p ++ e :: s)) =
        QL m room (p ++ bump e :: s) mk mes clock := by
      rw [QL_at, ← e1, ← e2, ← e3, ← e4]
      simp [bump, nodeO]
    rw [hL]
    refine nw_of fun n1 _ => nilc_of rfl (ld_of e.v (node_val (e := bump e) (List.mem_cons_of_mem _ node_mem)) ?_)
    have hsl := own_in (L := (n1, Obj.cells #[] tyb) :: QL m room (p ++ bump e :: s) mk mes clock) ok' he' (fun x hx => List.mem_cons_of_mem _ (seg_mem x hx))
    have hvl : e.v.len = e.val.length := hsl.len
    refine append_in elemY srcY [] (QL m room (p ++ bump e :: s) mk mes clock) own_e rfl (.sl hsl) (bvs_plain _) (by first | omega | (simp only; omega) | (show (0 + e.v.len) * 1 ≤ _; omega)) fun u seg hu own => ?_
    rw [qbump_at ok.nd]
    refine .of ⟨u, seg, _, rfl, rfl, own, mk, mes, clock, rfl, by rw [← e5]; exact hm, ok'⟩
theorem qhas_rd (m : Nat) (room : Int) (l : List QE) (A : HList) (h : QH m room l A) (k : ByteArray) : Reads PP 42 #[.pointer (some ⟨m, 0, none⟩), .string k] A (.bool (qfind l k).isSome) := by
  refine Reads.of (args := [.pointer (some ⟨m, 0, none⟩), .string k]) noNum mixed Try.func42 (e42 (some ⟨m, 0, none⟩) k _) ?_
  unfold t42
  refine cl_rd (find_rd m room l A h k) (pt ((qfind l k).map QE.id), ()) rfl (.of ⟨?_, rfl⟩)
  cases qfind l k <;> rfl
theorem qbytes_rd (m : Nat) (room : Int) (l : List QE) (A : HList) (h : QH m room l A) : Reads PP 33 #[.pointer (some ⟨m, 0, none⟩)] A (.int .i64 (qsum l)) := by
  obtain ⟨mk, mes, clock, rfl, hm, ok⟩ := h
  refine Reads.of (args := [.pointer (some ⟨m, 0, none⟩)]) noNum mixed Try.func33 (e33 (some ⟨m, 0, none⟩) _) ?_
  unfold t33
  exact ifF rfl (nilc_of rfl (ld_of ((qsum l : Nat) : Int) (q_bytes (room := room) (o := headId l none) (y := lastId none l) (mk := mk) List.mem_cons_self) (.of ⟨rfl, rfl⟩)))
theorem qlen_rd (m : Nat) (room : Int) (l : List QE) (A : HList) (h : QH m room l A) : Reads PP 34 #[.pointer (some ⟨m, 0, none⟩)] A (.int .i64 l.length) := by
  obtain ⟨mk, mes, clock, rfl, hm, ok⟩ := h
  refine Reads.of (args := [.pointer (some ⟨m, 0, none⟩)]) noNum mixed Try.func34 (e34 (some ⟨m, 0, none⟩) _) ?_
  unfold t34
  refine ifF rfl (nilc_of rfl (ld_of (some mk) (q_map (room := room) (bytes := qsum l) (o := headId l none) (y := lastId none l) List.mem_cons_self) ?_))
  have hlen : mes.size = l.length := by rw [hm.size]; simp [qmap]
  refine ⟨((l.length : Int), ()), ?_, .of ⟨rfl, rfl⟩⟩
  have := mlen_rd (P := PP) (L := QL m room l mk mes clock) (t := tyM) (ty := 3) mapQ.und (r := mk) (es := mes) (clock := clock) (by unfold QL; simp)
  rw [hlen] at this
  exact this
theorem qover_rd (m : Nat) (room : Int) (l : List QE) (A : HList) (h : QH m room l A) : Reads PP 35 #[.pointer (some ⟨m, 0, none⟩)] A (.bool (decide ((qsum l : Int) > room))) := by
  obtain ⟨mk, mes, clock, rfl, hm, ok⟩ := h
  refine Reads.of (args := [.pointer (some ⟨m, 0, none⟩)]) noNum mixed Try.func35 (e35 (some ⟨m, 0, none⟩) _) ?_
  unfold t35
  exact ifT rfl (nilc_of rfl (nilc_of rfl (ld_of ((qsum l : Nat) : Int) (q_bytes (room := room) (o := headId l none) (y := lastId none l) (mk := mk) List.mem_cons_self) (ld_of room (q_room (bytes := qsum l) (o := headId l none) (y := lastId none l) (mk := mk) List.mem_cons_self) (.of ⟨rfl, rfl⟩)))))
theorem qpop_nil (m : Nat) (room : Int) (A : HList) (h : QH m room [] A) : Reads PP 32 #[.pointer (some ⟨m, 0, none⟩)] A (.tuple #[.agg #[.string ByteArray.empty, .slice none 0 0, .int .i64 0], .bool false]) := by
  obtain ⟨mk, mes, clock, rfl, hm, ok⟩ := h
  refine Reads.of (args := [.pointer (some ⟨m, 0, none⟩)]) noNum mixed Try.func32 (e32 (some ⟨m, 0, none⟩) _) ?_
  unfold t32
  refine nw_of fun n1 _ => ifF rfl (nilc_of rfl (ld_of (pt (headId [] none)) (q_old (room := room) (bytes := qsum []) (y := lastId none []) (mk := mk) (List.mem_cons_of_mem _ List.mem_cons_self)) (ifT rfl ?_)))
  refine st_of [] _ rfl rfl (by simp) (.inl (Nat.le_refl _)) _ rfl (ld_of (ByteArray.empty, ⟨none, 0, 0⟩, 0, ()) (ldB List.mem_cons_self rfl) ?_)
  exact .cons (.of ⟨rfl, rfl⟩)
theorem qpop_cl (m : Nat) (room : Int) (e : QE) (s : List QE) (A : HList) (h : QH m room (e :: s) A) :
    CallF PP 32 #[.pointer (some ⟨m, 0, none⟩)] A fun r L' => r = .tuple #[.agg #[.string e.key, .slice e.v.a e.v.len e.v.cap, .int .i64 e.freq], .bool true] ∧ ∃ A', L' = A' ++ e.seg ∧ QH m room s A' := by
  obtain ⟨mk, mes, clock, rfl, hm, ok⟩ := h
  refine CallF.of (args := [.pointer (some ⟨m, 0, none⟩)]) noNum mixed Try.func32 (e32 (some ⟨m, 0, none⟩) _) ?_
  unfold t32
  have hold : ∀ {n1 : Nat} {o : Obj}, LdAt ⟨m, 2, none⟩ [.pointer (pt (some e.id))] ((n1, o) :: QL m room (e :: s) mk mes clock) := q_old (room := room) (bytes := qsum (e :: s)) (o := some e.id) (y := lastId none (e :: s)) (mk := mk) (List.mem_cons_of_mem _ List.mem_cons_self)
  refine nw_of fun n1 _ => ifF rfl (nilc_of rfl (ld_of (pt (some e.id)) hold (ifF rfl (nilc_of rfl (ld_of (pt (some e.id)) hold ?_)))))
  refine cl_in [(n1, Obj.cells #[.string ByteArray.empty, .slice none 0 0, .int .i64 0] 56)] [] (unlink_cl m room [] s e mk mes clock hm ok) (by simp) ?_
  rintro _ _ - ⟨rfl, mes', clock', rfl, hm'⟩
  refine ⟨(), rfl, nilc_of rfl (ld_of (e.key, e.v, e.freq, ()) (node_young (p := lastId none []) (n := headId s none) (by simp)) ?_)⟩
  refine st_of (n := n1) (off := 0) (c := #[.string ByteArray.empty, .slice none 0 0, .int .i64 0]) (T := 56) (fz := (0, 0)) [] ((QL m room ([] ++ s) mk mes' clock' ++ ((e.id, nodeO e (lastId none []) (headId s none)) :: e.seg)) ++ []) rfl rfl (by simp) (.inl (Nat.le_refl _)) #[.string e.key, .slice e.v.a e.v.len e.v.cap, .int .i64 e.freq] rfl ?_
  refine ld_of (e.key, e.v, e.freq, ()) (ldB (n := n1) (c := #[.string e.key, .slice e.v.a e.v.len e.v.cap, .int .i64 e.freq]) (T := 56) (fz := (0, 0)) List.mem_cons_self rfl) ?_
  refine .drop (A := QL m room s mk mes' clock' ++ e.seg) (J := [(n1, Obj.cells #[.string e.key, .slice e.v.a e.v.len e.v.cap, .int .i64 e.freq] 56), (e.id, nodeO e (lastId none []) (headId s none))]) ⟨rfl, _, rfl, mk, mes', clock', rfl, hm', ok.sub (p := [])⟩ ?_
  classical
  rw [List.perm_iff_count]
  intro x
  simp only [List.nil_append, List.append_nil, List.count_append, List.count_cons, List.count_nil]
  omega
end Go.Proofs.Ytefllmfoneocaaa
