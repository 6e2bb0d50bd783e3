/-
  It is proved what the document's answer for the layer queue does: Drop, Put, Get, Pop. There are no further conditions than those that each theorem names.
-/
import Derived.Test.YtefllmfoneocaaaQueueRef
set_option linter.unusedVariables false
set_option linter.unusedSimpArgs false
namespace Go.Proofs.Ytefllmfoneocaaa
open Go.HL

theorem rqnew_cl (room : Int) : CallF PP 36 #[.int .i64 room] [] fun r L' => ∃ m, r = .pointer (some ⟨m, 0, none⟩) ∧ RQ m (imax room 0) [] L' := by
  refine CallF.of (args := [.int .i64 room]) noNum mixed Try.func36 (e36 room _) ?_
  unfold t36
  refine nw_of fun m _ => .of ⟨m, rfl, ⟨none, 0, 0⟩, [], rfl, ⟨rfl, Nat.le_refl _, .inl ⟨rfl, rfl, rfl⟩⟩, ?_⟩
  exact ⟨fun e h => by simp at h, fun e h => by simp at h, by simp, by simp, fun e h => by simp at h⟩
theorem rqhas_rd (m : Nat) (room : Int) (l : List QE) (A : HList) (h : RQ m room l A) (k : ByteArray) : Reads PP 43 #[.pointer (some ⟨m, 0, none⟩), .string k] A (.bool (qfind l k).isSome) := by
  refine Reads.of (args := [.pointer (some ⟨m, 0, none⟩), .string k]) noNum mixed Try.func43 (e43 (some ⟨m, 0, none⟩) k _) ?_
  unfold t43
  refine cl_in [] [] (rqat_cl m room l A h k) (by simp) ?_
  rintro _ A' - ⟨rfl, i, rfl, hk⟩
  refine ⟨(i, ()), rfl, .of ⟨?_, by simp⟩⟩
  rcases hk with ⟨rfl, hf⟩ | ⟨p, e, s, rfl, rfl, hf, _, _⟩
  · rw [hf]; rfl
  · rw [hf, decide_eq_true (show ((p.length : Nat) : Int) ≥ 0 by omega)]; rfl
theorem own_y {n : Nat} : Own ⟨some ⟨n, 0, none⟩, 0, 0⟩ 3 eYg [] [(n, Obj.cells #[] eYg)] := ⟨rfl, Nat.le_refl _, .inr ⟨n, 0, #[], (0, 0), rfl, rfl, by simp, .inl (Nat.le_refl _), fun i u hu => by simp at hu⟩⟩
theorem segs_app (p s : List QE) : segs (p ++ s) = segs p ++ segs s := by simp [segs]
theorem segs_cons (e : QE) (s : List QE) : segs (e :: s) = e.seg ++ segs s := by simp [segs]
theorem rqdrop_cl (m : Nat) (room : Int) (l : List QE) (A : HList) (h : RQ m room l A) (k : ByteArray) :
    CallF PP 87 #[.pointer (some ⟨m, 0, none⟩), .string k] A fun r L' => r = .bool (qfind l k).isSome ∧ RQ m room (qdrop l k) L' := by
  refine CallF.of (args := [.pointer (some ⟨m, 0, none⟩), .string k]) noNum mixed Try.func87 (e87 (some ⟨m, 0, none⟩) k _) ?_
  unfold t87
  refine cl_in [] [] (rqat_cl m room l A h k) (by simp) ?_
  rintro _ A' - ⟨rfl, i, rfl, hk⟩
  refine ⟨(i, ()), rfl, ?_⟩
  simp only [List.nil_append, List.append_nil]
  rcases hk with ⟨rfl, hf⟩ | ⟨p, e, t, rfl, rfl, hf, hek, hd⟩
  · refine ifP (show (-1 : Int) < 0 by decide) (.of ⟨by rw [hf]; rfl, ?_⟩)
    rw [(qfind_none hf).1]; exact h
  · rw [hf, hd]
    refine ifN (show ¬ ((p.length : Nat) : Int) < 0 by omega) ?_
    obtain ⟨s, seg, rfl, own, ok⟩ := h
    have hlen := own.sl.els_len yEnc_len (by decide)
    rw [List.length_append, List.length_cons] at hlen
    have hfew := ok.few
    rw [List.length_append, List.length_cons] at hfew
    have hcap := own.cap
    have hw : IntKind.i64.wrap (((p.length : Nat) : Int) + 1) = ((p.length + 1 : Nat) : Int) := by rw [w64_id (by omega) (by omega)]; omega
    simp only [hw]
    refine nilc_of rfl (nilc_of rfl (ld_of s (r_l List.mem_cons_self) (slc_of (l' := 0) (h' := p.length) (m' := s.cap) rfl rfl rfl (by omega) (by omega) (Nat.le_refl _) (ld_of s (r_l List.mem_cons_self) (slc_of (l' := p.length + 1) (h' := s.len) (m' := s.cap) rfl rfl rfl (by omega) hcap (Nat.le_refl _) ?_)))))
    have src1 := Sl.slc (m := s.cap) own.sl (by omega) (l := 0) (h' := p.length) (by omega) (by omega) (by omega)
    have src2 := Sl.slc (m := s.cap) own.sl (by omega) (l := p.length + 1) (h' := s.len) (by omega) (Nat.le_refl _) hcap
    rw [flat_slc yEnc_len] at src1 src2
    have e1 : ((p ++ e :: t).drop 0).take (p.length - 0) = p := by simp
    have e2 : ((p ++ e :: t).drop (p.length + 1)).take (s.len - (p.length + 1)) = t := by
      have : (p ++ e :: t).drop (p.length + 1) = t := by rw [← List.drop_drop, List.drop_left' rfl]; rfl
      rw [this]; exact List.take_of_length_le (by omega)
    rw [e1] at src1
    rw [e2] at src2
    refine nw_of fun q _ => append_in elemYg srcYg [] (rO m room s :: (seg ++ segs (p ++ e :: t))) own_y rfl (.sl (src1.mono fun x hx => by simp [hx])) (yEnc_plain _)
      (by simp only [slcV, Int.toNat_natCast]; omega) fun s1 seg1 hs1 own1 => ?_
    simp only [slcV, Int.toNat_natCast] at hs1
    refine keep_of (r_l (room := room) (by simp)) ?_
    refine append_in elemYg srcYg [] (rO m room s :: (seg ++ segs (p ++ e :: t))) own1 rfl (.sl (src2.mono fun x hx => by simp [hx])) (yEnc_plain _)
      (by simp only [slcV, Int.toNat_natCast]; omega) fun s2 seg2 hs2 own2 => ?_
    rw [List.nil_append, ← List.flatMap_append] at own2
    refine nilc_of rfl (st_of (n := m) (off := 1) (c := #[.int .i64 room, .slice s.a s.len s.cap]) (T := 65) (fz := (0, 0)) seg2 (seg ++ segs (p ++ e :: t)) rfl (by simp [rO]) (by simp) (.inl (Nat.le_refl _)) #[.int .i64 room, .slice s2.a s2.len s2.cap] rfl ?_)
    refine .drop (A := rO m room s2 :: (seg2 ++ segs (p ++ t))) (J := seg ++ e.seg) ⟨rfl, s2, seg2, rfl, own2, ok.sub⟩ ?_
    rw [segs_app, segs_app, segs_cons]
    unfold rO
    classical
    rw [List.perm_iff_count]
    intro x
    simp only [List.append_eq, List.cons_append, List.count_append, List.count_cons]
    omega
end Go.Proofs.Ytefllmfoneocaaa
