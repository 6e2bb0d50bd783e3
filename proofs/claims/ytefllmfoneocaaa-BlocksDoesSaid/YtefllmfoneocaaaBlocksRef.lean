/-
  It is proved what the document's answer for the layer blocks does. There are no further conditions than those that each theorem names.
-/
import Derived.Test.YtefllmfoneocaaaBlocksLaws
set_option linter.unusedVariables false
set_option linter.unusedSimpArgs false
namespace Go.Proofs.Ytefllmfoneocaaa
open Go.HL

abbrev tyRt : TypeId := 99
abbrev eRt : TypeId := 166
theorem elemRt : ElemT PP tyRt eRt 3 16 [.int .i64 0, .bool false, .bool false] := elemT_of (by kernel_rfl) (by kernel_rfl) rfl (by decide) (by decide)
theorem srcRt : SrcT PP tyRt := .inl ⟨eRt, by kernel_rfl⟩
def rbO (m : Nat) (sv uv : SlV) : Nat × Obj := (m, Obj.cells #[.slice sv.a sv.len sv.cap, .slice uv.a uv.len uv.cap] 116)
structure RBOk (sv : SlV) (sseg : HList) (ss : List BS) (uv : SlV) (useg : HList) (us : List Int) : Prop where
  own : Own sv 3 eRt (ss.flatMap bsEnc) sseg
  uown : Own uv 1 eIn (ivs .i64 us) useg
  cnt : 1 ≤ ss.length ∧ ss.length ≤ 16
  few : us.length ≤ 100000
  wr : ∀ s ∈ ss, 0 ≤ s.wear ∧ s.wear ≤ 1000000000
def RBX (m : Nat) (ss : List BS) (us : List Int) (A : HList) : Prop := ∃ sv sseg uv useg, A = rbO m sv uv :: (sseg ++ useg) ∧ RBOk sv sseg ss uv useg us
section
variable {L : HList} {m : Nat} {sv uv : SlV}
theorem rb_s (h : rbO m sv uv ∈ L) : LdAt ⟨m, 0, none⟩ [.slice sv.a sv.len sv.cap] L := ldB (by unfold rbO at h; exact h) rfl
theorem rb_u (h : rbO m sv uv ∈ L) : LdAt ⟨m, 1, none⟩ [.slice uv.a uv.len uv.cap] L := ldB (by unfold rbO at h; exact h) rfl
end
theorem rin_rd (L : HList) (v : SlV) (l : List Int) (h : ISl L v .i64 l) (hb : l.length ≤ 1000000) (x : Int) : Reads PP 102 #[.int .i64 x, .slice v.a v.len v.cap] L (.bool (decide (x ∈ l))) := by
  refine Reads.of (args := [.int .i64 x, .slice v.a v.len v.cap]) noNum mixed Try.func102 (e102 x v _) ?_
  unfold t102
  have hlen := h.len
  refine lp_of (fun k z L' => L' = L ∧ ∃ i : Nat, i ≤ l.length ∧ k = l.length - i ∧ z = ((i : Int), ()) ∧ ∀ y ∈ l.take i, y ≠ x) l.length ⟨rfl, 0, by omega, by omega, rfl, by simp⟩ ?_
  rintro k z L' ⟨rfl, i, hi, rfl, rfl, hn⟩
  refine ifD_of (fun (hlt : (i : Int) < v.len) => ?_) (fun (hge : ¬ (i : Int) < v.len) => ?_)
  · have hi' : i < l.length := by omega
    obtain ⟨a, ha⟩ := h.some hi'
    refine nilc_of ha (ixn_of (show (0 : Int) ≤ i by omega) hlt (ld_of l[i] (h.rd hi' ha _ (by simp)) ?_))
    refine ifE_of (fun he => .of ⟨?_, rfl⟩) (fun he => ⟨l.length - (i + 1), by omega, rfl, i + 1, by omega, rfl, ?_, fun y hy => ?_⟩)
    · have he' : l[i] = x := he
      rw [← he', decide_eq_true (List.getElem_mem hi')]
    · rw [w64_id (by first | omega | (simp only; omega)) (by first | omega | (simp only; omega))]
      rfl
    · rw [List.take_succ_eq_append_getElem hi'] at hy
      rcases List.mem_append.1 hy with hy | hy
      · exact hn y hy
      · rw [List.mem_singleton.1 hy]; exact he
  · obtain rfl : i = l.length := by omega
    rw [List.take_length] at hn
    refine .of ⟨?_, rfl⟩
    rw [decide_eq_false (fun hx => hn x hx rfl)]
theorem rbgood_rd (L : HList) (m : Nat) (ss : List BS) (us : List Int) (A : HList) (hA : RBX m ss us A) (hs : ∀ x ∈ A, x ∈ L) (n : Int) : Reads PP 114 #[.pointer (some ⟨m, 0, none⟩), .int .i64 n] L (.bool (bgood ss n)) := by
  obtain ⟨sv, sseg, uv, useg, rfl, ok⟩ := hA
  refine Reads.of (args := [.pointer (some ⟨m, 0, none⟩), .int .i64 n]) noNum mixed Try.func114 (e114 (some ⟨m, 0, none⟩) n _) ?_
  unfold t114
  have hm : rbO m sv uv ∈ L := hs _ List.mem_cons_self
  have hsl : Sl L sv 3 (ss.flatMap bsEnc) := ok.own.sl.mono fun x hx => hs x (by simp [hx])
  have hlen := hsl.els_len bsEnc_len (by decide)
  refine ifD_of (fun (h0 : n ≥ 0) => nilc_of rfl (ld_of sv (rb_s hm) (ifD_of (fun (h1 : n < sv.len) => ?_) (fun (h1 : ¬ n < sv.len) => .of ⟨?_, rfl⟩)))) (fun (h0 : ¬ n ≥ 0) => .of ⟨?_, rfl⟩)
  · have hi : n.toNat < ss.length := by omega
    obtain ⟨a, ha, hl⟩ := hsl.el bsEnc_len (by decide) hi
    refine nilc_of rfl (ld_of sv (rb_s hm) (nilc_of ha (ixn_of h0 h1 (ld_of ss[n.toNat].bad (hl.one 1 rfl) (.of ⟨?_, rfl⟩)))))
    unfold bgood
    rw [List.getElem?_eq_getElem hi, decide_eq_true (show 0 ≤ n by omega)]
    rfl
  · unfold bgood
    rw [List.getElem?_eq_none (by omega)]
    simp
  · unfold bgood
    rw [decide_eq_false (by omega)]; rfl
theorem rbfree_rd (L : HList) (m : Nat) (ss : List BS) (us : List Int) (A : HList) (hA : RBX m ss us A) (hs : ∀ x ∈ A, x ∈ L) (n : Int) : Reads PP 106 #[.pointer (some ⟨m, 0, none⟩), .int .i64 n] L (.bool (bfree ss us n)) := by
  refine Reads.of (args := [.pointer (some ⟨m, 0, none⟩), .int .i64 n]) noNum mixed Try.func106 (e106 (some ⟨m, 0, none⟩) n _) ?_
  unfold t106
  refine cl_rd (rbgood_rd _ m ss us A hA hs n) (bgood ss n, ()) rfl ?_
  obtain ⟨sv, sseg, uv, useg, rfl, ok⟩ := hA
  have hm : rbO m sv uv ∈ L := hs _ List.mem_cons_self
  have husl : ISl L uv .i64 us := ok.uown.sl.mono fun x hx => hs x (by simp [hx])
  refine ifB_of (fun hg => ?_) (fun hg => .of ⟨?_, rfl⟩)
  · have hg' : bgood ss n = true := hg
    have hfew := ok.few
    refine nilc_of rfl (ld_of uv (rb_u hm) (cl_rd (rin_rd _ uv us husl (by omega) n) (decide (n ∈ us), ()) rfl (.of ⟨?_, rfl⟩)))
    unfold bfree
    rw [hg']; rfl
  · have hg' : bgood ss n = false := hg
    unfold bfree
    rw [hg']; rfl
theorem rbcost_rd (L : HList) (m : Nat) (ss : List BS) (us : List Int) (A : HList) (hA : RBX m ss us A) (hs : ∀ x ∈ A, x ∈ L) (i : Nat) (hi : i < ss.length) : Reads PP 107 #[.pointer (some ⟨m, 0, none⟩), .int .i64 i] L (.int .i64 (bcost ss[i])) := by
  obtain ⟨sv, sseg, uv, useg, rfl, ok⟩ := hA
  refine Reads.of (args := [.pointer (some ⟨m, 0, none⟩), .int .i64 i]) noNum mixed Try.func107 (e107 (some ⟨m, 0, none⟩) i _) ?_
  unfold t107
  have hm : rbO m sv uv ∈ L := hs _ List.mem_cons_self
  have hsl : Sl L sv 3 (ss.flatMap bsEnc) := ok.own.sl.mono fun x hx => hs x (by simp [hx])
  have hlen := hsl.els_len bsEnc_len (by decide)
  have hw := ok.wr ss[i] (List.getElem_mem hi)
  have h0 : (0 : Int) ≤ (i : Int) := by omega
  have h1 : (i : Int) < sv.len := by omega
  obtain ⟨a, ha, hl⟩ := hsl.el bsEnc_len (by decide) hi
  have hl2 : LdAt (Addr.add a ((i : Int).toNat * 3)) (bsEnc ss[i]) L := by simpa using hl
  have lw : LdAt (Addr.add a ((i : Int).toNat * 3)) [.int .i64 ss[i].wear] L := hl2.pre fun i u hu => by cases i with | zero => exact hu | succ i => exact absurd (show (none : Option Value) = some u from hu) (by simp)
  refine nilc_of rfl (ld_of sv (rb_s hm) (nilc_of ha (ixn_of h0 h1 (ld_of ss[i].dirty (hl2.one 2 rfl) (ifB_of (fun hd => ?_) (fun hd => ?_))))))
  · refine nilc_of rfl (ld_of sv (rb_s hm) (nilc_of ha (ixn_of h0 h1 (ld_of ss[i].wear lw (.of ⟨?_, rfl⟩)))))
    unfold bcost; rw [if_pos hd, w64_id (by omega) (by omega)]
  · refine nilc_of rfl (ld_of sv (rb_s hm) (nilc_of ha (ixn_of h0 h1 (ld_of ss[i].wear lw (.of ⟨?_, rfl⟩)))))
    unfold bcost; rw [if_neg (by rw [hd]; decide)]
/-- What was picked up to a place. -/
theorem each_take {σ : Type} (q : Int → Bool) (step : σ → Int → BS → σ) (s0 : σ) (ss : List BS) (i : Nat) (hi : i < ss.length) : eachF q step s0 (ss.take (i + 1)) = if q i then step (eachF q step s0 (ss.take i)) i ss[i] else eachF q step s0 (ss.take i) := by
  have hsn := eachF_snoc q step s0 (ss.take i) ss[i]
  rw [← List.take_succ_eq_append_getElem hi, List.length_take, Nat.min_eq_left (by omega)] at hsn
  exact hsn
theorem rbpick_cl (m : Nat) (ss : List BS) (us : List Int) (A : HList) (hA : RBX m ss us A) : Reads PP 64 #[.pointer (some ⟨m, 0, none⟩)] A (.tuple #[.int .i64 (bpick ss us).2.2, .bool (bpick ss us).2.1.dirty, .bool (bpick ss us).1]) := by
  have hA' := hA
  obtain ⟨sv, sseg, uv, useg, rfl, ok⟩ := hA
  refine Reads.of (args := [.pointer (some ⟨m, 0, none⟩)]) noNum mixed Try.func64 (e64 (some ⟨m, 0, none⟩) _) ?_
  unfold t64
  have hm : rbO m sv uv ∈ rbO m sv uv :: (sseg ++ useg) := List.mem_cons_self
  have hsl : Sl (rbO m sv uv :: (sseg ++ useg)) sv 3 (ss.flatMap bsEnc) := ok.own.sl.left.cons
  have hlen := hsl.els_len bsEnc_len (by decide)
  have hcnt := ok.cnt
  refine lp_of (fun k z L' => L' = rbO m sv uv :: (sseg ++ useg) ∧ ∃ (i : Nat) (s : BPk), i ≤ ss.length ∧ k = ss.length - i ∧ s = eachF (bfree ss us) pickStep (false, bs0, 0) (ss.take i) ∧ z = (if s.1 = true then s.2.2 else -1, (i : Int), ()) ∧ (s.1 = true → ∃ j : Nat, j < ss.length ∧ s.2.2 = j ∧ s.2.1 = bat ss j) ∧ (s.1 = false → s.2.1 = bs0 ∧ s.2.2 = 0)) ss.length
    ⟨rfl, 0, (false, bs0, 0), by omega, by omega, by simp [eachF], rfl, fun h => by simp at h, fun _ => ⟨rfl, rfl⟩⟩ ?_
  rintro k z L ⟨rfl, i, ⟨fd, best, at'⟩, hi, rfl, hs, rfl, hj, hj0⟩
  simp only at hj hj0
  refine nilc_of rfl (ld_of sv (rb_s hm) (ifD_of (fun (hlt : (i : Int) < sv.len) => ?_) (fun (hge : ¬ (i : Int) < sv.len) => ?_)))
  · have hi' : i < ss.length := by omega
    have hst := each_take (bfree ss us) pickStep (false, bs0, 0) ss i hi'
    rw [← hs] at hst
    have hw : IntKind.i64.wrap ((i : Int) + 1) = ((i + 1 : Nat) : Int) := by rw [w64_id (by omega) (by omega)]; omega
    simp only [hw]
    have hnew : (true, ss[i], (i : Int)) = eachF (bfree ss us) pickStep (false, bs0, 0) (ss.take (i + 1)) → ∃ k', k' < ss.length - i ∧ (rbO m sv uv :: (sseg ++ useg) = rbO m sv uv :: (sseg ++ useg) ∧ ∃ (i2 : Nat) (s : BPk), i2 ≤ ss.length ∧ k' = ss.length - i2 ∧ s = eachF (bfree ss us) pickStep (false, bs0, 0) (ss.take i2) ∧ ((i : Int), ((i + 1 : Nat) : Int), ()) = (if s.1 = true then s.2.2 else -1, (i2 : Int), ()) ∧ (s.1 = true → ∃ j : Nat, j < ss.length ∧ s.2.2 = j ∧ s.2.1 = bat ss j) ∧ (s.1 = false → s.2.1 = bs0 ∧ s.2.2 = 0)) :=
      fun e => ⟨ss.length - (i + 1), by omega, rfl, i + 1, _, by omega, rfl, e, rfl, fun _ => ⟨i, hi', rfl, (bat_at hi').symm⟩, fun h => by simp at h⟩
    have hold : (fd, best, at') = eachF (bfree ss us) pickStep (false, bs0, 0) (ss.take (i + 1)) → ∃ k', k' < ss.length - i ∧ (rbO m sv uv :: (sseg ++ useg) = rbO m sv uv :: (sseg ++ useg) ∧ ∃ (i2 : Nat) (s : BPk), i2 ≤ ss.length ∧ k' = ss.length - i2 ∧ s = eachF (bfree ss us) pickStep (false, bs0, 0) (ss.take i2) ∧ ((if fd = true then at' else -1), ((i + 1 : Nat) : Int), ()) = (if s.1 = true then s.2.2 else -1, (i2 : Int), ()) ∧ (s.1 = true → ∃ j : Nat, j < ss.length ∧ s.2.2 = j ∧ s.2.1 = bat ss j) ∧ (s.1 = false → s.2.1 = bs0 ∧ s.2.2 = 0)) :=
      fun e => ⟨ss.length - (i + 1), by omega, rfl, i + 1, (fd, best, at'), by omega, rfl, e, rfl, hj, hj0⟩
    refine cl_rd (rbfree_rd _ m ss us _ hA' (fun x hx => hx) (i : Int)) (bfree ss us i, ()) rfl (ifB_of (fun hf => ?_) (fun hf => ?_))
    · have hf' : bfree ss us (i : Int) = true := hf
      rw [if_pos hf'] at hst
      cases fd with
      | false =>
        refine ifP (show (-1 : Int) < 0 by decide) (hnew ?_)
        rw [hst]; unfold pickStep; rw [if_pos (.inl rfl)]
      | true =>
        obtain ⟨j, hj1, hj2, hj3⟩ := hj rfl
        have hj2' : at' = (j : Int) := hj2
        subst hj2'
        simp only [if_true]
        refine ifN (show ¬ (j : Int) < 0 by omega) ?_
        refine cl_rd (rbcost_rd _ m ss us _ hA' (fun x hx => hx) i hi') (bcost ss[i], ()) rfl (cl_rd (rbcost_rd _ m ss us _ hA' (fun x hx => hx) j hj1) (bcost ss[j], ()) rfl ?_)
        have hbj : bcost best = bcost ss[j] := by rw [hj3, bat_at hj1]
        refine ifD_of (fun (hc : bcost ss[i] < bcost ss[j]) => hnew ?_) (fun (hc : ¬ bcost ss[i] < bcost ss[j]) => hold ?_)
        · rw [hst]; unfold pickStep; rw [if_pos (.inr (by simp only; omega))]
        · rw [hst]; unfold pickStep; rw [if_neg]
          rintro (c | c)
          · cases c
          · simp only at c; omega
    · have hf' : ¬ bfree ss us (i : Int) = true := by rw [show bfree ss us (i : Int) = false from hf]; decide
      rw [if_neg hf'] at hst
      exact hold hst.symm
  · obtain rfl : i = ss.length := by omega
    rw [List.take_length] at hs
    have hs' : bpick ss us = (fd, best, at') := hs.symm
    rw [hs']
    cases fd with
    | false =>
      obtain ⟨e1, e2⟩ := hj0 rfl
      subst e1 e2
      exact ifP (show (-1 : Int) < 0 by decide) (.of ⟨rfl, rfl⟩)
    | true =>
      obtain ⟨j, hj1, hj2, hj3⟩ := hj rfl
      have hj2' : at' = (j : Int) := hj2
      subst hj2'
      simp only [if_true]
      obtain ⟨a, ha, hl⟩ := hsl.el bsEnc_len (by decide) hj1
      refine ifN (show ¬ (j : Int) < 0 by omega) (nilc_of rfl (ld_of sv (rb_s hm) (nilc_of ha (ixn_of (show (0 : Int) ≤ (j : Int) by omega) (show (j : Int) < sv.len by omega) (ld_of ss[j].dirty (by rw [Int.toNat_natCast]; exact hl.one 2 rfl) (.of ⟨?_, rfl⟩))))))
      rw [hj3, bat_at hj1]
theorem rbfreeN_rd (m : Nat) (ss : List BS) (us : List Int) (A : HList) (hA : RBX m ss us A) : Reads PP 68 #[.pointer (some ⟨m, 0, none⟩)] A (.int .i64 (bfreeN ss us)) := by
  have hA' := hA
  obtain ⟨sv, sseg, uv, useg, rfl, ok⟩ := hA
  refine Reads.of (args := [.pointer (some ⟨m, 0, none⟩)]) noNum mixed Try.func68 (e68 (some ⟨m, 0, none⟩) _) ?_
  unfold t68
  have hm : rbO m sv uv ∈ rbO m sv uv :: (sseg ++ useg) := List.mem_cons_self
  have hlen := ok.own.sl.els_len bsEnc_len (by decide)
  have hcnt := ok.cnt
  refine lp_of (fun k z L' => L' = rbO m sv uv :: (sseg ++ useg) ∧ ∃ (i : Nat) (s : Int), i ≤ ss.length ∧ k = ss.length - i ∧ s = eachF (bfree ss us) (fun (k : Int) _ _ => k + 1) 0 (ss.take i) ∧ z = (s, (i : Int), ()) ∧ 0 ≤ s ∧ s ≤ i) ss.length
    ⟨rfl, 0, 0, by omega, by omega, by simp [eachF], rfl, by omega, by omega⟩ ?_
  rintro k z L ⟨rfl, i, s, hi, rfl, hs, rfl, h0, h1⟩
  refine nilc_of rfl (ld_of sv (rb_s hm) (ifD_of (fun (hlt : (i : Int) < sv.len) => ?_) (fun (hge : ¬ (i : Int) < sv.len) => ?_)))
  · have hi' : i < ss.length := by omega
    have hst := each_take (bfree ss us) (fun (k : Int) _ _ => k + 1) 0 ss i hi'
    rw [← hs] at hst
    have hw : IntKind.i64.wrap ((i : Int) + 1) = ((i + 1 : Nat) : Int) := by rw [w64_id (by omega) (by omega)]; omega
    have hw2 : IntKind.i64.wrap (s + 1) = s + 1 := w64_id (by omega) (by omega)
    simp only [hw, hw2]
    refine cl_rd (rbfree_rd _ m ss us _ hA' (fun x hx => hx) (i : Int)) (bfree ss us i, ()) rfl (ifB_of (fun hf => ?_) (fun hf => ?_))
    · have hf' : bfree ss us (i : Int) = true := hf
      rw [if_pos hf'] at hst
      exact ⟨ss.length - (i + 1), by omega, rfl, i + 1, s + 1, by omega, rfl, hst.symm, rfl, by omega, by omega⟩
    · have hf' : ¬ bfree ss us (i : Int) = true := by rw [show bfree ss us (i : Int) = false from hf]; decide
      rw [if_neg hf'] at hst
      exact ⟨ss.length - (i + 1), by omega, rfl, i + 1, s, by omega, rfl, hst.symm, rfl, by omega, by omega⟩
  · obtain rfl : i = ss.length := by omega
    rw [List.take_length] at hs
    exact .of ⟨by unfold bfreeN; rw [hs], rfl⟩
theorem rbspread_rd (m : Nat) (ss : List BS) (us : List Int) (A : HList) (hA : RBX m ss us A) : Reads PP 72 #[.pointer (some ⟨m, 0, none⟩)] A (.int .i64 (bspread ss)) := by
  obtain ⟨sv, sseg, uv, useg, rfl, ok⟩ := hA
  refine Reads.of (args := [.pointer (some ⟨m, 0, none⟩)]) noNum mixed Try.func72 (e72 (some ⟨m, 0, none⟩) _) ?_
  unfold t72
  have hm : rbO m sv uv ∈ rbO m sv uv :: (sseg ++ useg) := List.mem_cons_self
  have hsl : Sl (rbO m sv uv :: (sseg ++ useg)) sv 3 (ss.flatMap bsEnc) := ok.own.sl.left.cons
  have hlen := hsl.els_len bsEnc_len (by decide)
  have hcnt := ok.cnt
  refine lp_of (fun k z L' => L' = rbO m sv uv :: (sseg ++ useg) ∧ ∃ (i : Nat) (s : BSp), i ≤ ss.length ∧ k = ss.length - i ∧ s = eachF (bgood ss) spStep (false, 0, 0) (ss.take i) ∧ z = (if s.1 = true then s.2.1 else -1, if s.1 = true then s.2.2 else -1, (i : Int), ()) ∧ (0 ≤ s.2.1 ∧ s.2.1 ≤ 1000000000 ∧ 0 ≤ s.2.2 ∧ s.2.2 ≤ 1000000000) ∧ (s.1 = false → s.2.1 = 0 ∧ s.2.2 = 0)) ss.length
    ⟨rfl, 0, (false, 0, 0), by omega, by omega, by simp [eachF], rfl, by decide, fun _ => ⟨rfl, rfl⟩⟩ ?_
  rintro k z L ⟨rfl, i, ⟨any, least, most⟩, hi, rfl, hs, rfl, hrg, hz⟩
  simp only at hrg hz
  refine nilc_of rfl (ld_of sv (rb_s hm) (ifD_of (fun (hlt : (i : Int) < sv.len) => ?_) (fun (hge : ¬ (i : Int) < sv.len) => ?_)))
  · have hi' : i < ss.length := by omega
    have hst := each_take (bgood ss) spStep (false, 0, 0) ss i hi'
    rw [← hs] at hst
    have hwr := ok.wr ss[i] (List.getElem_mem hi')
    have hi0 : (0 : Int) ≤ (i : Int) := by omega
    have hw : IntKind.i64.wrap ((i : Int) + 1) = ((i + 1 : Nat) : Int) := by rw [w64_id (by omega) (by omega)]; omega
    simp only [hw]
    obtain ⟨a, ha, hl⟩ := hsl.el bsEnc_len (by decide) hi'
    have hl2 : LdAt (Addr.add a ((i : Int).toNat * 3)) (bsEnc ss[i]) (rbO m sv uv :: (sseg ++ useg)) := by simpa using hl
    have hgd : bgood ss (i : Int) = !ss[i].bad := by
      unfold bgood
      rw [Int.toNat_natCast, List.getElem?_eq_getElem hi', decide_eq_true hi0]; rfl
    refine nilc_of rfl (ld_of sv (rb_s hm) (nilc_of ha (ixn_of hi0 hlt (ld_of ss[i].bad (hl2.one 1 rfl) (ifB_of (fun hb => ?_) (fun hb => ?_))))))
    · have hb' : ss[i].bad = true := hb
      rw [hgd, hb', if_neg (by decide)] at hst
      exact ⟨ss.length - (i + 1), by omega, rfl, i + 1, (any, least, most), by omega, rfl, hst.symm, rfl, hrg, hz⟩
    · have hb' : ss[i].bad = false := hb
      rw [hgd, hb', if_pos (by decide)] at hst
      have hrg' := sp_rng (s := (any, least, most)) hrg hwr (i : Int)
      rw [← hst] at hrg'
      generalize hxw : ss[i].wear = w at hwr
      have lw : LdAt (Addr.add a ((i : Int).toNat * 3)) [.int .i64 w] (rbO m sv uv :: (sseg ++ useg)) := by
        rw [← hxw]
        exact hl2.pre fun i u hu => by cases i with | zero => exact hu | succ i => exact absurd (show (none : Option Value) = some u from hu) (by simp)
      refine nilc_of rfl (ld_of sv (rb_s hm) (nilc_of ha (ixn_of hi0 hlt (ld_of w lw ?_))))
      have hE : spStep (any, least, most) (i : Int) ss[i] = (true, imin (if any = true then least else w) w, imax (if any = true then most else w) w) := by unfold spStep; rw [hxw]
      rw [hE] at hst
      refine jn_of (fun (y : RsV [.lf (.int .i64)]) L' => L' = rbO m sv uv :: (sseg ++ useg) ∧ y = (imin (if any = true then least else w) w, ())) ?_ ?_
      · rintro _ _ ⟨rfl, rfl⟩
        refine ⟨ss.length - (i + 1), by omega, rfl, i + 1, _, by omega, rfl, rfl, ?_, hrg', fun h => by rw [hst] at h; cases h⟩
        rw [hst]
        simp only [if_true]
        cases any with
        | false =>
          have : imax (-1) w = imax w w := by unfold imax; split <;> split <;> omega
          simp [this]
        | true => rfl
      intro j hj
      cases any with
      | false =>
        refine ifP (show (-1 : Int) < 0 by decide) (hj _ _ ⟨rfl, ?_⟩)
        have : imin w w = w := by unfold imin; split <;> rfl
        simp [this]
      | true =>
        refine ifN (show ¬ least < 0 by omega) (ifD_of (fun (hc : w < least) => hj _ _ ⟨rfl, ?_⟩) (fun (hc : ¬ w < least) => hj _ _ ⟨rfl, ?_⟩))
        · have : imin least w = w := by unfold imin; split <;> omega
          simp [this]
        · have : imin least w = least := by unfold imin; split <;> omega
          simp [this]
  · obtain rfl : i = ss.length := by omega
    rw [List.take_length] at hs
    have hs' : bsp ss = (any, least, most) := hs.symm
    unfold bspread
    rw [hs']
    cases any with
    | false =>
      obtain ⟨e1, e2⟩ := hz rfl
      subst e1 e2
      exact .of ⟨congrArg (Value.int .i64) (show IntKind.i64.wrap (-1 - -1) = (0 : Int) - 0 by decide), rfl⟩
    | true =>
      refine .of ⟨congrArg (Value.int .i64) ?_, rfl⟩
      show IntKind.i64.wrap (most - least) = most - least
      rw [w64_id (by omega) (by omega)]
theorem rboldest_rd (m : Nat) (ss : List BS) (us : List Int) (A : HList) (hA : RBX m ss us A) : Reads PP 66 #[.pointer (some ⟨m, 0, none⟩)] A (.tuple #[.int .i64 (us.headD 0), .bool (decide (us ≠ []))]) := by
  obtain ⟨sv, sseg, uv, useg, rfl, ok⟩ := hA
  refine Reads.of (args := [.pointer (some ⟨m, 0, none⟩)]) noNum mixed Try.func66 (e66 (some ⟨m, 0, none⟩) _) ?_
  unfold t66
  have hm : rbO m sv uv ∈ rbO m sv uv :: (sseg ++ useg) := List.mem_cons_self
  have husl : ISl (rbO m sv uv :: (sseg ++ useg)) uv .i64 us := ok.uown.sl.right.cons
  have hlen := husl.len
  refine nilc_of rfl (ld_of uv (rb_u hm) (ifE_of (fun h0 => .of ⟨?_, rfl⟩) (fun h0 => ?_)))
  · cases us with
    | nil => rfl
    | cons x r => rw [List.length_cons] at hlen; have h0' : (uv.len : Int) = 0 := h0; omega
  · cases us with
    | nil => exact absurd (show (uv.len : Int) = 0 by simp at hlen; omega) h0
    | cons x r =>
      obtain ⟨a, ha⟩ := husl.some (i := 0) (by simp)
      rw [List.length_cons] at hlen
      exact nilc_of rfl (ld_of uv (rb_u hm) (nilc_of ha (ixn_of (by decide) (by omega) (ld_of x (husl.rd (i := 0) (by simp) ha _ rfl) (.of ⟨by simp, rfl⟩)))))
theorem rbopened_cl (m : Nat) (ss : List BS) (us : List Int) (A : HList) (hA : RBX m ss us A) (hf : us.length < 100000) (n : Int) : CallF PP 74 #[.pointer (some ⟨m, 0, none⟩), .int .i64 n] A
    fun r L' => r = .bool (bopens ss us n) ∧ RBX m ss (if bopens ss us n = true then us ++ [n] else us) L' := by
  have hA' := hA
  obtain ⟨sv, sseg, uv, useg, rfl, ok⟩ := hA
  refine CallF.of (args := [.pointer (some ⟨m, 0, none⟩), .int .i64 n]) noNum mixed Try.func74 (e74 (some ⟨m, 0, none⟩) n _) ?_
  unfold t74
  have hm : rbO m sv uv ∈ rbO m sv uv :: (sseg ++ useg) := List.mem_cons_self
  refine cl_rd (rbfree_rd _ m ss us _ hA' (fun x hx => hx) n) (bfree ss us n, ()) rfl ?_
  cases hfr : bfree ss us n with
  | false =>
    have : bopens ss us n = false := by unfold bopens; rw [hfr]; rfl
    rw [this]
    exact ifT rfl (.of ⟨rfl, hA'⟩)
  | true =>
    obtain ⟨h0, hi, hb⟩ := bgood_at (bfree_good hfr).1
    have hsl : Sl (rbO m sv uv :: (sseg ++ useg)) sv 3 (ss.flatMap bsEnc) := ok.own.sl.left.cons
    have hlen := hsl.els_len bsEnc_len (by decide)
    obtain ⟨a, ha, hl⟩ := hsl.el bsEnc_len (by decide) hi
    have hop : bopens ss us n = !ss[n.toNat].dirty := by unfold bopens; rw [hfr, List.getElem?_eq_getElem hi]; rfl
    refine ifF rfl (nilc_of rfl (ld_of sv (rb_s hm) (nilc_of ha (ixn_of h0 (show n < sv.len by omega) (ld_of ss[n.toNat].dirty (hl.one 2 rfl) ?_)))))
    rw [hop]
    refine ifB_of (fun hd => ?_) (fun hd => ?_)
    · have hd' : ss[n.toNat].dirty = true := hd
      rw [hd']
      exact .of ⟨rfl, hA'⟩
    · have hd' : ss[n.toNat].dirty = false := hd
      rw [hd']
      refine nilc_of rfl (ld_of uv (rb_u hm) (nw_of fun n1 _ => ?_))
      have hul := ok.uown.sl.len
      rw [ivs_length] at hul
      have hsrc : ∀ {Z : HList}, Sl ((n1, Obj.cells #[.int .i64 n] eIn) :: Z) ⟨some ⟨n1, 0, none⟩, 1, 1⟩ 1 (ivs .i64 [n]) := fun {Z} => ⟨rfl, Nat.le_refl _, .inr ⟨_, rfl, ldB List.mem_cons_self rfl⟩⟩
      refine append_in elemIn srcIn ((n1, Obj.cells #[.int .i64 n] eIn) :: rbO m sv uv :: sseg) [] ok.uown (by simp) (.sl hsrc) (ivs_plain _ _) (by first | omega | (simp only; omega)) fun v2 seg2 hv2 own2 => nilc_of rfl ?_
      rw [← ivs_append] at own2
      refine st_of (n := m) (off := 1) (c := #[.slice sv.a sv.len sv.cap, .slice uv.a uv.len uv.cap]) (T := 116) (fz := (0, 0)) [(n1, Obj.cells #[.int .i64 n] eIn)] (sseg ++ seg2) rfl (by simp [rbO]) (by simp) (.inl (Nat.le_refl _)) #[.slice sv.a sv.len sv.cap, .slice v2.a v2.len v2.cap] rfl ?_
      exact .cons (.of ⟨rfl, sv, sseg, v2, seg2, rfl, ok.own, own2, ok.cnt, (by show (us ++ [n]).length ≤ 100000; rw [List.length_append]; simp only [List.length_cons, List.length_nil]; omega), ok.wr⟩)
theorem rbout_cl (m : Nat) (ss : List BS) (sv : SlV) (sseg : HList) (uv : SlV) (useg : HList) (us : List Int) (ok : RBOk sv sseg ss uv useg us) (n : Int) : CallF PP 115 #[.pointer (some ⟨m, 0, none⟩), .int .i64 n] (rbO m sv uv :: (sseg ++ useg))
    fun r L' => r = .tuple #[] ∧ ∃ u2 useg2, L' = rbO m sv u2 :: (sseg ++ useg2) ∧ RBOk sv sseg ss u2 useg2 (iwo us n) := by
  refine CallF.of (args := [.pointer (some ⟨m, 0, none⟩), .int .i64 n]) noNum mixed Try.func115 (e115 (some ⟨m, 0, none⟩) n _) ?_
  unfold t115
  have hfew := ok.few
  refine lp_of (fun k z L' => ∃ (i : Nat) (u : SlV) (seg J : HList), i ≤ us.length ∧ k = us.length - i ∧ z = (u, (i : Int), ()) ∧ L' = J ++ seg ++ (rbO m sv uv :: (sseg ++ useg)) ∧ Own u 1 eIn (ivs .i64 (iwo (us.take i) n)) seg) us.length
    ⟨0, ⟨none, 0, 0⟩, [], [], by omega, by omega, rfl, rfl, own_z⟩ ?_
  rintro k z L' ⟨i, u, seg, J, hi, rfl, rfl, rfl, own⟩
  have hm : rbO m sv uv ∈ J ++ seg ++ (rbO m sv uv :: (sseg ++ useg)) := by simp
  have husl : ISl (J ++ seg ++ (rbO m sv uv :: (sseg ++ useg))) uv .i64 us := ok.uown.sl.mono fun x hx => by simp [hx]
  have hlen := husl.len
  refine nilc_of rfl (ld_of uv (rb_u hm) (ifD_of (fun (hlt : (i : Int) < uv.len) => ?_) (fun (hge : ¬ (i : Int) < uv.len) => ?_)))
  · have hi' : i < us.length := by omega
    have hi0 : (0 : Int) ≤ (i : Int) := by omega
    obtain ⟨a, ha⟩ := husl.some hi'
    have hsn := iwo_snoc (us.take i) n us[i]
    rw [← List.take_succ_eq_append_getElem hi'] at hsn
    have hul := own.sl.len
    rw [ivs_length] at hul
    have hle := iwo_len (us.take i) n
    rw [List.length_take] at hle
    have hw : IntKind.i64.wrap ((i : Int) + 1) = ((i + 1 : Nat) : Int) := by rw [w64_id (by omega) (by omega)]; omega
    have ld := husl.rd hi' ha ((i : Int).toNat * 1) (by simp)
    refine nilc_of rfl (ld_of uv (rb_u hm) (nilc_of ha (ixn_of hi0 hlt (ld_of us[i] ld ?_))))
    refine ifNe_of (fun hne => ?_) (fun he => ?_)
    · rw [if_neg hne] at hsn
      refine nilc_of rfl (ld_of uv (rb_u hm) (nilc_of ha (ixn_of hi0 hlt (ld_of us[i] ld (nw_of fun n1 _ => ?_)))))
      generalize us[i] = y at hsn ⊢
      have hsrc : ∀ {Z : HList}, Sl ((n1, Obj.cells #[.int .i64 y] eIn) :: Z) ⟨some ⟨n1, 0, none⟩, 1, 1⟩ 1 (ivs .i64 [y]) := fun {Z} => ⟨rfl, Nat.le_refl _, .inr ⟨_, rfl, ldB List.mem_cons_self rfl⟩⟩
      refine append_in elemIn srcIn ((n1, Obj.cells #[.int .i64 y] eIn) :: J) (rbO m sv uv :: (sseg ++ useg)) own (by simp) (.sl hsrc) (ivs_plain _ _) (by first | omega | (simp only; omega)) fun v2 seg2 hv2 own2 => ?_
      rw [← ivs_append, ← hsn] at own2
      refine ⟨us.length - (i + 1), by omega, i + 1, v2, seg2, _, by omega, rfl, ?_, rfl, own2⟩
      show (v2, IntKind.i64.wrap ((i : Int) + 1), ()) = _
      rw [hw]
    · rw [if_pos he, List.append_nil] at hsn
      rw [← hsn] at own
      refine ⟨us.length - (i + 1), by omega, i + 1, u, seg, J, by omega, rfl, ?_, rfl, own⟩
      show (u, IntKind.i64.wrap ((i : Int) + 1), ()) = _
      rw [hw]
  · obtain rfl : i = us.length := by omega
    rw [List.take_length] at own
    refine nilc_of rfl (st_of (n := m) (off := 1) (c := #[.slice sv.a sv.len sv.cap, .slice uv.a uv.len uv.cap]) (T := 116) (fz := (0, 0)) (J ++ seg) (sseg ++ useg) rfl (by simp [rbO]) (by simp) (.inl (Nat.le_refl _)) #[.slice sv.a sv.len sv.cap, .slice u.a u.len u.cap] rfl ?_)
    refine .drop (A := rbO m sv u :: (sseg ++ seg)) (J := J ++ useg) ⟨rfl, u, seg, rfl, ok.own, own, ok.cnt, by have := iwo_len us n; omega, ok.wr⟩ ?_
    unfold rbO
    classical
    rw [List.perm_iff_count]
    intro x
    simp only [List.append_eq, List.cons_append, List.count_append, List.count_cons, List.count_nil]
    omega
end Go.Proofs.Ytefllmfoneocaaa
