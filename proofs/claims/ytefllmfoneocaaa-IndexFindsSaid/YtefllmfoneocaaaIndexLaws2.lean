/-
  It is proved that the laws IndexNil and IndexFinds return true for every input. There are no further conditions than those that each theorem names.
-/
import Derived.Test.YtefllmfoneocaaaIndexLaws
set_option linter.unusedVariables false
set_option linter.unusedSimpArgs false
namespace Go.Proofs.Ytefllmfoneocaaa
open Go.HL

abbrev IAct := Int × Int × Pl × Pl × Unit
def iactEnc (x : IAct) : List Value := [.int .i64 x.1, .int .u64 x.2.1, .int .i64 x.2.2.1.1, .int .i64 x.2.2.1.2.1, .int .i64 x.2.2.1.2.2.1, .int .i64 x.2.2.2.1.1, .int .i64 x.2.2.2.1.2.1, .int .i64 x.2.2.2.1.2.2.1]
theorem iact_len (x : IAct) : (iactEnc x).length = 8 := rfl
def ah (x : IAct) : Nat := x.2.1.toNat
structure IActs (L : HList) (v : SlV) (l : List IAct) : Prop where
  sl : Sl L v 8 (l.flatMap iactEnc)
  wf : ∀ x ∈ l, 0 ≤ x.2.1 ∧ x.2.1 < 2 ^ 64
theorem IActs.right {L R : HList} {v : SlV} {l : List IAct} (h : IActs L v l) : IActs (R ++ L) v l := ⟨h.sl.right, h.wf⟩
theorem IActs.cons {L : HList} {o : Nat × Obj} {v : SlV} {l : List IAct} (h : IActs L v l) : IActs (o :: L) v l := ⟨h.sl.cons, h.wf⟩
theorem IActs.len {L : HList} {v : SlV} {l : List IAct} (h : IActs L v l) : v.len = l.length := h.sl.els_len iact_len (by decide)
theorem ah_int {x : IAct} (h : 0 ≤ x.2.1 ∧ x.2.1 < 2 ^ 64) : ((ah x : Nat) : Int) = x.2.1 ∧ ah x < 2 ^ 64 := by unfold ah; omega
theorem IActs.at' {L : HList} {v : SlV} {l : List IAct} (h : IActs L v l) {i : Nat} (hi : i < l.length) : ∃ a, v.a = some a ∧ LdAt (Addr.add a ((i : Int).toNat * 8)) [.int .i64 l[i].1] L ∧ LdAt (Addr.add (Addr.add a ((i : Int).toNat * 8)) 1) [.int .u64 (ah l[i])] L ∧
    LdAt (Addr.add (Addr.add a ((i : Int).toNat * 8)) 2) (plEnc l[i].2.2.1) L ∧ LdAt (Addr.add a ((i : Int).toNat * 8)) (iactEnc l[i]) L := by
  obtain ⟨a, ha, hl⟩ := h.sl.el iact_len (by decide) hi
  rw [Int.toNat_natCast]
  have e := (ah_int (h.wf _ (List.getElem_mem hi))).1
  refine ⟨a, ha, hl.pre fun i u hu => by cases i with | zero => exact hu | succ i => simp at hu, by rw [e]; exact hl.one 1 rfl, hl.sub 2 fun i u hu => ?_, hl⟩
  rcases i with _ | _ | _ | i
  · exact hu
  · exact hu
  · exact hu
  · exact absurd (show (none : Option Value) = some u from hu) (by simp)
theorem ido_cl (m : Nat) (ways : Int) (ss : List (List ISlot)) (A : HList) (hA : IX m ways ss A) (hw : 1 ≤ ways ∧ ways ≤ 8) (inv : IInv ways ss) (x : IAct) (hx : 0 ≤ x.2.1 ∧ x.2.1 < 2 ^ 64) :
    CallF PP 58 #[.pointer (some ⟨m, 0, none⟩), .agg #[.int .i64 x.1, .int .u64 x.2.1, .int .i64 x.2.2.1.1, .int .i64 x.2.2.1.2.1, .int .i64 x.2.2.1.2.2.1, .int .i64 x.2.2.2.1.1, .int .i64 x.2.2.2.1.2.1, .int .i64 x.2.2.2.1.2.2.1]] A
      fun v L' => v = .tuple #[] ∧ IX m ways (iact ways ss x.1 (ah x) x.2.2.1 x.2.2.2.1) L' := by
  obtain ⟨eh, hh⟩ := ah_int hx
  obtain ⟨k, h0, p, q, u⟩ := x
  simp only at eh hh ⊢
  generalize ah (k, h0, p, q, u) = h at eh hh ⊢
  subst eh
  refine CallF.of (args := [.pointer (some ⟨m, 0, none⟩), .agg #[.int .i64 k, .int .u64 h, .int .i64 p.1, .int .i64 p.2.1, .int .i64 p.2.2.1, .int .i64 q.1, .int .i64 q.2.1, .int .i64 q.2.2.1]]) noNum mixed Try.func58 (e58 (some ⟨m, 0, none⟩) (k, h, p.1, p.2.1, p.2.2.1, q.1, q.2.1, q.2.2.1, ()) _) ?_
  unfold t58
  have hlt := hA.lt h
  have hg := inv.row hlt
  have hfew : (irow ss h).length < 100 := by have := hg.len; omega
  refine nw_of fun n1 _ => ?_
  generalize ho : (n1, Obj.cells #[.int .i64 k, .int .u64 h, .int .i64 p.1, .int .i64 p.2.1, .int .i64 p.2.2.1, .int .i64 q.1, .int .i64 q.2.1, .int .i64 q.2.2.1] 83) = o1
  have l0 : ∀ {Z : HList}, LdAt ⟨n1, 0, none⟩ [.int .i64 k] (o1 :: Z) := by subst ho; exact ldB List.mem_cons_self rfl
  have l1 : ∀ {Z : HList}, LdAt (Addr.add ⟨n1, 0, none⟩ 1) [.int .u64 h] (o1 :: Z) := by subst ho; exact ldB List.mem_cons_self rfl
  have l2 : ∀ {Z : HList}, LdAt (Addr.add ⟨n1, 0, none⟩ 2) (plEnc p) (o1 :: Z) := by subst ho; exact ldB List.mem_cons_self rfl
  have l5 : ∀ {Z : HList}, LdAt (Addr.add ⟨n1, 0, none⟩ 5) (plEnc q) (o1 :: Z) := by subst ho; exact ldB List.mem_cons_self rfl
  clear ho
  unfold iact
  refine ld_of k l0 (ifE_of (fun hk => ?_) (fun hk0 => ifE_of (fun hk => ?_) (fun hk1 => ifE_of (fun hk => ?_) (fun hk2 => ifE_of (fun hk => ?_) (fun hk3 => ?_)))))
  · rw [if_pos hk]
    refine ld_of h l1 (ld_of p l2 (cl_in [o1] [] (iput_cl m ways ss A hA hw.1 h hh p hfew) (by simp) ?_))
    rintro _ A' - ⟨⟨g, rfl, -⟩, hA'⟩
    rw [List.append_nil]
    exact ⟨((g.b, g.p, g.e, ()), _, ()), rfl, .cons (.of ⟨rfl, hA'⟩)⟩
  · subst hk
    rw [if_neg (by decide), if_pos rfl]
    refine ld_of h l1 (cl_in [o1] [] (ifind_cl m ways ss A hA h hh) (by simp) ?_)
    rintro _ A' - ⟨v, seg, rfl, rfl, own⟩
    rw [List.append_nil]
    exact ⟨(v, ()), rfl, .cons (.app (.app (.of ⟨rfl, hA⟩)))⟩
  · subst hk
    rw [if_neg (by decide), if_neg (by decide), if_pos rfl]
    refine ld_of h l1 (ld_of p l2 (cl_in [o1] [] (idrop_cl m ways ss A hA h hh p) (by simp) ?_))
    rintro _ A' - ⟨rfl, hA'⟩
    rw [List.append_nil]
    exact ⟨(_, ()), rfl, .cons (.of ⟨rfl, hA'⟩)⟩
  · subst hk
    rw [if_neg (by decide), if_neg (by decide), if_neg (by decide), if_pos rfl]
    refine ld_of h l1 (ld_of p l2 (cl_in [o1] [] (ihit_cl m ways ss A hA h hh p hg.fr) (by simp) ?_))
    rintro _ A' - ⟨rfl, hA'⟩
    rw [List.append_nil]
    exact ⟨(_, ()), rfl, .cons (.of ⟨rfl, hA'⟩)⟩
  · rw [if_neg hk0, if_neg hk1, if_neg hk2, if_neg hk3]
    refine ld_of h l1 (ld_of p l2 (ld_of q l5 (cl_in [o1] [] (imove_cl m ways ss A hA h hh p q hg.fr) (by simp) ?_)))
    rintro _ A' - ⟨rfl, hA'⟩
    rw [List.append_nil]
    exact ⟨(_, ()), rfl, .cons (.of ⟨rfl, hA'⟩)⟩
theorem law_IndexNil (L : HList) (x : IAct) (hx : 0 ≤ x.2.1 ∧ x.2.1 < 2 ^ 64) :
    Reads PP 10 #[.agg #[.int .i64 x.1, .int .u64 x.2.1, .int .i64 x.2.2.1.1, .int .i64 x.2.2.1.2.1, .int .i64 x.2.2.1.2.2.1, .int .i64 x.2.2.2.1.1, .int .i64 x.2.2.2.1.2.1, .int .i64 x.2.2.2.1.2.2.1]] L (.bool true) := by
  obtain ⟨eh, hh⟩ := ah_int hx
  obtain ⟨k, h0, p, q, u⟩ := x
  simp only at eh hh ⊢
  generalize ah (k, h0, p, q, u) = h at eh hh
  subst eh
  refine Reads.of (args := [.agg #[.int .i64 k, .int .u64 h, .int .i64 p.1, .int .i64 p.2.1, .int .i64 p.2.2.1, .int .i64 q.1, .int .i64 q.2.1, .int .i64 q.2.2.1]]) noNum mixed Try.func10 (e10 (k, h, p.1, p.2.1, p.2.2.1, q.1, q.2.1, q.2.2.1, ()) _) ?_
  unfold t10
  refine nw_of fun n1 _ => ?_
  generalize ho : (n1, Obj.cells #[.int .i64 k, .int .u64 h, .int .i64 p.1, .int .i64 p.2.1, .int .i64 p.2.2.1, .int .i64 q.1, .int .i64 q.2.1, .int .i64 q.2.2.1] 83) = o1
  have l1 : ∀ {Z : HList}, o1 ∈ Z → LdAt (Addr.add ⟨n1, 0, none⟩ 1) [.int .u64 h] Z := by subst ho; exact fun hm => ldB hm rfl
  have l2 : ∀ {Z : HList}, o1 ∈ Z → LdAt (Addr.add ⟨n1, 0, none⟩ 2) (plEnc p) Z := by subst ho; exact fun hm => ldB hm rfl
  have l5 : ∀ {Z : HList}, o1 ∈ Z → LdAt (Addr.add ⟨n1, 0, none⟩ 5) (plEnc q) Z := by subst ho; exact fun hm => ldB hm rfl
  clear ho
  refine ld_of h (l1 (by simp)) (ld_of p (l2 (by simp)) (cl_rd (iput_nil _ h p) ((0, 0, 0, ()), false, ()) rfl (nw_of fun n2 _ => st_of [] _ rfl rfl (by simp) (.inl (Nat.le_refl _)) #[.int .i64 0, .int .i64 0, .int .i64 0] rfl (ld_of (0, 0, 0, ()) (ldB List.mem_cons_self rfl) (eqPl _ _ _ _ _ _ (ifT (by decide) (ifT rfl ?_)))))))
  refine ld_of h (l1 (by simp)) (cl_rd (ifind2_nil _ h) (⟨none, 0, 0⟩, ()) rfl (ifT rfl ?_))
  refine ld_of h (l1 (by simp)) (ld_of p (l2 (by simp)) (cl_rd (idrop_nil _ h p) (false, ()) rfl (ifT rfl ?_)))
  refine ld_of h (l1 (by simp)) (ld_of p (l2 (by simp)) (cl_rd (ihit_nil _ h p) (false, ()) rfl (ifT rfl ?_)))
  refine ld_of h (l1 (by simp)) (ld_of p (l2 (by simp)) (ld_of q (l5 (by simp)) (cl_rd (imove_nil _ h p q) (false, ()) rfl (ifT rfl ?_))))
  refine ld_of h (l1 (by simp)) (ld_of p (l2 (by simp)) (ld_of h (l1 (by simp)) (cl_rd (ifreq_nil _ h p) ((0 : Int), ()) rfl (keep_of (l1 (by simp)) (cl_rd (icrowd_nil _ h) ((0 : Int), ()) rfl (cl_rd (ilen_nil _) ((0 : Int), ()) rfl (ifT rfl ?_)))))))
  exact cl_rd (indexes_rd _) (true, ()) rfl (.cons (.cons (.of ⟨rfl, rfl⟩)))
abbrev plWf (p : Pl) : Prop := intWf .i64 p.1 ∧ intWf .i64 p.2.1 ∧ intWf .i64 p.2.2.1 ∧ True
abbrev iactWf (x : IAct) : Prop := intWf .i64 x.1 ∧ intWf .u64 x.2.1 ∧ plWf x.2.2.1 ∧ plWf x.2.2.2.1 ∧ True
theorem row_IndexNil (W : World) (x0 : IAct) (w0 : iactWf x0) :
    Reads PP 10 #[.agg #[.int .i64 x0.1, .int .u64 x0.2.1, .int .i64 x0.2.2.1.1, .int .i64 x0.2.2.1.2.1, .int .i64 x0.2.2.1.2.2.1, .int .i64 x0.2.2.2.1.1, .int .i64 x0.2.2.2.1.2.1, .int .i64 x0.2.2.2.1.2.2.1]] (allB W) (.bool true) := by
  refine law_IndexNil _ x0 ?_
  obtain ⟨h, hh⟩ := wf_u64 w0.2.1
  rw [hh]
  have := h.isLt
  omega
end Go.Proofs.Ytefllmfoneocaaa
