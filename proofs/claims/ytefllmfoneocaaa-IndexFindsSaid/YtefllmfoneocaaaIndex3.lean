/-
  It is proved what the program's index does: New, Put, Drop, Move, Crowd, Len. There are no further conditions than those that each theorem names.
-/
import Derived.Test.YtefllmfoneocaaaIndex2
set_option linter.unusedVariables false
set_option linter.unusedSimpArgs false
namespace Go.Proofs.Ytefllmfoneocaaa
open Go.HL

theorem elemIr : ElemT PP tyIr tyIs 1 24 [.slice none 0 0] := elemT_of (by kernel_rfl) (by kernel_rfl) rfl (by decide) (by decide)
theorem inew_bad (L : HList) (sets ways : Int) (h : sets < 1 ∨ sets > 64 ∨ ways < 1 ∨ ways > 8) : Reads PP 57 #[.int .i64 sets, .int .i64 ways] L (.tuple #[.pointer none, .int .i64 30]) := by
  refine Reads.of (args := [.int .i64 sets, .int .i64 ways]) noNum mixed Try.func57 (e57 sets ways _) ?_
  unfold t57
  exact ifD_of (fun _ => .of ⟨rfl, rfl⟩) fun h1 => ifD_of (fun _ => .of ⟨rfl, rfl⟩) fun h2 => ifD_of (fun _ => .of ⟨rfl, rfl⟩) fun h3 => ifD_of (fun _ => .of ⟨rfl, rfl⟩) fun h4 => by omega
theorem rzeros : ∀ k : Nat, (List.replicate k ((⟨none, 0, 0⟩, [], []) : IRow)).flatMap rEnc = zeros [.slice none 0 0] k
  | 0 => rfl
  | k + 1 => by rw [List.replicate_succ, List.flatMap_cons, rzeros k]; simp [zeros, rEnc, List.replicate_succ]
theorem inew_cl (sets : Nat) (ways : Int) (h1 : 1 ≤ sets) (h2 : sets ≤ 64) (h3 : 1 ≤ ways) (h4 : ways ≤ 8) :
    CallF PP 57 #[.int .i64 sets, .int .i64 ways] [] fun r L' => ∃ m, r = .tuple #[.pointer (some ⟨m, 0, none⟩), .int .i64 0] ∧ IX m ways (List.replicate sets []) L' := by
  refine CallF.of (args := [.int .i64 sets, .int .i64 ways]) noNum mixed Try.func57 (e57 sets ways _) ?_
  unfold t57
  refine ifN (show ¬ (sets : Int) < 1 by omega) (ifN (show ¬ (sets : Int) > 64 by omega) (ifN (by omega) (ifN (by omega) ?_)))
  refine make_of elemIr (l := sets) (c := sets) (Nat.le_refl _) (by omega) fun n ob own _ _ => nw_of fun m _ => .of ⟨m, rfl, ⟨some ⟨n, 0, none⟩, sets, sets⟩, [(n, ob)], List.replicate sets (⟨none, 0, 0⟩, [], []), ?_, ⟨?_, ?_, ?_, by rw [List.length_replicate]; omega⟩, ?_⟩
  · unfold IA iO
    have : rsegs (List.replicate sets ((⟨none, 0, 0⟩, [], []) : IRow)) = [] := by
      unfold rsegs
      rw [List.flatMap_eq_nil_iff]
      intro x hx
      rw [List.eq_of_mem_replicate hx]
    rw [this]; rfl
  · have : (List.replicate sets ((⟨none, 0, 0⟩, [], []) : IRow)).flatMap rEnc = zeros [.slice none 0 0] sets := by
      exact rzeros sets
    rw [this]
    exact own
  · intro r hr
    rw [List.eq_of_mem_replicate hr]
    exact ⟨rfl, Nat.le_refl _, .inl ⟨rfl, rfl, rfl⟩⟩
  · intro r hr
    rw [List.eq_of_mem_replicate hr]
    exact Nat.zero_le _
  · unfold isets; rw [List.map_replicate]
def inew (h : Nat) (p : Pl) (freq : Int) : ISlot := ⟨ipart h, p.1, p.2.1, p.2.2.1, freq⟩
/-- What a set is when a place was put in, and who had to go. -/
def ifull (l : List ISlot) (ways : Int) : Bool := ((l.length : Int) == ways)
def iputL (l : List ISlot) (ways : Int) (h : Nat) (p : Pl) : List ISlot := (if ifull (ierase l (inm h p)) ways then (ierase l (inm h p)).drop 1 else ierase l (inm h p)) ++ [inew h p 0]
def igone (l : List ISlot) (ways : Int) (h : Nat) (p : Pl) : ISlot := if ifull (ierase l (inm h p)) ways then (ierase l (inm h p)).headD isz else isz
def iput (ss : List (List ISlot)) (ways : Int) (h : Nat) (p : Pl) : List (List ISlot) := iset ss h (iputL (irow ss h) ways h p)
theorem IX.few {m : Nat} {ways : Int} {ss : List (List ISlot)} {A : HList} (h : IX m ways ss A) (hs : Nat) : (irow ss hs).length ≤ 100 := by
  obtain ⟨sv, oseg, p, r, s, a, rfl, ok, ha, hl1, hl2, hp, hrow, hset⟩ := h.split hs
  rw [hrow]; exact ok.few r (by simp)
theorem IX.lt {m : Nat} {ways : Int} {ss : List (List ISlot)} {A : HList} (h : IX m ways ss A) (hs : Nat) : isi ss hs < ss.length := by
  obtain ⟨sv, oseg, rows, rfl, ok, rfl⟩ := h
  unfold isi
  have hsl : (isets rows).length = rows.length := List.length_map ..
  have := ok.pos
  exact Nat.mod_lt _ (by omega)
theorem irow_iset {ss : List (List ISlot)} {h : Nat} (hl : isi ss h < ss.length) (row : List ISlot) : irow (iset ss h row) h = row := by
  have hsl : (iset ss h row).length = ss.length := List.length_set ..
  have e : isi (iset ss h row) h = isi ss h := by unfold isi; rw [hsl]
  unfold irow
  rw [e]
  unfold iset
  rw [List.getD_eq_getElem?_getD, List.getElem?_set_self hl]; rfl
theorem iset_iset (ss : List (List ISlot)) (h : Nat) (r1 r2 : List ISlot) : iset (iset ss h r1) h r2 = iset ss h r2 := by
  have hsl : (iset ss h r1).length = ss.length := List.length_set ..
  have e : isi (iset ss h r1) h = isi ss h := by unfold isi; rw [hsl]
  unfold iset at *
  rw [e, List.set_set]
theorem iput_nil (L : HList) (h : Nat) (p : Pl) : Reads PP 48 #[.pointer none, .int .u64 h, .agg #[.int .i64 p.1, .int .i64 p.2.1, .int .i64 p.2.2.1]] L (.tuple #[.agg #[.int .i64 0, .int .i64 0, .int .i64 0], .bool false]) := by
  refine Reads.of (args := [.pointer none, .int .u64 h, .agg #[.int .i64 p.1, .int .i64 p.2.1, .int .i64 p.2.2.1]]) noNum mixed Try.func48 (e48 none h p _) ?_
  unfold t48
  refine nw_of fun n1 _ => nw_of fun n2 _ => ifT rfl (st_of [] _ rfl rfl (by simp) (.inl (Nat.le_refl _)) #[.int .i64 0, .int .i64 0, .int .i64 0] rfl ?_)
  exact ld_of (0, 0, 0, ()) (ldB List.mem_cons_self rfl) (.cons (.cons (.of ⟨rfl, rfl⟩)))
theorem head_at {l : List ISlot} (h : 0 < l.length) : l.headD isz = l[0] := by
  cases l with
  | nil => simp at h
  | cons y t => rfl
theorem iput_cl (m : Nat) (ways : Int) (ss : List (List ISlot)) (A : HList) (hA : IX m ways ss A) (hw : 1 ≤ ways) (h : Nat) (hh : h < 2 ^ 64) (pl : Pl) (hf : (irow ss h).length < 100) :
    CallF PP 48 #[.pointer (some ⟨m, 0, none⟩), .int .u64 h, .agg #[.int .i64 pl.1, .int .i64 pl.2.1, .int .i64 pl.2.2.1]] A
      fun v L' => (∃ g : ISlot, v = .tuple #[.agg #[.int .i64 g.b, .int .i64 g.p, .int .i64 g.e], .bool (ifull (ierase (irow ss h) (inm h pl)) ways)] ∧ g = igone (irow ss h) ways h pl) ∧ IX m ways (iput ss ways h pl) L' := by
  refine CallF.of (args := [.pointer (some ⟨m, 0, none⟩), .int .u64 h, .agg #[.int .i64 pl.1, .int .i64 pl.2.1, .int .i64 pl.2.2.1]]) noNum mixed Try.func48 (e48 (some ⟨m, 0, none⟩) h pl _) ?_
  unfold t48
  have hlt := hA.lt h
  refine nw_of fun n1 _ => nw_of fun n2 _ => ifF rfl ?_
  generalize ho1 : (n1, Obj.cells #[.int .i64 pl.1, .int .i64 pl.2.1, .int .i64 pl.2.2.1] 81) = o1
  generalize ho2 : (n2, Obj.cells #[.int .i64 0, .int .i64 0, .int .i64 0] 81) = o2
  have l1 : ∀ {Z : HList}, LdAt ⟨n1, 0, none⟩ [.int .i64 pl.1, .int .i64 pl.2.1, .int .i64 pl.2.2.1] (o2 :: o1 :: Z) := by subst ho1; exact ldB (n := n1) (c := #[.int .i64 pl.1, .int .i64 pl.2.1, .int .i64 pl.2.2.1]) (T := 81) (fz := (0, 0)) (by simp) rfl
  refine ld_of pl l1 (cl_in [o2, o1] [] (itake_cl m ways ss A hA h hh pl) (by simp) ?_)
  rintro _ A1 - ⟨⟨x, rfl, -⟩, hA1⟩
  refine ⟨((x.part, x.b, x.p, x.e, x.freq, ()), (ifind ss h pl).isSome, ()), rfl, ?_⟩
  have hrow1 := irow_iset hlt (ierase (irow ss h) (inm h pl))
  have hset1 : ∀ row', iset (iset ss h (ierase (irow ss h) (inm h pl))) h row' = iset ss h row' := fun row' => iset_iset ..
  generalize hl1 : ierase (irow ss h) (inm h pl) = l1' at hA1 hrow1 hset1 ⊢
  have hput : iput ss ways h pl = iset ss h ((if ifull l1' ways then l1'.drop 1 else l1') ++ [inew h pl 0]) := by unfold iput iputL; rw [hl1]
  have hgone : igone (irow ss h) ways h pl = if ifull l1' ways then l1'.headD isz else isz := by unfold igone; rw [hl1]
  have hl1f : l1'.length < 100 := by rw [← hl1]; exact Nat.lt_of_le_of_lt (List.length_eraseP_le ..) hf
  rw [hput, hgone]
  clear hput hgone hl1
  obtain ⟨sv, oseg, p, r, s, a, rfl, ok, ha, hs1, hs2, hp, hrow, hset⟩ := hA1.split h
  rw [hrow1] at hrow
  subst hrow
  have hg : iO m ways sv ∈ IA m ways sv oseg (p ++ r :: s) := List.mem_cons_self
  have hos : ∀ {X : HList}, (∀ x ∈ oseg, x ∈ X ++ IA m ways sv oseg (p ++ r :: s)) := fun x hx => by unfold IA; simp [hx]
  have hrs : ∀ {X : HList}, (∀ x ∈ r.2.2, x ∈ X ++ IA m ways sv oseg (p ++ r :: s)) := fun x hx => by unfold IA rsegs; simp [hx]
  refine cl_rd (iset2_rd _ m ways sv (by simp [hg]) a ha hs1 (by omega) h hh) (some (Addr.add a (h % sv.len)), ()) rfl (nw_of fun n3 _ => ?_)
  rw [hp]
  have lr : ∀ {o : Nat × Obj}, LdAt (Addr.add a p.length) [.slice r.1.a r.1.len r.1.cap] (o :: ([o2, o1] ++ IA m ways sv oseg (p ++ r :: s))) := fun {o} => i_row ok ha (hos (X := [o, o2, o1]))
  have lsl : ∀ {o : Nat × Obj}, Sl (o :: ([o2, o1] ++ IA m ways sv oseg (p ++ r :: s))) r.1 5 (r.2.1.flatMap iEnc) := fun {o} => i_slots ok (hrs (X := [o, o2, o1]))
  have hlen := (lsl (o := o1)).els_len iEnc_len (by decide)
  rw [List.append_nil]
  refine nilc_of rfl (nilc_of rfl (ld_of r.1 lr (ld_of ways (i_ways (sv := sv) (by simp [hg])) ?_)))
  have hv : ∀ r1 : Int, ((r.1.len : Int) == r1) = (((r.2.1.length : Nat) : Int) == r1) := fun r1 => by rw [hlen]
  refine jn_of (fun (_ : RsV []) L' => ∃ (g : ISlot) (A' : HList), L' = (n3, Obj.cells #[.int .i64 g.part, .int .i64 g.b, .int .i64 g.p, .int .i64 g.e, .int .i64 g.freq] 144) :: o2 :: o1 :: A' ∧ g = (if ifull r.2.1 ways then r.2.1.headD isz else isz) ∧ IX m ways (iset ss h (if ifull r.2.1 ways then r.2.1.drop 1 else r.2.1)) A') ?_ ?_
  · rintro ⟨⟩ _ ⟨g, A', rfl, hgg, hA'⟩
    have hrow2 := irow_iset hlt (if ifull r.2.1 ways then r.2.1.drop 1 else r.2.1)
    have hlen2 : (if ifull r.2.1 ways then r.2.1.drop 1 else r.2.1).length < 100 := by
      split
      · rw [List.length_drop]; omega
      · omega
    generalize (if ifull r.2.1 ways then r.2.1.drop 1 else r.2.1) = l2 at hA' hrow2 hlen2 ⊢
    have l1' : LdAt ⟨n1, 0, none⟩ [.int .i64 pl.1, .int .i64 pl.2.1, .int .i64 pl.2.2.1] ((n3, Obj.cells #[.int .i64 g.part, .int .i64 g.b, .int .i64 g.p, .int .i64 g.e, .int .i64 g.freq] 144) :: o2 :: o1 :: A') := (l1 (Z := A')).mono fun _ hx => List.mem_cons_of_mem _ hx
    refine ld_of pl l1' (cl_rd (iof_rd _ h hh pl) ((ipart h, pl.1, pl.2.1, pl.2.2.1, ()), ()) rfl ?_)
    refine cl_in [(n3, Obj.cells #[.int .i64 g.part, .int .i64 g.b, .int .i64 g.p, .int .i64 g.e, .int .i64 g.freq] 144), o2, o1] [] (iyoung_cl m ways _ A' hA' h hh (inew h pl 0) (by rw [hrow2]; exact hlen2)) (by simp) ?_
    rintro _ A2 - ⟨rfl, hA2⟩
    rw [hrow2, iset_iset] at hA2
    refine ⟨(), rfl, ld_of (g.b, g.p, g.e, ()) (ldB (n := n3) (c := #[.int .i64 g.part, .int .i64 g.b, .int .i64 g.p, .int .i64 g.e, .int .i64 g.freq]) (T := 144) (fz := (0, 0)) (by simp) rfl) ?_⟩
    subst ho2
    refine st_of (n := n2) (off := 0) (c := #[.int .i64 0, .int .i64 0, .int .i64 0]) (T := 81) (fz := (0, 0)) [(n3, Obj.cells #[.int .i64 g.part, .int .i64 g.b, .int .i64 g.p, .int .i64 g.e, .int .i64 g.freq] 144)] (o1 :: A2) rfl (by simp) (by simp) (.inl (Nat.le_refl _)) #[.int .i64 g.b, .int .i64 g.p, .int .i64 g.e] rfl ?_
    refine ld_of (g.b, g.p, g.e, ()) (ldB (n := n2) (c := #[.int .i64 g.b, .int .i64 g.p, .int .i64 g.e]) (T := 81) (fz := (0, 0)) (by simp) rfl) (.cons (.cons (.cons (.of ⟨⟨g, ?_, hgg⟩, hA2⟩))))
    rw [hv]; rfl
  intro j hj
  refine ifB_of (fun hfull => ?_) (fun hfull => ?_)
  · rw [hv] at hfull
    have hf2 : ifull r.2.1 ways = true := hfull
    have hways : ((r.2.1.length : Nat) : Int) = ways := by simpa using hfull
    have h0 : 0 < r.2.1.length := by omega
    obtain ⟨b, hb', hld⟩ := (lsl (o := (n3, Obj.cells #[.int .i64 0, .int .i64 0, .int .i64 0, .int .i64 0, .int .i64 0] 144))).el iEnc_len (by decide) h0
    have hx : r.2.1.headD isz = r.2.1[0] := head_at h0
    have hdel := idel_cl r.1 r.2.1 r.2.2 (ok.row r (by simp)) (by omega) 0 h0
    refine nilc_of rfl (ld_of r.1 lr (nilc_of hb' (ixn_of (by decide) (by omega) (ld_of (r.2.1[0].part, r.2.1[0].b, r.2.1[0].p, r.2.1[0].e, r.2.1[0].freq, ()) hld ?_))))
    clear hld
    generalize r.2.1[0] = x0 at hx ⊢
    refine st_of [] _ rfl rfl (by simp) (.inl (Nat.le_refl _)) #[.int .i64 x0.part, .int .i64 x0.b, .int .i64 x0.p, .int .i64 x0.e, .int .i64 x0.freq] rfl ?_
    rw [List.nil_append]
    refine nilc_of rfl (ld_of r.1 lr ?_)
    refine cl_in ((n3, Obj.cells #[.int .i64 x0.part, .int .i64 x0.b, .int .i64 x0.p, .int .i64 x0.e, .int .i64 x0.freq] 144) :: o2 :: o1 :: iO m ways sv :: (oseg ++ rsegs p)) (rsegs s) hdel (by unfold IA; rw [rsegs_at]; simp) ?_
    rintro _ seg2 - ⟨v2, rfl, own2⟩
    refine ⟨(v2, ()), rfl, nilc_of rfl ?_⟩
    have e3 : r.2.1.take 0 ++ r.2.1.drop (0 + 1) = r.2.1.drop 1 := by simp
    rw [e3] at own2
    refine ok.own.st ((n3, Obj.cells #[.int .i64 x0.part, .int .i64 x0.b, .int .i64 x0.p, .int .i64 x0.e, .int .i64 x0.freq] 144) :: o2 :: o1 :: [iO m ways sv]) (rsegs p ++ seg2 ++ rsegs s) (p := p.length) (ws := rEnc (v2, r.2.1.drop 1, seg2)) (by rw [flat_len rEnc_len, rEnc_len]; simp) (by rw [rEnc_len]; omega) ha rfl (by simp) fun oseg' own' => ?_
    have ok' := i_put ok (v2, r.2.1.drop 1, seg2) own' own2 (by rw [List.length_drop]; omega)
    refine hj _ _ ⟨x0, IA m ways sv oseg' (p ++ (v2, r.2.1.drop 1, seg2) :: s), ?_, by rw [if_pos hf2, hx], ?_⟩
    · unfold IA; rw [rsegs_at]; simp
    · rw [if_pos hf2]
      exact ⟨sv, oseg', _, rfl, ok', by rw [isets_at, ← hset1, hset]⟩
  · rw [hv] at hfull
    have hf2 : ¬ ifull r.2.1 ways = true := by unfold ifull; rw [hfull]; decide
    refine hj _ _ ⟨isz, IA m ways sv oseg (p ++ r :: s), rfl, by rw [if_neg hf2], ?_⟩
    rw [if_neg hf2]
    exact ⟨sv, oseg, _, rfl, ok, by rw [isets_at, ← hset1, hset]⟩
theorem idrop_nil (L : HList) (h : Nat) (p : Pl) : Reads PP 50 #[.pointer none, .int .u64 h, .agg #[.int .i64 p.1, .int .i64 p.2.1, .int .i64 p.2.2.1]] L (.bool false) := by
  refine Reads.of (args := [.pointer none, .int .u64 h, .agg #[.int .i64 p.1, .int .i64 p.2.1, .int .i64 p.2.2.1]]) noNum mixed Try.func50 (e50 none h p _) ?_
  unfold t50
  refine nw_of fun n1 _ => ld_of p (ldB List.mem_cons_self rfl) (cl_rd (itake_nil _ h p) ((0, 0, 0, 0, 0, ()), false, ()) rfl (nw_of fun n2 _ => st_of [] _ rfl rfl (by simp) (.inl (Nat.le_refl _)) #[.int .i64 0, .int .i64 0, .int .i64 0, .int .i64 0, .int .i64 0] rfl (.cons (.cons (.of ⟨rfl, rfl⟩)))))
theorem idrop_cl (m : Nat) (ways : Int) (ss : List (List ISlot)) (A : HList) (hA : IX m ways ss A) (h : Nat) (hh : h < 2 ^ 64) (pl : Pl) :
    CallF PP 50 #[.pointer (some ⟨m, 0, none⟩), .int .u64 h, .agg #[.int .i64 pl.1, .int .i64 pl.2.1, .int .i64 pl.2.2.1]] A
      fun v L' => v = .bool (ifind ss h pl).isSome ∧ IX m ways (iset ss h (ierase (irow ss h) (inm h pl))) L' := by
  refine CallF.of (args := [.pointer (some ⟨m, 0, none⟩), .int .u64 h, .agg #[.int .i64 pl.1, .int .i64 pl.2.1, .int .i64 pl.2.2.1]]) noNum mixed Try.func50 (e50 (some ⟨m, 0, none⟩) h pl _) ?_
  unfold t50
  refine nw_of fun n1 _ => ld_of pl (ldB List.mem_cons_self rfl) (cl_in [(n1, Obj.cells #[.int .i64 pl.1, .int .i64 pl.2.1, .int .i64 pl.2.2.1] 81)] [] (itake_cl m ways ss A hA h hh pl) (by simp) ?_)
  rintro _ A1 - ⟨⟨x, rfl, -⟩, hA1⟩
  refine ⟨((x.part, x.b, x.p, x.e, x.freq, ()), (ifind ss h pl).isSome, ()), rfl, nw_of fun n2 _ => st_of [] _ rfl rfl (by simp) (.inl (Nat.le_refl _)) #[.int .i64 x.part, .int .i64 x.b, .int .i64 x.p, .int .i64 x.e, .int .i64 x.freq] rfl ?_⟩
  rw [List.append_nil]
  exact .cons (.cons (.of ⟨rfl, hA1⟩))
/-- What the sets are when a place has become another one. -/
def imove (ss : List (List ISlot)) (h : Nat) (p q : Pl) : List (List ISlot) := match ifind ss h p with
  | none => ss
  | some x => iset ss h (ierase (ierase (irow ss h) (inm h p)) (inm h q) ++ [inew h q (imax (x.freq - 1) 0)])
theorem imove_nil (L : HList) (h : Nat) (p q : Pl) : Reads PP 52 #[.pointer none, .int .u64 h, .agg #[.int .i64 p.1, .int .i64 p.2.1, .int .i64 p.2.2.1], .agg #[.int .i64 q.1, .int .i64 q.2.1, .int .i64 q.2.2.1]] L (.bool false) := by
  refine Reads.of (args := [.pointer none, .int .u64 h, .agg #[.int .i64 p.1, .int .i64 p.2.1, .int .i64 p.2.2.1], .agg #[.int .i64 q.1, .int .i64 q.2.1, .int .i64 q.2.2.1]]) noNum mixed Try.func52 (e52 none h p q _) ?_
  unfold t52
  refine nw_of fun n1 _ => nw_of fun n2 _ => ld_of p (ldB (n := n1) (c := #[.int .i64 p.1, .int .i64 p.2.1, .int .i64 p.2.2.1]) (T := 81) (fz := (0, 0)) (by simp) rfl) (cl_rd (itake_nil _ h p) ((0, 0, 0, 0, 0, ()), false, ()) rfl (nw_of fun n3 _ => st_of [] _ rfl rfl (by simp) (.inl (Nat.le_refl _)) #[.int .i64 0, .int .i64 0, .int .i64 0, .int .i64 0, .int .i64 0] rfl (ifF rfl (.cons (.cons (.cons (.of ⟨rfl, rfl⟩)))))))
theorem imove_cl (m : Nat) (ways : Int) (ss : List (List ISlot)) (A : HList) (hA : IX m ways ss A) (h : Nat) (hh : h < 2 ^ 64) (p q : Pl) (hfr : ∀ s ∈ irow ss h, 0 ≤ s.freq ∧ s.freq ≤ 3) :
    CallF PP 52 #[.pointer (some ⟨m, 0, none⟩), .int .u64 h, .agg #[.int .i64 p.1, .int .i64 p.2.1, .int .i64 p.2.2.1], .agg #[.int .i64 q.1, .int .i64 q.2.1, .int .i64 q.2.2.1]] A
      fun v L' => v = .bool (ifind ss h p).isSome ∧ IX m ways (imove ss h p q) L' := by
  refine CallF.of (args := [.pointer (some ⟨m, 0, none⟩), .int .u64 h, .agg #[.int .i64 p.1, .int .i64 p.2.1, .int .i64 p.2.2.1], .agg #[.int .i64 q.1, .int .i64 q.2.1, .int .i64 q.2.2.1]]) noNum mixed Try.func52 (e52 (some ⟨m, 0, none⟩) h p q _) ?_
  unfold t52
  have hlt := hA.lt h
  have hsame := hA.same h
  refine nw_of fun n1 _ => nw_of fun n2 _ => ld_of p (ldB (n := n1) (c := #[.int .i64 p.1, .int .i64 p.2.1, .int .i64 p.2.2.1]) (T := 81) (fz := (0, 0)) (by simp) rfl) ?_
  generalize ho1 : (n1, Obj.cells #[.int .i64 p.1, .int .i64 p.2.1, .int .i64 p.2.2.1] 81) = o1
  generalize ho2 : (n2, Obj.cells #[.int .i64 q.1, .int .i64 q.2.1, .int .i64 q.2.2.1] 81) = o2
  have l2 : ∀ {Z : HList} {o : Nat × Obj}, LdAt ⟨n2, 0, none⟩ [.int .i64 q.1, .int .i64 q.2.1, .int .i64 q.2.2.1] (o :: o2 :: Z) := by subst ho2; exact ldB (n := n2) (c := #[.int .i64 q.1, .int .i64 q.2.1, .int .i64 q.2.2.1]) (T := 81) (fz := (0, 0)) (by simp) rfl
  refine cl_in [o2, o1] [] (itake_cl m ways ss A hA h hh p) (by simp) ?_
  rintro _ A1 - ⟨⟨x, rfl, hx⟩, hA1⟩
  refine ⟨((x.part, x.b, x.p, x.e, x.freq, ()), (ifind ss h p).isSome, ()), rfl, nw_of fun n3 _ => st_of [] _ rfl rfl (by simp) (.inl (Nat.le_refl _)) #[.int .i64 x.part, .int .i64 x.b, .int .i64 x.p, .int .i64 x.e, .int .i64 x.freq] rfl ?_⟩
  rw [List.append_nil, List.nil_append]
  generalize ho3 : (n3, Obj.cells #[.int .i64 x.part, .int .i64 x.b, .int .i64 x.p, .int .i64 x.e, .int .i64 x.freq] 144) = o3
  have l3 : ∀ {Z : HList}, LdAt (Addr.add ⟨n3, 0, none⟩ 4) [.int .i64 x.freq] (o3 :: Z) := by subst ho3; exact ldB List.mem_cons_self rfl
  cases hfd : ifind ss h p with
  | none =>
    refine ifF rfl (.cons (.cons (.cons (.of ⟨rfl, ?_⟩))))
    have hrow : ierase (irow ss h) (inm h p) = irow ss h := by
      rcases idx_cases (irow ss h) (inm h p) with ⟨_, _, e⟩ | ⟨j, hj, _, e, _⟩
      · exact e
      · unfold ifind at hfd; rw [hfd] at e; cases e
    unfold imove
    rw [hfd]
    rw [hrow, hsame] at hA1
    exact hA1
  | some y =>
    rw [hfd] at hx
    have hxy : x = y := hx
    subst hxy
    have hmem : x ∈ irow ss h := by unfold ifind at hfd; exact List.mem_of_find?_eq_some hfd
    have hfx := hfr x hmem
    have hrow1 := irow_iset hlt (ierase (irow ss h) (inm h p))
    refine ifT rfl (ld_of q l2 (cl_in [o3, o2, o1] [] (itake_cl m ways _ A1 hA1 h hh q) (by simp) ?_))
    rintro _ A2 - ⟨⟨y, rfl, -⟩, hA2⟩
    refine ⟨((y.part, y.b, y.p, y.e, y.freq, ()), (ifind _ h q).isSome, ()), rfl, ?_⟩
    rw [hrow1, iset_iset] at hA2
    refine ld_of q l2 (ld_of x.freq l3 (cl_rd (iof_rd _ h hh q) ((ipart h, q.1, q.2.1, q.2.2.1, ()), ()) rfl (keep_of l3 ?_)))
    rw [w64_id (by omega) (by omega)]
    have hrow2 := irow_iset hlt (ierase (ierase (irow ss h) (inm h p)) (inm h q))
    have hle : (ierase (ierase (irow ss h) (inm h p)) (inm h q)).length < 100 := by
      have h1 := hA.few h
      have h2 : (ierase (irow ss h) (inm h p)).length < (irow ss h).length := by
        rcases idx_cases (irow ss h) (inm h p) with ⟨_, e, _⟩ | ⟨j, hj, _, _, _, e⟩
        · unfold ifind at hfd; rw [hfd] at e; cases e
        · rw [e, List.length_append, List.length_take, List.length_drop]; omega
      have h3 : (ierase (ierase (irow ss h) (inm h p)) (inm h q)).length ≤ (ierase (irow ss h) (inm h p)).length := List.length_eraseP_le ..
      omega
    refine cl_in [o3, o2, o1] [] (iyoung_cl m ways _ A2 hA2 h hh (inew h q (imax (x.freq - 1) 0)) (by rw [hrow2]; exact hle)) (by simp) ?_
    rintro _ A3 - ⟨rfl, hA3⟩
    rw [hrow2, iset_iset] at hA3
    rw [List.append_nil]
    refine ⟨(), rfl, .cons (.cons (.cons (.of ⟨rfl, ?_⟩)))⟩
    unfold imove
    rw [hfd]
    exact hA3
theorem icrowd_rd (m : Nat) (ways : Int) (ss : List (List ISlot)) (A : HList) (hA : IX m ways ss A) (h : Nat) (hh : h < 2 ^ 64) :
    Reads PP 54 #[.pointer (some ⟨m, 0, none⟩), .int .u64 h] A (.int .i64 ((irow ss h).length : Int)) := by
  obtain ⟨sv, oseg, p, r, s, a, rfl, ok, ha, hl1, hl2, hp, hrow, hset⟩ := hA.split h
  refine Reads.of (args := [.pointer (some ⟨m, 0, none⟩), .int .u64 h]) noNum mixed Try.func54 (e54 (some ⟨m, 0, none⟩) h _) ?_
  unfold t54
  refine ifF rfl (cl_rd (iset2_rd _ m ways sv (by unfold IA; simp) a ha hl1 (by omega) h hh) (some (Addr.add a (h % sv.len)), ()) rfl ?_)
  rw [hp]
  have hlen := (ok.row r (by simp)).sl.els_len iEnc_len (by decide)
  refine nilc_of rfl (ld_of r.1 (i_row ok ha (fun x hx => by unfold IA; simp [hx])) (.of ⟨?_, rfl⟩))
  rw [hrow, hlen]
theorem icrowd_nil (L : HList) (h : Nat) : Reads PP 54 #[.pointer none, .int .u64 h] L (.int .i64 0) := by
  refine Reads.of (args := [.pointer none, .int .u64 h]) noNum mixed Try.func54 (e54 none h _) ?_
  unfold t54
  exact ifT rfl (.of ⟨rfl, rfl⟩)
def ilen (ss : List (List ISlot)) : Nat := (ss.map List.length).sum
theorem ilen_take (ss : List (List ISlot)) (i : Nat) (hi : i < ss.length) : ilen (ss.take (i + 1)) = ilen (ss.take i) + ss[i].length := by
  unfold ilen
  rw [List.take_succ_eq_append_getElem hi, List.map_append, List.sum_append]; simp
theorem ilen_nil (L : HList) : Reads PP 55 #[.pointer none] L (.int .i64 0) := by
  refine Reads.of (args := [.pointer none]) noNum mixed Try.func55 (e55 none _) ?_
  unfold t55
  exact ifF rfl (.of ⟨rfl, rfl⟩)
theorem ilen_rd (m : Nat) (ways : Int) (ss : List (List ISlot)) (A : HList) (hA : IX m ways ss A) : Reads PP 55 #[.pointer (some ⟨m, 0, none⟩)] A (.int .i64 (ilen ss : Int)) := by
  obtain ⟨sv, oseg, rows, rfl, ok, rfl⟩ := hA
  refine Reads.of (args := [.pointer (some ⟨m, 0, none⟩)]) noNum mixed Try.func55 (e55 (some ⟨m, 0, none⟩) _) ?_
  unfold t55
  have hsl : Sl (IA m ways sv oseg rows) sv 1 (rows.flatMap rEnc) := ok.own.sl.left.cons
  have hlen := hsl.els_len rEnc_len (by decide)
  have hpos := ok.pos
  refine ifT rfl (nilc_of rfl (ld_of sv (i_sets (ways := ways) List.mem_cons_self) ?_))
  refine lp_of (fun k z L' => L' = IA m ways sv oseg rows ∧ ∃ i : Nat, i ≤ rows.length ∧ k = rows.length - i ∧ z = (((ilen (isets (rows.take i)) : Nat) : Int), (i : Int), ()) ∧ ilen (isets (rows.take i)) ≤ 100 * i) rows.length ⟨rfl, 0, by omega, by omega, rfl, by simp [ilen, isets]⟩ ?_
  rintro k z L ⟨rfl, i, hi, rfl, rfl, hb⟩
  refine ifD_of (fun (hlt : (i : Int) < sv.len) => ?_) (fun (hge : ¬ (i : Int) < sv.len) => ?_)
  · have hi' : i < rows.length := by omega
    obtain ⟨a, ha, hld⟩ := hsl.el rEnc_len (by decide) hi'
    have hrl := (ok.row rows[i] (List.getElem_mem hi')).sl.els_len iEnc_len (by decide)
    have hrf := ok.few rows[i] (List.getElem_mem hi')
    refine nilc_of ha (ixn_of (show (0 : Int) ≤ i by omega) hlt (ld_of rows[i].1 (by rw [Int.toNat_natCast]; exact hld) ?_))
    have hs : ilen (isets (rows.take (i + 1))) = ilen (isets (rows.take i)) + rows[i].2.1.length := by
      unfold isets
      have := ilen_take (rows.map fun r => r.2.1) i (by rw [List.length_map]; exact hi')
      rw [← List.map_take, ← List.map_take, List.getElem_map] at this
      exact this
    refine ⟨rows.length - (i + 1), by omega, rfl, i + 1, by omega, rfl, ?_, by omega⟩
    show (IntKind.i64.wrap (((ilen (isets (rows.take i)) : Nat) : Int) + (rows[i].1.len : Int)), IntKind.i64.wrap ((i : Int) + 1), ()) = _
    rw [w64_id (n := ((ilen (isets (rows.take i)) : Nat) : Int) + (rows[i].1.len : Int)) (by omega) (by omega), w64_id (n := (i : Int) + 1) (by omega) (by omega), hs, hrl]
    rfl
  · obtain rfl : i = rows.length := by omega
    rw [List.take_length]
    exact .of ⟨rfl, rfl⟩
end Go.Proofs.Ytefllmfoneocaaa
