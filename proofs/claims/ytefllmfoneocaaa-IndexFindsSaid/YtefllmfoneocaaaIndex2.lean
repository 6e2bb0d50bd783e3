/-
  It is proved what the program's index does: take, young. There are no further conditions than those that each theorem names.
-/
import Derived.Test.YtefllmfoneocaaaIndex
set_option linter.unusedVariables false
set_option linter.unusedSimpArgs false
namespace Go.Proofs.Ytefllmfoneocaaa
open Go.HL

/-- A set: its slice, its slots, its block. -/
abbrev IRow := SlV × List ISlot × HList
def rEnc (r : IRow) : List Value := [.slice r.1.a r.1.len r.1.cap]
theorem rEnc_len (r : IRow) : (rEnc r).length = 1 := rfl
def rsegs (rows : List IRow) : HList := rows.flatMap fun r => r.2.2
theorem rsegs_at (p s : List IRow) (r : IRow) : rsegs (p ++ r :: s) = rsegs p ++ (r.2.2 ++ rsegs s) := by simp [rsegs]
def iO (m : Nat) (ways : Int) (sv : SlV) : Nat × Obj := (m, Obj.cells #[.int .i64 ways, .slice sv.a sv.len sv.cap] 152)
def IA (m : Nat) (ways : Int) (sv : SlV) (oseg : HList) (rows : List IRow) : HList := iO m ways sv :: (oseg ++ rsegs rows)
structure IOk (sv : SlV) (oseg : HList) (rows : List IRow) : Prop where
  own : Own sv 1 tyIs (rows.flatMap rEnc) oseg
  row : ∀ r ∈ rows, Own r.1 5 eIs (r.2.1.flatMap iEnc) r.2.2
  few : ∀ r ∈ rows, r.2.1.length ≤ 100
  pos : 1 ≤ rows.length ∧ rows.length ≤ 64
def isets (rows : List IRow) : List (List ISlot) := rows.map fun r => r.2.1
/-- The objects of an index that has these sets. -/
def IX (m : Nat) (ways : Int) (ss : List (List ISlot)) (A : HList) : Prop := ∃ sv oseg rows, A = IA m ways sv oseg rows ∧ IOk sv oseg rows ∧ ss = isets rows
section
variable {L : HList} {m : Nat} {ways : Int} {sv : SlV}
theorem i_ways (h : iO m ways sv ∈ L) : LdAt ⟨m, 0, none⟩ [.int .i64 ways] L := ldB (by unfold iO at h; exact h) rfl
theorem i_sets (h : iO m ways sv ∈ L) : LdAt ⟨m, 1, none⟩ [.slice sv.a sv.len sv.cap] L := ldB (by unfold iO at h; exact h) rfl
end
theorem iset2_rd (L : HList) (m : Nat) (ways : Int) (sv : SlV) (hm : iO m ways sv ∈ L) (a : Addr) (ha : sv.a = some a) (h1 : 1 ≤ sv.len) (h2 : sv.len ≤ 1000) (h : Nat) (hh : h < 2 ^ 64) :
    Reads PP 90 #[.pointer (some ⟨m, 0, none⟩), .int .u64 h] L (.pointer (some (Addr.add a (h % sv.len)))) := by
  refine Reads.of (args := [.pointer (some ⟨m, 0, none⟩), .int .u64 h]) noNum mixed Try.func90 (e90 (some ⟨m, 0, none⟩) h _) ?_
  unfold t90
  have hm2 := Nat.mod_lt h (show sv.len > 0 by omega)
  refine nilc_of rfl (nilc_of rfl (ld_of sv (i_sets hm) (ld_of sv (i_sets hm) (cl_rd (iset_rd _ h sv.len hh h1 h2) (((h % sv.len : Nat) : Int), ()) rfl (keep_of (i_sets hm) (nilc_of ha (ixn_of (show (0 : Int) ≤ ((h % sv.len : Nat) : Int) by omega) (show ((h % sv.len : Nat) : Int) < sv.len by omega) ?_)))))))
  rw [Int.toNat_natCast, Nat.mul_one]
  exact .of ⟨rfl, rfl⟩
/-! ### what is asked of the sets -/
def isi (ss : List (List ISlot)) (h : Nat) : Nat := h % ss.length
def irow (ss : List (List ISlot)) (h : Nat) : List ISlot := ss.getD (isi ss h) []
def iset (ss : List (List ISlot)) (h : Nat) (row : List ISlot) : List (List ISlot) := ss.set (isi ss h) row
def ifind (ss : List (List ISlot)) (h : Nat) (p : Pl) : Option ISlot := (irow ss h).find? fun s => decide (s.nm = inm h p)
def ierase (l : List ISlot) (nm : IName) : List ISlot := l.eraseP fun s => decide (s.nm = nm)
theorem idx_cases (l : List ISlot) (nm : IName) : (l.findIdx? (fun s => decide (s.nm = nm)) = none ∧ l.find? (fun s => decide (s.nm = nm)) = none ∧ ierase l nm = l) ∨
    ∃ (j : Nat) (hj : j < l.length), l.findIdx? (fun s => decide (s.nm = nm)) = some j ∧ l.find? (fun s => decide (s.nm = nm)) = some l[j] ∧ l[j].nm = nm ∧ ierase l nm = l.take j ++ l.drop (j + 1) := by
  cases h : l.findIdx? (fun s => decide (s.nm = nm)) with
  | none =>
    rw [List.findIdx?_eq_none_iff] at h
    refine .inl ⟨rfl, ?_, List.eraseP_of_forall_not (fun a ha => by have := h a ha; simp only [this]; decide)⟩
    rw [List.find?_eq_none]
    intro x hx
    rw [h x hx]; decide
  | some j =>
    rw [List.findIdx?_eq_some_iff_getElem] at h
    obtain ⟨hj, h1, h2⟩ := h
    have hl : l = l.take j ++ l[j] :: l.drop (j + 1) := by rw [← List.drop_eq_getElem_cons hj, List.take_append_drop]
    have hb : ∀ b ∈ l.take j, ¬ decide (b.nm = nm) = true := by
      intro b hb
      obtain ⟨i, hi, rfl⟩ := List.mem_take_iff_getElem.1 hb
      have := h2 i (by omega)
      simpa using this
    refine .inr ⟨j, hj, rfl, ?_, by simpa using h1, ?_⟩
    · rw [List.find?_eq_some_iff_append]
      exact ⟨h1, l.take j, l.drop (j + 1), hl, fun a ha => by have := hb a ha; simpa using this⟩
    · unfold ierase
      conv => lhs; rw [hl]
      rw [List.eraseP_append_right _ hb, List.eraseP_cons_of_pos (p := fun s : ISlot => decide (s.nm = nm)) h1]
theorem IX.split {m : Nat} {ways : Int} {ss : List (List ISlot)} {A : HList} (h : IX m ways ss A) (hs : Nat) : ∃ sv oseg p r s a, A = IA m ways sv oseg (p ++ r :: s) ∧ IOk sv oseg (p ++ r :: s) ∧ sv.a = some a ∧ 1 ≤ sv.len ∧ sv.len ≤ 64 ∧ hs % sv.len = p.length ∧ irow ss hs = r.2.1 ∧
    (∀ row', iset ss hs row' = isets p ++ row' :: isets s) := by
  obtain ⟨sv, oseg, rows, rfl, ok, rfl⟩ := h
  have hlen := ok.own.sl.els_len rEnc_len (by decide)
  have hpos := ok.pos
  have hi : hs % rows.length < rows.length := Nat.mod_lt _ (by omega)
  have hl : rows = rows.take (hs % rows.length) ++ rows[hs % rows.length] :: rows.drop (hs % rows.length + 1) := by rw [← List.drop_eq_getElem_cons hi, List.take_append_drop]
  have hsl : (isets rows).length = rows.length := List.length_map ..
  obtain ⟨a, ha⟩ : ∃ a, sv.a = some a := by
    obtain ⟨a, ha, _⟩ := ok.own.sl.el rEnc_len (by decide) (i := 0) (by omega)
    exact ⟨a, ha⟩
  refine ⟨sv, oseg, rows.take (hs % rows.length), rows[hs % rows.length], rows.drop (hs % rows.length + 1), a, by rw [← hl], by rw [← hl]; exact ok, ha, by omega, by omega, by rw [hlen, List.length_take]; omega, ?_, fun row' => ?_⟩
  · unfold irow isi
    rw [hsl, List.getD_eq_getElem?_getD]
    unfold isets
    rw [List.getElem?_map, List.getElem?_eq_getElem hi]; rfl
  · unfold iset isi
    rw [hsl]
    unfold isets
    rw [List.set_eq_take_append_cons_drop, if_pos (by rw [List.length_map]; exact hi), List.map_take, List.map_drop]
theorem IX.same {m : Nat} {ways : Int} {ss : List (List ISlot)} {A : HList} (h : IX m ways ss A) (hs : Nat) : iset ss hs (irow ss hs) = ss := by
  obtain ⟨sv, oseg, rows, rfl, ok, rfl⟩ := h
  have hsl : (isets rows).length = rows.length := List.length_map ..
  have hi : hs % (isets rows).length < (isets rows).length := Nat.mod_lt _ (by have := ok.pos; omega)
  unfold iset irow isi
  rw [List.getD_eq_getElem?_getD, List.getElem?_eq_getElem hi]
  exact List.set_getElem_self ..
section
variable {L : HList} {m : Nat} {ways : Int} {sv : SlV} {oseg : HList} {p s : List IRow} {r : IRow} {a : Addr}
theorem i_row (ok : IOk sv oseg (p ++ r :: s)) (ha : sv.a = some a) (hL : ∀ x ∈ oseg, x ∈ L) : LdAt (Addr.add a p.length) [.slice r.1.a r.1.len r.1.cap] L := by
  obtain ⟨a', ha', hl⟩ := ok.own.sl.el rEnc_len (by decide) (i := p.length) (by simp)
  rw [ha] at ha'
  obtain rfl := Option.some.inj ha'
  rw [show (p ++ r :: s)[p.length]'(by simp) = r by simp, Nat.mul_one] at hl
  exact hl.mono hL
theorem i_slots (ok : IOk sv oseg (p ++ r :: s)) (hL : ∀ x ∈ r.2.2, x ∈ L) : Sl L r.1 5 (r.2.1.flatMap iEnc) := (ok.row r (by simp)).sl.mono hL
theorem rput (p s : List IRow) (r r' : IRow) : putL ((p ++ r :: s).flatMap rEnc) p.length (rEnc r') = (p ++ r' :: s).flatMap rEnc := by
  have hp : (p.flatMap rEnc).length = p.length := by rw [flat_len rEnc_len, Nat.mul_one]
  rw [List.flatMap_append, List.flatMap_append, List.flatMap_cons, List.flatMap_cons]
  unfold putL
  rw [List.take_left' hp, rEnc_len, ← List.drop_drop, List.drop_left' hp]
  rw [List.append_assoc]
  rfl
theorem i_put (ok : IOk sv oseg (p ++ r :: s)) (r' : IRow) {seg' : HList} (own' : Own sv 1 tyIs (putL ((p ++ r :: s).flatMap rEnc) p.length (rEnc r')) seg') (h : Own r'.1 5 eIs (r'.2.1.flatMap iEnc) r'.2.2) (hf : r'.2.1.length ≤ 100) : IOk sv seg' (p ++ r' :: s) := by
  rw [rput] at own'
  refine ⟨own', fun x hx => ?_, fun x hx => ?_, by have := ok.pos; rw [List.length_append, List.length_cons] at this ⊢; exact this⟩
  · rcases List.mem_append.1 hx with h1 | h1
    · exact ok.row x (by simp [h1])
    · rcases List.mem_cons.1 h1 with rfl | h2
      · exact h
      · exact ok.row x (by simp [h2])
  · rcases List.mem_append.1 hx with h1 | h1
    · exact ok.few x (by simp [h1])
    · rcases List.mem_cons.1 h1 with rfl | h2
      · exact hf
      · exact ok.few x (by simp [h2])
end
theorem isets_at (p s : List IRow) (r : IRow) : isets (p ++ r :: s) = isets p ++ r.2.1 :: isets s := by simp [isets]
theorem itake_nil (L : HList) (h : Nat) (p : Pl) : Reads PP 89 #[.pointer none, .int .u64 h, .agg #[.int .i64 p.1, .int .i64 p.2.1, .int .i64 p.2.2.1]] L (.tuple #[.agg #[.int .i64 0, .int .i64 0, .int .i64 0, .int .i64 0, .int .i64 0], .bool false]) := by
  refine Reads.of (args := [.pointer none, .int .u64 h, .agg #[.int .i64 p.1, .int .i64 p.2.1, .int .i64 p.2.2.1]]) noNum mixed Try.func89 (e89 none h p _) ?_
  unfold t89
  refine nw_of fun n1 _ => nw_of fun n2 _ => ifT rfl ?_
  refine st_of [] _ rfl rfl (by simp) (.inl (Nat.le_refl _)) #[.int .i64 0, .int .i64 0, .int .i64 0, .int .i64 0, .int .i64 0] rfl ?_
  exact ld_of (0, 0, 0, 0, 0, ()) (ldB List.mem_cons_self rfl) (.cons (.cons (.of ⟨rfl, rfl⟩)))
theorem itake_cl (m : Nat) (ways : Int) (ss : List (List ISlot)) (A : HList) (hA : IX m ways ss A) (h : Nat) (hh : h < 2 ^ 64) (pl : Pl) :
    CallF PP 89 #[.pointer (some ⟨m, 0, none⟩), .int .u64 h, .agg #[.int .i64 pl.1, .int .i64 pl.2.1, .int .i64 pl.2.2.1]] A
      fun v L' => (∃ x : ISlot, v = .tuple #[.agg #[.int .i64 x.part, .int .i64 x.b, .int .i64 x.p, .int .i64 x.e, .int .i64 x.freq], .bool (ifind ss h pl).isSome] ∧ x = (ifind ss h pl).getD isz) ∧ IX m ways (iset ss h (ierase (irow ss h) (inm h pl))) L' := by
  have hsame := hA.same h
  obtain ⟨sv, oseg, p, r, s, a, rfl, ok, ha, hl1, hl2, hp, hrow, hset⟩ := hA.split h
  refine CallF.of (args := [.pointer (some ⟨m, 0, none⟩), .int .u64 h, .agg #[.int .i64 pl.1, .int .i64 pl.2.1, .int .i64 pl.2.2.1]]) noNum mixed Try.func89 (e89 (some ⟨m, 0, none⟩) h pl _) ?_
  unfold t89
  have hg : iO m ways sv ∈ IA m ways sv oseg (p ++ r :: s) := List.mem_cons_self
  have hos : ∀ {X : HList}, (∀ x ∈ oseg, x ∈ X ++ IA m ways sv oseg (p ++ r :: s)) := fun x hx => by unfold IA; simp [hx]
  have hrs : ∀ {X : HList}, (∀ x ∈ r.2.2, x ∈ X ++ IA m ways sv oseg (p ++ r :: s)) := fun x hx => by unfold IA rsegs; simp [hx]
  have hb := ok.few r (by simp)
  refine nw_of fun n1 _ => nw_of fun n2 _ => ifF rfl ?_
  generalize ho1 : (n1, Obj.cells #[.int .i64 pl.1, .int .i64 pl.2.1, .int .i64 pl.2.2.1] 81) = o1
  generalize ho2 : (n2, Obj.cells #[.int .i64 0, .int .i64 0, .int .i64 0, .int .i64 0, .int .i64 0] 144) = o2
  have l1 : ∀ {Z : HList}, LdAt ⟨n1, 0, none⟩ [.int .i64 pl.1, .int .i64 pl.2.1, .int .i64 pl.2.2.1] (o2 :: o1 :: Z) := by subst ho1; exact ldB (n := n1) (c := #[.int .i64 pl.1, .int .i64 pl.2.1, .int .i64 pl.2.2.1]) (T := 81) (fz := (0, 0)) (by simp) rfl
  refine ld_of pl l1 (cl_rd (iset2_rd _ m ways sv (by simp [hg]) a ha hl1 (by omega) h hh) (some (Addr.add a (h % sv.len)), ()) rfl (keep_of l1 ?_))
  rw [hp]
  refine cl_rd (iof_rd _ h hh pl) ((ipart h, pl.1, pl.2.1, pl.2.2.1, ()), ()) rfl (nw_of fun n3 _ => st_of [] _ rfl rfl (by simp) (.inl (Nat.le_refl _)) #[.int .i64 (ipart h), .int .i64 pl.1, .int .i64 pl.2.1, .int .i64 pl.2.2.1] rfl ?_)
  rw [List.nil_append]
  generalize ho3 : (n3, Obj.cells #[.int .i64 (ipart h), .int .i64 pl.1, .int .i64 pl.2.1, .int .i64 pl.2.2.1] 142) = o3
  have l3 : ∀ {Z : HList}, LdAt ⟨n3, 0, none⟩ [.int .i64 (inm h pl).1, .int .i64 (inm h pl).2.1, .int .i64 (inm h pl).2.2.1, .int .i64 (inm h pl).2.2.2] (o3 :: Z) := by subst ho3; exact ldB List.mem_cons_self rfl
  have lr : LdAt (Addr.add a p.length) [.slice r.1.a r.1.len r.1.cap] (o3 :: o2 :: o1 :: IA m ways sv oseg (p ++ r :: s)) := i_row ok ha (hos (X := [o3, o2, o1]))
  have lsl : Sl (o3 :: o2 :: o1 :: IA m ways sv oseg (p ++ r :: s)) r.1 5 (r.2.1.flatMap iEnc) := i_slots ok (hrs (X := [o3, o2, o1]))
  refine nilc_of rfl (ld_of r.1 lr (cl_rd (ifind_rd _ r.1 r.2.1 lsl (by omega) ⟨n3, 0, none⟩ (inm h pl) l3) (_, ()) rfl ?_))
  rcases idx_cases r.2.1 (inm h pl) with ⟨e1, e2, e3⟩ | ⟨j, hj, e1, e2, e4, e3⟩
  · rw [e1]
    refine ifP (show (-1 : Int) < 0 by decide) ?_
    subst ho2
    refine st_of [o3] _ rfl rfl (by simp) (.inl (Nat.le_refl _)) #[.int .i64 0, .int .i64 0, .int .i64 0, .int .i64 0, .int .i64 0] rfl ?_
    refine ld_of (0, 0, 0, 0, 0, ()) (ldB (n := n2) (c := #[.int .i64 0, .int .i64 0, .int .i64 0, .int .i64 0, .int .i64 0]) (T := 144) (fz := (0, 0)) (by simp) rfl) (.cons (.cons (.cons (.of ⟨?_, ?_⟩))))
    · have : ifind ss h pl = none := by unfold ifind; rw [hrow, e2]
      rw [this]
      exact ⟨isz, rfl, rfl⟩
    · rw [hrow, e3, ← hrow, hsame]
      exact ⟨sv, oseg, _, rfl, ok, by rw [isets_at, ← hset, ← hrow, hsame]⟩
  · rw [e1]
    have hlen := lsl.els_len iEnc_len (by decide)
    have hj0 : (0 : Int) ≤ (j : Int) := by omega
    have hj1 : (j : Int) < r.1.len := by omega
    refine ifN (show ¬ (j : Int) < 0 by omega) ?_
    obtain ⟨b, hb', hld⟩ := lsl.el iEnc_len (by decide) hj
    have hld2 : LdAt (Addr.add b ((j : Int).toNat * 5)) (iEnc r.2.1[j]) (o3 :: o2 :: o1 :: IA m ways sv oseg (p ++ r :: s)) := by rw [Int.toNat_natCast]; exact hld
    refine nilc_of rfl (ld_of r.1 lr (nilc_of hb' (ixn_of hj0 hj1 (ld_of (r.2.1[j].part, r.2.1[j].b, r.2.1[j].p, r.2.1[j].e, r.2.1[j].freq, ()) hld2 ?_))))
    clear hld hld2
    generalize hx : r.2.1[j] = x at *
    refine nw_of fun n4 _ => st_of [] _ rfl rfl (by simp) (.inl (Nat.le_refl _)) #[.int .i64 x.part, .int .i64 x.b, .int .i64 x.p, .int .i64 x.e, .int .i64 x.freq] rfl ?_
    rw [List.nil_append]
    generalize ho4 : (n4, Obj.cells #[.int .i64 x.part, .int .i64 x.b, .int .i64 x.p, .int .i64 x.e, .int .i64 x.freq] 144) = o4
    have l4 : ∀ {Z : HList}, LdAt ⟨n4, 0, none⟩ [.int .i64 x.part, .int .i64 x.b, .int .i64 x.p, .int .i64 x.e, .int .i64 x.freq] (o4 :: Z) := by subst ho4; exact ldB List.mem_cons_self rfl
    have hw : IntKind.i64.wrap ((j : Int) + 1) = (j : Int) + 1 := w64_id (by omega) (by omega)
    refine nilc_of rfl (ld_of r.1 (lr.mono fun _ hx => List.mem_cons_of_mem _ hx) ?_)
    simp only [hw]
    refine cl_in (o4 :: o3 :: o2 :: o1 :: iO m ways sv :: (oseg ++ rsegs p)) (rsegs s) (idel_cl r.1 r.2.1 r.2.2 (ok.row r (by simp)) (by omega) j hj) (by unfold IA; rw [rsegs_at]; simp) ?_
    rintro _ seg2 - ⟨v2, rfl, own2⟩
    refine ⟨(v2, ()), rfl, nilc_of rfl ?_⟩
    rw [← e3] at own2
    refine ok.own.st (o4 :: o3 :: o2 :: o1 :: [iO m ways sv]) (rsegs p ++ seg2 ++ rsegs s) (p := p.length) (ws := rEnc (v2, ierase r.2.1 (inm h pl), seg2)) (by rw [flat_len rEnc_len, rEnc_len]; simp) (by rw [rEnc_len]; omega) ha rfl (by simp) fun oseg' own' => ?_
    have ok' := i_put ok (v2, ierase r.2.1 (inm h pl), seg2) own' own2 (Nat.le_trans (List.length_eraseP_le ..) hb)
    refine ld_of (x.part, x.b, x.p, x.e, x.freq, ()) l4 ?_
    subst ho2
    refine st_of [o4, o3] _ rfl rfl (by simp) (.inl (Nat.le_refl _)) #[.int .i64 x.part, .int .i64 x.b, .int .i64 x.p, .int .i64 x.e, .int .i64 x.freq] rfl ?_
    refine ld_of (x.part, x.b, x.p, x.e, x.freq, ()) (ldB (n := n2) (c := #[.int .i64 x.part, .int .i64 x.b, .int .i64 x.p, .int .i64 x.e, .int .i64 x.freq]) (T := 144) (fz := (0, 0)) (by simp) rfl) (.cons (.cons (.cons (.cons (.of ⟨?_, ?_⟩)))))
    · have : ifind ss h pl = some x := by unfold ifind; rw [hrow, e2]
      rw [this]
      exact ⟨x, rfl, rfl⟩
    · rw [hrow]
      refine ⟨sv, oseg', _, ?_, ok', by rw [hset, isets_at]⟩
      unfold IA
      rw [rsegs_at]
      simp
theorem iyoung_cl (m : Nat) (ways : Int) (ss : List (List ISlot)) (A : HList) (hA : IX m ways ss A) (h : Nat) (hh : h < 2 ^ 64) (x : ISlot) (hf : (irow ss h).length < 100) :
    CallF PP 92 #[.pointer (some ⟨m, 0, none⟩), .int .u64 h, .agg #[.int .i64 x.part, .int .i64 x.b, .int .i64 x.p, .int .i64 x.e, .int .i64 x.freq]] A
      fun v L' => v = .tuple #[] ∧ IX m ways (iset ss h (irow ss h ++ [x])) L' := by
  obtain ⟨sv, oseg, p, r, s, a, rfl, ok, ha, hl1, hl2, hp, hrow, hset⟩ := hA.split h
  refine CallF.of (args := [.pointer (some ⟨m, 0, none⟩), .int .u64 h, .agg #[.int .i64 x.part, .int .i64 x.b, .int .i64 x.p, .int .i64 x.e, .int .i64 x.freq]]) noNum mixed Try.func92 (e92 (some ⟨m, 0, none⟩) h (x.part, x.b, x.p, x.e, x.freq, ()) _) ?_
  unfold t92
  refine nw_of fun n1 _ => ?_
  rw [hrow] at hf ⊢
  have hlen := (ok.row r (by simp)).sl.els_len iEnc_len (by decide)
  refine cl_rd (iset2_rd _ m ways sv (by unfold IA; simp) a ha hl1 (by omega) h hh) (some (Addr.add a (h % sv.len)), ()) rfl ?_
  rw [hp]
  refine nilc_of rfl (ld_of r.1 (i_row ok ha (fun x hx => by unfold IA; simp [hx])) (ld_of (x.part, x.b, x.p, x.e, x.freq, ()) (ldB List.mem_cons_self rfl) (nw_of fun n2 _ => ?_)))
  generalize ho1 : (n1, Obj.cells #[.int .i64 x.part, .int .i64 x.b, .int .i64 x.p, .int .i64 x.e, .int .i64 x.freq] 144) = o1
  have hsrc : ∀ {Z : HList}, Sl ((n2, Obj.cells #[.int .i64 x.part, .int .i64 x.b, .int .i64 x.p, .int .i64 x.e, .int .i64 x.freq] eIs) :: Z) ⟨some ⟨n2, 0, none⟩, 1, 1⟩ 5 ([x].flatMap iEnc) := fun {Z} => ⟨rfl, Nat.le_refl _, .inr ⟨_, rfl, ldB List.mem_cons_self rfl⟩⟩
  refine append_in elemIs srcIs ((n2, Obj.cells #[.int .i64 x.part, .int .i64 x.b, .int .i64 x.p, .int .i64 x.e, .int .i64 x.freq] eIs) :: o1 :: iO m ways sv :: (oseg ++ rsegs p)) (rsegs s) (ok.row r (by simp)) (by unfold IA; rw [rsegs_at]; simp) (.sl hsrc) (iEnc_plain _) (by simp only; omega) fun v2 seg2 hv2 own2 => ?_
  rw [← List.flatMap_append] at own2
  refine nilc_of rfl (ok.own.st ((n2, Obj.cells #[.int .i64 x.part, .int .i64 x.b, .int .i64 x.p, .int .i64 x.e, .int .i64 x.freq] eIs) :: o1 :: [iO m ways sv]) (rsegs p ++ seg2 ++ rsegs s) (p := p.length) (ws := rEnc (v2, r.2.1 ++ [x], seg2)) (by rw [flat_len rEnc_len, rEnc_len]; simp) (by rw [rEnc_len]; omega) ha rfl (by simp) fun oseg' own' => ?_)
  have ok' := i_put ok (v2, r.2.1 ++ [x], seg2) own' own2 (by rw [List.length_append]; simp only [List.length_cons, List.length_nil]; omega)
  refine .cons (.cons (.of ⟨rfl, sv, oseg', _, ?_, ok', by rw [hset, isets_at]⟩))
  unfold IA
  rw [rsegs_at]
  simp
end Go.Proofs.Ytefllmfoneocaaa
