/-
  It is proved what the program's index does: Find, Hit, Freq; and its page's example. There are no further conditions than those that each theorem names.
-/
import Derived.Test.YtefllmfoneocaaaIndex3
set_option linter.unusedVariables false
set_option linter.unusedSimpArgs false
namespace Go.Proofs.Ytefllmfoneocaaa
open Go.HL

def plEnc (p : Pl) : List Value := [.int .i64 p.1, .int .i64 p.2.1, .int .i64 p.2.2.1]
theorem plEnc_len (p : Pl) : (plEnc p).length = 3 := rfl
theorem plEnc_plain (l : List Pl) : (l.flatMap plEnc).all plainV = true := by
  induction l with
  | nil => rfl
  | cons e r ih => rw [List.flatMap_cons, List.all_append, ih]; rfl
theorem elemPl : ElemT PP 87 81 3 24 [.int .i64 0, .int .i64 0, .int .i64 0] := elemT_of (by kernel_rfl) (by kernel_rfl) rfl (by decide) (by decide)
theorem srcPl : SrcT PP 87 := .inl ⟨81, by kernel_rfl⟩
def ISlot.pl (s : ISlot) : Pl := (s.b, s.p, s.e, ())
def ifinds (l : List ISlot) (h : Nat) : List Pl := (l.filter fun s => decide (s.part = ipart h)).map ISlot.pl
theorem ifinds_snoc (l : List ISlot) (x : ISlot) (h : Nat) : ifinds (l ++ [x]) h = ifinds l h ++ (if x.part = ipart h then [x.pl] else []) := by
  unfold ifinds
  rw [List.filter_append, List.map_append]
  by_cases hx : x.part = ipart h <;> simp [hx]
theorem ifind2_nil (L : HList) (h : Nat) : Reads PP 49 #[.pointer none, .int .u64 h] L (.slice none 0 0) := by
  refine Reads.of (args := [.pointer none, .int .u64 h]) noNum mixed Try.func49 (e49 none h _) ?_
  unfold t49
  exact ifT rfl (.of ⟨rfl, rfl⟩)
theorem ifind_cl (m : Nat) (ways : Int) (ss : List (List ISlot)) (A : HList) (hA : IX m ways ss A) (h : Nat) (hh : h < 2 ^ 64) :
    CallF PP 49 #[.pointer (some ⟨m, 0, none⟩), .int .u64 h] A
      fun v L' => ∃ (u : SlV) (seg : HList), v = .slice u.a u.len u.cap ∧ L' = seg ++ A ∧ Own u 3 81 ((ifinds (irow ss h) h).flatMap plEnc) seg := by
  obtain ⟨sv, oseg, p, r, s, a, rfl, ok, ha, hl1, hl2, hp, hrow, hset⟩ := hA.split h
  refine CallF.of (args := [.pointer (some ⟨m, 0, none⟩), .int .u64 h]) noNum mixed Try.func49 (e49 (some ⟨m, 0, none⟩) h _) ?_
  unfold t49
  refine ifF rfl (cl_rd (iset2_rd _ m ways sv (by unfold IA; simp) a ha hl1 (by omega) h hh) (some (Addr.add a (h % sv.len)), ()) rfl ?_)
  rw [hp]
  have lsl : Sl (IA m ways sv oseg (p ++ r :: s)) r.1 5 (r.2.1.flatMap iEnc) := i_slots ok (fun x hx => by unfold IA rsegs; simp [hx])
  have hlen := lsl.els_len iEnc_len (by decide)
  have hb := ok.few r (by simp)
  refine nilc_of rfl (ld_of r.1 (i_row ok ha (fun x hx => by unfold IA; simp [hx])) ?_)
  rw [hrow]
  refine lp_of (fun k z L' => ∃ (i : Nat) (u : SlV) (seg J : HList), i ≤ r.2.1.length ∧ k = r.2.1.length - i ∧ z = (u, (i : Int), ()) ∧ L' = J ++ seg ++ IA m ways sv oseg (p ++ r :: s) ∧ Own u 3 81 ((ifinds (r.2.1.take i) h).flatMap plEnc) seg) r.2.1.length
    ⟨0, ⟨none, 0, 0⟩, [], [], by omega, by omega, rfl, rfl, ⟨rfl, Nat.le_refl _, .inl ⟨rfl, rfl, rfl⟩⟩⟩ ?_
  rintro k z L' ⟨i, u, seg, J, hi, rfl, rfl, rfl, own⟩
  refine ifD_of (fun (hlt : (i : Int) < r.1.len) => ?_) (fun (hge : ¬ (i : Int) < r.1.len) => ?_)
  · have hi' : i < r.2.1.length := by omega
    have lsl' : Sl (J ++ seg ++ IA m ways sv oseg (p ++ r :: s)) r.1 5 (r.2.1.flatMap iEnc) := lsl.right
    obtain ⟨b, hb', hld⟩ := lsl'.el iEnc_len (by decide) hi'
    have hsn := ifinds_snoc (r.2.1.take i) r.2.1[i] h
    rw [← List.take_succ_eq_append_getElem hi'] at hsn
    refine nilc_of hb' (ixn_of (show (0 : Int) ≤ i by omega) hlt (ld_of (r.2.1[i].part, r.2.1[i].b, r.2.1[i].p, r.2.1[i].e, r.2.1[i].freq, ()) (by rw [Int.toNat_natCast]; exact hld) ?_))
    clear hld
    generalize r.2.1[i] = x at hsn ⊢
    have hul := own.sl.els_len plEnc_len (by decide)
    have hfl : (ifinds (r.2.1.take i) h).length ≤ i := by
      unfold ifinds
      rw [List.length_map]
      have := List.length_filter_le (fun s => decide (s.part = ipart h)) (r.2.1.take i)
      rw [List.length_take] at this
      omega
    refine nw_of fun n1 _ => st_of [] _ rfl rfl (by simp) (.inl (Nat.le_refl _)) #[.int .i64 x.part, .int .i64 x.b, .int .i64 x.p, .int .i64 x.e, .int .i64 x.freq] rfl ?_
    rw [List.nil_append]
    generalize ho1 : (n1, Obj.cells #[.int .i64 x.part, .int .i64 x.b, .int .i64 x.p, .int .i64 x.e, .int .i64 x.freq] 144) = o1
    have l1 : ∀ {Z : HList}, LdAt ⟨n1, 0, none⟩ [.int .i64 x.part] (o1 :: Z) := by subst ho1; exact ldB List.mem_cons_self rfl
    have l2 : ∀ {Z : HList}, LdAt (Addr.add ⟨n1, 0, none⟩ 1) [.int .i64 x.b, .int .i64 x.p, .int .i64 x.e] (o1 :: Z) := by subst ho1; exact ldB List.mem_cons_self rfl
    have hw : IntKind.i64.wrap ((i : Int) + 1) = ((i + 1 : Nat) : Int) := by rw [w64_id (by omega) (by omega)]; omega
    refine ld_of x.part l1 (cl_rd (ipart_rd _ h hh) (ipart h, ()) rfl (keep_of l1 ?_))
    refine ifE_of (fun hx => ?_) (fun hx => ?_)
    · have hx' : x.part = ipart h := hx
      rw [if_pos hx'] at hsn
      refine ld_of x.pl l2 (nw_of fun n2 _ => ?_)
      have hsrc : ∀ {Z : HList}, Sl ((n2, Obj.cells #[.int .i64 x.b, .int .i64 x.p, .int .i64 x.e] 81) :: Z) ⟨some ⟨n2, 0, none⟩, 1, 1⟩ 3 ([x.pl].flatMap plEnc) := fun {Z} => ⟨rfl, Nat.le_refl _, .inr ⟨_, rfl, ldB List.mem_cons_self rfl⟩⟩
      refine append_in elemPl srcPl ((n2, Obj.cells #[.int .i64 x.b, .int .i64 x.p, .int .i64 x.e] 81) :: o1 :: J) (IA m ways sv oseg (p ++ r :: s)) own (by simp [ISlot.pl]) (.sl hsrc) (plEnc_plain _) (by simp only; omega) fun v2 seg2 hv2 own2 => ?_
      rw [← List.flatMap_append, ← hsn] at own2
      refine ⟨r.2.1.length - (i + 1), by omega, i + 1, v2, seg2, (n2, Obj.cells #[.int .i64 x.b, .int .i64 x.p, .int .i64 x.e] 81) :: o1 :: J, by omega, rfl, ?_, rfl, own2⟩
      show (v2, IntKind.i64.wrap ((i : Int) + 1), ()) = _
      rw [hw]
    · have hx' : ¬ x.part = ipart h := hx
      rw [if_neg hx', List.append_nil] at hsn
      rw [← hsn] at own
      refine ⟨r.2.1.length - (i + 1), by omega, i + 1, u, seg, o1 :: J, by omega, rfl, ?_, rfl, own⟩
      show (u, IntKind.i64.wrap ((i : Int) + 1), ()) = _
      rw [hw]
  · obtain rfl : i = r.2.1.length := by omega
    rw [List.take_length] at own
    rw [List.append_assoc]
    exact .app (.of ⟨u, seg, rfl, rfl, own⟩)
/-! ### hits -/
def ihit (s : ISlot) : ISlot := { s with freq := imin (s.freq + 1) 3 }
def ihitL (l : List ISlot) (nm : IName) : List ISlot := match l.findIdx? (fun s => decide (s.nm = nm)) with
  | some j => l.modify j ihit
  | none => l
theorem freq_put (l : List ISlot) (j : Nat) (hj : j < l.length) (x : ISlot) (n : Int) (hx : l[j] = x) : putL (l.flatMap iEnc) (j * 5 + 4) [.int .i64 n] = (l.take j ++ { x with freq := n } :: l.drop (j + 1)).flatMap iEnc := by
  have hl : l = l.take j ++ x :: l.drop (j + 1) := by rw [← hx, ← List.drop_eq_getElem_cons hj, List.take_append_drop]
  have hp : ((l.take j).flatMap iEnc).length = j * 5 := by rw [flat_len iEnc_len, List.length_take, Nat.min_eq_left (by omega)]
  conv => lhs; rw [hl]
  rw [List.flatMap_append, List.flatMap_append, List.flatMap_cons, List.flatMap_cons]
  unfold putL
  have h1 : ((l.take j).flatMap iEnc ++ (iEnc x ++ (l.drop (j + 1)).flatMap iEnc)).take (j * 5 + 4) = (l.take j).flatMap iEnc ++ [.int .i64 x.part, .int .i64 x.b, .int .i64 x.p, .int .i64 x.e] := by
    rw [List.take_append, List.take_of_length_le (by omega), hp, show j * 5 + 4 - j * 5 = 4 by omega]
    rfl
  have h2 : ((l.take j).flatMap iEnc ++ (iEnc x ++ (l.drop (j + 1)).flatMap iEnc)).drop (j * 5 + 4 + [Value.int .i64 n].length) = (l.drop (j + 1)).flatMap iEnc := by
    rw [show j * 5 + 4 + [Value.int .i64 n].length = j * 5 + 5 from rfl, ← List.drop_drop, List.drop_left' hp]
    rfl
  rw [h1, h2]
  simp [iEnc]
theorem hit1_cl (v : SlV) (l : List ISlot) (seg : HList) (own : Own v 5 eIs (l.flatMap iEnc) seg) (j : Nat) (hj : j < l.length) (a : Addr) (ha : v.a = some a) (hfr : 0 ≤ l[j].freq ∧ l[j].freq ≤ 3) :
    CallF PP 96 #[.pointer (some (Addr.add a (j * 5)))] seg fun r L' => r = .tuple #[] ∧ Own v 5 eIs ((l.take j ++ ihit l[j] :: l.drop (j + 1)).flatMap iEnc) L' := by
  refine CallF.of (args := [.pointer (some (Addr.add a (j * 5)))]) noNum mixed Try.func96 (e96 (some (Addr.add a (j * 5))) _) ?_
  unfold t96
  obtain ⟨a', ha', hld⟩ := own.sl.el iEnc_len (by decide) hj
  rw [ha] at ha'
  obtain rfl := Option.some.inj ha'
  have had : Addr.add (Addr.add a (j * 5)) 4 = Addr.add a (j * 5 + 4) := by
    unfold Addr.add
    by_cases h1 : j * 5 = 0 <;> simp [h1, Nat.add_assoc]
  refine nilc_of rfl (ld_of l[j].freq (hld.one 4 rfl) (nilc_of rfl ?_))
  rw [w64_id (by omega) (by omega)]
  refine own.st [] [] (p := j * 5 + 4) (by rw [flat_len iEnc_len]; simp only [List.length_cons, List.length_nil]; omega) (by simp) ha had (by simp) fun seg' own' => .of ⟨rfl, ?_⟩
  rw [freq_put l j hj l[j] _ rfl] at own'
  rw [List.nil_append, List.append_nil]
  exact own'
theorem freq1_cl (A : HList) (ad : Addr) (fr : Int) (hl : LdAt (Addr.add ad 4) [.int .i64 fr] A) (n : Nat) (x : Int) :
    CallF PP 97 #[.pointer (some ad), .pointer (some ⟨n, 0, none⟩)] ((n, Obj.cells #[.int .i64 x] 3) :: A) fun r L' => r = .tuple #[] ∧ L' = (n, Obj.cells #[.int .i64 fr] 3) :: A := by
  refine CallF.of (args := [.pointer (some ad), .pointer (some ⟨n, 0, none⟩)]) noNum mixed Try.func97 (e97 (some ad) (some ⟨n, 0, none⟩) _) ?_
  unfold t97
  refine nilc_of rfl (ld_of fr (hl.mono fun _ hx => List.mem_cons_of_mem _ hx) (nilc_of rfl (st_of [] _ rfl rfl (by simp) (.inl (Nat.le_refl _)) #[.int .i64 fr] rfl (.of ⟨rfl, rfl⟩))))
theorem iwith_nil (L : HList) (h : Nat) (p : Pl) (f : FnV) : Reads PP 95 #[.pointer none, .int .u64 h, .agg #[.int .i64 p.1, .int .i64 p.2.1, .int .i64 p.2.2.1], .func f.fn f.first f.captured] L (.bool false) := by
  refine Reads.of (args := [.pointer none, .int .u64 h, .agg #[.int .i64 p.1, .int .i64 p.2.1, .int .i64 p.2.2.1], .func f.fn f.first f.captured]) noNum mixed Try.func95 (e95 none h p f _) ?_
  unfold t95
  exact nw_of fun n1 _ => ifT rfl (.cons (.of ⟨rfl, rfl⟩))
theorem findIdx_hit {l : List ISlot} {nm : IName} {i : Nat} (hi : i < l.length) (he : l[i].nm = nm) (hn : ∀ s ∈ l.take i, s.nm ≠ nm) : l.findIdx? (fun s => decide (s.nm = nm)) = some i := by
  rw [List.findIdx?_eq_some_iff_getElem]
  refine ⟨hi, by simpa using he, fun j hj => ?_⟩
  have := hn l[j] (by rw [List.mem_take_iff_getElem]; exact ⟨j, by omega, rfl⟩)
  simpa using this
theorem modify_at (l : List ISlot) (i : Nat) (hi : i < l.length) : l.modify i ihit = l.take i ++ ihit l[i] :: l.drop (i + 1) := by
  rw [List.modify_eq_take_cons_drop hi]
theorem iwithH_cl (m : Nat) (ways : Int) (ss : List (List ISlot)) (A : HList) (hA : IX m ways ss A) (h : Nat) (hh : h < 2 ^ 64) (pl : Pl) (hfr : ∀ s ∈ irow ss h, 0 ≤ s.freq ∧ s.freq ≤ 3) :
    CallF PP 95 #[.pointer (some ⟨m, 0, none⟩), .int .u64 h, .agg #[.int .i64 pl.1, .int .i64 pl.2.1, .int .i64 pl.2.2.1], .func (.func 96) #[] #[]] A
      fun v L' => v = .bool (ifind ss h pl).isSome ∧ IX m ways (iset ss h (ihitL (irow ss h) (inm h pl))) L' := by
  have hsame := hA.same h
  obtain ⟨sv, oseg, p, r, s, a, rfl, ok, ha, hl1, hl2, hp, hrow, hset⟩ := hA.split h
  refine CallF.of (args := [.pointer (some ⟨m, 0, none⟩), .int .u64 h, .agg #[.int .i64 pl.1, .int .i64 pl.2.1, .int .i64 pl.2.2.1], .func (.func 96) #[] #[]]) noNum mixed Try.func95 (e95 (some ⟨m, 0, none⟩) h pl ⟨.func 96, #[], #[]⟩ _) ?_
  unfold t95
  have hg : iO m ways sv ∈ IA m ways sv oseg (p ++ r :: s) := List.mem_cons_self
  have hos : ∀ {X : HList}, (∀ x ∈ oseg, x ∈ X ++ IA m ways sv oseg (p ++ r :: s)) := fun x hx => by unfold IA; simp [hx]
  have hrs : ∀ {X : HList}, (∀ x ∈ r.2.2, x ∈ X ++ IA m ways sv oseg (p ++ r :: s)) := fun x hx => by unfold IA rsegs; simp [hx]
  have hb := ok.few r (by simp)
  refine nw_of fun n1 _ => ifF rfl ?_
  generalize ho1 : (n1, Obj.cells #[.int .i64 pl.1, .int .i64 pl.2.1, .int .i64 pl.2.2.1] 81) = o1
  have l1 : ∀ {Z : HList}, LdAt ⟨n1, 0, none⟩ [.int .i64 pl.1, .int .i64 pl.2.1, .int .i64 pl.2.2.1] (o1 :: Z) := by subst ho1; exact ldB List.mem_cons_self rfl
  have lr : LdAt (Addr.add a p.length) [.slice r.1.a r.1.len r.1.cap] (o1 :: IA m ways sv oseg (p ++ r :: s)) := i_row ok ha (hos (X := [o1]))
  refine ld_of pl l1 (cl_rd (iset2_rd _ m ways sv (by simp [hg]) a ha hl1 (by omega) h hh) (some (Addr.add a (h % sv.len)), ()) rfl (keep_of l1 ?_))
  rw [hp]
  refine nilc_of rfl (ld_of r.1 lr (cl_rd (iof_rd _ h hh pl) ((ipart h, pl.1, pl.2.1, pl.2.2.1, ()), ()) rfl (keep_of lr (nw_of fun n2 _ => st_of [] _ rfl rfl (by simp) (.inl (Nat.le_refl _)) #[.int .i64 (ipart h), .int .i64 pl.1, .int .i64 pl.2.1, .int .i64 pl.2.2.1] rfl ?_))))
  rw [List.nil_append]
  generalize ho2 : (n2, Obj.cells #[.int .i64 (ipart h), .int .i64 pl.1, .int .i64 pl.2.1, .int .i64 pl.2.2.1] 142) = o2
  have l2 : ∀ {Z : HList}, LdAt ⟨n2, 0, none⟩ [.int .i64 (ipart h), .int .i64 pl.1, .int .i64 pl.2.1, .int .i64 pl.2.2.1] (o2 :: Z) := by subst ho2; exact ldB List.mem_cons_self rfl
  have lsl : Sl (o2 :: o1 :: IA m ways sv oseg (p ++ r :: s)) r.1 5 (r.2.1.flatMap iEnc) := i_slots ok (hrs (X := [o2, o1]))
  have hlen := lsl.els_len iEnc_len (by decide)
  rw [hrow] at hfr
  refine lp_of (fun k z L' => L' = o2 :: o1 :: IA m ways sv oseg (p ++ r :: s) ∧ ∃ i : Nat, i ≤ r.2.1.length ∧ k = r.2.1.length - i ∧ z = ((i : Int), ()) ∧ ∀ s ∈ r.2.1.take i, s.nm ≠ inm h pl) r.2.1.length ⟨rfl, 0, by omega, by omega, rfl, by simp⟩ ?_
  rintro k z L' ⟨rfl, i, hi, rfl, rfl, hn⟩
  refine ifD_of (fun (hlt : (i : Int) < r.1.len) => ?_) (fun (hge : ¬ (i : Int) < r.1.len) => ?_)
  · have hi' : i < r.2.1.length := by omega
    have hi0 : (0 : Int) ≤ (i : Int) := by omega
    obtain ⟨b, hb', hld⟩ := lsl.el iEnc_len (by decide) hi'
    refine nilc_of hb' (ixn_of hi0 hlt (ld_of (r.2.1[i].part, r.2.1[i].b, r.2.1[i].p, r.2.1[i].e, ()) ?_ (ld_of (ipart h, pl) l2 (eqNm _ _ _ _ _ _ _ _ ?_))))
    · rw [Int.toNat_natCast]
      exact hld.pre fun j u hu => by rcases j with _ | _ | _ | _ | j <;> first | exact hu | exact absurd (show (none : Option Value) = some u from hu) (by simp)
    refine ifD_of (fun (he : r.2.1[i].nm = inm h pl) => ?_) (fun (he : ¬ r.2.1[i].nm = inm h pl) => ?_)
    · have hfi := findIdx_hit hi' he hn
      refine nilc_of hb' (ixn_of hi0 hlt (clv_of (by kernel_rfl) ?_))
      refine cl_in (o2 :: o1 :: iO m ways sv :: (oseg ++ rsegs p)) (rsegs s) (hit1_cl r.1 r.2.1 r.2.2 (ok.row r (by simp)) i hi' b hb' (hfr _ (List.getElem_mem hi'))) (by unfold IA; rw [rsegs_at]; simp) ?_
      rintro _ seg2 - ⟨rfl, own2⟩
      refine ⟨(), rfl, ?_⟩
      refine .cons (.cons (.of ⟨?_, ?_⟩))
      · unfold ifind
        rcases idx_cases r.2.1 (inm h pl) with ⟨e1, _⟩ | ⟨j, hj, e1, e2, _⟩
        · rw [hfi] at e1; cases e1
        · rw [hrow, e2]; rfl
      · rw [hrow]
        unfold ihitL
        rw [hfi]
        simp only
        rw [modify_at _ _ hi']
        refine ⟨sv, oseg, p ++ (r.1, r.2.1.take i ++ ihit r.2.1[i] :: r.2.1.drop (i + 1), seg2) :: s, by unfold IA; rw [rsegs_at]; simp, ?_, by rw [hset, isets_at]⟩
        refine i_put ok (r.1, r.2.1.take i ++ ihit r.2.1[i] :: r.2.1.drop (i + 1), seg2) (seg' := oseg) ?_ own2 ?_
        · rw [rput]
          have e : (p ++ (r.1, r.2.1.take i ++ ihit r.2.1[i] :: r.2.1.drop (i + 1), seg2) :: s).flatMap rEnc = (p ++ r :: s).flatMap rEnc := by
            rw [List.flatMap_append, List.flatMap_append, List.flatMap_cons, List.flatMap_cons]; rfl
          rw [e]; exact ok.own
        · simp only [List.length_append, List.length_cons, List.length_take, List.length_drop]; omega
    · refine ⟨r.2.1.length - (i + 1), by omega, rfl, i + 1, by omega, rfl, ?_, fun e hx => ?_⟩
      · rw [w64_id (by first | omega | (simp only; omega)) (by first | omega | (simp only; omega))]
        rfl
      · rw [List.take_succ_eq_append_getElem hi'] at hx
        rcases List.mem_append.1 hx with hx | hx
        · exact hn e hx
        · rw [List.mem_singleton.1 hx]; exact he
  · obtain rfl : i = r.2.1.length := by omega
    rw [List.take_length] at hn
    have e0 : r.2.1.findIdx? (fun s => decide (s.nm = inm h pl)) = none := by
      rw [List.findIdx?_eq_none_iff]
      intro s hs
      simpa using hn s hs
    refine .cons (.cons (.of ⟨?_, ?_⟩))
    · unfold ifind
      rcases idx_cases r.2.1 (inm h pl) with ⟨_, e2, _⟩ | ⟨j, hj, e1, e2, _⟩
      · rw [hrow, e2]; rfl
      · rw [e0] at e1; cases e1
    · unfold ihitL
      rw [hrow, e0]
      simp only
      rw [← hrow, hsame]
      exact hA
def ifreq (ss : List (List ISlot)) (h : Nat) (p : Pl) : Int := match ifind ss h p with | some x => x.freq | none => 0
theorem iwithF_cl (m : Nat) (ways : Int) (ss : List (List ISlot)) (A : HList) (hA : IX m ways ss A) (h : Nat) (hh : h < 2 ^ 64) (pl : Pl) (nf : Nat) :
    CallF PP 95 #[.pointer (some ⟨m, 0, none⟩), .int .u64 h, .agg #[.int .i64 pl.1, .int .i64 pl.2.1, .int .i64 pl.2.2.1], .func (.func 97) #[] #[.pointer (some ⟨nf, 0, none⟩)]] ((nf, Obj.cells #[.int .i64 0] 3) :: A)
      fun v L' => v = .bool (ifind ss h pl).isSome ∧ L' = (nf, Obj.cells #[.int .i64 (ifreq ss h pl)] 3) :: A := by
  obtain ⟨sv, oseg, p, r, s, a, rfl, ok, ha, hl1, hl2, hp, hrow, hset⟩ := hA.split h
  refine CallF.of (args := [.pointer (some ⟨m, 0, none⟩), .int .u64 h, .agg #[.int .i64 pl.1, .int .i64 pl.2.1, .int .i64 pl.2.2.1], .func (.func 97) #[] #[.pointer (some ⟨nf, 0, none⟩)]]) noNum mixed Try.func95 (e95 (some ⟨m, 0, none⟩) h pl ⟨.func 97, #[], #[.pointer (some ⟨nf, 0, none⟩)]⟩ _) ?_
  unfold t95
  have hg : iO m ways sv ∈ IA m ways sv oseg (p ++ r :: s) := List.mem_cons_self
  have hos : ∀ {X : HList}, (∀ x ∈ oseg, x ∈ X ++ IA m ways sv oseg (p ++ r :: s)) := fun x hx => by unfold IA; simp [hx]
  have hrs : ∀ {X : HList}, (∀ x ∈ r.2.2, x ∈ X ++ IA m ways sv oseg (p ++ r :: s)) := fun x hx => by unfold IA rsegs; simp [hx]
  have hb := ok.few r (by simp)
  refine nw_of fun n1 _ => ifF rfl ?_
  generalize ho1 : (n1, Obj.cells #[.int .i64 pl.1, .int .i64 pl.2.1, .int .i64 pl.2.2.1] 81) = o1
  generalize hof : (nf, Obj.cells #[.int .i64 0] 3) = o0
  have l1 : ∀ {Z : HList}, LdAt ⟨n1, 0, none⟩ [.int .i64 pl.1, .int .i64 pl.2.1, .int .i64 pl.2.2.1] (o1 :: Z) := by subst ho1; exact ldB List.mem_cons_self rfl
  have lr : LdAt (Addr.add a p.length) [.slice r.1.a r.1.len r.1.cap] (o1 :: o0 :: IA m ways sv oseg (p ++ r :: s)) := i_row ok ha (hos (X := [o1, o0]))
  refine ld_of pl l1 (cl_rd (iset2_rd _ m ways sv (by simp [hg]) a ha hl1 (by omega) h hh) (some (Addr.add a (h % sv.len)), ()) rfl (keep_of l1 ?_))
  rw [hp]
  refine nilc_of rfl (ld_of r.1 lr (cl_rd (iof_rd _ h hh pl) ((ipart h, pl.1, pl.2.1, pl.2.2.1, ()), ()) rfl (keep_of lr (nw_of fun n2 _ => st_of [] _ rfl rfl (by simp) (.inl (Nat.le_refl _)) #[.int .i64 (ipart h), .int .i64 pl.1, .int .i64 pl.2.1, .int .i64 pl.2.2.1] rfl ?_))))
  rw [List.nil_append]
  generalize ho2 : (n2, Obj.cells #[.int .i64 (ipart h), .int .i64 pl.1, .int .i64 pl.2.1, .int .i64 pl.2.2.1] 142) = o2
  have l2 : ∀ {Z : HList}, LdAt ⟨n2, 0, none⟩ [.int .i64 (ipart h), .int .i64 pl.1, .int .i64 pl.2.1, .int .i64 pl.2.2.1] (o2 :: Z) := by subst ho2; exact ldB List.mem_cons_self rfl
  have lsl0 : Sl (IA m ways sv oseg (p ++ r :: s)) r.1 5 (r.2.1.flatMap iEnc) := i_slots ok (hrs (X := []))
  have lsl : Sl (o2 :: o1 :: o0 :: IA m ways sv oseg (p ++ r :: s)) r.1 5 (r.2.1.flatMap iEnc) := i_slots ok (hrs (X := [o2, o1, o0]))
  have hlen := lsl.els_len iEnc_len (by decide)
  refine lp_of (fun k z L' => L' = o2 :: o1 :: o0 :: IA m ways sv oseg (p ++ r :: s) ∧ ∃ i : Nat, i ≤ r.2.1.length ∧ k = r.2.1.length - i ∧ z = ((i : Int), ()) ∧ ∀ s ∈ r.2.1.take i, s.nm ≠ inm h pl) r.2.1.length ⟨rfl, 0, by omega, by omega, rfl, by simp⟩ ?_
  rintro k z L' ⟨rfl, i, hi, rfl, rfl, hn⟩
  refine ifD_of (fun (hlt : (i : Int) < r.1.len) => ?_) (fun (hge : ¬ (i : Int) < r.1.len) => ?_)
  · have hi' : i < r.2.1.length := by omega
    have hi0 : (0 : Int) ≤ (i : Int) := by omega
    obtain ⟨b, hb', hld⟩ := lsl.el iEnc_len (by decide) hi'
    refine nilc_of hb' (ixn_of hi0 hlt (ld_of (r.2.1[i].part, r.2.1[i].b, r.2.1[i].p, r.2.1[i].e, ()) ?_ (ld_of (ipart h, pl) l2 (eqNm _ _ _ _ _ _ _ _ ?_))))
    · rw [Int.toNat_natCast]
      exact hld.pre fun j u hu => by rcases j with _ | _ | _ | _ | j <;> first | exact hu | exact absurd (show (none : Option Value) = some u from hu) (by simp)
    refine ifD_of (fun (he : r.2.1[i].nm = inm h pl) => ?_) (fun (he : ¬ r.2.1[i].nm = inm h pl) => ?_)
    · have hfi := findIdx_hit hi' he hn
      obtain ⟨b2, hb2, hld2⟩ := lsl0.el iEnc_len (by decide) hi'
      rw [hb'] at hb2
      obtain rfl := Option.some.inj hb2
      have hfd : ifind ss h pl = some r.2.1[i] := by
        unfold ifind
        rcases idx_cases r.2.1 (inm h pl) with ⟨e1, _⟩ | ⟨j, hj, e1, e2, _⟩
        · rw [hfi] at e1; cases e1
        · rw [hfi] at e1
          obtain rfl := Option.some.inj e1
          rw [hrow, e2]
      subst hof
      refine nilc_of hb' (ixn_of hi0 hlt (clv_of (by kernel_rfl) ?_))
      refine cl_in [o2, o1] [] (freq1_cl (IA m ways sv oseg (p ++ r :: s)) (Addr.add b ((i : Int).toNat * 5)) r.2.1[i].freq (by rw [Int.toNat_natCast]; exact hld2.one 4 rfl) nf 0) (by simp) ?_
      rintro _ _ - ⟨rfl, rfl⟩
      rw [List.append_nil]
      refine ⟨(), rfl, .cons (.cons (.of ⟨by rw [hfd]; rfl, ?_⟩))⟩
      unfold ifreq
      rw [hfd]
      rfl
    · refine ⟨r.2.1.length - (i + 1), by omega, rfl, i + 1, by omega, rfl, ?_, fun e hx => ?_⟩
      · rw [w64_id (by first | omega | (simp only; omega)) (by first | omega | (simp only; omega))]
        rfl
      · rw [List.take_succ_eq_append_getElem hi'] at hx
        rcases List.mem_append.1 hx with hx | hx
        · exact hn e hx
        · rw [List.mem_singleton.1 hx]; exact he
  · obtain rfl : i = r.2.1.length := by omega
    rw [List.take_length] at hn
    have hfd : ifind ss h pl = none := by
      unfold ifind
      rw [hrow, List.find?_eq_none]
      intro s hs
      simpa using hn s hs
    subst hof
    refine .cons (.cons (.of ⟨by rw [hfd]; rfl, ?_⟩))
    unfold ifreq
    rw [hfd]
theorem ihit_nil (L : HList) (h : Nat) (p : Pl) : Reads PP 51 #[.pointer none, .int .u64 h, .agg #[.int .i64 p.1, .int .i64 p.2.1, .int .i64 p.2.2.1]] L (.bool false) := by
  refine Reads.of (args := [.pointer none, .int .u64 h, .agg #[.int .i64 p.1, .int .i64 p.2.1, .int .i64 p.2.2.1]]) noNum mixed Try.func51 (e51 none h p _) ?_
  unfold t51
  exact nw_of fun n1 _ => ld_of p (ldB List.mem_cons_self rfl) (cl_rd (iwith_nil _ h p ⟨_, _, _⟩) (false, ()) rfl (.cons (.of ⟨rfl, rfl⟩)))
theorem ihit_cl (m : Nat) (ways : Int) (ss : List (List ISlot)) (A : HList) (hA : IX m ways ss A) (h : Nat) (hh : h < 2 ^ 64) (pl : Pl) (hfr : ∀ s ∈ irow ss h, 0 ≤ s.freq ∧ s.freq ≤ 3) :
    CallF PP 51 #[.pointer (some ⟨m, 0, none⟩), .int .u64 h, .agg #[.int .i64 pl.1, .int .i64 pl.2.1, .int .i64 pl.2.2.1]] A
      fun v L' => v = .bool (ifind ss h pl).isSome ∧ IX m ways (iset ss h (ihitL (irow ss h) (inm h pl))) L' := by
  refine CallF.of (args := [.pointer (some ⟨m, 0, none⟩), .int .u64 h, .agg #[.int .i64 pl.1, .int .i64 pl.2.1, .int .i64 pl.2.2.1]]) noNum mixed Try.func51 (e51 (some ⟨m, 0, none⟩) h pl _) ?_
  unfold t51
  refine nw_of fun n1 _ => ld_of pl (ldB List.mem_cons_self rfl) (cl_in [(n1, Obj.cells #[.int .i64 pl.1, .int .i64 pl.2.1, .int .i64 pl.2.2.1] 81)] [] (iwithH_cl m ways ss A hA h hh pl hfr) (by simp) ?_)
  rintro _ A1 - ⟨rfl, hA1⟩
  rw [List.append_nil]
  exact ⟨((ifind ss h pl).isSome, ()), rfl, .cons (.of ⟨rfl, hA1⟩)⟩
theorem ifreq_nil (L : HList) (h : Nat) (p : Pl) : Reads PP 53 #[.pointer none, .int .u64 h, .agg #[.int .i64 p.1, .int .i64 p.2.1, .int .i64 p.2.2.1]] L (.int .i64 0) := by
  refine Reads.of (args := [.pointer none, .int .u64 h, .agg #[.int .i64 p.1, .int .i64 p.2.1, .int .i64 p.2.2.1]]) noNum mixed Try.func53 (e53 none h p _) ?_
  unfold t53
  refine nw_of fun n1 _ => nw_of fun n2 _ => st_of [] _ rfl rfl (by simp) (.inl (Nat.le_refl _)) #[.int .i64 0] rfl (ld_of p (ldB (n := n1) (c := #[.int .i64 p.1, .int .i64 p.2.1, .int .i64 p.2.2.1]) (T := 81) (fz := (0, 0)) (by simp) rfl) ?_)
  exact cl_rd (iwith_nil _ h p ⟨_, _, _⟩) (false, ()) rfl (ld_of 0 (ldB List.mem_cons_self rfl) (.cons (.cons (.of ⟨rfl, rfl⟩))))
theorem ifreq_rd (m : Nat) (ways : Int) (ss : List (List ISlot)) (A : HList) (hA : IX m ways ss A) (h : Nat) (hh : h < 2 ^ 64) (pl : Pl) :
    Reads PP 53 #[.pointer (some ⟨m, 0, none⟩), .int .u64 h, .agg #[.int .i64 pl.1, .int .i64 pl.2.1, .int .i64 pl.2.2.1]] A (.int .i64 (ifreq ss h pl)) := by
  refine Reads.of (args := [.pointer (some ⟨m, 0, none⟩), .int .u64 h, .agg #[.int .i64 pl.1, .int .i64 pl.2.1, .int .i64 pl.2.2.1]]) noNum mixed Try.func53 (e53 (some ⟨m, 0, none⟩) h pl _) ?_
  unfold t53
  refine nw_of fun n1 _ => nw_of fun n2 _ => st_of [] _ rfl rfl (by simp) (.inl (Nat.le_refl _)) #[.int .i64 0] rfl (ld_of pl (ldB (n := n1) (c := #[.int .i64 pl.1, .int .i64 pl.2.1, .int .i64 pl.2.2.1]) (T := 81) (fz := (0, 0)) (by simp) rfl) ?_)
  generalize (n1, Obj.cells #[.int .i64 pl.1, .int .i64 pl.2.1, .int .i64 pl.2.2.1] 81) = o1
  refine cl_pm (R := [o1]) (iwithF_cl m ways ss A hA h hh pl n2) ?_ ?_
  · exact (List.Perm.cons _ (List.perm_append_comm (l₁ := [o1]) (l₂ := A)))
  rintro _ _ ⟨rfl, rfl⟩
  refine ⟨(n2, Obj.cells #[.int .i64 (ifreq ss h pl)] 3) :: o1 :: A, List.Perm.cons _ (List.perm_append_comm (l₁ := A) (l₂ := [o1])), ((ifind ss h pl).isSome, ()), rfl, ?_⟩
  exact ld_of (ifreq ss h pl) (ldB List.mem_cons_self rfl) (.cons (.cons (.of ⟨rfl, rfl⟩)))
end Go.Proofs.Ytefllmfoneocaaa
