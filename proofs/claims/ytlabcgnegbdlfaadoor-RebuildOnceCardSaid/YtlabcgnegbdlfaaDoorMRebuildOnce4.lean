/-
  It is proved what the functions that the law RebuildOnce reaches compute, part 4. There are no further conditions than those that each theorem names.
-/
import Derived.Test.YtlabcgnegbdlfaaDoorMRebuildOnce3
set_option linter.unusedVariables false
set_option linter.unusedSimpArgs false
namespace Go.Proofs.YtlabcgnegbdlfaaDoor
open Go.HL

structure Fnd (d : Dev) (lv : SlV) (hs : List HE) (hseg : HList) (vv : SlV) (vseg : HList) : Prop where
  own : Own lv 3 eHl (hs.flatMap HE.enc) hseg
  ok : ∀ h ∈ hs, h.Ok
  dat : hs.map HE.dat = heldR d
  vown : Own vv 4 eLv ((liveD d).flatMap LE.enc) vseg
def FndK (d : Dev) (A : HList) (r : Value) (L' : HList) : Prop := ∃ (lv : SlV) (hs : List HE) (hseg : HList) (vv : SlV) (vseg : HList),
  r = .tuple #[.agg #[.slice lv.a lv.len lv.cap, .slice vv.a vv.len vv.cap, .int .i64 (maxE (heldR d))], .int .i64 0] ∧ L' = hseg ++ (hsegs hs ++ (vseg ++ A)) ∧ Fnd d lv hs hseg vv vseg
theorem read_nil (L : HList) : CallF PP 6 #[.pointer none] L fun r L' => r = .tuple #[.agg #[.slice none 0 0, .slice none 0 0, .int .i64 0], .int .i64 1] ∧ L' = L := by
  refine c6 none ?_
  unfold s6
  refine nw_of fun n1 _ => ld_of none (ldB List.mem_cons_self rfl) (ifT rfl ?_)
  exact .drop (A := L) (J := [(n1, Obj.cells #[.pointer none] 25)]) ⟨rfl, rfl⟩ (pc fun z => by simp only [cnt_a, cnt_c, cnt_n]; omega)
theorem read_down (m : Nat) (d : Dev) (A : HList) (h : FH m d A) (hdn : d.down = true) : CallF PP 6 #[.pointer (some ⟨m, 0, none⟩)] A fun r L' => r = .tuple #[.agg #[.slice none 0 0, .slice none 0 0, .int .i64 0], .int .i64 11] ∧ L' = A := by
  refine c6 (some ⟨m, 0, none⟩) ?_
  unfold s6
  refine nw_of fun n1 _ => ld_of (some ⟨m, 0, none⟩) (ldB List.mem_cons_self rfl) (ifF rfl (ld_of (some ⟨m, 0, none⟩) (ldB List.mem_cons_self rfl) ?_))
  refine cl_pm (R := [(n1, Obj.cells #[.pointer (some ⟨m, 0, none⟩)] 25)]) (down_rd m d A h) (pc fun z => by simp only [cnt_a, cnt_c, cnt_n]; omega) ?_
  rintro _ A' ⟨rfl, hA'⟩
  rw [hA']
  refine ⟨_, List.Perm.refl _, (d.down, ()), rfl, ifT hdn ?_⟩
  exact .drop (A := A) (J := [(n1, Obj.cells #[.pointer (some ⟨m, 0, none⟩)] 25)]) ⟨rfl, rfl⟩ (pc fun z => by simp only [cnt_a, cnt_c, cnt_n])
theorem held_mem {d : Dev} {x : HD} (h : x ∈ heldR d) : ∃ b : Nat, b < d.c.B ∧ regR d b = some x := rawR_mem ((isort_perm epK _).subset h)
theorem hs_ok {d : Dev} {hs : List HE} (hdat : hs.map HE.dat = heldR d) {h : HE} (hm : h ∈ hs) : (∃ b : Nat, h.b = b ∧ b < d.c.B) ∧ (0 ≤ h.ep ∧ h.ep ≤ 1073741824) ∧ (∀ y ∈ h.l, itRng y) ∧ h.l.Pairwise (fun a b => a.2.1 < b.2.1) ∧ h.l.length ≤ 255 := by
  have h1 : h.dat ∈ heldR d := by rw [← hdat]; exact List.mem_map_of_mem hm
  obtain ⟨b, hb, h2⟩ := held_mem h1
  obtain ⟨e1, e2, e3, e4⟩ := regR_b h2
  refine ⟨⟨b, e1, hb⟩, e2, e3, e4, ?_⟩
  have := ord_len h.l 1 (fun y hy => ⟨(e3 y hy).1, (e3 y hy).2.1⟩) e4 (by omega)
  omega
theorem selE_len (kind : Int) (hs : List HE) (h : ∀ x ∈ hs, x.l.length ≤ 255) : (selE kind hs).length ≤ hs.length * 255 := by
  induction hs with
  | nil => simp [selE]
  | cons a r ih =>
    have h1 := ih fun x hx => h x (by simp [hx])
    have h2 := h a (by simp)
    have h3 : (selI kind a a.l).length ≤ a.l.length := by unfold selI; rw [List.length_map]; exact List.length_filter_le _ _
    unfold selE at h1 ⊢
    rw [List.flatMap_cons, List.length_append, List.length_cons]
    omega
/-- What deleting the killed leaves. -/
def gone (all : List LE) (ks : List It) (i : Nat) (k : ByteArray) : Option Value :=
  if (∃ x ∈ all.take i, x.1 = k) ∧ (∃ p, lastOf all k = some p ∧ p ∈ ks) then none else (lastOf all k).map plV
theorem gone_0 (all : List LE) (ks : List It) (k : ByteArray) : gone all ks 0 k = (lastOf all k).map plV := by
  unfold gone
  rw [if_neg]
  rintro ⟨⟨x, hx, -⟩, -⟩
  simp at hx
theorem gone_cur {all : List LE} {ks : List It} {i : Nat} (hi : i < all.length) : ∃ p, lastOf all all[i].1 = some p ∧ (gone all ks i all[i].1 = none ∧ p ∈ ks ∨ gone all ks i all[i].1 = some (plV p)) := by
  obtain ⟨p, hp⟩ := lastOf_mem (List.getElem_mem hi)
  refine ⟨p, hp, ?_⟩
  unfold gone
  split
  · rename_i hc
    obtain ⟨-, p', hp', hk⟩ := hc
    rw [hp] at hp'
    obtain rfl := Option.some.inj hp'
    exact .inl ⟨rfl, hk⟩
  · rw [hp]; exact .inr rfl
theorem gone_step {all : List LE} {ks : List It} {i : Nat} (hi : i < all.length) {p : It} (hp : lastOf all all[i].1 = some p) (k : ByteArray) :
    gone all ks (i + 1) k = if k = all[i].1 ∧ p ∈ ks then none else gone all ks i k := by
  have htk := take_snoc all hi
  generalize all[i] = x at hp htk
  unfold gone
  rw [htk]
  by_cases h1 : k = x.1
  · subst h1
    by_cases h2 : p ∈ ks
    · rw [if_pos ⟨⟨x, by simp, rfl⟩, p, hp, h2⟩, if_pos ⟨rfl, h2⟩]
    · have hno : ¬ ∃ p', lastOf all x.1 = some p' ∧ p' ∈ ks := by
        rintro ⟨p', h3, h4⟩
        rw [hp] at h3
        obtain rfl := Option.some.inj h3
        exact h2 h4
      rw [if_neg (fun h => hno h.2), if_neg (fun h => h2 h.2), if_neg (fun h => hno h.2)]
  · rw [if_neg (show ¬ (k = x.1 ∧ p ∈ ks) from fun h => h1 h.1)]
    have : (∃ y ∈ all.take i ++ [x], y.1 = k) ↔ ∃ y ∈ all.take i, y.1 = k := by
      constructor
      · rintro ⟨y, hy, he⟩
        rcases List.mem_append.1 hy with hy | hy
        · exact ⟨y, hy, he⟩
        · rw [List.mem_singleton.1 hy] at he; exact absurd he.symm h1
      · rintro ⟨y, hy, he⟩
        exact ⟨y, by simp [hy], he⟩
    by_cases hc : (∃ y ∈ all.take i, y.1 = k) ∧ ∃ p, lastOf all k = some p ∧ p ∈ ks
    · rw [if_pos ⟨this.2 hc.1, hc.2⟩, if_pos hc]
    · rw [if_neg (fun h => hc ⟨this.1 h.1, h.2⟩), if_neg hc]
theorem gone_all {all : List LE} {ks : List It} {x : LE} (hx : x ∈ all) {p : It} (hp : lastOf all x.1 = some p) : gone all ks all.length x.1 = if p ∈ ks then none else some (plV p) := by
  unfold gone
  rw [List.take_length]
  by_cases h : p ∈ ks
  · rw [if_pos ⟨⟨x, hx, rfl⟩, p, hp, h⟩, if_pos h]
  · rw [if_neg, if_neg h, hp]
    · rfl
    · rintro ⟨-, p', h3, h4⟩
      rw [hp] at h3
      obtain rfl := Option.some.inj h3
      exact h h4
theorem filt1 {α : Type} (p : α → Bool) (x : α) : [x].filter p = if p x = true then [x] else [] := by cases h : p x <;> simp [h]
theorem read_cl2 (m : Nat) (d : Dev) (A : HList) (h : FH m d A) (ok : DvOk d) (hdn : d.down = false) : CallF PP 6 #[.pointer (some ⟨m, 0, none⟩)] A (FndK d A) := by
  refine c6 (some ⟨m, 0, none⟩) ?_
  unfold s6
  have hB := ok.c.b
  refine nw_of fun n1 _ => ?_
  obtain ⟨c1, hc1⟩ : ∃ c1 : Nat × Obj, c1 = (n1, Obj.cells #[.pointer (some ⟨m, 0, none⟩)] 25) := ⟨_, rfl⟩
  rw [← hc1]
  have l1 : ∀ L : HList, c1 ∈ L → LdAt ⟨n1, 0, none⟩ [.pointer (some ⟨m, 0, none⟩)] L := fun L hm => ldB (by rw [hc1] at hm; exact hm) rfl
  refine ld_of (some ⟨m, 0, none⟩) (l1 _ List.mem_cons_self) (ifF rfl (ld_of (some ⟨m, 0, none⟩) (l1 _ List.mem_cons_self) ?_))
  refine cl_pm (R := [c1]) (down_rd m d A h) (pc fun z => by simp only [cnt_a, cnt_c, cnt_n]; omega) ?_
  rintro _ A' ⟨rfl, hA'⟩
  rw [hA']
  refine ⟨_, List.Perm.refl _, (d.down, ()), rfl, ifF hdn (ld_of (some ⟨m, 0, none⟩) (l1 _ (by simp)) ?_)⟩
  refine cl_pm (hold_cl m d A h ok hdn) (List.Perm.refl _) ?_
  rintro _ _ ⟨lv, hs, hseg, pv, bs, pseg, rfl, rfl, H⟩
  refine ⟨_, List.Perm.refl _, (lv, pv, 0, ()), rfl, nw_of fun n3 _ => ?_⟩
  obtain ⟨own, hok, hdat, pown, pok, pdat⟩ := H
  refine st_pm (n := n3) (off := 0) (c := #[.slice none 0 0]) (T := 67) (fz := (0, 0)) (Y := c1 :: (hseg ++ (hsegs hs ++ (pseg ++ (bsegs bs ++ A))))) (pc fun z => by simp only [cnt_a, cnt_c, cnt_n]; omega) rfl (by simp) (.inl (Nat.le_refl _)) #[.slice pv.a pv.len pv.cap] rfl fun L1 hp1 => ?_
  refine ifT rfl ?_
  have hvl := own.sl.els_len HE.enc_len (by decide)
  have hhl : hs.length ≤ 16 := by
    have h1 := congrArg List.length hdat
    rw [List.length_map] at h1
    have h2 := (isort_perm epK (rawR d d.c.B)).length_eq
    have h3 := rawR_len d d.c.B
    unfold heldR at h1
    omega
  obtain ⟨F0, hF0⟩ : ∃ F0 : HList, F0 = (n3, Obj.cells #[.slice pv.a pv.len pv.cap] 67) :: (c1 :: (hseg ++ (hsegs hs ++ (pseg ++ (bsegs bs ++ A))))) := ⟨_, rfl⟩
  have hp1' : L1.Perm F0 := by rw [hF0]; exact hp1
  have f3 : (n3, Obj.cells #[.slice pv.a pv.len pv.cap] 67) ∈ F0 := by rw [hF0]; simp
  have f1 : c1 ∈ F0 := by rw [hF0]; simp
  have fh : ∀ x ∈ hseg, x ∈ F0 := fun x hx => by rw [hF0]; simp [hx]
  have fhs : ∀ x ∈ hsegs hs, x ∈ F0 := fun x hx => by rw [hF0]; simp [hx]
  have fp : ∀ x ∈ pseg, x ∈ F0 := fun x hx => by rw [hF0]; simp [hx]
  have fb : ∀ x ∈ bsegs bs, x ∈ F0 := fun x hx => by rw [hF0]; simp [hx]
  have slF : ∀ L : HList, (∀ x ∈ F0, x ∈ L) → Sl L lv 3 (hs.flatMap HE.enc) ∧ ∀ h ∈ hs, Sl L h.v 3 (h.l.flatMap itEnc) := fun L hL =>
    ⟨own.sl.mono fun x hx => hL x (fh x hx), fun h hh => Sl.mono (Own.sl (hok h hh)) fun x hx => hL x (fhs x (List.mem_flatMap.2 ⟨h, hh, hx⟩))⟩
  refine lp_of (fun z' z L' => ∃ i : Nat, i ≤ hs.length ∧ z' = hs.length - i ∧ z = ((i : Int), maxE ((hs.take i).map HE.dat), ()) ∧ L' = L1) hs.length ⟨0, by omega, by omega, rfl, rfl⟩ ?_
  rintro z' z L' ⟨i, hi, rfl, rfl, hL'⟩
  rw [hL']
  dsimp only
  refine ifb_of (fun (hlt : (i : Int) < lv.len) => ?_) (fun (hge : ¬ (i : Int) < lv.len) => ?_)
  · have hi' : i < hs.length := by omega
    refine elp_el HE.enc_len (by decide) (slF _ fun x hx => hp1'.symm.subset hx).1 rfl hi' fun a ha => ?_
    have htk := take_snoc hs hi'
    generalize hs[i] = x at ha htk
    refine ld_of (x.b, x.ep, x.v, ()) ha (w64_of (by omega) ⟨hs.length - (i + 1), by omega, i + 1, by omega, rfl, ?_, rfl⟩)
    rw [htk, List.map_append, List.map_singleton, maxE_snoc]; rfl
  obtain rfl : i = hs.length := by omega
  have hme : maxE ((hs.take hs.length).map HE.dat) = maxE (heldR d) := by rw [List.take_length, hdat]
  rw [hme]
  clear hge hi hme
  refine nw_of fun n6 _ => nw_of fun n7 _ => nw_of fun n8 _ => ?_
  refine st_pm (n := n8) (off := 0) (c := #[.map none]) (T := 70) (fz := (0, 0)) (Y := (n7, Obj.map #[] 0) :: ((n6, Obj.cells #[.slice none 0 0] 31) :: L1)) (pc fun z => by simp only [cnt_a, cnt_c, cnt_n]) rfl (by simp) (.inl (Nat.le_refl _)) #[.map (some n7)] rfl fun L2 hp2 => ?_
  obtain ⟨F1, hF1⟩ : ∃ F1 : HList, F1 = (n8, Obj.cells #[.map (some n7)] 70) :: F0 := ⟨_, rfl⟩
  have i10 : I1 n6 n7 F1 [] L2 := ⟨⟨none, 0, 0⟩, [], #[], 0, [], pc fun z => by have := pcn hp2 z; have := pcn hp1' z; rw [hF1]; simp only [cnt_a, cnt_c, cnt_n] at *; omega, own_nil, rfl⟩
  have f8 : (n8, Obj.cells #[.map (some n7)] 70) ∈ F1 := by rw [hF1]; exact List.mem_cons_self
  have f01 : ∀ x ∈ F0, x ∈ F1 := fun x hx => by rw [hF1]; exact List.mem_cons_of_mem _ hx
  have hbig := fun kind => selE_len kind hs fun x hx => (hs_ok hdat hx).2.2.2.2
  have hFA : F1.Perm (A ++ ((n8, Obj.cells #[.map (some n7)] 70) :: ((n3, Obj.cells #[.slice pv.a pv.len pv.cap] 67) :: (c1 :: (hseg ++ (hsegs hs ++ (pseg ++ bsegs bs))))))) := pc fun z => by rw [hF1, hF0]; simp only [cnt_a, cnt_c, cnt_n]; omega
  refine cl_of (each_it lv hs 2 ⟨.func 26, #[], #[.pointer (some ⟨n1, 0, none⟩), .pointer (some ⟨n6, 0, none⟩), .pointer (some ⟨n8, 0, none⟩)]⟩ (fun done L => I1 n6 n7 F1 ((done.map datQ).filterMap (liveOf d)) L) (by omega) (fun x hx => by have := (hs_ok hdat hx).2.2.2.2; omega)
    (fun done L hI => slF L fun x hx => hI.sub x (f01 x hx)) ?_ (L := L2) i10) ?_
  · intro done rest he x L k hsel hI hk
    have hq := selE_mem (kind := 2) (hs := hs) (q := (he, x)) (by rw [hsel]; simp)
    have hdl : done.length ≤ 16 * 255 := by
      have h1 := congrArg List.length hsel
      rw [List.length_append, List.length_cons] at h1
      have h2 := hbig 2
      have h3 := Nat.mul_le_mul_right 255 hhl
      omega
    refine clv_of (by kernel_rfl) (cl_of (read1_cl m d A h ok n1 n6 n7 n8 25 _ F1 hFA (by rw [← hc1]; exact f01 _ f1) f8 _ ?_ he x ((hs_ok hdat hq.1).2.2.1 x hq.2.1) L hI) ?_)
    · have := List.length_filterMap_le (liveOf d) (done.map datQ)
      rw [List.length_map] at this
      omega
    · rintro _ L' - ⟨rfl, hI'⟩
      refine ⟨(), rfl, hk L' ?_⟩
      rw [List.map_append, List.filterMap_append]
      have e : ([(he, x)].map datQ).filterMap (liveOf d) = (liveOf d (he.dat, x)).toList := by
        simp only [List.map_cons, List.map_nil, datQ, List.filterMap_cons, List.filterMap_nil]
        cases liveOf d (he.dat, x) <;> rfl
      rw [e]; exact hI'
  rintro _ L3 - ⟨rfl, hI3⟩
  rw [sel_dat, hdat] at hI3
  have hall : (selR 2 (heldR d)).filterMap (liveOf d) = allL d (heldR d) := rfl
  rw [hall] at hI3
  have hal : (allL d (heldR d)).length ≤ 16 * 255 := by
    have h1 := List.length_filterMap_le (liveOf d) (selR 2 (heldR d))
    have h2 := congrArg List.length (sel_dat 2 hs)
    rw [List.length_map, hdat] at h2
    have h3 := hbig 2
    have h4 := Nat.mul_le_mul_right 255 hhl
    unfold allL
    omega
  generalize hallE : allL d (heldR d) = all at *
  obtain ⟨av, aseg, es, ck, J, hp3, aown, hm3⟩ := hI3
  refine ⟨(), rfl, nw_of fun n9 _ => nw_of fun n10 _ => ?_⟩
  refine st_pm (n := n10) (off := 0) (c := #[.map none]) (T := 75) (fz := (0, 0)) (Y := (n9, Obj.map #[] 0) :: L3) (List.Perm.refl _) rfl (by simp) (.inl (Nat.le_refl _)) #[.map (some n9)] rfl fun L4 hp4 => ?_
  obtain ⟨F2, hF2⟩ : ∃ F2 : HList, F2 = (n10, Obj.cells #[.map (some n9)] 75) :: ((n6, Obj.cells #[.slice av.a av.len av.cap] 31) :: ((n7, Obj.map es ck) :: (aseg ++ (J ++ F1)))) := ⟨_, rfl⟩
  have i20 : I2 n9 F2 [] L4 := ⟨#[], 0, [], pc fun z => by have := pcn hp3 z; have := pcn hp4 z; rw [hF2]; simp only [cnt_a, cnt_c, cnt_n] at *; omega, rfl⟩
  have f12 : ∀ x ∈ F1, x ∈ F2 := fun x hx => by rw [hF2]; simp [hx]
  have f02 : ∀ x ∈ F0, x ∈ F2 := fun x hx => f12 x (f01 x hx)
  have f10 : (n10, Obj.cells #[.map (some n9)] 75) ∈ F2 := by rw [hF2]; exact List.mem_cons_self
  refine cl_of (each_it lv hs 3 ⟨.func 27, #[], #[.pointer (some ⟨n3, 0, none⟩), .pointer (some ⟨n10, 0, none⟩)]⟩ (fun done L => I2 n9 F2 ((done.map datQ).flatMap (killsOf d)) L) (by omega) (fun x hx => by have := (hs_ok hdat hx).2.2.2.2; omega)
    (fun done L hI => slF L fun x hx => hI.sub x (f02 x hx)) ?_ (L := L4) i20) ?_
  · intro done rest he x L k hsel hI hk
    have hq := selE_mem (kind := 3) (hs := hs) (q := (he, x)) (by rw [hsel]; simp)
    obtain ⟨⟨b, hb, hbB⟩, -, hir, -⟩ := hs_ok hdat hq.1
    refine clv_of (by kernel_rfl) (cl_of (read2_cl d n3 n9 n10 F2 pseg pv bs pown pok pdat (fun y hy => f02 y (fp y hy)) (fun y hy => f02 y (fb y hy)) (f02 _ f3) f10 _ he b hb hbB x (hir x hq.2.1) L hI) ?_)
    rintro _ L' - ⟨rfl, hI'⟩
    refine ⟨(), rfl, hk L' ?_⟩
    rw [List.map_append, List.flatMap_append]
    have e : ([(he, x)].map datQ).flatMap (killsOf d) = killsOf d (he.dat, x) := by simp [datQ]
    rw [e]; exact hI'
  rintro _ L5 - ⟨rfl, hI5⟩
  rw [sel_dat, hdat] at hI5
  have hkk : (selR 3 (heldR d)).flatMap (killsOf d) = allK d (heldR d) := rfl
  rw [hkk] at hI5
  generalize hksE : allK d (heldR d) = ks at *
  refine ⟨(), rfl, ?_⟩
  obtain ⟨es9, ck9, J9, hp5, hm9⟩ := hI5
  obtain ⟨G, hG⟩ : ∃ G : HList, G = (n9, Obj.map es9 ck9) :: ((n10, Obj.cells #[.map (some n9)] 75) :: ((n6, Obj.cells #[.slice av.a av.len av.cap] 31) :: (aseg ++ (J ++ (J9 ++ F1))))) := ⟨_, rfl⟩
  have hp6 : L5.Perm ((n7, Obj.map es ck) :: G) := pc fun z => by have := pcn hp5 z; rw [hG]; rw [hF2] at this; simp only [cnt_a, cnt_c, cnt_n] at *; omega
  have g9 : (n9, Obj.map es9 ck9) ∈ G := by rw [hG]; simp
  have g10 : (n10, Obj.cells #[.map (some n9)] 75) ∈ G := by rw [hG]; simp
  have g6 : (n6, Obj.cells #[.slice av.a av.len av.cap] 31) ∈ G := by rw [hG]; simp
  have g8 : (n8, Obj.cells #[.map (some n7)] 70) ∈ G := by rw [hG]; simp [f8]
  have ga : ∀ x ∈ aseg, x ∈ G := fun x hx => by rw [hG]; simp [hx]
  have havl := aown.sl.els_len LE.enc_len (by decide)
  have kil : ∀ p : It, (mget (killM ks) p).getD (.bool false) = .bool (decide (p ∈ ks)) := fun p => by
    rw [killM_get]
    by_cases hk : p ∈ ks
    · simp [hk]
    · simp [hk]
  refine ld_of av (ldB (c := #[.slice av.a av.len av.cap]) (T := 31) (fz := (0, 0)) (hp6.symm.subset (by simp [g6])) rfl) ?_
  refine lp_of (fun z' z L' => ∃ (i : Nat) (es7 : Array MapEntry) (ck7 : Nat) (mm : List (ByteArray × Value)), i ≤ all.length ∧ z' = all.length - i ∧ z = ((i : Int), ()) ∧ L'.Perm ((n7, Obj.map es7 ck7) :: G) ∧ Mp Value.string es7 mm ∧ (mm.map Prod.fst).Nodup ∧ ∀ k, mget mm k = gone all ks i k) all.length
    ⟨0, es, ck, lastM all, by omega, by omega, rfl, hp6, hm3, (lastM_get all ⟨#[]⟩).2, fun k => by rw [gone_0]; exact (lastM_get all k).1⟩ ?_
  rintro z' z L6 ⟨i, es7, ck7, mm, hi, rfl, rfl, hp7, hm7, hnd, hgo⟩
  dsimp only
  have hsub : ∀ x ∈ G, x ∈ L6 := fun x hx => hp7.symm.subset (List.mem_cons_of_mem _ hx)
  have h7 : (n7, Obj.map es7 ck7) ∈ L6 := hp7.symm.subset List.mem_cons_self
  refine ifb_of (fun (hlt : (i : Int) < av.len) => ?_) (fun (hge : ¬ (i : Int) < av.len) => ?_)
  · have hi' : i < all.length := by omega
    refine elp_el LE.enc_len (by decide) (aown.sl.mono fun x hx => hsub x (ga x hx)) rfl hi' fun a2 ha2 => ?_
    obtain ⟨p, hlo, hcur⟩ := gone_cur (ks := ks) hi'
    have hgs := fun k => gone_step (ks := ks) hi' hlo k
    generalize all[i] = x at ha2 hlo hcur hgs
    refine ld_of x ha2 (ld_of (some n9) (ldB (c := #[.map (some n9)]) (T := 75) (fz := (0, 0)) (hsub _ g10) rfl) (ld_of (some n7) (ldB (c := #[.map (some n7)]) (T := 70) (fz := (0, 0)) (hsub _ g8) rfl) ?_))
    obtain ⟨cur, hcv, hck⟩ : ∃ cur : It, (mget mm x.1).getD (plV (0, 0, 0, ())) = plV cur ∧ (p ∈ ks ∧ gone all ks i x.1 = none ∨ cur = p) := by
      rw [hgo]
      rcases hcur with ⟨h1, h2⟩ | h1
      · exact ⟨(0, 0, 0, ()), by rw [h1]; rfl, .inl ⟨h2, h1⟩⟩
      · exact ⟨p, by rw [h1]; rfl, .inr rfl⟩
    have lk := lookup_rd (P := PP) mapL h7 hm7 x.1
    rw [hcv] at lk
    refine ⟨(cur, ()), lk, ?_⟩
    have lk2 := lookup_rd (P := PP) mapK (hsub _ g9) hm9 cur
    rw [kil] at lk2
    refine ⟨(decide (cur ∈ ks), ()), lk2, ifb_of (fun (hk : cur ∈ ks) => ?_) (fun (hk : cur ∉ ks) => ?_)⟩
    · have hpk : p ∈ ks := by
        rcases hck with h1 | rfl
        · exact h1.1
        · exact hk
      refine ld_of (some n7) (ldB (c := #[.map (some n7)]) (T := 70) (fz := (0, 0)) (hsub _ g8) rfl) ?_
      refine delete_pm mapL hp7 hm7 x.1 fun es8 ck8 L7 hm8 hp8 => ?_
      refine w64_of (by omega) ⟨all.length - (i + 1), by omega, i + 1, es8, ck8, mdel mm x.1, by omega, rfl, rfl, hp8, hm8, (mdel_keys _ _ hnd).1, fun k => ?_⟩
      rw [mget_mdel _ _ _ hnd, hgs, hgo]
      by_cases he : k = x.1
      · rw [if_pos he, if_pos ⟨he, hpk⟩]
      · rw [if_neg he, if_neg fun h => he h.1]
    · refine w64_of (by omega) ⟨all.length - (i + 1), by omega, i + 1, es7, ck7, mm, by omega, rfl, rfl, hp7, hm7, hnd, fun k => ?_⟩
      rw [hgs, hgo]
      by_cases he : k = x.1 ∧ p ∈ ks
      · rw [if_pos he]
        rcases hck with h1 | rfl
        · rw [he.1]; exact h1.2
        · exact absurd he.2 hk
      · rw [if_neg he]
  · obtain rfl : i = all.length := by omega
    refine ld_of av (ldB (c := #[.slice av.a av.len av.cap]) (T := 31) (fz := (0, 0)) (hsub _ g6) rfl) ?_
    have hlk : ∀ x ∈ all, ∃ p, lastOf all x.1 = some p ∧ mget mm x.1 = if p ∈ ks then none else some (plV p) := fun x hx => by
      obtain ⟨p, hp⟩ := lastOf_mem hx
      exact ⟨p, hp, by rw [hgo, gone_all hx hp]⟩
    refine lp_of (fun z' z L' => ∃ (i : Nat) (ov : SlV) (oseg : HList), i ≤ all.length ∧ z' = all.length - i ∧ z = ((i : Int), ov, maxE (heldR d), ()) ∧ L'.Perm (oseg ++ L6) ∧ Own ov 4 eLv (((all.take i).filter fun x => decide (lastOf all x.1 = some x.2 ∧ x.2 ∉ ks)).flatMap LE.enc) oseg) all.length
      ⟨0, ⟨none, 0, 0⟩, [], by omega, by omega, rfl, List.Perm.refl _, own_nil⟩ ?_
    rintro z' z L7 ⟨i, ov, oseg, hi2, rfl, rfl, hp8, oown⟩
    dsimp only
    have hsub2 : ∀ x ∈ L6, x ∈ L7 := fun x hx => hp8.symm.subset (by simp [hx])
    have hol := oown.sl.els_len LE.enc_len (by decide)
    have hol2 := List.length_filter_le (fun x : LE => decide (lastOf all x.1 = some x.2 ∧ x.2 ∉ ks)) (all.take i)
    rw [List.length_take] at hol2
    refine ifb_of (fun (hlt : (i : Int) < av.len) => ?_) (fun (hge : ¬ (i : Int) < av.len) => ?_)
    · have hi' : i < all.length := by omega
      refine elp_el LE.enc_len (by decide) (aown.sl.mono fun x hx => hsub2 _ (hsub x (ga x hx))) rfl hi' fun a3 ha3 => ?_
      obtain ⟨p, hlo, hmg⟩ := hlk all[i] (List.getElem_mem hi')
      have htk := take_snoc all hi'
      generalize all[i] = x at ha3 hlo hmg htk
      refine ld_of x ha3 (ld_of (some n7) (ldB (c := #[.map (some n7)]) (T := 70) (fz := (0, 0)) (hsub2 _ (hsub _ g8)) rfl) ?_)
      have lk := lookup2_rd (P := PP) mapL (hsub2 _ h7) hm7 x.1
      rw [hmg] at lk
      have hno : ¬ (lastOf all x.1 = some x.2 ∧ x.2 ∉ ks) → ∃ k', k' < all.length - i ∧ ∃ (i' : Nat) (ov' : SlV) (oseg' : HList), i' ≤ all.length ∧ k' = all.length - i' ∧ (((i : Int) + 1, ov, maxE (heldR d), ()) : RsV [.lf (.int .i64), .lf .sl, .lf (.int .i64)]) = ((i' : Int), ov', maxE (heldR d), ()) ∧ L7.Perm (oseg' ++ L6) ∧ Own ov' 4 eLv (((all.take i').filter fun x => decide (lastOf all x.1 = some x.2 ∧ x.2 ∉ ks)).flatMap LE.enc) oseg' := fun hh => by
        refine ⟨all.length - (i + 1), by omega, i + 1, ov, oseg, by omega, rfl, rfl, hp8, ?_⟩
        rw [htk, List.filter_append, filt1, if_neg (by simpa using hh), List.append_nil]; exact oown
      by_cases hpk : p ∈ ks
      · rw [if_pos hpk] at lk
        refine ⟨((0, 0, 0, ()), false, ()), lk, ifF rfl (w64_of (by omega) (hno fun hh => ?_))⟩
        rw [hlo] at hh
        exact hh.2 (by rw [← Option.some.inj hh.1]; exact hpk)
      · rw [if_neg hpk] at lk
        refine ⟨(p, true, ()), lk, ifT rfl (eqPlc p x.2 (ifb_of (fun (he : p = x.2) => ?_) (fun (he : ¬ p = x.2) => ?_)))⟩
        · have hyes : lastOf all x.1 = some x.2 ∧ x.2 ∉ ks := ⟨by rw [hlo, he], by rw [← he]; exact hpk⟩
          refine apv_pm elemLv srcLv oown hp8 (ws := LE.enc x) rfl rfl (by omega) fun ov2 oseg2 hol3 oown2 => ?_
          refine w64_of (by omega) ⟨all.length - (i + 1), by omega, i + 1, ov2, oseg2, by omega, rfl, rfl, List.Perm.refl _, ?_⟩
          rw [htk, List.filter_append, filt1, if_pos (by simpa using hyes), List.flatMap_append, List.flatMap_singleton]; exact oown2
        · refine w64_of (by omega) (hno fun hh => he ?_)
          rw [hlo] at hh
          exact Option.some.inj hh.1
    · obtain rfl : i = all.length := by omega
      rw [List.take_length] at oown
      refine .drop (A := hseg ++ (hsegs hs ++ (oseg ++ A))) (J := (n7, Obj.map es7 ck7) :: ((n9, Obj.map es9 ck9) :: ((n10, Obj.cells #[.map (some n9)] 75) :: ((n6, Obj.cells #[.slice av.a av.len av.cap] 31) :: (aseg ++ (J ++ (J9 ++ ((n8, Obj.cells #[.map (some n7)] 70) :: ((n3, Obj.cells #[.slice pv.a pv.len pv.cap] 67) :: (c1 :: (pseg ++ bsegs bs)))))))))))
        ⟨lv, hs, hseg, ov, oseg, rfl, rfl, own, hok, hdat, ?_⟩ (pc fun z => ?_)
      · unfold liveD liveR
        rw [hallE, hksE]; exact oown
      · have e1 := pcn hp8 z
        have e2 := pcn hp7 z
        rw [hG, hF1, hF0] at e2
        simp only [cnt_a, cnt_c, cnt_n] at *
        omega
end Go.Proofs.YtlabcgnegbdlfaaDoor
set_option linter.unusedVariables false
set_option linter.unusedSimpArgs false
namespace Go.Proofs.YtlabcgnegbdlfaaDoor
open Go.HL

def putR (d : Dev) (c : Cf) (b ep : Int) (key val : List UInt8) : Bool × Dev :=
  if (cutR key val c).2 = 0 then (decide ((appR d b ep (nextOf d b) 2 (cutR key val c).1).1 = 0), (appR d b ep (nextOf d b) 2 (cutR key val c).1).2) else (false, d)
def cK : Cf := (4, 8, 64, 9, ())
def exK0 : Dev := fresh ⟨4, 8, 64, 9⟩
def exK1 : Dev := (openR exK0 2 1).2
def exK2 : Dev := (openR exK1 0 2).2
def exK3 : Dev := (putR exK2 cK 2 1 [97] [49]).2
def exK4 : Dev := (putR exK3 cK 2 1 [98] [50]).2
def exK5 : Dev := (putR exK4 cK 0 2 [97] [51]).2
def exK6 : Dev := (appR exK5 0 2 2 3 [(killR [(0, 1, 2, ())]).1]).2
theorem eK1 : (openR exK0 2 1).1 = 0 := by kernel_rfl
theorem eK2 : (openR exK1 0 2).1 = 0 := by kernel_rfl
theorem eK3 : (putR exK2 cK 2 1 [97] [49]).1 = true := by kernel_rfl
theorem eK4 : (putR exK3 cK 2 1 [98] [50]).1 = true := by kernel_rfl
theorem eK5 : (putR exK4 cK 0 2 [97] [51]).1 = true := by kernel_rfl
theorem eK6 : (appR exK5 0 2 2 3 [(killR [(0, 1, 2, ())]).1]).1 = 0 := by kernel_rfl
theorem eKf : fetchR exK6 (2, 2, 1, ()) = ([98], [50], 0) := by kernel_rfl
theorem eKg : fetchR exK6 (2, 2, 2, ()) = ([], [], 8) := by kernel_rfl
theorem eKh : heldR exK6 = [(2, 1, [(2, 1, 1, ()), (2, 2, 1, ())]), (0, 2, [(2, 1, 1, ()), (3, 2, 1, ())])] := by kernel_rfl
theorem eKl : liveD exK6 = [(⟨#[98]⟩, (2, 2, 1, ()))] := by kernel_rfl
theorem eKm : maxE (heldR exK6) = 2 := by rw [eKh]; rfl
theorem eKd : exK6.down = false := by kernel_rfl
theorem nextOf_rng {d : Dev} (ok : DvOk d) (b : Int) : 0 ≤ nextOf d b ∧ nextOf d b ≤ 16 := by
  have hP := ok.c.p
  unfold nextOf
  cases h : blkAt d b with
  | none => simp
  | some k =>
    have hm : k ∈ d.bs := by
      unfold blkAt at h
      split at h
      · exact List.mem_of_getElem? h
      · cases h
    have := (ok.nx k hm).1
    simp only [Option.elim_some]
    omega
theorem device30 (L : HList) : Reads PP 19 #[] L (.agg #[.int .i64 4, .int .i64 8, .int .i64 64, .int .i64 9]) := by
  unfold Reads
  refine c19 ?_
  unfold s19
  exact .of ⟨rfl, rfl⟩
theorem put_cl (m : Nat) (d : Dev) (A R : HList) (h : FH m d A) (g : DG d 1000) (hT : Tab R) (b ep : Int) (key val : ByteArray) (hk : key.size ≤ 100) :
    CallF PP 21 #[.pointer (some ⟨m, 0, none⟩), .int .i64 b, .int .i64 ep, .string key, .string val] (A ++ R) fun r L' => ∃ A' J, L'.Perm (A' ++ (R ++ J)) ∧ r = .bool (putR d cK b ep key.data.toList val.data.toList).1 ∧ FH m (putR d cK b ep key.data.toList val.data.toList).2 A' := by
  refine c21 (some ⟨m, 0, none⟩) b ep key val ?_
  unfold s21
  refine s2b_of fun n ob v hvl own hs => ?_
  refine cl_rd (device30 _) (cK, ()) rfl ?_
  refine cl_of (cut_cl ((n, ob) :: (A ++ R)) (hT.right.cons) key (by unfold maxLen; omega) v val.data.toList (own.sl.mono fun p hp => by simp at hp; simp [hp]) cK (by decide)) ?_
  rintro _ _ - ⟨ov, oseg, gs, rfl, rfl, oown, gok, gl⟩
  refine ⟨(ov, (cutR key.data.toList val.data.toList cK).2, ()), rfl, ifb_of (fun (h0 : (cutR key.data.toList val.data.toList cK).2 = 0) => ?_) (fun (h0 : ¬ (cutR key.data.toList val.data.toList cK).2 = 0) => ?_)⟩
  · have hpr : putR d cK b ep key.data.toList val.data.toList = (decide ((appR d b ep (nextOf d b) 2 (cutR key.data.toList val.data.toList cK).1).1 = 0), (appR d b ep (nextOf d b) 2 (cutR key.data.toList val.data.toList cK).1).2) := by unfold putR; rw [if_pos h0]
    refine cl_pm (R := oseg ++ (pgs gs ++ ((n, ob) :: R))) (next_rd m d A h g.ok b) (pc fun z => by simp only [cnt_a, cnt_c]; omega) ?_
    rintro _ A' ⟨rfl, hA'⟩
    rw [hA']
    refine ⟨_, List.Perm.refl _, (nextOf d b, ()), rfl, ?_⟩
    have hP : Parts (oseg ++ (pgs gs ++ ((n, ob) :: R))) ov (pvs gs) := parts_l oown gok (Y := (n, ob) :: R) (List.Perm.refl _)
    have hpl : (pvs gs).length ≤ 8 := by
      have h1 := congrArg List.length gl
      rw [List.length_map] at h1
      have h2 : (cutR key.data.toList val.data.toList cK).1.length ≤ 8 := by
        unfold cutR
        split
        · simp
        · split
          · simp
          · split
            · simp
            · rename_i hne
              obtain ⟨_, _, _, _, _, h3, h4, _⟩ := pagesOf_ne hne
              simp only [chunks, List.length_map, List.length_range]
              omega
      unfold pvs
      rw [List.length_map]; omega
    have hnx := nextOf_rng g.ok b
    refine cl_of (append_cl m d A _ h ov (pvs gs) hP (by omega) (g.le (by omega)) b ep (nextOf d b) 2 (wf_mk (by omega))) ?_
    rintro _ _ - ⟨A2, rfl, rfl, h2⟩
    rw [pvs_snd, gl] at h2 ⊢
    exact ⟨((appR d b ep (nextOf d b) 2 (cutR key.data.toList val.data.toList cK).1).1, ()), rfl, .of ⟨A2, oseg ++ (pgs gs ++ [(n, ob)]), pc fun z => by simp only [cnt_a, cnt_c, cnt_n]; omega, by rw [hpr]; rfl, by rw [hpr]; exact h2⟩⟩
  · have hpr : putR d cK b ep key.data.toList val.data.toList = (false, d) := by unfold putR; rw [if_neg h0]
    exact .of ⟨A, oseg ++ (pgs gs ++ [(n, ob)]), pc fun z => by simp only [cnt_a, cnt_c, cnt_n]; omega, by rw [hpr], by rw [hpr]; exact h⟩
end Go.Proofs.YtlabcgnegbdlfaaDoor
set_option linter.unusedVariables false
set_option linter.unusedSimpArgs false
namespace Go.Proofs.YtlabcgnegbdlfaaDoor
open Go.HL

theorem putR_g {d : Dev} {n : Nat} (g : DG d (n + 8)) (c : Cf) (b ep : Int) (key val : List UInt8) : DG (putR d c b ep key val).2 n := by
  unfold putR
  split
  · refine appR_g (m := n) (g.le ?_) _ _ _ _
    unfold cutR
    split
    · simp
    · split
      · simp
      · split
        · simp
        · rename_i hne
          obtain ⟨_, _, _, _, _, h3, h4, _⟩ := pagesOf_ne hne
          simp only [chunks, List.length_map, List.length_range]
          omega
  · exact g.le (by omega)
theorem finds_cl (L : HList) (hT : Tab L) : CallF PP 5 #[] L fun r L' => r = .bool true ∧ ∃ J, L'.Perm (L ++ J) := by
  refine c5 ?_
  unfold s5
  refine cl_rd (device30 L) (cK, ()) rfl ?_
  refine cl_pm (R := L) (new_cl cK) (List.Perm.refl _) ?_
  rintro _ A (⟨hn, -, -⟩ | ⟨-, m, rfl, hA⟩)
  · exact absurd (by decide) hn
  have hA : FH m exK0 A := hA
  refine ⟨_, List.Perm.refl _, (some ⟨m, 0, none⟩, 0, ()), rfl, ifT rfl ?_⟩
  have g0 : DG exK0 2000 := ⟨fresh_ok ⟨by decide, by decide, by decide, by decide⟩, by decide⟩
  refine cl_of (open_cl m exK0 A L hA (g0.le (by decide)) 2 1) ?_
  rintro _ _ - ⟨A1, rfl, rfl, h1⟩
  have h1 : FH m exK1 A1 := h1
  have g1 : DG exK1 1900 := progI_g (n := 1900) (g0.le (by decide)) _ _ _
  refine ⟨((openR exK0 2 1).1, ()), rfl, cl_of (open_cl m exK1 A1 L h1 (g1.le (by decide)) 0 2) ?_⟩
  rintro _ _ - ⟨A2, rfl, rfl, h2⟩
  have h2 : FH m exK2 A2 := h2
  have g2 : DG exK2 1800 := progI_g (n := 1800) (g1.le (by decide)) _ _ _
  refine ⟨((openR exK1 0 2).1, ()), rfl, cl_of (put_cl m exK2 A2 L h2 (g2.le (by decide)) hT 2 1 ⟨#[97]⟩ ⟨#[49]⟩ (by decide)) ?_⟩
  rintro _ L3 - ⟨A3, J3, hp3, rfl, h3⟩
  have h3 : FH m exK3 A3 := h3
  have g3 : DG exK3 1700 := putR_g (n := 1700) (g2.le (by decide)) _ _ _ _ _
  refine ⟨((putR exK2 cK 2 1 [97] [49]).1, ()), rfl, ifT eK3 (cl_p (put_cl m exK3 A3 (L ++ J3) h3 (g3.le (by decide)) hT.left 2 1 ⟨#[98]⟩ ⟨#[50]⟩ (by decide)) hp3 ?_)⟩
  rintro _ L4 ⟨A4, J4, hp4, rfl, h4⟩
  have h4 : FH m exK4 A4 := h4
  have g4 : DG exK4 1600 := putR_g (n := 1600) (g3.le (by decide)) _ _ _ _ _
  refine ⟨((putR exK3 cK 2 1 [98] [50]).1, ()), rfl, ifT eK4 (cl_p (put_cl m exK4 A4 ((L ++ J3) ++ J4) h4 (g4.le (by decide)) hT.left.left 0 2 ⟨#[97]⟩ ⟨#[51]⟩ (by decide)) hp4 ?_)⟩
  rintro _ L5 ⟨A5, J5, hp5, rfl, h5⟩
  have h5 : FH m exK5 A5 := h5
  have g5 : DG exK5 1500 := putR_g (n := 1500) (g4.le (by decide)) _ _ _ _ _
  refine ⟨((putR exK4 cK 0 2 [97] [51]).1, ()), rfl, nw_of fun n1 _ => ?_⟩
  obtain ⟨o1, ho1⟩ : ∃ o1 : Nat × Obj, o1 = (n1, Obj.cells #[.int .i64 0, .int .i64 1, .int .i64 2] 41) := ⟨_, rfl⟩
  rw [← ho1]
  have hsl : Sl (o1 :: L5) ⟨some ⟨n1, 0, none⟩, 1, 1⟩ 3 (([(0, 1, 2, ())] : List It).flatMap itEnc) := ⟨rfl, Nat.le_refl _, .inr ⟨_, rfl, ldB (by rw [ho1]; exact List.mem_cons_self) rfl⟩⟩
  refine cl_of (killload_cl (o1 :: L5) ⟨some ⟨n1, 0, none⟩, 1, 1⟩ [(0, 1, 2, ())] hsl (by decide)) ?_
  rintro _ _ - ⟨g, rfl, rfl, hg, hgl⟩
  refine ⟨(g.v, (killR [(0, 1, 2, ())]).2, ()), rfl, nw_of fun n2 _ => ?_⟩
  obtain ⟨o2, ho2⟩ : ∃ o2 : Nat × Obj, o2 = (n2, Obj.cells #[.slice g.v.a g.v.len g.v.cap] 44) := ⟨_, rfl⟩
  rw [← ho2]
  have hP : Parts (o2 :: (g.seg ++ (o1 :: (((L ++ J3) ++ J4) ++ J5)))) ⟨some ⟨n2, 0, none⟩, 1, 1⟩ [(g.v, (killR [(0, 1, 2, ())]).1)] := ⟨⟨rfl, Nat.le_refl _, .inr ⟨_, rfl, ldB (by rw [ho2]; exact List.mem_cons_self) rfl⟩⟩, fun x hx => by
    rw [List.mem_singleton.1 hx]
    unfold PG.Ok at hg
    rw [hgl] at hg
    exact hg.sl.left.cons⟩
  refine cl_p (append_cl m exK5 A5 (o2 :: (g.seg ++ (o1 :: (((L ++ J3) ++ J4) ++ J5)))) h5 _ _ hP (by simp) (g5.le (by simp)) 0 2 2 3 (wf_mk (by decide))) (pc fun z => by have := pcn hp5 z; simp only [cnt_a, cnt_c] at *; omega) ?_
  rintro _ _ ⟨A6, rfl, rfl, h6⟩
  have h6 : FH m exK6 A6 := h6
  have g6 : DG exK6 1400 := appR_g (m := 1400) (g5.le (by simp)) _ _ _ _
  generalize hR6 : (o2 :: (g.seg ++ (o1 :: (((L ++ J3) ++ J4) ++ J5)))) = R6 at *
  have hR6L : ∃ J, R6.Perm (L ++ J) := ⟨o2 :: (g.seg ++ (o1 :: (J3 ++ (J4 ++ J5)))), by rw [← hR6]; exact pc fun z => by simp only [cnt_a, cnt_c]; omega⟩
  refine ⟨(0, ()), congrArg (Value.int .i64) eK6, ?_⟩
  refine cl_pm (read_cl2 m exK6 A6 h6 g6.ok eKd) (List.Perm.refl _) ?_
  rintro _ _ ⟨lv, hs, hseg, vv, vseg, rfl, rfl, F⟩
  obtain ⟨fown, fok, fdat, fvown⟩ := F
  rw [eKh] at fdat
  rw [eKl] at fvown
  rw [eKm]
  refine ⟨_, List.Perm.refl _, ((lv, vv, 2, ()), 0, ()), rfl, ?_⟩
  generalize hL7 : hseg ++ (hsegs hs ++ (vseg ++ A6)) ++ R6 = L7
  have hp7 : L7.Perm (A6 ++ (hseg ++ (hsegs hs ++ (vseg ++ R6)))) := by rw [← hL7]; exact pc fun z => by simp only [cnt_a]; omega
  refine cl_pm (fetch_cl m exK6 A6 h6 g6.ok (2, 2, 1, ()) (wf_mk (by decide))) hp7 ?_
  rintro _ _ ⟨q1, rfl, rfl, hq1, hql1⟩
  rw [eKf] at hql1 ⊢
  refine ⟨_, List.Perm.refl _, (⟨#[98]⟩, q1.v, 0, ()), rfl, ?_⟩
  refine cl_pm (fetch_cl m exK6 A6 h6 g6.ok (2, 2, 2, ()) (wf_mk (by decide))) (R := q1.seg ++ (hseg ++ (hsegs hs ++ (vseg ++ R6)))) (pc fun z => by simp only [cnt_a]; omega) ?_
  rintro _ _ ⟨q2, rfl, rfl, hq2, hql2⟩
  rw [eKg] at hql2 ⊢
  refine ⟨_, List.Perm.refl _, (⟨#[]⟩, q2.v, 8, ()), rfl, ?_⟩
  refine cl_of (read_nil _) ?_
  rintro _ L8 - ⟨rfl, hL8⟩
  rw [hL8]
  refine ⟨((⟨none, 0, 0⟩, ⟨none, 0, 0⟩, 0, ()), 1, ()), rfl, ?_⟩
  refine ifP eK1 (ifP eK2 (ifT eK5 (ifT rfl (ifT rfl (ifT rfl ?_)))))
  have hhl : hs.length = 2 := by have := congrArg List.length fdat; rwa [List.length_map] at this
  have hvl := fown.sl.els_len HE.enc_len (by decide)
  have hvvl := fvown.sl.els_len LE.enc_len (by decide)
  refine ifP (show (lv.len : Int) = 2 by omega) ?_
  refine elp_el HE.enc_len (by decide) (i := 0) (n := 0) (fown.sl.mono fun p hp => by simp [hp]) rfl (by omega) fun a ha => ?_
  have h0 : hs[0].b = 2 := by
    have h1 : (hs.map HE.dat)[0]? = some (hs[0]'(by omega)).dat := by rw [List.getElem?_map, List.getElem?_eq_getElem (by omega)]; rfl
    rw [fdat] at h1
    have h2 := Option.some.inj h1
    exact (congrArg (fun q : HD => q.1) h2).symm
  refine ld_of hs[0].b ha.hd (ifP h0 (ifP (show (vv.len : Int) = 1 by rw [hvvl]; rfl) ?_))
  refine elp_el LE.enc_len (by decide) (i := 0) (n := 0) (fvown.sl.mono fun p hp => by simp [hp]) rfl (by decide) fun a2 ha2 => ?_
  refine ld_of (⟨#[98]⟩ : ByteArray) ha2.hd (ifP rfl (ifP rfl ?_))
  unfold PG.Ok at hq1
  rw [hql1] at hq1
  refine b2s_of (hq1.sl.mono fun p hp => by simp [hp]) (ifP rfl (ifP rfl (ifP rfl ?_)))
  obtain ⟨J6, hJ6⟩ := hR6L
  exact .of ⟨rfl, q2.seg ++ (A6 ++ (q1.seg ++ (hseg ++ (hsegs hs ++ (vseg ++ J6))))), pc fun z => by have := pcn hJ6 z; simp only [cnt_a] at *; omega⟩
end Go.Proofs.YtlabcgnegbdlfaaDoor
set_option linter.unusedVariables false
set_option linter.unusedSimpArgs false
namespace Go.Proofs.YtlabcgnegbdlfaaDoor
open Go.HL

theorem rawR_blocks (d : Dev) : ∀ n : Nat, ((rawR d n).map fun h => h.1).Nodup ∧ ∀ h ∈ rawR d n, h.1 < (n : Int)
  | 0 => ⟨List.nodup_nil, by simp [rawR]⟩
  | n + 1 => by
    obtain ⟨i1, i2⟩ := rawR_blocks d n
    rw [rawR_succ]
    cases hr : regR d n with
    | none =>
      simp only [Option.toList_none, List.append_nil]
      exact ⟨i1, fun h hh => by have := i2 h hh; omega⟩
    | some x =>
      have hx := (regR_b hr).1
      refine ⟨?_, fun h hh => ?_⟩
      · rw [Option.toList_some, List.map_append, List.map_singleton, List.nodup_append]
        refine ⟨i1, List.nodup_cons.2 ⟨by simp, List.nodup_nil⟩, fun a ha b hb => ?_⟩
        rw [List.mem_singleton] at hb
        subst hb
        obtain ⟨h, hh, rfl⟩ := List.mem_map.1 ha
        have := i2 h hh
        omega
      · rcases List.mem_append.1 hh with hh | hh
        · have := i2 h hh; omega
        · rw [Option.toList_some, List.mem_singleton] at hh
          subst hh; omega
def blkR (d : Dev) : List Int := (heldR d).map fun h => h.1
theorem blkR_nodup (d : Dev) : (blkR d).Nodup := by
  unfold blkR heldR
  exact ((isort_perm epK (rawR d d.c.B)).map (fun h : HD => h.1)).nodup_iff.2 (rawR_blocks d d.c.B).1
theorem idx_at {l : List Int} (hn : l.Nodup) {i : Nat} (hi : i < l.length) : l.idxOf l[i] = i := List.Nodup.idxOf_getElem hn i hi
theorem held_ord (d : Dev) : (heldR d).Pairwise fun a b => (blkR d).idxOf a.1 ≤ (blkR d).idxOf b.1 ∧ a.1 ≠ b.1 := by
  have hn := blkR_nodup d
  rw [List.pairwise_iff_getElem]
  intro i j hi hj hij
  have hl : (blkR d).length = (heldR d).length := by unfold blkR; rw [List.length_map]
  have e : ∀ (k : Nat) (hk : k < (heldR d).length), (heldR d)[k].1 = (blkR d)[k]'(by omega) := fun k hk => by unfold blkR; rw [List.getElem_map]
  rw [e i hi, e j hj]
  refine ⟨by rw [idx_at hn, idx_at hn]; omega, fun h => ?_⟩
  have h1 := idx_at hn (i := i) (by omega)
  have h2 := idx_at hn (i := j) (by omega)
  rw [h] at h1
  omega
theorem sel_ord (d : Dev) (kind : Int) : (selR kind (heldR d)).Pairwise fun a b => (blkR d).idxOf a.1.1 ≤ (blkR d).idxOf b.1.1 ∧ (a.1.1 ≠ b.1.1 ∨ a.2.2.1 ≠ b.2.2.1) := by
  unfold selR
  rw [List.pairwise_flatMap]
  refine ⟨fun h hh => ?_, (held_ord d).imp fun {a b} hab x hx y hy => ?_⟩
  · obtain ⟨b, -, hb⟩ := held_mem hh
    have ho := (regR_b hb).2.2.2
    rw [List.pairwise_map]
    refine (ho.filter _).imp fun {x y} hxy => ⟨Nat.le_refl _, .inr ?_⟩
    simp only
    omega
  · obtain ⟨x', -, rfl⟩ := List.mem_map.1 hx
    obtain ⟨y', -, rfl⟩ := List.mem_map.1 hy
    exact ⟨hab.1, .inl hab.2⟩
theorem all_ord (d : Dev) : (allL d (heldR d)).Pairwise fun x y => (blkR d).idxOf x.2.1 ≤ (blkR d).idxOf y.2.1 ∧ x.2 ≠ y.2 := by
  unfold allL
  rw [List.pairwise_filterMap]
  refine (sel_ord d 2).imp fun {a b} hab x hx y hy => ?_
  have key : ∀ {q : HD × It} {x : LE}, liveOf d q = some x → x.2 = plOf q.1 q.2 := fun {q x} h => by
    unfold liveOf at h
    split at h
    · obtain rfl := Option.some.inj h; rfl
    · cases h
  rw [key hx, key hy]
  refine ⟨hab.1, fun h => ?_⟩
  unfold plOf at h
  have h1 := congrArg (fun t : It => t.1) h
  have h2 := congrArg (fun t : It => t.2.1) h
  rcases hab.2 with h3 | h3
  · exact h3 h1
  · exact h3 h2
/-- What is known of a live entry. -/
structure LiveOk (d : Dev) (x : LE) : Prop where
  fetch : (fetchR d x.2).2.2 = 0 ∧ keyB (fetchR d x.2).1 = x.1
  held : ∃ h ∈ heldR d, h.1 = x.2.1 ∧ h.2.1 = x.2.2.2.1
  page : 1 ≤ x.2.2.1 ∧ x.2.2.1 ≤ 255
theorem all_ok {d : Dev} {x : LE} (hx : x ∈ allL d (heldR d)) : LiveOk d x := by
  unfold allL at hx
  rw [List.mem_filterMap] at hx
  obtain ⟨q, hq, h⟩ := hx
  unfold selR at hq
  rw [List.mem_flatMap] at hq
  obtain ⟨hd, hm, hq⟩ := hq
  obtain ⟨y, hy, rfl⟩ := List.mem_map.1 hq
  have hy := (List.mem_filter.1 hy).1
  obtain ⟨b, -, hb⟩ := held_mem hm
  have hr := (regR_b hb).2.2.1 y hy
  unfold liveOf at h
  split at h
  · rename_i h0
    obtain rfl := Option.some.inj h
    exact ⟨⟨h0, rfl⟩, ⟨hd, hm, rfl, rfl⟩, hr.1, hr.2.1⟩
  · cases h
theorem live_ok {d : Dev} {x : LE} (hx : x ∈ liveD d) : LiveOk d x := all_ok (List.mem_filter.1 hx).1
theorem live_ord (d : Dev) : (liveD d).Pairwise fun x y => (blkR d).idxOf x.2.1 ≤ (blkR d).idxOf y.2.1 ∧ x.1 ≠ y.1 := by
  have h0 : (liveD d).Pairwise fun x y => (blkR d).idxOf x.2.1 ≤ (blkR d).idxOf y.2.1 ∧ x.2 ≠ y.2 := (all_ord d).filter _
  rw [List.pairwise_iff_getElem] at h0 ⊢
  intro i j hi hj hij
  refine ⟨(h0 i j hi hj hij).1, fun h => (h0 i j hi hj hij).2 ?_⟩
  have h1 := (List.mem_filter.1 (List.getElem_mem hi)).2
  have h2 := (List.mem_filter.1 (List.getElem_mem hj)).2
  simp only [decide_eq_true_eq] at h1 h2
  have h3 := h1.1
  have h4 := h2.1
  rw [h] at h3
  exact Option.some.inj (h3.symm.trans h4)
theorem maxE_ge : ∀ (l : List HD) (a : Int), a ≤ l.foldl (fun a h => imax a h.2.1) a ∧ ∀ h ∈ l, h.2.1 ≤ l.foldl (fun a h => imax a h.2.1) a
  | [], a => by simp
  | x :: r, a => by
    obtain ⟨h1, h2⟩ := maxE_ge r (imax a x.2.1)
    have h3 : a ≤ imax a x.2.1 ∧ x.2.1 ≤ imax a x.2.1 := by unfold imax; split <;> omega
    rw [List.foldl_cons]
    refine ⟨by omega, fun h hh => ?_⟩
    rcases List.mem_cons.1 hh with rfl | hh
    · omega
    · exact h2 h hh
theorem held_sorted (d : Dev) : (heldR d).Pairwise fun a b => a.2.1 ≤ b.2.1 := isort_sorted epK (rawR d d.c.B)
theorem held_at {d : Dev} {x : LE} (hx : LiveOk d x) : ∃ (i : Nat) (hi : i < (heldR d).length), (heldR d)[i].1 = x.2.1 ∧ (heldR d)[i].2.1 = x.2.2.2.1 ∧ (blkR d).idxOf x.2.1 = i := by
  obtain ⟨h, hh, e1, e2⟩ := hx.held
  obtain ⟨i, hi, rfl⟩ := List.getElem_of_mem hh
  refine ⟨i, hi, e1, e2, ?_⟩
  have hl : (blkR d).length = (heldR d).length := by unfold blkR; rw [List.length_map]
  have e : (blkR d)[i]'(by omega) = x.2.1 := by rw [← e1]; unfold blkR; rw [List.getElem_map]
  rw [← e]; exact idx_at (blkR_nodup d) (by omega)
end Go.Proofs.YtlabcgnegbdlfaaDoor
set_option linter.unusedVariables false
set_option linter.unusedSimpArgs false
namespace Go.Proofs.YtlabcgnegbdlfaaDoor
open Go.HL

abbrev FA := Int × Int × Int × (SlV × List UInt8) × Int × Int × Unit
def faEnc (x : FA) : List Value := [.int .i64 x.1, .int .i64 x.2.1, .int .i64 x.2.2.1, .slice x.2.2.2.1.1.a x.2.2.2.1.1.len x.2.2.2.1.1.cap, .int .i64 x.2.2.2.2.1, .int .i64 x.2.2.2.2.2.1]
theorem fa_len (x : FA) : (faEnc x).length = 6 := rfl
/-- A list of acts that came in. -/
structure FActs (L : HList) (v : SlV) (l : List FA) : Prop where
  sl : Sl L v 6 (l.flatMap faEnc)
  val : ∀ x ∈ l, BSl L x.2.2.2.1.1 x.2.2.2.1.2
  rng : ∀ x ∈ l, x.2.2.2.2.1 ≤ 9223372036854775807
theorem FActs.len {L : HList} {v : SlV} {l : List FA} (h : FActs L v l) : v.len = l.length := h.sl.els_len fa_len (by decide)
end Go.Proofs.YtlabcgnegbdlfaaDoor
set_option linter.unusedVariables false
set_option linter.unusedSimpArgs false
namespace Go.Proofs.YtlabcgnegbdlfaaDoor
open Go.HL

theorem played_cl (L : HList) (c : Int × Int × Int × Int × Unit) (v : SlV) (l : List FA) (h : FActs L v l) :
    CallF PP 4 #[.agg #[.int .i64 c.1, .int .i64 c.2.1, .int .i64 c.2.2.1, .int .i64 c.2.2.2.1], .slice v.a v.len v.cap] L fun r L' =>
      (∃ J, r = .tuple #[.pointer none, .pointer none] ∧ L'.Perm (L ++ J)) ∨ (∃ m m2 d A J, r = .tuple #[.pointer (some ⟨m, 0, none⟩), .pointer (some ⟨m2, 0, none⟩)] ∧ L'.Perm (A ++ (L ++ J)) ∧ FH m d A ∧ DG d 100) := by
  refine c4 c v ?_
  unfold s4
  have hvl := h.len
  have hno : ∀ {L2 J : HList}, L2.Perm (L ++ J) → HL.Ends (fun r L' => (∃ J, r = .tuple #[.pointer none, .pointer none] ∧ L'.Perm (L ++ J)) ∨ (∃ m m2 d A J, r = .tuple #[.pointer (some ⟨m, 0, none⟩), .pointer (some ⟨m2, 0, none⟩)] ∧ L'.Perm (A ++ (L ++ J)) ∧ FH m d A ∧ DG d 100)) (.tuple #[.pointer none, .pointer none]) L2 :=
    fun {L2 J} hp => .of (.inl ⟨J, rfl, hp⟩)
  refine cl_pm (R := L) (new_cl c) (List.Perm.refl _) ?_
  rintro _ A (⟨hn, rfl, rfl⟩ | ⟨hr, m, rfl, hA⟩)
  · refine ⟨_, List.Perm.refl _, (none, 30, ()), rfl, cl_pm (R := L) (rnew_cl c) (List.Perm.refl _) ?_⟩
    rintro _ A2 (⟨-, rfl, rfl⟩ | ⟨hr, -⟩)
    · refine ⟨_, List.Perm.refl _, (none, 30, ()), rfl, ?_⟩
      exact jn_of (fun _ _ => False) (fun _ _ h => h.elim) fun j hj => ifN (by decide) (hno (J := []) (by simp))
    · exact absurd hr hn
  refine ⟨_, List.Perm.refl _, (some ⟨m, 0, none⟩, 0, ()), rfl, cl_pm (R := A ++ L) (rnew_cl c) (List.Perm.refl _) ?_⟩
  rintro _ A2 (⟨hn, -⟩ | ⟨-, m2, rfl, hA2⟩)
  · exact absurd hr hn
  refine ⟨_, List.Perm.refl _, (some ⟨m2, 0, none⟩, 0, ()), rfl, ?_⟩
  have g0 : DG (fresh (cfg c)) 1000 := ⟨fresh_ok (cfg_ok hr), by show 0 + 1000 ≤ 1048576; decide⟩
  refine jn_of (fun _ L' => L' = A2 ++ (A ++ L) ∧ v.len ≤ 200) ?_ (fun j hj => ifP rfl (ifb_of (fun (h2 : (v.len : Int) > 200) => hno (J := A2 ++ A) (pc fun z => by simp only [cnt_a]; omega)) (fun (h2 : ¬ (v.len : Int) > 200) => hj _ _ ⟨rfl, by omega⟩)))
  rintro _ _ ⟨rfl, hvs⟩
  refine lp_of (fun z' z L' => ∃ (i : Nat) (d : Dev) (A A2 J : HList), i ≤ l.length ∧ z' = l.length - i ∧ z = ((i : Int), ()) ∧ L'.Perm (A2 ++ (A ++ (L ++ J))) ∧ FH m d A ∧ RH m2 d A2 ∧ DG d (1000 - i)) l.length ⟨0, fresh (cfg c), A, A2, [], by omega, by omega, rfl, by simp, hA, hA2, g0⟩ ?_
  rintro z' z L1 ⟨i, d, A, A2, J, hi, rfl, rfl, hp, hA, hA2, g⟩
  dsimp only
  refine ifb_of (fun (hlt : (i : Int) < v.len) => ?_) (fun (hge : ¬ (i : Int) < v.len) => ?_)
  · have hi' : i < l.length := by omega
    refine elp_el fa_len (by decide) (h.sl.mono fun p hq => hp.symm.subset (by simp [hq])) rfl hi' fun a ha => ?_
    have hmem : l[i] ∈ l := List.getElem_mem hi'
    generalize l[i] = x at ha hmem
    have hxb := h.val x hmem
    have hxn := h.rng x hmem
    refine ld_of (x.1, x.2.1, x.2.2.1, x.2.2.2.1.1, x.2.2.2.2.1, x.2.2.2.2.2.1, ()) ha ?_
    dsimp only
    have hg1 : DG d 1 := g.le (by omega)
    have next : ∀ (d' : Dev) (A' A2' J' L' : HList), L'.Perm (A2' ++ (A' ++ (L ++ J'))) → FH m d' A' → RH m2 d' A2' → DG d' (1000 - (i + 1)) →
        ∃ k', k' < l.length - i ∧ ∃ (i' : Nat) (d : Dev) (A A2 J : HList), i' ≤ l.length ∧ k' = l.length - i' ∧ ((((i : Int) + 1 : Int), ()) : RsV [.lf (.int .i64)]) = ((i' : Int), ()) ∧ L'.Perm (A2 ++ (A ++ (L ++ J))) ∧ FH m d A ∧ RH m2 d A2 ∧ DG d (1000 - i') :=
      fun d' A' A2' J' L' h1 h2 h3 h4 => ⟨l.length - (i + 1), by omega, i + 1, d', A', A2', J', by omega, rfl, rfl, h1, h2, h3, h4⟩
    refine ifb_of (fun (hbig : (x.2.2.2.1.1.len : Int) > 600) => hno (J := A2 ++ (A ++ J)) (pc fun z => by have := pcn hp z; simp only [cnt_a] at *; omega)) (fun _ => ?_)
    refine ifb_of (fun (k0 : x.1 = 0) => ?_) (fun (k0 : ¬ x.1 = 0) => ?_)
    · refine cl_p (program_cl m d A (A2 ++ (L ++ J)) hA hg1.ok (by have := hg1.few; omega) x.2.1 x.2.2.1 x.2.2.2.1.1 x.2.2.2.1.2 (hxb.mono fun p hq => by simp [hq])) (pc fun z => by have := pcn hp z; simp only [cnt_a] at *; omega) ?_
      rintro _ _ ⟨A', rfl, rfl, hA'⟩
      refine ⟨((prog d x.2.1 x.2.2.1 x.2.2.2.1.2).1, ()), rfl, ?_⟩
      refine cl_p (rprogram_cl m2 d A2 (A' ++ (L ++ J)) hA2 hg1.ok (by have := hg1.few; omega) x.2.1 x.2.2.1 x.2.2.2.1.1 x.2.2.2.1.2 (hxb.mono fun p hq => by simp [hq])) (pc fun z => by simp only [cnt_a]; omega) ?_
      rintro _ _ ⟨A2', rfl, rfl, hA2'⟩
      refine ⟨((prog d x.2.1 x.2.2.1 x.2.2.2.1.2).1, ()), rfl, w64_of (by omega) (next _ A' A2' J _ (List.Perm.refl _) hA' hA2' ⟨prog_ok hg1.ok _ _ _, ?_⟩)⟩
      have h1 := prog_torn d x.2.1 x.2.2.1 x.2.2.2.1.2
      have h2 := g.few
      omega
    refine ifb_of (fun (k2 : x.1 = 2) => ?_) (fun (k2 : ¬ x.1 = 2) => ?_)
    · refine cl_pm (erase_cl m d A hA hg1.ok x.2.1) (R := A2 ++ (L ++ J)) (pc fun z => by have := pcn hp z; simp only [cnt_a] at *; omega) ?_
      rintro _ A' ⟨rfl, hA'⟩
      refine ⟨_, List.Perm.refl _, ((eraseR d x.2.1).1, ()), rfl, ?_⟩
      refine cl_pm (rerase_cl m2 d A2 hA2 hg1.ok x.2.1) (R := A' ++ (L ++ J)) (pc fun z => by simp only [cnt_a]; omega) ?_
      rintro _ A2' ⟨rfl, hA2'⟩
      exact ⟨_, List.Perm.refl _, ((eraseR d x.2.1).1, ()), rfl, w64_of (by omega) (next _ A' A2' J _ (List.Perm.refl _) hA' hA2' ((g.erase x.2.1).le (by omega)))⟩
    refine ifb_of (fun (k3 : x.1 = 3) => ?_) (fun (k3 : ¬ x.1 = 3) => ?_)
    · refine cl_pm (arm_cl m d A hA x.2.2.2.2.1 x.2.2.2.2.2.1) (R := A2 ++ (L ++ J)) (pc fun z => by have := pcn hp z; simp only [cnt_a] at *; omega) ?_
      rintro _ A' ⟨rfl, hA'⟩
      refine ⟨_, List.Perm.refl _, (), rfl, ?_⟩
      refine cl_pm (rarm_cl m2 d A2 hA2 x.2.2.2.2.1 x.2.2.2.2.2.1) (R := A' ++ (L ++ J)) (pc fun z => by simp only [cnt_a]; omega) ?_
      rintro _ A2' ⟨rfl, hA2'⟩
      exact ⟨_, List.Perm.refl _, (), rfl, w64_of (by omega) (next _ A' A2' J _ (List.Perm.refl _) hA' hA2' ((g.arm hxn).le (by omega)))⟩
    · refine cl_pm (restart_cl m d A hA) (R := A2 ++ (L ++ J)) (pc fun z => by have := pcn hp z; simp only [cnt_a] at *; omega) ?_
      rintro _ A' ⟨rfl, hA'⟩
      refine ⟨_, List.Perm.refl _, (), rfl, ?_⟩
      refine cl_pm (rrestart_cl m2 d A2 hA2) (R := A' ++ (L ++ J)) (pc fun z => by simp only [cnt_a]; omega) ?_
      rintro _ A2' ⟨rfl, hA2'⟩
      exact ⟨_, List.Perm.refl _, (), rfl, w64_of (by omega) (next _ A' A2' J _ (List.Perm.refl _) hA' hA2' (g.restart.le (by omega)))⟩
  · exact .of (.inr ⟨m, m2, d, A, A2 ++ J, rfl, pc fun z => by have := pcn hp z; simp only [cnt_a] at *; omega, hA, g.le (by omega)⟩)
theorem law_RebuildOnce (L : HList) (hT : Tab L) (c : Int × Int × Int × Int × Unit) (v : SlV) (l : List FA) (h : FActs L v l) :
    Reads PP 3 #[.agg #[.int .i64 c.1, .int .i64 c.2.1, .int .i64 c.2.2.1, .int .i64 c.2.2.2.1], .slice v.a v.len v.cap] L (.bool true) := by
  unfold Reads
  refine c3 c v ?_
  unfold s3
  have fin : ∀ {L2 J : HList}, L2.Perm (L ++ J) → cl PP 5 #[] [.lf .bool] (fun r => HL.Ends (fun v' L' => v' = .bool true ∧ L' = L) (.bool r.1)) L2 := fun {L2 J} hp => by
    refine cl_of (finds_cl L2 (hT.mono fun p hq => hp.symm.subset (by simp [hq]))) ?_
    rintro _ L3 - ⟨rfl, J3, hp3⟩
    exact ⟨(true, ()), rfl, .drop (A := L) (J := J ++ J3) ⟨rfl, rfl⟩ (pc fun z => by have := pcn hp z; have := pcn hp3 z; simp only [cnt_a] at *; omega)⟩
  refine cl_of (played_cl L c v l h) ?_
  rintro _ L1 - (⟨J, rfl, hp⟩ | ⟨m, m2, d, A, J, rfl, hp, hA, g⟩)
  · exact ⟨(none, none, ()), rfl, ifT rfl (fin hp)⟩
  refine ⟨(some ⟨m, 0, none⟩, some ⟨m2, 0, none⟩, ()), rfl, ifF rfl ?_⟩
  cases hdn : d.down with
  | true =>
    refine cl_pm (read_down m d A hA hdn) hp ?_
    rintro _ A' ⟨rfl, hA'⟩
    rw [hA']
    refine ⟨_, List.Perm.refl _, ((⟨none, 0, 0⟩, ⟨none, 0, 0⟩, 0, ()), 11, ()), rfl, ifN (show ¬ ((11 : Int) = 0) by decide) ?_⟩
    refine cl_pm (down_rd m d A hA) (List.Perm.refl _) ?_
    rintro _ A' ⟨rfl, hA'⟩
    rw [hA']
    refine ⟨_, List.Perm.refl _, (d.down, ()), rfl, ifT hdn (w64_of (by decide) (w64_of (by decide) (ifP rfl (fin (J := A ++ J) (pc fun z => by simp only [cnt_a]; omega)))))⟩
  | false =>
    refine cl_pm (read_cl2 m d A hA g.ok hdn) hp ?_
    rintro _ _ ⟨lv, hs, hseg, vv, vseg, rfl, rfl, own, hok, hdat, vown⟩
    refine ⟨_, List.Perm.refl _, ((lv, vv, maxE (heldR d), ()), 0, ()), rfl, ifP rfl ?_⟩
    dsimp only
    obtain ⟨R, hR⟩ : ∃ R : HList, R = hseg ++ (hsegs hs ++ (vseg ++ (L ++ J))) := ⟨_, rfl⟩
    have hp2 : ((hseg ++ (hsegs hs ++ (vseg ++ A))) ++ (L ++ J)).Perm (A ++ R) := pc fun z => by rw [hR]; simp only [cnt_a]; omega
    generalize (hseg ++ (hsegs hs ++ (vseg ++ A))) ++ (L ++ J) = L2 at hp2
    have rh : ∀ x ∈ hseg, x ∈ R := fun x hx => by rw [hR]; simp [hx]
    have rv : ∀ x ∈ vseg, x ∈ R := fun x hx => by rw [hR]; simp [hx]
    have hvl := own.sl.els_len HE.enc_len (by decide)
    have hll := vown.sl.els_len LE.enc_len (by decide)
    have hhl : hs.length = (heldR d).length := by rw [← hdat, List.length_map]
    have hat : ∀ (i : Nat) (hi : i < hs.length), hs[i].dat = (heldR d)[i]'(by omega) := fun i hi => by
      have h1 : (hs.map HE.dat)[i]? = some hs[i].dat := by rw [List.getElem?_map, List.getElem?_eq_getElem hi]; rfl
      rw [hdat, List.getElem?_eq_getElem (by omega)] at h1
      exact (Option.some.inj h1).symm
    have hsmall : (heldR d).length ≤ 16 := by
      have h2 := (isort_perm epK (rawR d d.c.B)).length_eq
      have h3 := rawR_len d d.c.B
      have h4 := g.ok.c.b
      unfold heldR
      omega
    have slh : ∀ L' : HList, (∀ x ∈ R, x ∈ L') → Sl L' lv 3 (hs.flatMap HE.enc) := fun L' hL => own.sl.mono fun x hx => hL x (rh x hx)
    have hmax : ∀ (i : Nat) (hi : i < hs.length), ¬ hs[i].ep > maxE (heldR d) := fun i hi => by
      have h1 := (maxE_ge (heldR d) 0).2 _ (List.getElem_mem (show i < (heldR d).length by omega))
      rw [← hat i hi] at h1
      have : hs[i].ep ≤ maxE (heldR d) := h1
      omega
    refine lp_of (fun z' z L' => ∃ i : Nat, i ≤ hs.length ∧ z' = hs.length - i ∧ z = ((i : Int), ()) ∧ L' = L2) hs.length ⟨0, by omega, by omega, rfl, rfl⟩ ?_
    rintro z' z L' ⟨i, hi, rfl, rfl, hL'⟩
    rw [hL']
    dsimp only
    refine ifb_of (fun (hlt : (i : Int) < lv.len) => ?_) (fun (hge : ¬ (i : Int) < lv.len) => ?_)
    · have hi' : i < hs.length := by omega
      have hS := slh L2 fun x hx => hp2.symm.subset (by simp [hx])
      refine ifb_of (fun (h0 : (i : Int) > 0) => ?_) (fun (h0 : ¬ (i : Int) > 0) => ?_)
      · refine w64_of (by omega) (elp_el HE.enc_len (by decide) hS rfl hi' fun a1 ha1 => ?_)
        refine ld_of hs[i].ep (ha1.one 1 rfl) ?_
        refine elp_el HE.enc_len (by decide) hS (n := i - 1) (by omega) (by omega) fun a2 ha2 => ?_
        refine ld_of hs[i - 1].ep (ha2.one 1 rfl) ?_
        have hle : hs[i - 1].ep ≤ hs[i].ep := by
          have h1 := List.pairwise_iff_getElem.1 (held_sorted d) (i - 1) i (by omega) (by omega) (by omega)
          rw [← hat (i - 1) (by omega), ← hat i hi'] at h1
          exact h1
        refine ifN (show ¬ (hs[i].ep < hs[i - 1].ep) by omega) (ld_of hs[i].ep (ha1.one 1 rfl) (ifN (hmax i hi') ?_))
        exact w64_of (by omega) ⟨hs.length - (i + 1), by omega, i + 1, by omega, rfl, rfl, rfl⟩
      · refine elp_el HE.enc_len (by decide) hS rfl hi' fun a1 ha1 => ?_
        refine ld_of hs[i].ep (ha1.one 1 rfl) (ifN (hmax i hi') ?_)
        exact w64_of (by omega) ⟨hs.length - (i + 1), by omega, i + 1, by omega, rfl, rfl, rfl⟩
    clear hge hi hL'
    -- live entries
    have hvsm : (liveD d).length ≤ 16 * 255 := by
      have h1 : (liveD d).length ≤ (allL d (heldR d)).length := List.length_filter_le _ _
      have h2 : (allL d (heldR d)).length ≤ (selR 2 (heldR d)).length := List.length_filterMap_le _ _
      have h3 := congrArg List.length (sel_dat 2 hs)
      rw [List.length_map, hdat] at h3
      have h4 := selE_len 2 hs fun x hx => (hs_ok hdat hx).2.2.2.2
      have h5 := Nat.mul_le_mul_right 255 (show hs.length ≤ 16 by omega)
      omega
    refine lp_of (fun z' z L' => ∃ (i at' : Nat) (J' : HList), i ≤ (liveD d).length ∧ at' ≤ hs.length ∧ z' = (liveD d).length - i ∧ z = ((at' : Int), (i : Int), ()) ∧ L'.Perm (A ++ (R ++ J')) ∧ ∀ x ∈ (liveD d).drop i, at' ≤ (blkR d).idxOf x.2.1) (liveD d).length
      ⟨0, 0, [], by omega, by omega, by omega, rfl, by simpa using hp2, fun x _ => by omega⟩ ?_
    rintro z' z L3 ⟨i, at', J3, hi, hat', rfl, rfl, hp3, hidx⟩
    dsimp only
    refine ifb_of (fun (hlt : (i : Int) < vv.len) => ?_) (fun (hge : ¬ (i : Int) < vv.len) => ?_)
    · have hi' : i < (liveD d).length := by omega
      have hV : ∀ L' : HList, (∀ x ∈ R, x ∈ L') → Sl L' vv 4 ((liveD d).flatMap LE.enc) := fun L' hL => vown.sl.mono fun x hx => hL x (rv x hx)
      have h3R : ∀ x ∈ R, x ∈ L3 := fun x hx => hp3.symm.subset (by simp [hx])
      refine lp_of (fun z' z L' => ∃ k : Nat, k ≤ i ∧ z' = i - k ∧ z = ((k : Int), ()) ∧ L' = L3) i ⟨0, by omega, by omega, rfl, rfl⟩ ?_
      rintro z' z L' ⟨k, hk, rfl, rfl, hL'⟩
      rw [hL']
      dsimp only
      refine ifb_of (fun (hlt2 : (k : Int) < i) => ?_) (fun (hge2 : ¬ (k : Int) < i) => ?_)
      · refine elp_el LE.enc_len (by decide) (hV L3 h3R) (n := k) rfl (by omega) fun a1 ha1 => ld_of ((liveD d)[k]'(by omega)).1 ha1.hd ?_
        refine elp_el LE.enc_len (by decide) (hV L3 h3R) rfl hi' fun a2 ha2 => ld_of (liveD d)[i].1 ha2.hd ?_
        have hne := (List.pairwise_iff_getElem.1 (live_ord d) k i (by omega) hi' (by omega)).2
        exact ifN hne (w64_of (by omega) ⟨i - (k + 1), by omega, k + 1, by omega, rfl, rfl, rfl⟩)
      · clear hL' hge2 hk
        refine elp_el LE.enc_len (by decide) (hV L3 h3R) rfl hi' fun a2 ha2 => ?_
        have hlok := live_ok (List.getElem_mem hi')
        have hdr : (liveD d).drop i = (liveD d)[i] :: (liveD d).drop (i + 1) := List.drop_eq_getElem_cons hi'
        have hnext : ∀ y ∈ (liveD d).drop (i + 1), (blkR d).idxOf (liveD d)[i].2.1 ≤ (blkR d).idxOf y.2.1 := fun y hy => by
          have h1 := (live_ord d).drop (i := i)
          rw [hdr, List.pairwise_cons] at h1
          exact (h1.1 y hy).1
        rw [hdr] at hidx
        generalize (liveD d)[i] = x at ha2 hlok hnext hidx
        refine ld_of x.2 (ha2.sub 1 fun j u hu => by rw [Nat.add_comm]; exact hu) ?_
        refine cl_pm (fetch_cl m d A hA g.ok x.2 (wf_mk (by have := hlok.page; omega))) hp3 ?_
        rintro _ _ ⟨q, rfl, rfl, hq, hql⟩
        have hp4 : ((q.seg ++ A) ++ (R ++ J3)).Perm (A ++ (R ++ (q.seg ++ J3))) := pc fun z => by simp only [cnt_a]; omega
        generalize (q.seg ++ A) ++ (R ++ J3) = L4 at hp4
        have h4R : ∀ x ∈ R, x ∈ L4 := fun x hx => hp4.symm.subset (by simp [hx])
        refine ⟨L4, List.Perm.refl _, (keyB (fetchR d x.2).1, q.v, (fetchR d x.2).2.2, ()), rfl, ?_⟩
        have ha4 : LdAt a2 (LE.enc x) L4 := ha2.mono fun y hy => hp4.symm.subset (by
          have := hp3.subset hy
          simp only [List.mem_append] at this ⊢
          rcases this with h | h | h
          · exact .inl h
          · exact .inr (.inl h)
          · exact .inr (.inr (.inr h)))
        refine ld_of x.1 ha4.hd (ifP hlok.fetch.2 (ifP hlok.fetch.1 ?_))
        obtain ⟨p, hpl, hp1, hp2e, hpi⟩ := held_at hlok
        have hatp : at' ≤ p := by have := hidx x (by simp); omega
        refine jn_of (fun y L' => L' = L4 ∧ y = ((p : Int), ())) ?_ ?_
        · rintro _ _ ⟨rfl, rfl⟩
          refine ifN (show ¬ ((p : Int) = lv.len) by omega) ?_
          refine elp_el HE.enc_len (by decide) (slh _ h4R) (n := p) rfl (by omega) fun a3 ha3 => ?_
          refine ld_of (hs[p]'(by omega)).ep (ha3.one 1 rfl) (ifP ?_ (w64_of (by omega) ⟨(liveD d).length - (i + 1), by omega, i + 1, p, q.seg ++ J3, by omega, by omega, rfl, rfl, hp4, fun y hy => ?_⟩))
          · have h1 := hat p (by omega)
            have h2 : (hs[p]'(by omega)).ep = (heldR d)[p].2.1 := congrArg (fun t : HD => t.2.1) h1
            rw [h2, hp2e]
          · have := hnext y hy
            omega
        · intro j hj
          refine lp_of (fun z' z L' => ∃ k : Nat, k ≤ p ∧ z' = p - k ∧ z = ((k : Int), ()) ∧ L' = L4) (p - at') ⟨at', hatp, rfl, rfl, rfl⟩ ?_
          rintro z' z L' ⟨k, hk, rfl, rfl, hL'⟩
          rw [hL']
          dsimp only
          refine ifP (show (k : Int) < lv.len by omega) ?_
          refine elp_el HE.enc_len (by decide) (slh _ h4R) (n := k) rfl (by omega) fun a3 ha3 => ?_
          refine ld_of (hs[k]'(by omega)).b ha3.hd ?_
          have hb : (hs[k]'(by omega)).b = ((heldR d)[k]'(by omega)).1 := congrArg (fun t : HD => t.1) (hat k (by omega))
          refine ifb_of (fun (he : (hs[k]'(by omega)).b = x.2.1) => ?_) (fun (he : ¬ (hs[k]'(by omega)).b = x.2.1) => ?_)
          · have : k = p := by
              rw [← hpi, ← he, hb]
              have hl : (blkR d).length = (heldR d).length := by unfold blkR; rw [List.length_map]
              have e : (blkR d)[k]'(by omega) = ((heldR d)[k]'(by omega)).1 := by unfold blkR; rw [List.getElem_map]
              rw [← e]; exact (idx_at (blkR_nodup d) (by omega)).symm
            subst this
            exact hj _ _ ⟨rfl, rfl⟩
          · have hkp : k ≠ p := fun e => he (by subst e; rw [hb, hp1])
            exact w64_of (by omega) ⟨p - (k + 1), by omega, k + 1, by omega, rfl, rfl, rfl⟩
    · rw [hR] at hp3
      exact fin (J := A ++ (hseg ++ (hsegs hs ++ (vseg ++ (J ++ J3))))) (pc fun z => by have := pcn hp3 z; simp only [cnt_a] at *; omega)
abbrev faWf30 (W : World) (x : FA) : Prop := intWf .i64 x.1 ∧ intWf .i64 x.2.1 ∧ intWf .i64 x.2.2.1 ∧ SlOk W (fun b => [bv b]) (fun _ => True) 1 x.2.2.2.1 ∧ intWf .i64 x.2.2.2.2.1 ∧ intWf .i64 x.2.2.2.2.2.1 ∧ True
theorem row_RebuildOnce (W : World) (hT : Tab (allB W)) (a0 : Int × Int × Int × Int × Unit) (w0 : intWf .i64 a0.1 ∧ intWf .i64 a0.2.1 ∧ intWf .i64 a0.2.2.1 ∧ intWf .i64 a0.2.2.2.1 ∧ True) (a1 : SlV) (l1 : List FA) (w1 : SlOk W faEnc (faWf30 W) 6 (a1, l1)) :
    Reads PP 3 #[.agg #[.int .i64 a0.1, .int .i64 a0.2.1, .int .i64 a0.2.2.1, .int .i64 a0.2.2.2.1], .slice a1.a a1.len a1.cap] (allB W) (.bool true) :=
  law_RebuildOnce _ hT a0 a1 l1 ⟨w1.sl, fun x hx => (w1.all x hx).2.2.2.1.bytes, fun x hx => (wf_i64 (w1.all x hx).2.2.2.2.1).2⟩
end Go.Proofs.YtlabcgnegbdlfaaDoor
