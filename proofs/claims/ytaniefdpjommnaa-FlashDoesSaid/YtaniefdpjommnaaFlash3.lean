/-
  It is proved what Torn and Program of the layer flash compute. There are no further conditions than those that each theorem names.
-/
import Derived.Test.YtaniefdpjommnaaFlash2
set_option linter.unusedVariables false
set_option linter.unusedSimpArgs false
namespace Go.Proofs.Ytaniefdpjommnaa
open Go.HL

theorem torn_cl (m : Nat) (d : Dev) (A : HList) (h : FH m d A) (ok : DvOk d) (hf : d.torn.length ≤ 1048576) :
    CallF PP 32 #[.pointer (some ⟨m, 0, none⟩)] A fun r L' => ∃ (v : SlV) (seg : HList) (ts' : List PT), r = .slice v.a v.len v.cap ∧ L' = seg ++ (tsegs ts' ++ A) ∧ Own v 4 eT (ts'.flatMap PT.enc) seg ∧ (∀ t ∈ ts', t.m.Ok ∧ t.i.Ok) ∧ ts'.map PT.tn = d.torn := by
  have hA := h
  obtain ⟨bv, bseg, bs, tv, tseg, ts, he, h⟩ := h
  have hfO : fO m d bv tv ∈ A := he ▸ fL_o
  have htsl : Sl A tv 4 (ts.flatMap PT.enc) := he ▸ h.tsl
  have htm : ∀ t ∈ ts, ∀ x, x ∈ t.m.seg ∨ x ∈ t.i.seg → x ∈ A := by
    intro t ht x hx
    rw [he]
    refine List.mem_cons_of_mem _ (List.mem_append_right _ (List.mem_append_right _ (List.mem_append_right _ (List.mem_flatMap.2 ⟨t, ht, ?_⟩))))
    exact List.mem_append.2 hx
  have hlt : ts.length = d.torn.length := by rw [← h.ht, List.length_map]
  have htl := htsl.els_len PT.enc_len (by decide)
  clear he
  refine CallF.of (args := [.pointer (some ⟨m, 0, none⟩)]) noNum mixed Try.func32 (e32 (some ⟨m, 0, none⟩) _) ?_
  unfold t32
  refine ifF rfl (nilc_of rfl (ld_of tv (f_torn hfO) ?_))
  refine lp_of (fun z' z L' => ∃ (i : Nat) (v : SlV) (seg : HList) (D : List PT) (J X Y : HList), i ≤ ts.length ∧ z' = ts.length - i ∧ z = (v, (i : Int), ()) ∧ L' = X ++ seg ++ Y ∧ (X ++ Y).Perm (tsegs D ++ (J ++ A)) ∧ (∀ x ∈ A, x ∈ L') ∧ Own v 4 eT (D.flatMap PT.enc) seg ∧ (∀ t ∈ D, t.m.Ok ∧ t.i.Ok) ∧ D.map PT.tn = (ts.map PT.tn).take i) ts.length
    ⟨0, ⟨none, 0, 0⟩, [], [], [], [], A, by omega, by omega, rfl, rfl, by simp [tsegs], fun x hx => by simpa using hx, own_nil, by simp, rfl⟩ ?_
  rintro z' z L ⟨i, v, seg, D, J, X, Y, hi, rfl, rfl, rfl, hp, hsub, own, hok, hD⟩
  refine ifD_of (fun (hlt2 : (i : Int) < (tv.len : Int)) => ?_) (fun (hge : ¬ (i : Int) < (tv.len : Int)) => ?_)
  · have hi' : i < ts.length := by omega
    obtain ⟨a, ha, hld⟩ := htsl.el PT.enc_len (by decide) hi'
    have hot := h.okt _ (List.getElem_mem hi')
    have htn := ok.torn (ts[i].tn) (by rw [← h.ht]; exact List.mem_map.2 ⟨_, List.getElem_mem hi', rfl⟩)
    have hS := ok.c.s
    have hmsl : BSl A ts[i].m.v ts[i].m.l := Sl.mono hot.1.sl fun x hx => htm _ (List.getElem_mem hi') x (.inl hx)
    have hisl : BSl A ts[i].i.v ts[i].i.l := Sl.mono hot.2.sl fun x hx => htm _ (List.getElem_mem hi') x (.inr hx)
    have hml : ts[i].m.l.length = d.c.S := htn.1
    have hil : ts[i].i.l.length = d.c.S := htn.2
    have hmv := hmsl.len
    have hiv := hisl.len
    have hvl := own.sl.len
    rw [flat_len PT.enc_len] at hvl
    have hDl : D.length = i := by
      have := congrArg List.length hD
      rw [List.length_map, List.length_take, List.length_map] at this
      omega
    refine nilc_of ha (ixn_of (show (0 : Int) ≤ i by omega) (show (i : Int) < tv.len by omega) ?_)
    refine ld_of ((ts[i].b : Int), (ts[i].p : Int), ts[i].m.v, ts[i].i.v, ()) (by rw [Int.toNat_natCast]; exact hld.mono hsub) ?_
    refine nw_of fun n1 _ => ?_
    refine st_of (n := n1) (off := 0) (c := #[.int .i64 0, .int .i64 0, .slice none 0 0, .slice none 0 0]) (T := eT) (fz := (0, 0)) [] (X ++ seg ++ Y) rfl rfl (by simp) (.inl (Nat.le_refl _))
      #[.int .i64 ts[i].b, .int .i64 ts[i].p, ts[i].m.val, ts[i].i.val] rfl ?_
    rw [List.nil_append]
    refine ld_of ts[i].m.v (ldB List.mem_cons_self rfl) (ld_of ts[i].i.v (ldB List.mem_cons_self rfl) ?_)
    refine nw_of fun n2 _ => ?_
    refine append_in elemB srcB [] ((n1, Obj.cells #[.int .i64 ts[i].b, .int .i64 ts[i].p, ts[i].m.val, ts[i].i.val] eT) :: (X ++ seg ++ Y)) own_empty rfl (.sl (Sl.mono hmsl fun x hx => List.mem_cons_of_mem _ (List.mem_cons_of_mem _ (hsub x hx)))) (bvs_plain _) (by simp only; omega) fun v5 seg5 hv5 own5 => ?_
    rw [List.nil_append] at own5 ⊢
    refine keep_of (ldB (n := n1) (off := 3) (T := eT) (c := #[.int .i64 ts[i].b, .int .i64 ts[i].p, ts[i].m.val, ts[i].i.val]) (fz := (0, 0)) (by simp) rfl) (nw_of fun n3 _ => ?_)
    refine append_in elemB srcB [] (seg5 ++ ((n1, Obj.cells #[.int .i64 ts[i].b, .int .i64 ts[i].p, ts[i].m.val, ts[i].i.val] eT) :: (X ++ seg ++ Y))) own_empty rfl (.sl (Sl.mono hisl fun x hx => by have h0 := hsub x hx; simp at h0 ⊢; simp [h0])) (bvs_plain _) (by simp only; omega) fun v6 seg6 hv6 own6 => ?_
    rw [List.nil_append] at own6 ⊢
    refine st_of (n := n1) (off := 2) (c := #[.int .i64 ts[i].b, .int .i64 ts[i].p, ts[i].m.val, ts[i].i.val]) (T := eT) (fz := (0, 0)) (seg6 ++ seg5) (X ++ seg ++ Y) rfl (by simp) (by simp) (.inl (Nat.le_refl _))
      #[.int .i64 ts[i].b, .int .i64 ts[i].p, .slice v5.a v5.len v5.cap, ts[i].i.val] rfl ?_
    refine st_of (n := n1) (off := 3) (c := #[.int .i64 ts[i].b, .int .i64 ts[i].p, .slice v5.a v5.len v5.cap, ts[i].i.val]) (T := eT) (fz := (0, 0)) (seg6 ++ seg5) (X ++ seg ++ Y) rfl rfl (by simp) (.inl (Nat.le_refl _))
      #[.int .i64 ts[i].b, .int .i64 ts[i].p, .slice v5.a v5.len v5.cap, .slice v6.a v6.len v6.cap] rfl ?_
    refine ld_of ((ts[i].b : Int), (ts[i].p : Int), v5, v6, ()) (ldB (n := n1) (off := 0) (c := #[.int .i64 ts[i].b, .int .i64 ts[i].p, .slice v5.a v5.len v5.cap, .slice v6.a v6.len v6.cap]) (T := eT) (fz := (0, 0)) (by simp) rfl) ?_
    refine nw_of fun n4 _ => ?_
    refine append_in elemTs srcTs ((n4, Obj.cells #[.int .i64 ts[i].b, .int .i64 ts[i].p, .slice v5.a v5.len v5.cap, .slice v6.a v6.len v6.cap] eT) :: ((seg6 ++ seg5) ++ ((n1, Obj.cells #[.int .i64 ts[i].b, .int .i64 ts[i].p, .slice v5.a v5.len v5.cap, .slice v6.a v6.len v6.cap] eT) :: X))) Y own (by simp)
      (n := 1) (ws := PT.enc ⟨ts[i].b, ts[i].p, ⟨v5, seg5, ts[i].m.l⟩, ⟨v6, seg6, ts[i].i.l⟩⟩) (x := .slice (some ⟨n4, 0, none⟩) 1 1) (Src.sl (v := ⟨some ⟨n4, 0, none⟩, 1, 1⟩) ⟨rfl, Nat.le_refl _, .inr ⟨_, rfl, ldB List.mem_cons_self rfl⟩⟩) rfl (by omega) fun v8 seg8 hv8 own8 => ?_
    refine ⟨ts.length - (i + 1), by omega, i + 1, v8, seg8, D ++ [⟨ts[i].b, ts[i].p, ⟨v5, seg5, ts[i].m.l⟩, ⟨v6, seg6, ts[i].i.l⟩⟩], (n4, Obj.cells #[.int .i64 ts[i].b, .int .i64 ts[i].p, .slice v5.a v5.len v5.cap, .slice v6.a v6.len v6.cap] eT) :: (n1, Obj.cells #[.int .i64 ts[i].b, .int .i64 ts[i].p, .slice v5.a v5.len v5.cap, .slice v6.a v6.len v6.cap] eT) :: J, _, _, by omega, rfl, ?_, rfl, ?_, ?_, ?_, ?_, ?_⟩
    · rw [w64_id (by first | omega | (simp only; omega)) (by first | omega | (simp only; omega))]
      rfl
    · generalize (n4, Obj.cells #[.int .i64 ts[i].b, .int .i64 ts[i].p, .slice v5.a v5.len v5.cap, .slice v6.a v6.len v6.cap] eT) = o4
      generalize (n1, Obj.cells #[.int .i64 ts[i].b, .int .i64 ts[i].p, .slice v5.a v5.len v5.cap, .slice v6.a v6.len v6.cap] eT) = o1
      rw [tsegs_append, tsegs_one]
      classical
      rw [List.perm_iff_count] at hp ⊢
      intro x
      have := hp x
      simp only [List.append_eq, List.cons_append, List.count_append, List.count_cons, List.count_nil] at this ⊢
      omega
    · intro x hx
      have h1 := hp.mem_iff (a := x)
      have h2 : x ∈ X ++ Y := h1.2 (List.mem_append_right _ (List.mem_append_right _ hx))
      rcases List.mem_append.1 h2 with h3 | h3
      · exact List.mem_append_left _ (List.mem_append_left _ (List.mem_cons_of_mem _ (List.mem_append_right _ (List.mem_cons_of_mem _ h3))))
      · exact List.mem_append_right _ h3
    · rw [List.flatMap_append, List.flatMap_singleton]
      exact own8
    · intro x hx
      rcases List.mem_append.1 hx with h1 | h1
      · exact hok x h1
      · rw [List.mem_singleton.1 h1]; exact ⟨own5, own6⟩
    · rw [List.map_append, hD, List.take_succ_eq_append_getElem (by rw [List.length_map]; omega), List.getElem_map]; rfl
  · obtain rfl : i = ts.length := by omega
    refine .drop (A := seg ++ (tsegs D ++ A)) (J := J) ⟨v, seg, D, rfl, rfl, own, hok, ?_⟩ ?_
    · rw [hD, ← h.ht, List.take_of_length_le (by rw [List.length_map]; omega)]
    · classical
      rw [List.perm_iff_count] at hp ⊢
      intro x
      have := hp x
      simp only [List.append_eq, List.cons_append, List.count_append, List.count_cons, List.count_nil] at this ⊢
      omega
end Go.Proofs.Ytaniefdpjommnaa
