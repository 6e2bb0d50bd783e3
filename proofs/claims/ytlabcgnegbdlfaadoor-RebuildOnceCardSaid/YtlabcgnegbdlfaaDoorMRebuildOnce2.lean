/-
  It is proved what the functions that the law RebuildOnce reaches compute, part 2. There are no further conditions than those that each theorem names.
-/
import Derived.Test.YtlabcgnegbdlfaaDoorMRebuildOnce1
import Derived.SizedLaws
set_option linter.unusedVariables false
set_option linter.unusedSimpArgs false
namespace Go.Proofs.YtlabcgnegbdlfaaDoor
open Go.HL

theorem ne255 (x : UInt8) : ((x.toNat : Int) ≠ 255) ↔ x ≠ 255 := by
  constructor
  · rintro h rfl; exact h rfl
  · intro h e
    apply h
    apply UInt8.toNat_inj.1
    show x.toNat = 255
    omega
theorem eq_u8 (x : UInt8) (n : Nat) (hn : n < 256) : ((x.toNat : Int) = n) ↔ x = UInt8.ofNat n := by
  constructor
  · intro h; apply UInt8.toNat_inj.1; simp; omega
  · rintro rfl; simp; omega
theorem pblank_rd (L : HList) (v : SlV) (b : List UInt8) (hb : BSl L v b) (hl : b.length ≤ 1000000) : Reads PP 57 #[.slice v.a v.len v.cap] L (.bool (pblank b)) := by
  refine Reads.of (args := [.slice v.a v.len v.cap]) noNum mixed Tryd.func57 (e57 v _) ?_
  unfold t57
  have hlen := hb.len
  refine lp_of (fun k z L' => L' = L ∧ ∃ i : Nat, i ≤ b.length ∧ k = b.length - i ∧ z = ((i : Int), ()) ∧ ∀ x ∈ b.take i, x = 255) b.length ⟨rfl, 0, by omega, by omega, rfl, by simp⟩ ?_
  rintro k z L' ⟨rfl, i, hi, rfl, rfl, hall⟩
  refine ifD_of (fun (hlt : (i : Int) < v.len) => ?_) (fun (hge : ¬ (i : Int) < v.len) => ?_)
  · have hi' : i < b.length := by omega
    obtain ⟨a, ha⟩ := hb.some hi'
    refine nilc_of ha (ixn_of (show (0 : Int) ≤ i by omega) hlt (ld_of (b[i].toNat : Int) (hb.rd hi' ha _ (by simp)) ?_))
    refine ifNe_of (fun hne => .of ⟨?_, rfl⟩) (fun he => ⟨b.length - (i + 1), by omega, rfl, i + 1, by omega, rfl, ?_, fun x hx => ?_⟩)
    · have : pblank b = false := by
        unfold pblank
        rw [List.all_eq_false]
        exact ⟨b[i], List.getElem_mem hi', by simpa using (ne255 _).1 hne⟩
      rw [this]
    · rw [w64_id (by first | omega | (simp only; omega)) (by first | omega | (simp only; omega))]
      rfl
    · rw [List.take_succ_eq_append_getElem hi'] at hx
      rcases List.mem_append.1 hx with hx | hx
      · exact hall x hx
      · rw [List.mem_singleton.1 hx]
        exact Decidable.byContradiction fun hc => (ne255 _).2 hc he
  · obtain rfl : i = b.length := by omega
    rw [List.take_length] at hall
    refine .of ⟨?_, rfl⟩
    have : pblank b = true := by
      unfold pblank
      rw [List.all_eq_true]
      intro x hx
      simpa using hall x hx
    rw [this]
theorem pat_rd (L : HList) (v : SlV) (b : List UInt8) (hb : BSl L v b) (hl : b.length ≤ 1000000) (a w : Int) : Reads PP 59 #[.slice v.a v.len v.cap, .int .i64 a, .int .i64 w] L (.int .i64 (wget b a w).1) := by
  refine Reads.of (args := [.slice v.a v.len v.cap, .int .i64 a, .int .i64 w]) noNum mixed Tryd.func59 (e59 v a w _) ?_
  unfold t59
  exact cl_rd (wget_rd _ v b hb (by omega) a w) ((wget b a w).1, (wget b a w).2, ()) rfl (.of ⟨rfl, rfl⟩)
def ParK (b : List UInt8) (A : HList) (v : Value) (L' : HList) : Prop := ∃ (s : SlV) (seg : HList), v = .tuple #[.agg #[.int .i64 (parR b).1.1, .int .i64 (parR b).1.2.1, .int .i64 (parR b).1.2.2.1, .int .i64 (parR b).1.2.2.2.1, .int .i64 (parR b).1.2.2.2.2.1], .slice s.a s.len s.cap, .int .i64 (parR b).2.2] ∧ L' = seg ++ A ∧ Own s 1 eB (bvs (parR b).2.1) seg
theorem ParK.err {b : List UInt8} {A : HList} {e : Int} (he : parR b = (hz, [], e)) : ParK b A (.tuple #[.agg #[.int .i64 0, .int .i64 0, .int .i64 0, .int .i64 0, .int .i64 0], .slice none 0 0, .int .i64 e]) A := ⟨⟨none, 0, 0⟩, [], by rw [he]; rfl, rfl, by rw [he]; exact own_nil⟩
theorem wget_at {b : List UInt8} {a w : Nat} (h : 1 ≤ w) (h7 : w ≤ 7) (h2 : a + w ≤ b.length) : (wget b (a : Int) (w : Int)).1 = (num ((b.drop a).take w) : Int) := by rw [wget_ok h h7 h2]
theorem getD_at {b : List UInt8} {i : Nat} (h : i < b.length) : b.getD i 0 = b[i] := by simp [List.getD_eq_getElem?_getD, h]
theorem parR_size {b : List UInt8} (h : ¬ (64 ≤ b.length ∧ b.length ≤ 512)) : parR b = (hz, [], 2) := by unfold parR; rw [if_pos h]
theorem parR_blank {b : List UInt8} (h : 64 ≤ b.length ∧ b.length ≤ 512) (h2 : pblank b = true) : parR b = (hz, [], 15) := by unfold parR; rw [if_neg (by simpa using h), if_pos h2]
theorem parR_sum {b : List UInt8} (h : 64 ≤ b.length ∧ b.length ≤ 512) (h2 : pblank b = false) (h3 : crcSum (b.take (b.length - 4)) ≠ (num (b.drop (b.length - 4)) : Int)) : parR b = (hz, [], 12) := by
  unfold parR; rw [if_neg (by simpa using h), if_neg (by rw [h2]; decide), if_pos h3]
theorem parR_bad {b : List UInt8} (h : 64 ≤ b.length ∧ b.length ≤ 512) (h2 : pblank b = false) (h3 : crcSum (b.take (b.length - 4)) = (num (b.drop (b.length - 4)) : Int)) (h4 : pbad b = true) : parR b = (hz, [], 5) := by
  unfold parR; rw [if_neg (by simpa using h), if_neg (by rw [h2]; decide), if_neg (by simpa using h3), if_pos h4]
theorem parR_ok {b : List UInt8} (h : 64 ≤ b.length ∧ b.length ≤ 512) (h2 : pblank b = false) (h3 : crcSum (b.take (b.length - 4)) = (num (b.drop (b.length - 4)) : Int)) (h4 : pbad b = false) : parR b = (hOf b, payOf b, 0) := by
  unfold parR; rw [if_neg (by simpa using h), if_neg (by rw [h2]; decide), if_neg (by simpa using h3), if_neg (by rw [h4]; decide)]
theorem pbad_iff (b : List UInt8) : pbad b = true ↔ b.getD 3 0 ≠ 165 ∨ b.getD 9 0 ≠ 0 ∨ nOf b > b.length - 16 ∨ hErr (hOf b) ≠ 0 ∨ ∃ x ∈ padOf b, x ≠ 0 := by
  unfold pbad
  simp only [Bool.or_eq_true, decide_eq_true_iff, List.any_eq_true]
  constructor
  · rintro ((((h | h) | h) | h) | h)
    · exact .inl h
    · exact .inr (.inl h)
    · exact .inr (.inr (.inl h))
    · exact .inr (.inr (.inr (.inl h)))
    · exact .inr (.inr (.inr (.inr h)))
  · rintro (h | h | h | h | h)
    · exact .inl (.inl (.inl (.inl h)))
    · exact .inl (.inl (.inl (.inr h)))
    · exact .inl (.inl (.inr h))
    · exact .inl (.inr h)
    · exact .inr h
theorem pbad_f {b : List UInt8} (h1 : b.getD 3 0 = 165) (h2 : b.getD 9 0 = 0) (h3 : nOf b ≤ b.length - 16) (h4 : hErr (hOf b) = 0) (h5 : ∀ x ∈ padOf b, x = 0) : pbad b = false := by
  rw [Bool.eq_false_iff]
  intro h
  rcases (pbad_iff b).1 h with h | h | h | h | ⟨x, hx, h⟩
  · exact h h1
  · exact h h2
  · omega
  · exact h h4
  · exact h (h5 x hx)
section
variable {b : List UInt8} {A : HList} {n1 : Nat} {e : Int}
/-- The way out where something is wrong. -/
theorem par_err (X : HList) (he : parR b = (hz, [], e)) :
    (st ⟨n1, 0, none⟩ [.int .i64 0, .int .i64 0, .int .i64 0, .int .i64 0, .int .i64 0] <|
      ld ⟨n1, 0, none⟩ (.agg [.int .i64, .int .i64, .int .i64, .int .i64, .int .i64]) fun v1 =>
      HL.Ends (ParK b A) (.tuple #[.agg #[.int .i64 v1.1, .int .i64 v1.2.1, .int .i64 v1.2.2.1, .int .i64 v1.2.2.2.1, .int .i64 v1.2.2.2.2.1], .slice none 0 0, .int .i64 e])) (X ++ (n1, Obj.cells #[.int .i64 0, .int .i64 0, .int .i64 0, .int .i64 0, .int .i64 0] 88) :: A) := by
  refine st_of X A rfl rfl (by simp) (.inl (Nat.le_refl _)) #[.int .i64 0, .int .i64 0, .int .i64 0, .int .i64 0, .int .i64 0] rfl ?_
  exact ld_of (0, 0, 0, 0, 0, ()) (ldB (n := n1) (c := #[.int .i64 0, .int .i64 0, .int .i64 0, .int .i64 0, .int .i64 0]) (T := 88) (fz := (0, 0)) (by simp) rfl) (.app (.cons (.of (ParK.err he))))
end
theorem par_end {b : List UInt8} {A : HList} {n1 : Nat} {h : Hd} {q : List UInt8} (hok : parR b = (h, q, 0)) {s : SlV} {seg : HList} (own : Own s 1 eB (bvs q) seg) (Y X : HList) :
    (st ⟨n1, 0, none⟩ [.int .i64 h.1, .int .i64 h.2.1, .int .i64 h.2.2.1, .int .i64 h.2.2.2.1, .int .i64 h.2.2.2.2.1] <|
      ld ⟨n1, 0, none⟩ (.agg [.int .i64, .int .i64, .int .i64, .int .i64, .int .i64]) fun v1 =>
      HL.Ends (ParK b A) (.tuple #[.agg #[.int .i64 v1.1, .int .i64 v1.2.1, .int .i64 v1.2.2.1, .int .i64 v1.2.2.2.1, .int .i64 v1.2.2.2.2.1], .slice s.a s.len s.cap, .int .i64 0])) (Y ++ seg ++ (X ++ (n1, Obj.cells #[.int .i64 0, .int .i64 0, .int .i64 0, .int .i64 0, .int .i64 0] 88) :: A)) := by
  obtain ⟨k, pa, ps, ep, pg, u⟩ := h
  simp only
  refine st_of (n := n1) (off := 0) (c := #[.int .i64 0, .int .i64 0, .int .i64 0, .int .i64 0, .int .i64 0]) (T := 88) (fz := (0, 0)) (Y ++ seg ++ X) A rfl (by simp) (by simp) (.inl (Nat.le_refl _)) #[.int .i64 k, .int .i64 pa, .int .i64 ps, .int .i64 ep, .int .i64 pg] rfl ?_
  have lh : LdAt ⟨n1, 0, none⟩ [.int .i64 k, .int .i64 pa, .int .i64 ps, .int .i64 ep, .int .i64 pg] (Y ++ seg ++ X ++ (n1, Obj.cells #[.int .i64 k, .int .i64 pa, .int .i64 ps, .int .i64 ep, .int .i64 pg] 88) :: A) := ldB (n := n1) (c := #[.int .i64 k, .int .i64 pa, .int .i64 ps, .int .i64 ep, .int .i64 pg]) (T := 88) (fz := (0, 0)) (by simp) rfl
  refine ld_of (k, pa, ps, ep, pg, ()) lh ?_
  refine .drop (A := seg ++ A) (J := Y ++ X ++ [(n1, Obj.cells #[.int .i64 k, .int .i64 pa, .int .i64 ps, .int .i64 ep, .int .i64 pg] 88)]) ⟨s, seg, by rw [hok], rfl, by rw [hok]; exact own⟩ ?_
  classical
  rw [List.perm_iff_count]
  intro x
  simp only [List.append_eq, List.cons_append, List.count_append, List.count_cons, List.count_nil]
  omega
theorem pparse_cl (A : HList) (v : SlV) (b : List UInt8) (hb : BSl A v b) (hl : b.length ≤ 1000000) :
    CallF PP 31 #[.slice v.a v.len v.cap] A (ParK b A) := by
  refine CallF.of (args := [.slice v.a v.len v.cap]) noNum mixed Tryd.func31 (e31 v _) ?_
  unfold t31
  have hlen := hb.len
  have hcap := hb.cap
  refine nw_of fun n1 _ => ?_
  have hb1 : ∀ {X : HList}, BSl (X ++ (n1, Obj.cells #[.int .i64 0, .int .i64 0, .int .i64 0, .int .i64 0, .int .i64 0] 88) :: A) v b := fun {X} => hb.cons.right
  have hvl : ((v.len : Nat) : Int) = ((b.length : Nat) : Int) := by omega
  refine cl_rd (psized_rd _ v.len) (szd v.len, ()) rfl ?_
  cases hsz : szd v.len with
  | false => exact ifT rfl (par_err [] (parR_size (b := b) (by have := szd_f hsz; omega)))
  | true =>
    have hS : 64 ≤ b.length ∧ b.length ≤ 512 := by have := szd_t hsz; omega
    refine ifF rfl (cl_rd (pblank_rd _ v b (hb1 (X := [])) hl) (pblank b, ()) rfl ?_)
    cases hbk : pblank b with
    | true => exact ifT rfl (par_err [] (parR_blank hS hbk))
    | false =>
      refine ifF rfl ?_
      have hw : IntKind.i64.wrap ((v.len : Int) - 4) = ((b.length - 4 : Nat) : Int) := by rw [w64_id (by omega) (by omega)]; omega
      simp only [hw]
      refine slc_of (l' := 0) (h' := b.length - 4) (m' := v.cap) rfl rfl rfl (by omega) (by omega) (Nat.le_refl _) ?_
      have hs1 : BSl ((n1, Obj.cells #[.int .i64 0, .int .i64 0, .int .i64 0, .int .i64 0, .int .i64 0] 88) :: A) (slcV v ((0 : Nat) : Int) ((b.length - 4 : Nat) : Int) v.cap 1) (b.take (b.length - 4)) := by
        have := Sl.slc (m := v.cap) (hb1 (X := [])) (by omega) (l := 0) (h' := b.length - 4) (by omega) (by omega) (by omega)
        rw [bvs_slc] at this
        simpa using this
      have hnum : (wget b ((b.length - 4 : Nat) : Int) 4).1 = (num (b.drop (b.length - 4)) : Int) := by
        have e := wget_at (b := b) (a := b.length - 4) (w := 4) (by decide) (by decide) (by omega)
        rw [List.take_of_length_le (by rw [List.length_drop]; omega)] at e
        exact e
      refine cl_rd (pat_rd _ v b (hb1 (X := [])) hl _ 4) ((wget b ((b.length - 4 : Nat) : Int) 4).1, ()) rfl ?_
      rw [hnum]
      refine cl_rd (check_rd _ _ _ hs1 (by rw [List.length_take]; omega) _) (crcSum (b.take (b.length - 4)) == (num (b.drop (b.length - 4)) : Int), ()) rfl ?_
      clear hs1
      by_cases hcs : crcSum (b.take (b.length - 4)) = (num (b.drop (b.length - 4)) : Int)
      · refine ifF (by simp [hcs]) ?_
        obtain ⟨a, ha⟩ := hb.some (show 0 < b.length by omega)
        have hrd : ∀ {X : HList} (i : Nat) (hi : i < b.length) (j : Nat), j = i * 1 → LdAt (Addr.add a j) [.int .u8 (b[i].toNat : Int)] (X ++ (n1, Obj.cells #[.int .i64 0, .int .i64 0, .int .i64 0, .int .i64 0, .int .i64 0] 88) :: A) := fun {X} i hi j hj => (hb1 (X := X)).rd hi ha j hj
        refine nilc_of ha (ixn_of (by decide) (by omega) (nilc_of ha (ixn_of (by decide) (by omega) (nilc_of ha (ixn_of (by decide) (by omega) (nilc_of ha (ixn_of (by decide) (by omega) ?_)))))))
        refine ld_of (b[0].toNat : Int) (hrd (X := []) 0 (by omega) _ rfl) (ld_of (b[1].toNat : Int) (hrd (X := []) 1 (by omega) _ rfl) (ld_of (b[2].toNat : Int) (hrd (X := []) 2 (by omega) _ rfl) (ld_of (b[8].toNat : Int) (hrd (X := []) 8 (by omega) _ rfl) ?_)))
        refine cl_rd (pat_rd _ v b (hb1 (X := [])) hl 4 4) ((num ((b.drop 4).take 4) : Int), ()) (by rw [← wget_at (by decide) (by decide) (by omega)]; rfl) ?_
        refine keep_of (hrd (X := []) 8 (by omega) _ rfl) (keep_of (hrd (X := []) 2 (by omega) _ rfl) (keep_of (hrd (X := []) 1 (by omega) _ rfl) (keep_of (hrd (X := []) 0 (by omega) _ rfl) ?_)))
        have hu : ∀ x : UInt8, IntKind.i64.wrap (x.toNat : Int) = (x.toNat : Int) := fun x => by have := x.toNat_lt; exact w64_id (by omega) (by omega)
        have hh : hOf b = ((b[0].toNat : Int), (b[1].toNat : Int), (b[2].toNat : Int), (num ((b.drop 4).take 4) : Int), (b[8].toNat : Int), ()) := by
          unfold hOf
          rw [getD_at (show 0 < b.length by omega), getD_at (show 1 < b.length by omega), getD_at (show 2 < b.length by omega), getD_at (show 8 < b.length by omega)]
        simp only [hu]
        refine nw_of fun n2 _ => st_of [] _ rfl rfl (by simp) (.inl (Nat.le_refl _)) #[.int .i64 b[0].toNat, .int .i64 b[1].toNat, .int .i64 b[2].toNat, .int .i64 (num ((b.drop 4).take 4)), .int .i64 b[8].toNat] rfl ?_
        rw [List.nil_append]
        have l2 : ∀ {X : HList}, LdAt ⟨n2, 0, none⟩ (hEnc (hOf b)) (X ++ (n2, Obj.cells #[.int .i64 b[0].toNat, .int .i64 b[1].toNat, .int .i64 b[2].toNat, .int .i64 (num ((b.drop 4).take 4)), .int .i64 b[8].toNat] 88) :: (n1, Obj.cells #[.int .i64 0, .int .i64 0, .int .i64 0, .int .i64 0, .int .i64 0] 88) :: A) := fun {X} => by
          rw [hh]
          exact ldB (n := n2) (c := #[.int .i64 b[0].toNat, .int .i64 b[1].toNat, .int .i64 b[2].toNat, .int .i64 (num ((b.drop 4).take 4)), .int .i64 b[8].toNat]) (T := 88) (fz := (0, 0)) (by simp) rfl
        generalize (n2, Obj.cells #[.int .i64 b[0].toNat, .int .i64 b[1].toNat, .int .i64 b[2].toNat, .int .i64 (num ((b.drop 4).take 4)), .int .i64 b[8].toNat] 88) = o2 at l2 ⊢
        clear hu hh
        have hn : nOf b < 65536 := nOf_lt b
        refine cl_rd (pat_rd _ v b (hb1 (X := [o2])) hl 10 2) ((nOf b : Int), ()) (by unfold nOf; rw [← wget_at (by decide) (by decide) (by omega)]; rfl) ?_
        refine nilc_of ha (ixn_of (by decide) (by omega) (ld_of (b[3].toNat : Int) (hrd (X := [o2]) 3 (by omega) _ rfl) ?_))
        refine ifNe_of (fun hne => par_err [o2] (parR_bad hS hbk hcs ((pbad_iff b).2 (.inl ?_)))) (fun h3 => ?_)
        · rw [getD_at (show 3 < b.length by omega)]
          rintro e
          rw [e] at hne
          exact hne rfl
        have h3' : b.getD 3 0 = 165 := by rw [getD_at (show 3 < b.length by omega)]; exact (eq_u8 _ 165 (by decide)).1 h3
        refine nilc_of ha (ixn_of (by decide) (by omega) (ld_of (b[9].toNat : Int) (hrd (X := [o2]) 9 (by omega) _ rfl) ?_))
        refine ifNe_of (fun hne => par_err [o2] (parR_bad hS hbk hcs ((pbad_iff b).2 (.inr (.inl ?_))))) (fun h9 => ?_)
        · rw [getD_at (show 9 < b.length by omega)]
          rintro e
          rw [e] at hne
          exact hne rfl
        have h9' : b.getD 9 0 = 0 := by rw [getD_at (show 9 < b.length by omega)]; exact (eq_u8 _ 0 (by decide)).1 h9
        clear h3 h9
        have hroom : roomOf (v.len : Int) = ((b.length - 16 : Nat) : Int) := by unfold roomOf; rw [if_pos (by omega)]; omega
        refine cl_rd (proom_rd _ v.len) (roomOf v.len, ()) rfl ?_
        rw [hroom]
        refine ifD_of (fun (hbig : (nOf b : Int) > ((b.length - 16 : Nat) : Int)) => par_err [o2] (parR_bad hS hbk hcs ((pbad_iff b).2 (.inr (.inr (.inl (by omega))))))) (fun (hsm : ¬ (nOf b : Int) > ((b.length - 16 : Nat) : Int)) => ?_)
        refine ld_of (hOf b) (l2 (X := [])) (cl_rd (pcheck_rd _ (hOf b)) (hErr (hOf b), ()) rfl ?_)
        refine ifNe_of (fun (he : hErr (hOf b) ≠ 0) => par_err [o2] (parR_bad hS hbk hcs ((pbad_iff b).2 (.inr (.inr (.inr (.inl he))))))) (fun (he : hErr (hOf b) = 0) => ?_)
        have hwn : IntKind.i64.wrap (12 + (nOf b : Int)) = ((12 + nOf b : Nat) : Int) := by rw [w64_id (by omega) (by omega)]; omega
        simp only [hwn]
        refine slc_of (l' := 12 + nOf b) (h' := b.length - 4) (m' := v.cap) rfl rfl rfl (by omega) (by omega) (Nat.le_refl _) ?_
        have hs2 : BSl (o2 :: (n1, Obj.cells #[.int .i64 0, .int .i64 0, .int .i64 0, .int .i64 0, .int .i64 0] 88) :: A) (slcV v ((12 + nOf b : Nat) : Int) ((b.length - 4 : Nat) : Int) v.cap 1) (padOf b) := by
          have := Sl.slc (m := v.cap) (hb1 (X := [o2])) (by omega) (l := 12 + nOf b) (h' := b.length - 4) (by omega) (by omega) (by omega)
          rw [bvs_slc] at this
          exact this
        generalize slcV v ((12 + nOf b : Nat) : Int) ((b.length - 4 : Nat) : Int) v.cap 1 = s2 at hs2 ⊢
        have hl2 := hs2.len
        have hpl : (padOf b).length ≤ b.length := by unfold padOf; rw [List.length_take, List.length_drop]; omega
        refine lp_of (fun k z L' => L' = o2 :: (n1, Obj.cells #[.int .i64 0, .int .i64 0, .int .i64 0, .int .i64 0, .int .i64 0] 88) :: A ∧ ∃ i : Nat, i ≤ (padOf b).length ∧ k = (padOf b).length - i ∧ z = ((i : Int), ()) ∧ ∀ x ∈ (padOf b).take i, x = 0) (padOf b).length ⟨rfl, 0, by omega, by omega, rfl, by simp⟩ ?_
        rintro k z L' ⟨rfl, i, hi, rfl, rfl, hall⟩
        refine ifD_of (fun (hlt : (i : Int) < s2.len) => ?_) (fun (hge : ¬ (i : Int) < s2.len) => ?_)
        · have hi' : i < (padOf b).length := by omega
          obtain ⟨a2, ha2⟩ := hs2.some hi'
          refine nilc_of ha2 (ixn_of (show (0 : Int) ≤ i by omega) hlt (ld_of ((padOf b)[i].toNat : Int) (hs2.rd hi' ha2 _ (by simp)) ?_))
          refine ifNe_of (fun hne => par_err [o2] (parR_bad hS hbk hcs ((pbad_iff b).2 (.inr (.inr (.inr (.inr ⟨(padOf b)[i], List.getElem_mem hi', ?_⟩))))))) (fun h0 => ⟨(padOf b).length - (i + 1), by omega, rfl, i + 1, by omega, rfl, ?_, fun x hx => ?_⟩)
          · rintro e
            rw [e] at hne
            exact hne rfl
          · rw [w64_id (by first | omega | (simp only; omega)) (by first | omega | (simp only; omega))]
            rfl
          · rw [List.take_succ_eq_append_getElem hi'] at hx
            rcases List.mem_append.1 hx with hx | hx
            · exact hall x hx
            · rw [List.mem_singleton.1 hx]
              exact (eq_u8 _ 0 (by decide)).1 h0
        · obtain rfl : i = (padOf b).length := by omega
          rw [List.take_length] at hall
          have hok := parR_ok hS hbk hcs (pbad_f h3' h9' (by omega) he hall)
          refine slc_of (l' := 12) (h' := 12 + nOf b) (m' := v.cap) rfl rfl rfl (by omega) (by omega) (Nat.le_refl _) ?_
          have hs3 : ∀ {o : Nat × Obj}, BSl (o :: o2 :: (n1, Obj.cells #[.int .i64 0, .int .i64 0, .int .i64 0, .int .i64 0, .int .i64 0] 88) :: A) (slcV v ((12 : Nat) : Int) ((12 + nOf b : Nat) : Int) v.cap 1) (payOf b) := by
            intro o
            have := Sl.slc (m := v.cap) (hb1 (X := [o, o2])) (by omega) (l := 12) (h' := 12 + nOf b) (by omega) (by omega) (by omega)
            rw [bvs_slc, Nat.add_sub_cancel_left] at this
            exact this
          have hsl3 : (slcV v ((12 : Nat) : Int) ((12 + nOf b : Nat) : Int) v.cap 1).len = nOf b := by simp only [slcV, Int.toNat_natCast]; omega
          generalize slcV v ((12 : Nat) : Int) ((12 + nOf b : Nat) : Int) v.cap 1 = s3 at hs3 hsl3 ⊢
          refine ld_of (hOf b) (l2 (X := [])) (nw_of fun n3 _ => append_in elemB srcB [] (o2 :: (n1, Obj.cells #[.int .i64 0, .int .i64 0, .int .i64 0, .int .i64 0, .int .i64 0] 88) :: A) own_empty rfl (.sl hs3) (bvs_plain _) (by first | omega | (simp only; omega)) fun s4 seg4 hs4 own4 => keep_of l2 ?_)
          rw [List.nil_append] at own4
          exact par_end hok own4 [] [o2]
      · exact ifT (by simp [hcs]) (par_err [] (parR_sum hS hbk hcs))
end Go.Proofs.YtlabcgnegbdlfaaDoor
set_option linter.unusedVariables false
set_option linter.unusedSimpArgs false
namespace Go.Proofs.YtlabcgnegbdlfaaDoor
open Go.HL

end Go.Proofs.YtlabcgnegbdlfaaDoor
set_option linter.unusedVariables false
set_option linter.unusedSimpArgs false
namespace Go.Proofs.YtlabcgnegbdlfaaDoor
open Go.HL

abbrev It := Int × Int × Int × Unit
def itEnc (x : It) : List Value := [.int .i64 x.1, .int .i64 x.2.1, .int .i64 x.2.2.1]
theorem itEnc_len (x : It) : (itEnc x).length = 3 := rfl
def itV (x : It) : Value := .agg #[.int .i64 x.1, .int .i64 x.2.1, .int .i64 x.2.2.1]
abbrev tItm : TypeId := 37
abbrev eItm : TypeId := 73
abbrev tPlc : TypeId := 64
abbrev ePlc : TypeId := 41
theorem elemItm : ElemT PP tItm eItm 3 24 [.int .i64 0, .int .i64 0, .int .i64 0] := elemT_of (by kernel_rfl) (by kernel_rfl) rfl (by decide) (by decide)
theorem srcItm : SrcT PP tItm := .inl ⟨eItm, by kernel_rfl⟩
theorem elemPlc : ElemT PP tPlc ePlc 3 24 [.int .i64 0, .int .i64 0, .int .i64 0] := elemT_of (by kernel_rfl) (by kernel_rfl) rfl (by decide) (by decide)
theorem srcPlc : SrcT PP tPlc := .inl ⟨ePlc, by kernel_rfl⟩
theorem undPlc : isStr PP ePlc = true := by kernel_rfl
def u8of (n : Int) : UInt8 := UInt8.ofNat n.toNat
def inB (l : List Int) : Prop := ∀ n ∈ l, 0 ≤ n ∧ n ≤ 255
theorem u8_wrap {n : Int} (h0 : 0 ≤ n) (h1 : n ≤ 255) : IntKind.u8.wrap n = ((u8of n).toNat : Int) := by
  rw [w8_id h0 h1]
  unfold u8of
  rw [UInt8.toNat_ofNat', Nat.mod_eq_of_lt (by omega)]
  omega
theorem bytes_cl (A : HList) (v : SlV) (b : List UInt8) (seg : HList) (own : Own v 1 eB (bvs b) seg) (hb : b.length ≤ 1000000) (u : SlV) (l : List Int) (hu : ISl A u .i64 l) (hl : l.length ≤ 1000) :
    CallF PP 48 #[.slice v.a v.len v.cap, .slice u.a u.len u.cap] (seg ++ A) fun r L' => ∃ seg', L' = seg' ++ A ∧ ((inB l ∧ ∃ v' : SlV, r = .tuple #[.slice v'.a v'.len v'.cap, .bool true] ∧ Own v' 1 eB (bvs (b ++ l.map u8of)) seg') ∨ (¬ inB l ∧ r = .tuple #[.slice none 0 0, .bool false])) := by
  refine CallF.of (args := [.slice v.a v.len v.cap, .slice u.a u.len u.cap]) noNum mixed Tryd.func48 (e48 v u _) ?_
  unfold t48
  have hul := hu.len
  refine lp_of (fun z' z L' => ∃ (i : Nat) (s : SlV) (sg J : HList), i ≤ l.length ∧ z' = l.length - i ∧ z = (s, (i : Int), ()) ∧ L' = J ++ (sg ++ A) ∧ Own s 1 eB (bvs (b ++ (l.take i).map u8of)) sg ∧ inB (l.take i)) l.length ⟨0, v, seg, [], by omega, by omega, rfl, rfl, by simpa using own, by intro n hn; simp at hn⟩ ?_
  rintro z' z _ ⟨i, s, sg, J, hi, rfl, rfl, rfl, owns, hin⟩
  refine ifD_of (fun (hlt : (i : Int) < (u.len : Int)) => ?_) (fun (hge : ¬ (i : Int) < (u.len : Int)) => ?_)
  · have hi' : i < l.length := by omega
    obtain ⟨a, ha⟩ := hu.some hi'
    have hld := hu.rd hi' ha ((i : Int).toNat * 1) (by rw [Int.toNat_natCast])
    have hsl := owns.sl.len
    rw [bvs_length, List.length_append, List.length_map, List.length_take] at hsl
    refine nilc_of ha (ixn_of (show (0 : Int) ≤ (i : Int) by omega) hlt (ld_of l[i] (hld.mono fun x hx => by simp [hx]) ?_))
    have hno : ¬ (0 ≤ l[i] ∧ l[i] ≤ 255) → HL.Ends (fun r L' => ∃ seg', L' = seg' ++ A ∧ ((inB l ∧ ∃ v' : SlV, r = .tuple #[.slice v'.a v'.len v'.cap, .bool true] ∧ Own v' 1 eB (bvs (b ++ l.map u8of)) seg') ∨ (¬ inB l ∧ r = .tuple #[.slice none 0 0, .bool false]))) (.tuple #[.slice none 0 0, .bool false]) (J ++ (sg ++ A)) :=
      fun h => .app (.of ⟨sg, rfl, .inr ⟨fun hh => h (hh _ (List.getElem_mem hi')), rfl⟩⟩)
    refine ifD_of (fun (h1 : l[i] < 0) => hno (by omega)) (fun (h1 : ¬ l[i] < 0) => ifD_of (fun (h2 : l[i] > 255) => hno (by omega)) (fun (h2 : ¬ l[i] > 255) => ?_))
    refine nw_of fun n1 _ => ?_
    rw [u8_wrap (by omega) (by omega)]
    refine append_in elemB srcB ((n1, Obj.cells #[.int .u8 ((u8of l[i]).toNat : Int)] 5) :: J) A owns (by simp) (n := 1) (ws := bvs [u8of l[i]]) (x := .slice (some ⟨n1, 0, none⟩) 1 1) (Src.sl (v := ⟨some ⟨n1, 0, none⟩, 1, 1⟩) ⟨rfl, Nat.le_refl _, .inr ⟨_, rfl, ldB List.mem_cons_self rfl⟩⟩) rfl (by omega) fun s' sg' hs' own' => ?_
    refine ⟨l.length - (i + 1), by omega, i + 1, s', sg', _, by omega, rfl, ?_, List.append_assoc .., ?_, ?_⟩
    · rw [w64_id (by first | omega | (simp only; omega)) (by first | omega | (simp only; omega))]
      rfl
    · rw [← bvs_append] at own'
      rw [List.take_succ_eq_append_getElem hi', List.map_append, ← List.append_assoc]
      exact own'
    · intro n hn
      rw [List.take_succ_eq_append_getElem hi'] at hn
      rcases List.mem_append.1 hn with h3 | h3
      · exact hin n h3
      · rw [List.mem_singleton.1 h3]; omega
  · obtain rfl : i = l.length := by omega
    rw [List.take_length] at owns hin
    exact .app (.of ⟨sg, rfl, .inl ⟨hin, s, rfl, owns⟩⟩)
def rightP (x : It) : Prop := 0 ≤ x.1 ∧ x.1 ≤ 15 ∧ 0 ≤ x.2.1 ∧ x.2.1 ≤ 15 ∧ 1 ≤ x.2.2.1 ∧ x.2.2.1 ≤ 1073741824
instance (x : It) : Decidable (rightP x) := by unfold rightP; infer_instance
theorem rightp_rd (L : HList) (x : It) : Reads PP 47 #[.agg #[.int .i64 x.1, .int .i64 x.2.1, .int .i64 x.2.2.1]] L (.bool (decide (rightP x))) := by
  refine Reads.of (args := [.agg #[.int .i64 x.1, .int .i64 x.2.1, .int .i64 x.2.2.1]]) noNum mixed Tryd.func47 (e47 x _) ?_
  unfold t47
  refine nw_of fun n1 _ => ?_
  generalize ho : (n1, Obj.cells #[.int .i64 x.1, .int .i64 x.2.1, .int .i64 x.2.2.1] 41) = o1
  have lc : LdAt ⟨n1, 0, none⟩ [.int .i64 x.1, .int .i64 x.2.1, .int .i64 x.2.2.1] (o1 :: L) := ldB (by rw [← ho]; exact List.mem_cons_self) rfl
  clear ho
  have lB : LdAt ⟨n1, 0, none⟩ [.int .i64 x.1] (o1 :: L) := lc.pre fun i u hu => by cases i with | zero => exact hu | succ i => exact absurd (show (none : Option Value) = some u from hu) (by simp)
  have hno : ¬ rightP x → HL.Ends (fun v' L' => v' = Value.bool (decide (rightP x)) ∧ L' = L) (.bool false) (o1 :: L) := fun h => .cons (.of ⟨by rw [decide_eq_false h], rfl⟩)
  refine ld_of x.1 lB (ifD_of (fun (h1 : x.1 ≥ 0) => ?_) (fun (h1 : ¬ x.1 ≥ 0) => hno (by unfold rightP; omega)))
  refine ld_of x.1 lB (ifD_of (fun (h2 : x.1 < 16) => ?_) (fun (h2 : ¬ x.1 < 16) => hno (by unfold rightP; omega)))
  refine ld_of x.2.1 (lc.one 1 rfl) (ifD_of (fun (h3 : x.2.1 ≥ 0) => ?_) (fun (h3 : ¬ x.2.1 ≥ 0) => hno (by unfold rightP; omega)))
  refine ld_of x.2.1 (lc.one 1 rfl) (ifD_of (fun (h4 : x.2.1 < 16) => ?_) (fun (h4 : ¬ x.2.1 < 16) => hno (by unfold rightP; omega)))
  refine ld_of x.2.2.1 (lc.one 2 rfl) (ifD_of (fun (h5 : x.2.2.1 ≥ 1) => ?_) (fun (h5 : ¬ x.2.2.1 ≥ 1) => hno (by unfold rightP; omega)))
  refine ld_of x.2.2.1 (lc.one 2 rfl) (.cons (.of ⟨?_, rfl⟩))
  congr 1
  rw [decide_eq_decide]
  exact ⟨fun h => ⟨by omega, by omega, by omega, by omega, by omega, h⟩, fun h => h.2.2.2.2.2⟩
def kb (x : It) : List UInt8 := [u8of x.1, u8of x.2.1] ++ digs x.2.2.1.toNat 4
theorem kb_len (x : It) : (kb x).length = 6 := by simp [kb, digs_len]
def allR (l : List It) : Prop := ∀ x ∈ l, rightP x
instance (l : List It) : Decidable (allR l) := by unfold allR; infer_instance
def killR (l : List It) : List UInt8 × Int := if allR l then (l.flatMap kb, 0) else ([], 3)
theorem kbs_len (l : List It) : (l.flatMap kb).length = l.length * 6 := by
  induction l with
  | nil => rfl
  | cons x r ih => rw [List.flatMap_cons, List.length_append, kb_len, ih, List.length_cons]; omega
def BytesK (p : List UInt8 × Int) (A : HList) (r : Value) (L' : HList) : Prop := ∃ g : PG, r = .tuple #[g.val, .int .i64 p.2] ∧ L' = g.seg ++ A ∧ g.Ok ∧ g.l = p.1
theorem killload_cl (A : HList) (v : SlV) (l : List It) (h : Sl A v 3 (l.flatMap itEnc)) (hl : l.length ≤ 1000) : CallF PP 22 #[.slice v.a v.len v.cap] A (BytesK (killR l) A) := by
  refine CallF.of (args := [.slice v.a v.len v.cap]) noNum mixed Tryd.func22 (e22 v _) ?_
  unfold t22
  have hvl := h.els_len itEnc_len (by decide)
  refine lp_of (fun z' z L' => ∃ (i : Nat) (s : SlV) (sg J : HList), i ≤ l.length ∧ z' = l.length - i ∧ z = (s, (i : Int), ()) ∧ L' = sg ++ (J ++ A) ∧ Own s 1 eB (bvs ((l.take i).flatMap kb)) sg ∧ allR (l.take i)) l.length ⟨0, ⟨none, 0, 0⟩, [], [], by omega, by omega, rfl, rfl, own_nil, by intro n hn; simp at hn⟩ ?_
  rintro z' z _ ⟨i, s, sg, J, hi, rfl, rfl, rfl, own, hall⟩
  refine ifD_of (fun (hlt : (i : Int) < (v.len : Int)) => ?_) (fun (hge : ¬ (i : Int) < (v.len : Int)) => ?_)
  · have hi' : i < l.length := by omega
    obtain ⟨a, ha, l1⟩ := h.el itEnc_len (by decide) hi'
    refine nilc_of ha (ixn_of (show (0 : Int) ≤ (i : Int) by omega) hlt (ld_of (l[i] : It) (by rw [Int.toNat_natCast]; exact l1.mono fun x hx => by simp [hx]) (nw_of fun n1 _ => ?_)))
    refine st_of (n := n1) (off := 0) (c := #[.int .i64 0, .int .i64 0, .int .i64 0]) (T := ePlc) (fz := (0, 0)) [] (sg ++ (J ++ A)) rfl rfl (by simp) (.inl (Nat.le_refl _)) #[.int .i64 l[i].1, .int .i64 l[i].2.1, .int .i64 l[i].2.2.1] rfl ?_
    rw [List.nil_append]
    generalize ho : ((n1, Obj.cells #[.int .i64 l[i].1, .int .i64 l[i].2.1, .int .i64 l[i].2.2.1] ePlc) : Nat × Obj) = o1
    have lc : ∀ L : HList, o1 ∈ L → LdAt ⟨n1, 0, none⟩ [.int .i64 l[i].1, .int .i64 l[i].2.1, .int .i64 l[i].2.2.1] L := fun L hm => ldB (by rw [← ho] at hm; exact hm) rfl
    clear ho
    refine ld_of (l[i] : It) (lc _ List.mem_cons_self) (cl_rd (rightp_rd _ l[i]) (decide (rightP l[i]), ()) rfl ?_)
    by_cases hr : rightP l[i]
    case neg =>
      rw [decide_eq_false hr]
      have hk : killR l = ([], 3) := by unfold killR; rw [if_neg (fun hh => hr (hh _ (List.getElem_mem hi')))]
      refine ifT rfl (.cons (.app (.app (.of ⟨pg0, by rw [hk]; rfl, rfl, pg0_ok, by rw [hk]; rfl⟩))))
    rw [decide_eq_true hr]
    have hr' := hr
    unfold rightP at hr'
    have hkl := kbs_len (l.take i)
    rw [List.length_take] at hkl
    refine ifF rfl (ld_of l[i].1 ((lc _ List.mem_cons_self).pre fun i u hu => by cases i with | zero => exact hu | succ i => exact absurd (show (none : Option Value) = some u from hu) (by simp)) (ld_of l[i].2.1 ((lc _ List.mem_cons_self).one 1 rfl) (nw_of fun n2 _ => ?_)))
    generalize ho2 : ((n2, Obj.cells #[.int .i64 l[i].1, .int .i64 l[i].2.1] 3) : Nat × Obj) = o2
    have hi2 : ISl (o2 :: o1 :: (J ++ A)) ⟨some ⟨n2, 0, none⟩, 2, 2⟩ .i64 [l[i].1, l[i].2.1] := ⟨rfl, Nat.le_refl _, .inr ⟨_, rfl, ldB (n := n2) (off := 0) (T := 3) (fz := (0, 0)) (c := #[.int .i64 l[i].1, .int .i64 l[i].2.1]) (by rw [ho2]; exact List.mem_cons_self) rfl⟩⟩
    refine cl_pm (bytes_cl (o2 :: o1 :: (J ++ A)) s _ sg own (by omega) ⟨some ⟨n2, 0, none⟩, 2, 2⟩ [l[i].1, l[i].2.1] hi2 (by simp)) (R := []) ?_ ?_
    · classical
      rw [List.perm_iff_count]
      intro x
      simp only [List.append_eq, List.cons_append, List.count_append, List.count_cons, List.count_nil]
      omega
    rintro _ _ ⟨sg2, rfl, ⟨-, s2, rfl, own2⟩ | ⟨hn, -⟩⟩
    case inr => exact absurd (show inB [l[i].1, l[i].2.1] by intro n hn; simp at hn; omega) hn
    refine ⟨sg2 ++ (o2 :: o1 :: (J ++ A)), by rw [List.append_nil], (s2, true, ()), rfl, ld_of l[i].2.2.1 ((lc _ (by simp)).one 2 rfl) ?_⟩
    have hl2 := own2.sl.len
    rw [bvs_length, List.length_append, List.length_map] at hl2
    refine cl_in [] [] (wput_cl (sg2 ++ (o2 :: o1 :: (J ++ A))) s2 _ own2.sl.left (by rw [List.length_append, List.length_map]; simp only [List.length_cons, List.length_nil]; omega) l[i].2.2.1 4 (by omega)) (by simp) ?_
    rintro _ _ - ⟨s3, sg3, rfl, rfl, own3⟩
    rw [wput_ok (by decide) (by omega) (by show l[i].2.2.1.toNat < 4294967296; omega)] at own3 ⊢
    rw [List.nil_append, List.append_nil]
    refine ⟨(s3, 0, ()), rfl, l.length - (i + 1), by omega, i + 1, s3, sg3, sg2 ++ (o2 :: o1 :: J), by omega, rfl, ?_, by simp, ?_, ?_⟩
    · rw [w64_id (by first | omega | (simp only; omega)) (by first | omega | (simp only; omega))]
      rfl
    · rw [List.take_succ_eq_append_getElem hi', List.flatMap_append, List.flatMap_singleton]
      unfold kb
      rw [← List.append_assoc]
      exact own3
    · intro n hn
      rw [List.take_succ_eq_append_getElem hi'] at hn
      rcases List.mem_append.1 hn with h3 | h3
      · exact hall n h3
      · rw [List.mem_singleton.1 h3]; exact hr
  · obtain rfl : i = l.length := by omega
    rw [List.take_length] at own hall
    have hk : killR l = (l.flatMap kb, 0) := by unfold killR; rw [if_pos hall]
    unfold BytesK
    rw [hk]
    refine .drop (A := sg ++ A) (J := J) ⟨⟨s, sg, _⟩, rfl, rfl, own, rfl⟩ ?_
    classical
    rw [List.perm_iff_count]
    intro x
    simp only [List.append_eq, List.cons_append, List.count_append, List.count_cons, List.count_nil]
    omega
end Go.Proofs.YtlabcgnegbdlfaaDoor
set_option linter.unusedVariables false
set_option linter.unusedSimpArgs false
namespace Go.Proofs.YtlabcgnegbdlfaaDoor
open Go.HL

def plAt (p : List UInt8) (i : Nat) : It := (((p.getD (i * 6) 0).toNat : Int), ((p.getD (i * 6 + 1) 0).toNat : Int), (num ((p.drop (i * 6 + 2)).take 4) : Int), ())
def pls (p : List UInt8) (n : Nat) : List It := (List.range n).map (plAt p)
theorem pls_succ (p : List UInt8) (n : Nat) : pls p (n + 1) = pls p n ++ [plAt p n] := by simp [pls, List.range_succ]
theorem pls_len (p : List UInt8) (n : Nat) : (pls p n).length = n := by simp [pls]
def killsR (p : List UInt8) : List It × Int := if p.length % 6 ≠ 0 then ([], 5) else if allR (pls p (p.length / 6)) then (pls p (p.length / 6), 0) else ([], 5)
def ItsK (e : TypeId) (q : List It × Int) (A : HList) (r : Value) (L' : HList) : Prop := ∃ (v : SlV) (seg : HList), r = .tuple #[.slice v.a v.len v.cap, .int .i64 q.2] ∧ L' = seg ++ A ∧ Own v 3 e (q.1.flatMap itEnc) seg
theorem ItsK.err {e : TypeId} {q : List It × Int} {A : HList} {z : Int} (h : q = ([], z)) : ItsK e q A (.tuple #[.slice none 0 0, .int .i64 z]) A := ⟨⟨none, 0, 0⟩, [], by rw [h], rfl, by rw [h]; exact own_nil⟩
theorem getD_of {b : List UInt8} {i : Nat} (h : i < b.length) : b.getD i 0 = b[i] := by simp [List.getD_eq_getElem?_getD, h]
theorem u8_64 (x : UInt8) : IntKind.i64.wrap (x.toNat : Int) = (x.toNat : Int) := by
  have := x.toNat_lt
  exact w64_id (by omega) (by omega)
theorem kills_cl (A : HList) (v : SlV) (p : List UInt8) (h : BSl A v p) (hl : p.length ≤ 10000) : CallF PP 29 #[.slice v.a v.len v.cap] A (ItsK ePlc (killsR p) A) := by
  refine CallF.of (args := [.slice v.a v.len v.cap]) noNum mixed Tryd.func29 (e29 v _) ?_
  unfold t29
  have hvl := h.len
  have htm : Int.tmod (v.len : Int) 6 = ((p.length % 6 : Nat) : Int) := by rw [Int.tmod_eq_emod_of_nonneg (by omega), hvl]; omega
  refine req_of (by decide) ?_
  rw [htm]
  refine ifNe_of (fun (h6 : ((p.length % 6 : Nat) : Int) ≠ 0) => .of (ItsK.err (by unfold killsR; rw [if_pos (by omega)]))) (fun (h6 : ((p.length % 6 : Nat) : Int) = 0) => ?_)
  obtain ⟨n, hn⟩ : ∃ n, p.length = n * 6 := ⟨p.length / 6, by omega⟩
  have hdiv : p.length / 6 = n := by omega
  refine lp_of (fun z' z L' => ∃ (i : Nat) (s b : SlV) (sg J : HList), i ≤ n ∧ z' = n - i ∧ z = (s, b, ()) ∧ L' = J ++ (sg ++ A) ∧ Own s 3 ePlc ((pls p i).flatMap itEnc) sg ∧ allR (pls p i) ∧ BSl A b (p.drop (i * 6))) n ⟨0, ⟨none, 0, 0⟩, v, [], [], by omega, by omega, rfl, rfl, own_nil, by intro n hn; simp [pls] at hn, by simpa using h⟩ ?_
  rintro z' z _ ⟨i, s, b, sg, J, hi, rfl, rfl, rfl, own, hall, hb⟩
  have hbl := hb.len
  rw [List.length_drop] at hbl
  have hbcap := hb.cap
  have hs1 := own.sl.els_len itEnc_len (by decide)
  rw [pls_len] at hs1
  refine ifD_of (fun (hgt : (b.len : Int) > 0) => ?_) (fun (hle : ¬ (b.len : Int) > 0) => ?_)
  · have hi' : i < n := by omega
    have hB : BSl (J ++ (sg ++ A)) b (p.drop (i * 6)) := hb.right.right
    have hlen6 : 6 ≤ (p.drop (i * 6)).length := by rw [List.length_drop]; omega
    refine cl_rd (wget_rd _ b _ hB (by rw [List.length_drop]; omega) 2 4) ((wget (p.drop (i * 6)) 2 4).1, (wget (p.drop (i * 6)) 2 4).2, ()) rfl ?_
    have hwg : (wget (p.drop (i * 6)) 2 4).1 = (num ((p.drop (i * 6 + 2)).take 4) : Int) := by
      have := wget_ok (b := p.drop (i * 6)) (a := 2) (w := 4) (by decide) (by decide) (by omega)
      rw [List.drop_drop] at this
      exact congrArg Prod.fst this
    rw [hwg]
    obtain ⟨a, ha⟩ := hB.some (i := 0) (by omega)
    have e0 : (p.drop (i * 6))[0]'(by omega) = p.getD (i * 6) 0 := by rw [getD_of (by omega), List.getElem_drop]; simp
    have e1 : (p.drop (i * 6))[1]'(by omega) = p.getD (i * 6 + 1) 0 := by rw [getD_of (by omega), List.getElem_drop]
    have l0 := hB.rd (i := 0) (by omega) ha ((0 : Int).toNat * 1) rfl
    have l1 := hB.rd (i := 1) (by omega) ha ((1 : Int).toNat * 1) rfl
    rw [e0] at l0
    rw [e1] at l1
    refine nilc_of ha (ixn_of (by decide) (show (0 : Int) < (b.len : Int) by omega) (nilc_of ha (ixn_of (by decide) (show (1 : Int) < (b.len : Int) by omega) (ld_of ((p.getD (i * 6) 0).toNat : Int) l0 (ld_of ((p.getD (i * 6 + 1) 0).toNat : Int) l1 (nw_of fun n1 _ => ?_))))))
    rw [u8_64, u8_64]
    refine st_of (n := n1) (off := 0) (c := #[.int .i64 0, .int .i64 0, .int .i64 0]) (T := ePlc) (fz := (0, 0)) [] (J ++ (sg ++ A)) rfl rfl (by simp) (.inl (Nat.le_refl _)) #[.int .i64 (plAt p i).1, .int .i64 (plAt p i).2.1, .int .i64 (plAt p i).2.2.1] rfl ?_
    rw [List.nil_append]
    refine ld_of (plAt p i) (ldB List.mem_cons_self rfl) (cl_rd (rightp_rd _ (plAt p i)) (decide (rightP (plAt p i)), ()) rfl ?_)
    by_cases hr : rightP (plAt p i)
    case neg =>
      rw [decide_eq_false hr]
      have hk : killsR p = ([], 5) := by
        unfold killsR
        rw [if_neg (by omega), hdiv, if_neg (fun hh => hr (hh _ (List.mem_map.2 ⟨i, List.mem_range.2 hi', rfl⟩)))]
      exact ifT rfl (.cons (.app (.app (.of (ItsK.err hk)))))
    rw [decide_eq_true hr]
    refine ifF rfl (ld_of (plAt p i) (ldB List.mem_cons_self rfl) (nw_of fun n2 _ => ?_))
    generalize ((n1, Obj.cells #[.int .i64 (plAt p i).1, .int .i64 (plAt p i).2.1, .int .i64 (plAt p i).2.2.1] ePlc) : Nat × Obj) = o1
    refine append_in elemPlc srcPlc ((n2, Obj.cells #[.int .i64 (plAt p i).1, .int .i64 (plAt p i).2.1, .int .i64 (plAt p i).2.2.1] ePlc) :: o1 :: J) A own (by simp) (n := 1) (ws := itEnc (plAt p i)) (x := .slice (some ⟨n2, 0, none⟩) 1 1) (Src.sl (v := ⟨some ⟨n2, 0, none⟩, 1, 1⟩) ⟨rfl, Nat.le_refl _, .inr ⟨_, rfl, ldB List.mem_cons_self rfl⟩⟩) rfl (by omega) fun s2 sg2 hs2 own2 => ?_
    refine slc_of (l' := 6) (h' := b.len) (m' := b.cap) rfl rfl rfl (by omega) (by omega) (Nat.le_refl _) ?_
    have hcut : BSl A (slcV b ((6 : Nat) : Int) (b.len : Int) (b.cap : Int) 1) (p.drop ((i + 1) * 6)) := by
      have h0 := Sl.slc (m := b.cap) hb (by decide) (l := 6) (h' := b.len) (by omega) (by omega) (by omega)
      rw [bvs_slc, List.take_of_length_le (by rw [List.length_drop, List.length_drop]; omega), List.drop_drop] at h0
      rw [show (i + 1) * 6 = i * 6 + 6 by omega]
      exact h0
    refine ⟨n - (i + 1), by omega, i + 1, s2, _, sg2, _, by omega, rfl, rfl, List.append_assoc .., ?_, ?_, hcut⟩
    · rw [pls_succ, List.flatMap_append, List.flatMap_singleton]; exact own2
    · intro x hx
      rw [pls_succ] at hx
      rcases List.mem_append.1 hx with h3 | h3
      · exact hall x h3
      · rw [List.mem_singleton.1 h3]; exact hr
  · obtain rfl : i = n := by omega
    have hk : killsR p = (pls p i, 0) := by unfold killsR; rw [if_neg (by omega), hdiv, if_pos hall]
    exact .app (.of ⟨s, sg, by rw [hk], rfl, by rw [hk]; exact own⟩)
end Go.Proofs.YtlabcgnegbdlfaaDoor
set_option linter.unusedVariables false
set_option linter.unusedSimpArgs false
namespace Go.Proofs.YtlabcgnegbdlfaaDoor
open Go.HL

def saysR (ps : List (List UInt8)) (at' : Int) (h : Hd) : Option (List UInt8) :=
  if 0 ≤ at' ∧ at' < 16 then match ps[at'.toNat]? with
    | some b => if (parR b).2.2 = 0 ∧ (parR b).1 = h then some (parR b).2.1 else none
    | none => none
  else none
def lastD (ps : List (List UInt8)) : Nat → Nat
  | 0 => 0
  | n + 1 => if pblank (ps.getD (n + 1) []) then lastD ps n else n + 1
def lastR (ps : List (List UInt8)) : Nat := lastD ps (min ps.length 16 - 1)
theorem lastD_le (ps : List (List UInt8)) : ∀ n, lastD ps n ≤ n
  | 0 => Nat.le_refl _
  | n + 1 => by
    unfold lastD
    split
    · exact Nat.le_succ_of_le (lastD_le ps n)
    · exact Nat.le_refl _
def sItem (p : List UInt8) (i : Nat) : It := (((p.getD (i * 3) 0).toNat : Int), ((p.getD (i * 3 + 1) 0).toNat : Int), ((p.getD (i * 3 + 2) 0).toNat : Int), ())
def sealG (p : List UInt8) : Nat → Nat → Int → Option (List It × Int)
  | 0, _, nx => some ([], nx)
  | n + 1, i, nx => if ((sItem p i).1 = 2 ∨ (sItem p i).1 = 3) ∧ (sItem p i).2.2.1 ≠ 0 ∧ (sItem p i).2.1 = nx then (sealG p n (i + 1) (nx + (sItem p i).2.2.1)).map fun y => (sItem p i :: y.1, y.2) else none
def sealR (p : List UInt8) (last : Nat) : Option (List It) :=
  if p.length % 3 ≠ 0 then none else match sealG p (p.length / 3) 0 1 with
  | some y => if y.2 = last then some y.1 else none
  | none => none
def foundR (ps : List (List UInt8)) (ep : Int) (at' : Nat) : Option It :=
  match ps[at']? with
  | some b => if (parR b).2.2 = 0 ∧ ((parR b).1.1 = 2 ∨ (parR b).1.1 = 3) then
      if (List.range (parR b).1.2.2.1.toNat).all (fun i => (saysR ps ((at' : Int) + i) ((parR b).1.1, i, (parR b).1.2.2.1, ep, (at' : Int) + i, ())).isSome) = true then some ((parR b).1.1, at', (parR b).1.2.2.1, ()) else none
    else none
  | none => none
def eachR (f : Nat → Option It) (last : Nat) : Nat → Nat → List It
  | 0, _ => []
  | k + 1, p => if p ≤ last then match f p with
    | some x => x :: eachR f last k (p + x.2.2.1.toNat)
    | none => eachR f last k (p + 1)
    else []
def sealS (ps : List (List UInt8)) (ep : Int) : Option (List It) := (saysR ps (lastR ps) (4, 0, 1, ep, lastR ps, ())).bind fun p => sealR p (lastR ps)
def epR (ps : List (List UInt8)) : Int := (parR (ps.getD 0 [])).1.2.2.2.1
def scanR (ps : List (List UInt8)) : (Int × Bool × List It) × Bool :=
  if ps = [] then ((0, false, []), false) else
  match saysR ps 0 (1, 0, 1, epR ps, 0, ()) with
  | some [] => match (if lastR ps > 0 then sealS ps (epR ps) else none) with
    | some l => ((epR ps, true, l), true)
    | none => ((epR ps, false, eachR (foundR ps (epR ps)) (lastR ps) 17 1), true)
  | _ => ((0, false, []), false)
theorem par_ok {b : List UInt8} (h : (parR b).2.2 = 0) : hErr (parR b).1 = 0 := by
  unfold parR at h ⊢
  split at h
  · exact absurd h (by simp)
  · rename_i h1
    split at h
    · exact absurd h (by simp)
    · rename_i h2
      split at h
      · exact absurd h (by simp)
      · rename_i h3
        split at h
        · exact absurd h (by simp)
        · rename_i h4
          rw [if_neg h1, if_neg h2, if_neg h3, if_neg h4]
          simp only
          by_cases he : hErr (hOf b) = 0
          · exact he
          · exact absurd ((pbad_iff b).2 (.inr (.inr (.inr (.inl he))))) h4
theorem parR_len (b : List UInt8) : (parR b).2.1.length ≤ b.length := by
  unfold parR
  split
  · exact Nat.zero_le _
  · split
    · exact Nat.zero_le _
    · split
      · exact Nat.zero_le _
      · split
        · exact Nat.zero_le _
        · show (payOf b).length ≤ b.length
          unfold payOf
          rw [List.length_take, List.length_drop]; omega

abbrev tIm : TypeId := 149
abbrev eIm : TypeId := 153
theorem elemIm : ElemT PP tIm eIm 7 72 [.int .i64 0, .int .i64 0, .int .i64 0, .int .i64 0, .int .i64 0, .slice none 0 0, .bool false] := elemT_of (by kernel_rfl) (by kernel_rfl) rfl (by decide) (by decide)
theorem srcIm : SrcT PP tIm := .inl ⟨eIm, by kernel_rfl⟩
structure IM where
  h : Hd
  g : PG
  fine : Bool
def IM.enc (x : IM) : List Value := [.int .i64 x.h.1, .int .i64 x.h.2.1, .int .i64 x.h.2.2.1, .int .i64 x.h.2.2.2.1, .int .i64 x.h.2.2.2.2.1, x.g.val, .bool x.fine]
theorem IM.enc_len (x : IM) : x.enc.length = 7 := rfl
def IM.dat (x : IM) : Hd × List UInt8 × Bool := (x.h, x.g.l, x.fine)
def imOf (b : List UInt8) : Hd × List UInt8 × Bool := ((parR b).1, (parR b).2.1, decide ((parR b).2.2 = 0))
def imsegs (l : List IM) : HList := l.flatMap fun x => x.g.seg
theorem imsegs_append (a b : List IM) : imsegs (a ++ b) = imsegs a ++ imsegs b := List.flatMap_append
theorem imsegs_one (a : IM) : imsegs [a] = a.g.seg := by simp [imsegs]
def sO (m : Nat) (sv : SlV) (ep last : Int) : Nat × Obj := (m, .cells #[.slice sv.a sv.len sv.cap, .int .i64 ep, .int .i64 last] 151)
structure SHs (ps : List (List UInt8)) (sv : SlV) (seg : HList) (ims : List IM) : Prop where
  own : Own sv 7 eIm (ims.flatMap IM.enc) seg
  ok : ∀ x ∈ ims, x.g.Ok
  dat : ims.map IM.dat = (ps.take 16).map imOf
  len : ∀ b ∈ ps, b.length ≤ 1000000
def SH (m : Nat) (ps : List (List UInt8)) (ep : Int) (last : Nat) (A : HList) : Prop := ∃ sv seg ims, A = sO m sv ep last :: (seg ++ imsegs ims) ∧ SHs ps sv seg ims
section
variable {L : HList} {m : Nat} {sv : SlV} {ep last : Int} {ps : List (List UInt8)} {seg : HList} {ims : List IM}
theorem s_im (h : sO m sv ep last ∈ L) : LdAt ⟨m, 0, none⟩ [.slice sv.a sv.len sv.cap] L := ldB (by unfold sO at h; exact h) rfl
theorem s_ep (h : sO m sv ep last ∈ L) : LdAt ⟨m, 1, none⟩ [.int .i64 ep] L := ldB (by unfold sO at h; exact h) rfl
theorem s_la (h : sO m sv ep last ∈ L) : LdAt ⟨m, 2, none⟩ [.int .i64 last] L := ldB (by unfold sO at h; exact h) rfl
theorem SHs.ilen (h : SHs ps sv seg ims) : ims.length = min 16 ps.length := by
  have := congrArg List.length h.dat
  rwa [List.length_map, List.length_map, List.length_take] at this
theorem SHs.im (h : SHs ps sv seg ims) {i : Nat} (hi : i < ims.length) : ∃ hp : i < ps.length, ims[i].h = (parR ps[i]).1 ∧ ims[i].g.l = (parR ps[i]).2.1 ∧ ims[i].fine = decide ((parR ps[i]).2.2 = 0) := by
  have hl := h.ilen
  have hp : i < ps.length := by omega
  refine ⟨hp, ?_⟩
  have h1 : (ims.map IM.dat)[i]? = ((ps.take 16).map imOf)[i]? := by rw [h.dat]
  rw [List.getElem?_map, List.getElem?_map, List.getElem?_eq_getElem hi, List.getElem?_take_of_lt (by omega), List.getElem?_eq_getElem hp] at h1
  have h2 := Option.some.inj h1
  unfold IM.dat imOf at h2
  simp only [Prod.mk.injEq] at h2
  exact h2
end
theorem undHd2 : isStr PP 88 = true := by kernel_rfl
theorem neHd2 {L : HList} (x y : Hd) {k : ShV (.lf .bool) → HP} (hk : k (!decide (x = y)) L) :
    smP PP (binOp .neq 88 (.agg #[.int .i64 x.1, .int .i64 x.2.1, .int .i64 x.2.2.1, .int .i64 x.2.2.2.1, .int .i64 x.2.2.2.2.1]) (.agg #[.int .i64 y.1, .int .i64 y.2.1, .int .i64 y.2.2.1, .int .i64 y.2.2.2.1, .int .i64 y.2.2.2.2.1])) (.lf .bool) k L := by
  refine neS_of (r := (x.1 == y.1 && (x.2.1 == y.2.1 && (x.2.2.1 == y.2.2.1 && (x.2.2.2.1 == y.2.2.2.1 && (x.2.2.2.2.1 == y.2.2.2.2.1 && true)))))) undHd2 (by kernel_rfl) ?_
  have e : decide (x = y) = (x.1 == y.1 && (x.2.1 == y.2.1 && (x.2.2.1 == y.2.2.1 && (x.2.2.2.1 == y.2.2.2.1 && (x.2.2.2.2.1 == y.2.2.2.2.1 && true))))) := by
    obtain ⟨a, b, c, d, f, ⟨⟩⟩ := x
    obtain ⟨a', b', c', d', f', ⟨⟩⟩ := y
    rw [Bool.eq_iff_iff]; simp
  rw [e] at hk; exact hk
theorem item_rd (L : HList) (n : Int) : Reads PP 84 #[.int .i64 n] L (.bool (decide (n = 2 ∨ n = 3))) := by
  refine Reads.of (args := [.int .i64 n]) noNum mixed Tryd.func84 (e84 n _) ?_
  unfold t84
  refine ifE_of (fun (h : n = 2) => .of ⟨by rw [decide_eq_true (.inl h)], rfl⟩) (fun (h : n ≠ 2) => .of ⟨?_, rfl⟩)
  congr 1
  by_cases h3 : n = 3
  · rw [h3]; rfl
  · rw [decide_eq_false (by omega), beq_eq_false_iff_ne]; exact h3
theorem look_cl (A : HList) (v : SlV) (l : List PV) (h : Parts A v l) (hl : l.length ≤ 1000000) (hb : ∀ x ∈ l, x.2.length ≤ 1000000) :
    CallF PP 74 #[.slice v.a v.len v.cap] A fun r L' => ∃ m B, r = .pointer (some ⟨m, 0, none⟩) ∧ L' = B ++ A ∧ SH m (l.map Prod.snd) 0 (lastR (l.map Prod.snd)) B := by
  refine CallF.of (args := [.slice v.a v.len v.cap]) noNum mixed Tryd.func74 (e74 v _) ?_
  unfold t74
  have hvl := h.len
  have hcap := h.sl.cap
  refine nw_of fun m _ => ?_
  have him : imin (v.len : Int) 16 = ((min l.length 16 : Nat) : Int) := by unfold imin; omega
  simp only [him]
  refine slc_of (l' := 0) (h' := min l.length 16) (m' := v.cap) rfl rfl rfl (by omega) (by omega) (Nat.le_refl _) ?_
  have hs : Sl A (slcV v ((0 : Nat) : Int) ((min l.length 16 : Nat) : Int) (v.cap : Int) 1) 1 ((l.take (min l.length 16)).map pvV) := by
    have h0 := Sl.slc (m := v.cap) h.sl (by decide) (l := 0) (h' := min l.length 16) (by omega) (by omega) (by omega)
    rw [Nat.zero_mul, List.drop_zero, Nat.sub_zero, Nat.mul_one, ← List.map_take] at h0
    exact h0
  generalize slcV v ((0 : Nat) : Int) ((min l.length 16 : Nat) : Int) (v.cap : Int) 1 = s at hs ⊢
  have hsl := hs.len
  rw [List.length_map, List.length_take] at hsl
  have hm0 : ((m, Obj.cells #[.slice none 0 0, .int .i64 0, .int .i64 0] 151) : Nat × Obj) = sO m ⟨none, 0, 0⟩ 0 ((0 : Nat) : Int) := rfl
  rw [hm0]
  obtain ⟨n, hn⟩ : ∃ n, n = min l.length 16 := ⟨_, rfl⟩
  have hpl : (l.map Prod.snd).length = l.length := List.length_map _
  refine lp_of (fun z' z L' => ∃ (i last : Nat) (sv : SlV) (seg : HList) (ims : List IM) (J X Y : HList), i ≤ n ∧ z' = n - i ∧ z = ((i : Int), ()) ∧ L' = X ++ sO m sv 0 last :: (seg ++ Y) ∧ (X ++ Y).Perm (imsegs ims ++ (J ++ A)) ∧ Own sv 7 eIm (ims.flatMap IM.enc) seg ∧ (∀ x ∈ ims, x.g.Ok) ∧ ims.map IM.dat = ((l.map Prod.snd).take i).map imOf ∧ last = lastD (l.map Prod.snd) (i - 1)) n
    ⟨0, 0, ⟨none, 0, 0⟩, [], [], [], [], A, by omega, by omega, rfl, rfl, List.Perm.refl _, own_nil, by simp, rfl, rfl⟩ ?_
  rintro z' z _ ⟨i, last, sv, seg, ims, J, X, Y, hi, rfl, rfl, rfl, hp, own, hok, hdat, hlast⟩
  have hsub : ∀ x ∈ A, x ∈ X ++ sO m sv 0 last :: (seg ++ Y) := by
    intro x hx
    have h5 : x ∈ X ++ Y := (hp.mem_iff (a := x)).2 (by simp [hx])
    have h6 : x ∈ X ∨ x ∈ Y := by simpa using h5
    rcases h6 with h6 | h6 <;> simp [h6]
  have hil : ims.length = i := by
    have := congrArg List.length hdat
    rw [List.length_map, List.length_map, List.length_take] at this; omega
  have hvl2 := own.sl.els_len IM.enc_len (by decide)
  refine ifD_of (fun (hlt : (i : Int) < (s.len : Int)) => ?_) (fun (hge : ¬ (i : Int) < (s.len : Int)) => ?_)
  · have hi' : i < l.length := by omega
    obtain ⟨a, ha, hld⟩ := hs.at' (i := i) (by omega) (by decide)
    have hld1 : LdAt (Addr.add a ((i : Int).toNat * 1)) [pvV l[i]] A := by
      rw [Int.toNat_natCast, Nat.mul_one]
      exact hld.one i (by rw [List.getElem?_map, List.getElem?_take_of_lt (by omega), List.getElem?_eq_getElem hi']; rfl)
    have hbv := h.val _ (List.getElem_mem hi')
    have hbl := hb _ (List.getElem_mem hi')
    refine nilc_of ha (ixn_of (show (0 : Int) ≤ (i : Int) by omega) hlt (ld_of l[i].1 (hld1.mono hsub) ?_))
    refine cl_in [] [] (pparse_cl (X ++ sO m sv 0 last :: (seg ++ Y)) l[i].1 l[i].2 (Sl.mono hbv hsub) hbl) (by simp) ?_
    rintro _ _ - ⟨s2, sg2, rfl, rfl, own2⟩
    rw [List.nil_append, List.append_nil]
    refine ⟨((parR l[i].2).1, s2, (parR l[i].2).2.2, ()), rfl, nw_of fun n2 _ => ?_⟩
    refine st_of (n := n2) (off := 0) (c := #[.int .i64 0, .int .i64 0, .int .i64 0, .int .i64 0, .int .i64 0]) (T := 88) (fz := (0, 0)) [] _ rfl rfl (by simp) (.inl (Nat.le_refl _)) #[.int .i64 (parR l[i].2).1.1, .int .i64 (parR l[i].2).1.2.1, .int .i64 (parR l[i].2).1.2.2.1, .int .i64 (parR l[i].2).1.2.2.2.1, .int .i64 (parR l[i].2).1.2.2.2.2.1] rfl ?_
    rw [List.nil_append]
    refine ld_of sv (s_im (m := m) (ep := 0) (last := last) (by simp)) (ld_of ((parR l[i].2).1 : Hd) (ldB List.mem_cons_self rfl) (nw_of fun n3 _ => ?_))
    generalize ((n2, Obj.cells #[.int .i64 (parR l[i].2).1.1, .int .i64 (parR l[i].2).1.2.1, .int .i64 (parR l[i].2).1.2.2.1, .int .i64 (parR l[i].2).1.2.2.2.1, .int .i64 (parR l[i].2).1.2.2.2.2.1] 88) : Nat × Obj) = o2
    have hfine : ((parR l[i].2).2.2 == 0) = decide ((parR l[i].2).2.2 = 0) := by
      by_cases he : (parR l[i].2).2.2 = 0
      · rw [he]; rfl
      · rw [decide_eq_false he, beq_eq_false_iff_ne]; exact he
    simp only [hfine]
    refine append_in elemIm srcIm ((n3, Obj.cells #[.int .i64 (parR l[i].2).1.1, .int .i64 (parR l[i].2).1.2.1, .int .i64 (parR l[i].2).1.2.2.1, .int .i64 (parR l[i].2).1.2.2.2.1, .int .i64 (parR l[i].2).1.2.2.2.2.1, .slice s2.a s2.len s2.cap, .bool (decide ((parR l[i].2).2.2 = 0))] eIm) :: o2 :: (sg2 ++ (X ++ [sO m sv 0 last]))) Y own (by simp)
      (n := 1) (ws := IM.enc ⟨(parR l[i].2).1, ⟨s2, sg2, (parR l[i].2).2.1⟩, decide ((parR l[i].2).2.2 = 0)⟩) (x := .slice (some ⟨n3, 0, none⟩) 1 1) (Src.sl (v := ⟨some ⟨n3, 0, none⟩, 1, 1⟩) ⟨rfl, Nat.le_refl _, .inr ⟨_, rfl, ldB List.mem_cons_self rfl⟩⟩) rfl (by omega) fun v8 seg8 hv8 own8 => ?_
    generalize ((n3, Obj.cells #[.int .i64 (parR l[i].2).1.1, .int .i64 (parR l[i].2).1.2.1, .int .i64 (parR l[i].2).1.2.2.1, .int .i64 (parR l[i].2).1.2.2.2.1, .int .i64 (parR l[i].2).1.2.2.2.2.1, .slice s2.a s2.len s2.cap, .bool (decide ((parR l[i].2).2.2 = 0))] eIm) : Nat × Obj) = o3
    refine st_of (n := m) (off := 0) (c := #[.slice sv.a sv.len sv.cap, .int .i64 0, .int .i64 last]) (T := 151) (fz := (0, 0)) (o3 :: o2 :: (sg2 ++ X)) (seg8 ++ Y) rfl (by simp [sO]) (by simp) (.inl (Nat.le_refl _)) #[.slice v8.a v8.len v8.cap, .int .i64 0, .int .i64 last] rfl ?_
    have hm1 : ((m, Obj.cells #[.slice v8.a v8.len v8.cap, .int .i64 0, .int .i64 last] 151) : Nat × Obj) = sO m v8 0 last := rfl
    rw [hm1]
    have hsub2 : ∀ x ∈ A, x ∈ (o3 :: o2 :: (sg2 ++ X)) ++ sO m v8 0 last :: (seg8 ++ Y) := by
      intro x hx
      have h5 : x ∈ X ++ Y := (hp.mem_iff (a := x)).2 (by simp [hx])
      have h6 : x ∈ X ∨ x ∈ Y := by simpa using h5
      rcases h6 with h6 | h6 <;> simp [h6]
    refine cl_rd (pblank_rd _ l[i].1 l[i].2 (Sl.mono hbv hsub2) hbl) (pblank l[i].2, ()) rfl ?_
    have hgd : (l.map Prod.snd).getD i [] = l[i].2 := by rw [List.getD_eq_getElem?_getD, List.getElem?_map, List.getElem?_eq_getElem hi']; rfl
    have hpm : ((o3 :: o2 :: (sg2 ++ X)) ++ Y).Perm (imsegs (ims ++ [⟨(parR l[i].2).1, ⟨s2, sg2, (parR l[i].2).2.1⟩, decide ((parR l[i].2).2.2 = 0)⟩]) ++ ((o3 :: o2 :: J) ++ A)) := by
      rw [imsegs_append, imsegs_one]
      classical
      rw [List.perm_iff_count] at hp ⊢
      intro z
      have := hp z
      simp only [List.append_eq, List.cons_append, List.count_append, List.count_cons, List.count_nil] at this ⊢
      omega
    have hgo : ∀ (last' : Nat), last' = lastD (l.map Prod.snd) i → (fun (x' : RsV [.lf (.int .i64)]) (L'' : HList) => ∃ k', k' < n - i ∧ ∃ (i last : Nat) (sv : SlV) (seg : HList) (ims : List IM) (J X Y : HList), i ≤ n ∧ k' = n - i ∧ x' = ((i : Int), ()) ∧ L'' = X ++ sO m sv 0 last :: (seg ++ Y) ∧ (X ++ Y).Perm (imsegs ims ++ (J ++ A)) ∧ Own sv 7 eIm (ims.flatMap IM.enc) seg ∧ (∀ x ∈ ims, x.g.Ok) ∧ ims.map IM.dat = ((l.map Prod.snd).take i).map imOf ∧ last = lastD (l.map Prod.snd) (i - 1)) (IntKind.i64.wrap ((i : Int) + 1), ()) ((o3 :: o2 :: (sg2 ++ X)) ++ sO m v8 0 last' :: (seg8 ++ Y)) := by
      intro last' hl'
      refine ⟨n - (i + 1), by omega, i + 1, last', v8, seg8, ims ++ [⟨(parR l[i].2).1, ⟨s2, sg2, (parR l[i].2).2.1⟩, decide ((parR l[i].2).2.2 = 0)⟩], o3 :: o2 :: J, o3 :: o2 :: (sg2 ++ X), Y, by omega, rfl, ?_, rfl, hpm, ?_, ?_, ?_, hl'⟩
      · rw [w64_id (by first | omega | (simp only; omega)) (by first | omega | (simp only; omega))]
        rfl
      · rw [List.flatMap_append, List.flatMap_singleton]; exact own8
      · intro z hz
        rcases List.mem_append.1 hz with h5 | h5
        · exact hok z h5
        · rw [List.mem_singleton.1 h5]; exact own2
      · rw [List.map_append, hdat, List.take_succ_eq_append_getElem (by rw [hpl]; exact hi'), List.map_append, List.getElem_map]
        rfl
    cases hbk : pblank l[i].2 with
    | true =>
      refine ifF rfl (hgo last ?_)
      rw [hlast]
      cases i with
      | zero => rfl
      | succ j =>
        rw [Nat.add_sub_cancel]
        show _ = if pblank ((l.map Prod.snd).getD (j + 1) []) then lastD (l.map Prod.snd) j else j + 1
        rw [hgd, hbk, if_pos rfl]
    | false =>
      refine ifT rfl ?_
      refine st_of (n := m) (off := 2) (c := #[.slice v8.a v8.len v8.cap, .int .i64 0, .int .i64 last]) (T := 151) (fz := (0, 0)) (o3 :: o2 :: (sg2 ++ X)) (seg8 ++ Y) rfl rfl (by simp) (.inl (Nat.le_refl _)) #[.slice v8.a v8.len v8.cap, .int .i64 0, .int .i64 i] rfl ?_
      refine hgo i ?_
      cases i with
      | zero => rfl
      | succ j =>
        show _ = if pblank ((l.map Prod.snd).getD (j + 1) []) then lastD (l.map Prod.snd) j else j + 1
        rw [hgd, hbk, if_neg (by decide)]
  · obtain rfl : i = n := by omega
    refine .drop (A := (sO m sv 0 last :: (seg ++ imsegs ims)) ++ A) (J := J) ⟨m, _, rfl, rfl, sv, seg, ims, ?_, own, hok, ?_, ?_⟩ ?_
    · have : lastR (l.map Prod.snd) = last := by rw [hlast]; unfold lastR; rw [hpl, hn]
      rw [this]
    · rw [hdat]
      congr 1
      rcases Nat.le_total l.length 16 with h16 | h16
      · rw [List.take_of_length_le (by omega), List.take_of_length_le (by omega)]
      · rw [show i = 16 by omega]
    · intro b hb'
      obtain ⟨x, hx, rfl⟩ := List.mem_map.1 hb'
      exact hb x hx
    · classical
      rw [List.perm_iff_count] at hp ⊢
      intro z
      have := hp z
      simp only [List.append_eq, List.cons_append, List.count_append, List.count_cons, List.count_nil] at this ⊢
      omega
theorem says_cl (L B : HList) (m : Nat) (ps : List (List UInt8)) (ep : Int) (last : Nat) (hB : SH m ps ep last B) (hs : ∀ x ∈ B, x ∈ L) (at' : Int) (h : Hd) :
    CallF PP 75 #[.pointer (some ⟨m, 0, none⟩), .int .i64 at', .agg #[.int .i64 h.1, .int .i64 h.2.1, .int .i64 h.2.2.1, .int .i64 h.2.2.2.1, .int .i64 h.2.2.2.2.1]] L fun r L' => L' = L ∧
      ((saysR ps at' (h.1, h.2.1, h.2.2.1, ep, at', ()) = none ∧ r = .tuple #[.slice none 0 0, .bool false]) ∨ ∃ (v : SlV) (p : List UInt8), saysR ps at' (h.1, h.2.1, h.2.2.1, ep, at', ()) = some p ∧ r = .tuple #[.slice v.a v.len v.cap, .bool true] ∧ BSl L v p ∧ p.length ≤ 1000000) := by
  obtain ⟨sv, seg, ims, rfl, hh⟩ := hB
  refine CallF.of (args := [.pointer (some ⟨m, 0, none⟩), .int .i64 at', .agg #[.int .i64 h.1, .int .i64 h.2.1, .int .i64 h.2.2.1, .int .i64 h.2.2.2.1, .int .i64 h.2.2.2.2.1]]) noNum mixed Tryd.func75 (e75 (some ⟨m, 0, none⟩) at' h _) ?_
  unfold t75
  have hmO : sO m sv ep last ∈ L := hs _ List.mem_cons_self
  have hsl : Sl L sv 7 (ims.flatMap IM.enc) := Sl.mono hh.own.sl fun x hx => hs x (by simp [hx])
  have hvl := hsl.els_len IM.enc_len (by decide)
  have hil := hh.ilen
  refine nw_of fun n1 _ => nilc_of rfl (ld_of ep ((s_ep hmO).mono fun x hx => List.mem_cons_of_mem _ hx) ?_)
  refine st_of (n := n1) (off := 3) (c := #[.int .i64 h.1, .int .i64 h.2.1, .int .i64 h.2.2.1, .int .i64 h.2.2.2.1, .int .i64 h.2.2.2.2.1]) (T := 88) (fz := (0, 0)) [] L rfl rfl (by simp) (.inl (Nat.le_refl _)) #[.int .i64 h.1, .int .i64 h.2.1, .int .i64 h.2.2.1, .int .i64 ep, .int .i64 h.2.2.2.2.1] rfl ?_
  refine st_of (n := n1) (off := 4) (T := 88) (fz := (0, 0)) [] L rfl rfl (by simp) (.inl (Nat.le_refl _)) #[.int .i64 h.1, .int .i64 h.2.1, .int .i64 h.2.2.1, .int .i64 ep, .int .i64 at'] rfl ?_
  rw [List.nil_append]
  generalize hH : ((h.1, h.2.1, h.2.2.1, ep, at', ()) : Hd) = H
  have lH : LdAt ⟨n1, 0, none⟩ [.int .i64 H.1, .int .i64 H.2.1, .int .i64 H.2.2.1, .int .i64 H.2.2.2.1, .int .i64 H.2.2.2.2.1] ((n1, Obj.cells #[.int .i64 h.1, .int .i64 h.2.1, .int .i64 h.2.2.1, .int .i64 ep, .int .i64 at'] 88) :: L) := ldB List.mem_cons_self (by rw [← hH]; rfl)
  generalize (n1, Obj.cells #[.int .i64 h.1, .int .i64 h.2.1, .int .i64 h.2.2.1, .int .i64 ep, .int .i64 at'] 88) = o1 at lH
  have hup : ∀ x ∈ L, x ∈ o1 :: L := fun x hx => List.mem_cons_of_mem _ hx
  have hno : saysR ps at' H = none → HL.Ends (fun r L' => L' = L ∧ ((saysR ps at' H = none ∧ r = .tuple #[.slice none 0 0, .bool false]) ∨ ∃ (v : SlV) (p : List UInt8), saysR ps at' H = some p ∧ r = .tuple #[.slice v.a v.len v.cap, .bool true] ∧ BSl L v p ∧ p.length ≤ 1000000)) (.tuple #[.slice none 0 0, .bool false]) (o1 :: L) := fun hx => .cons (.of ⟨rfl, .inl ⟨hx, rfl⟩⟩)
  refine ifD_of (fun (h1 : at' < 0) => hno (by unfold saysR; rw [if_neg (by omega)])) (fun (h1 : ¬ at' < 0) => ?_)
  obtain ⟨i, rfl⟩ : ∃ i : Nat, at' = i := ⟨at'.toNat, by omega⟩
  refine nilc_of rfl (ld_of sv ((s_im hmO).mono hup) (ifD_of (fun (h2 : (i : Int) ≥ (sv.len : Int)) => hno ?_) (fun (h2 : ¬ (i : Int) ≥ (sv.len : Int)) => ?_)))
  · unfold saysR
    by_cases h16 : i < 16
    · rw [if_pos (by omega), Int.toNat_natCast, List.getElem?_eq_none (by omega)]
    · rw [if_neg (by omega)]
  have hi : i < ims.length := by omega
  obtain ⟨hip, i1, i2, i3⟩ := hh.im hi
  obtain ⟨a, ha, hld⟩ := hsl.el IM.enc_len (by decide) hi
  have hld' : LdAt (Addr.add a ((i : Int).toNat * 7)) ims[i].enc (o1 :: L) := by rw [Int.toNat_natCast]; exact hld.mono hup
  have g0 : (0 : Int) ≤ (i : Int) := by omega
  have g1 : (i : Int) < (sv.len : Int) := by omega
  have hsr : saysR ps (i : Int) H = if (parR ps[i]).2.2 = 0 ∧ (parR ps[i]).1 = H then some (parR ps[i]).2.1 else none := by
    unfold saysR
    rw [if_pos (by omega), Int.toNat_natCast, List.getElem?_eq_getElem hip]
  refine nilc_of rfl (ld_of sv ((s_im hmO).mono hup) (nilc_of ha (ixn_of g0 g1 (ld_of ims[i].fine (hld'.one 6 rfl) ?_))))
  rw [i3]
  by_cases hf : (parR ps[i]).2.2 = 0
  case neg => rw [decide_eq_false hf]; exact ifT rfl (hno (by rw [hsr, if_neg (fun hx => hf hx.1)]))
  rw [decide_eq_true hf]
  refine ifF rfl (nilc_of rfl (ld_of sv ((s_im hmO).mono hup) (nilc_of ha (ixn_of g0 g1 (ld_of ims[i].h (hld'.pre fun j u hu => ?_) (ld_of H lH (neHd2 _ _ ?_)))))))
  · match j, hu with
    | 0, hu => exact hu
    | 1, hu => exact hu
    | 2, hu => exact hu
    | 3, hu => exact hu
    | 4, hu => exact hu
    | j + 5, hu => exact absurd (show (none : Option Value) = some u from hu) (by simp)
  rw [i1]
  by_cases he : (parR ps[i]).1 = H
  case neg => rw [decide_eq_false he]; exact ifT rfl (hno (by rw [hsr, if_neg (fun hx => he hx.2)]))
  rw [decide_eq_true he]
  refine ifF rfl (nilc_of rfl (ld_of sv ((s_im hmO).mono hup) (nilc_of ha (ixn_of g0 g1 (ld_of ims[i].g.v (hld'.one 5 rfl) (.cons (.of ⟨rfl, .inr ⟨ims[i].g.v, ims[i].g.l, by rw [hsr, if_pos ⟨hf, he⟩, i2], rfl, ?_, ?_⟩⟩)))))))
  · exact Sl.mono (hh.ok _ (List.getElem_mem hi)).sl fun x hx => hs x (List.mem_cons_of_mem _ (List.mem_append_right _ (List.mem_flatMap.2 ⟨_, List.getElem_mem hi, hx⟩)))
  · rw [i2]
    have := parR_len ps[i]
    have := hh.len _ (List.getElem_mem hip)
    omega
end Go.Proofs.YtlabcgnegbdlfaaDoor
set_option linter.unusedVariables false
set_option linter.unusedSimpArgs false
namespace Go.Proofs.YtlabcgnegbdlfaaDoor
open Go.HL

def SealK (o : Option (List It)) (A : HList) (r : Value) (L' : HList) : Prop :=
  (o = none ∧ L' = A ∧ ∃ v : SlV, r = .tuple #[.slice v.a v.len v.cap, .bool false]) ∨ ∃ (l : List It) (v : SlV) (seg : HList), o = some l ∧ r = .tuple #[.slice v.a v.len v.cap, .bool true] ∧ L' = seg ++ A ∧ Own v 3 eItm (l.flatMap itEnc) seg
theorem SealK.no {o : Option (List It)} {A : HList} (h : o = none) : SealK o A (.tuple #[.slice none 0 0, .bool false]) A := .inl ⟨h, rfl, ⟨none, 0, 0⟩, rfl⟩
theorem sealG_succ (p : List UInt8) (n i : Nat) (nx : Int) : sealG p (n + 1) i nx = if ((sItem p i).1 = 2 ∨ (sItem p i).1 = 3) ∧ (sItem p i).2.2.1 ≠ 0 ∧ (sItem p i).2.1 = nx then (sealG p n (i + 1) (nx + (sItem p i).2.2.1)).map fun y => (sItem p i :: y.1, y.2) else none := rfl
theorem sItem_rng (p : List UInt8) (i : Nat) : 0 ≤ (sItem p i).2.2.1 ∧ (sItem p i).2.2.1 ≤ 255 := by
  unfold sItem
  have := (p.getD (i * 3 + 2) 0).toNat_lt
  simp only
  omega
theorem seal_cl (L B : HList) (m : Nat) (ps : List (List UInt8)) (ep : Int) (hB : SH m ps ep (lastR ps) B) (hs : ∀ x ∈ B, x ∈ L) : CallF PP 76 #[.pointer (some ⟨m, 0, none⟩)] L (SealK (sealS ps ep) L) := by
  refine CallF.of (args := [.pointer (some ⟨m, 0, none⟩)]) noNum mixed Tryd.func76 (e76 (some ⟨m, 0, none⟩) _) ?_
  unfold t76
  have hB0 := hB
  obtain ⟨sv, seg, ims, hBe, hh⟩ := hB
  have hmO : sO m sv ep (lastR ps) ∈ L := hs _ (by rw [hBe]; exact List.mem_cons_self)
  refine nilc_of rfl (ld_of (lastR ps : Int) (s_la hmO) ?_)
  refine cl_in [] [] (says_cl L B m ps ep (lastR ps) hB0 hs (lastR ps) (4, 0, 1, 0, 0, ())) (by simp) ?_
  rintro _ L1 - ⟨hL1, ⟨hn, rfl⟩ | ⟨v, p, hsm, rfl, hp, hpl⟩⟩
  · rw [List.nil_append, List.append_nil, hL1]
    exact ⟨(⟨none, 0, 0⟩, false, ()), rfl, ifT rfl (.of (SealK.no (by unfold sealS; rw [hn]; rfl)))⟩
  rw [List.nil_append, List.append_nil, hL1]
  clear hL1 L1
  refine ⟨(v, true, ()), rfl, ifF rfl (req_of (by decide) ?_)⟩
  have hS : sealS ps ep = sealR p (lastR ps) := by unfold sealS; rw [hsm]; rfl
  rw [hS]
  have hvl := hp.len
  have htm : Int.tmod (v.len : Int) 3 = ((p.length % 3 : Nat) : Int) := by rw [Int.tmod_eq_emod_of_nonneg (by omega), hvl]; omega
  rw [htm]
  refine ifNe_of (fun (h3 : ((p.length % 3 : Nat) : Int) ≠ 0) => .of (SealK.no (by unfold sealR; rw [if_pos (by omega)]))) (fun (h3 : ((p.length % 3 : Nat) : Int) = 0) => ?_)
  obtain ⟨n, hn⟩ : ∃ n, p.length = n * 3 := ⟨p.length / 3, by omega⟩
  have hdiv : p.length / 3 = n := by omega
  have hR1 : ∀ y, sealG p n 0 1 = some y → sealR p (lastR ps) = if y.2 = lastR ps then some y.1 else none := by
    intro y hy
    unfold sealR
    rw [if_neg (by omega), hdiv, hy]
  have hR0 : sealG p n 0 1 = none → sealR p (lastR ps) = none := by
    intro hy
    unfold sealR
    rw [if_neg (by omega), hdiv, hy]
  refine lp_of (fun z' z L' => ∃ (i : Nat) (b s : SlV) (nx : Int) (ds : List It) (sg J : HList), i ≤ n ∧ z' = n - i ∧ z = (b, s, nx, ()) ∧ L' = J ++ (sg ++ L) ∧ Own s 3 eItm (ds.flatMap itEnc) sg ∧ ds.length = i ∧ BSl L b (p.drop (i * 3)) ∧ 1 ≤ nx ∧ nx ≤ 1 + 255 * i ∧ sealG p n 0 1 = (sealG p (n - i) i nx).map fun y => (ds ++ y.1, y.2)) n
    ⟨0, v, ⟨none, 0, 0⟩, 1, [], [], [], by omega, by omega, rfl, rfl, own_nil, rfl, by simpa using hp, by omega, by omega, by simp⟩ ?_
  rintro z' z _ ⟨i, b, s, nx, ds, sg, J, hi, rfl, rfl, rfl, own, hdl, hb, hnx0, hnx1, hG⟩
  have hbl := hb.len
  rw [List.length_drop] at hbl
  have hbcap := hb.cap
  have hs1 := own.sl.els_len itEnc_len (by decide)
  refine ifD_of (fun (hgt : (b.len : Int) > 0) => ?_) (fun (hle : ¬ (b.len : Int) > 0) => ?_)
  · have hi' : i < n := by omega
    have hB : BSl (J ++ (sg ++ L)) b (p.drop (i * 3)) := hb.right.right
    have hl3 : 3 ≤ (p.drop (i * 3)).length := by rw [List.length_drop]; omega
    obtain ⟨a, ha⟩ := hB.some (i := 0) (by omega)
    have e0 : (p.drop (i * 3))[0]'(by omega) = p.getD (i * 3) 0 := by rw [getD_of (by omega), List.getElem_drop]; simp
    have e1 : (p.drop (i * 3))[1]'(by omega) = p.getD (i * 3 + 1) 0 := by rw [getD_of (by omega), List.getElem_drop]
    have e2 : (p.drop (i * 3))[2]'(by omega) = p.getD (i * 3 + 2) 0 := by rw [getD_of (by omega), List.getElem_drop]
    have l0 := hB.rd (i := 0) (by omega) ha ((0 : Int).toNat * 1) rfl
    have l1 := hB.rd (i := 1) (by omega) ha ((1 : Int).toNat * 1) rfl
    have l2 := hB.rd (i := 2) (by omega) ha ((2 : Int).toNat * 1) rfl
    rw [e0] at l0
    rw [e1] at l1
    rw [e2] at l2
    refine nilc_of ha (ixn_of (by decide) (show (0 : Int) < (b.len : Int) by omega) (nilc_of ha (ixn_of (by decide) (show (1 : Int) < (b.len : Int) by omega) (nilc_of ha (ixn_of (by decide) (show (2 : Int) < (b.len : Int) by omega) (ld_of ((p.getD (i * 3) 0).toNat : Int) l0 (ld_of ((p.getD (i * 3 + 1) 0).toNat : Int) l1 (ld_of ((p.getD (i * 3 + 2) 0).toNat : Int) l2 (nw_of fun n1 _ => ?_)))))))))
    rw [u8_64, u8_64, u8_64]
    refine st_of (n := n1) (off := 0) (c := #[.int .i64 0, .int .i64 0, .int .i64 0]) (T := eItm) (fz := (0, 0)) [] (J ++ (sg ++ L)) rfl rfl (by simp) (.inl (Nat.le_refl _)) #[.int .i64 (sItem p i).1, .int .i64 (sItem p i).2.1, .int .i64 (sItem p i).2.2.1] rfl ?_
    rw [List.nil_append]
    generalize ho : ((n1, Obj.cells #[.int .i64 (sItem p i).1, .int .i64 (sItem p i).2.1, .int .i64 (sItem p i).2.2.1] eItm) : Nat × Obj) = o1
    have lc : LdAt ⟨n1, 0, none⟩ [.int .i64 (sItem p i).1, .int .i64 (sItem p i).2.1, .int .i64 (sItem p i).2.2.1] (o1 :: (J ++ (sg ++ L))) := ldB (by rw [← ho]; exact List.mem_cons_self) rfl
    clear ho
    have hsu : sealG p (n - i) i nx = if ((sItem p i).1 = 2 ∨ (sItem p i).1 = 3) ∧ (sItem p i).2.2.1 ≠ 0 ∧ (sItem p i).2.1 = nx then (sealG p (n - (i + 1)) (i + 1) (nx + (sItem p i).2.2.1)).map fun y => (sItem p i :: y.1, y.2) else none := by
      rw [show n - i = (n - (i + 1)) + 1 by omega, sealG_succ]
    have hno : ¬ (((sItem p i).1 = 2 ∨ (sItem p i).1 = 3) ∧ (sItem p i).2.2.1 ≠ 0 ∧ (sItem p i).2.1 = nx) → HL.Ends (SealK (sealR p (lastR ps)) L) (.tuple #[.slice none 0 0, .bool false]) (o1 :: (J ++ (sg ++ L))) := by
      intro hx
      rw [hsu, if_neg hx] at hG
      exact .cons (.app (.app (.of (SealK.no (hR0 (by rw [hG]; rfl))))))
    refine ld_of (sItem p i).1 (lc.pre fun i u hu => by cases i with | zero => exact hu | succ i => exact absurd (show (none : Option Value) = some u from hu) (by simp)) (cl_rd (item_rd _ (sItem p i).1) (decide ((sItem p i).1 = 2 ∨ (sItem p i).1 = 3), ()) rfl ?_)
    by_cases hk : (sItem p i).1 = 2 ∨ (sItem p i).1 = 3
    case neg => rw [decide_eq_false hk]; exact ifT rfl (hno fun h => hk h.1)
    rw [decide_eq_true hk]
    refine ifF rfl (ld_of (sItem p i).2.2.1 (lc.one 2 rfl) (ifE_of (fun (hz : (sItem p i).2.2.1 = 0) => hno fun h => h.2.1 hz) (fun (hz : (sItem p i).2.2.1 ≠ 0) => ?_)))
    refine ld_of (sItem p i).2.1 (lc.one 1 rfl) (ifNe_of (fun (hx : (sItem p i).2.1 ≠ nx) => hno fun h => hx h.2.2) (fun (hx : (sItem p i).2.1 = nx) => ?_))
    have hr := sItem_rng p i
    refine ld_of (sItem p i).2.2.1 (lc.one 2 rfl) (ld_of (sItem p i) lc (nw_of fun n2 _ => ?_))
    refine append_in elemItm srcItm ((n2, Obj.cells #[.int .i64 (sItem p i).1, .int .i64 (sItem p i).2.1, .int .i64 (sItem p i).2.2.1] eItm) :: o1 :: J) L own (by simp) (n := 1) (ws := itEnc (sItem p i)) (x := .slice (some ⟨n2, 0, none⟩) 1 1) (Src.sl (v := ⟨some ⟨n2, 0, none⟩, 1, 1⟩) ⟨rfl, Nat.le_refl _, .inr ⟨_, rfl, ldB List.mem_cons_self rfl⟩⟩) rfl (by omega) fun s2 sg2 hs2 own2 => ?_
    refine slc_of (l' := 3) (h' := b.len) (m' := b.cap) rfl rfl rfl (by omega) (by omega) (Nat.le_refl _) ?_
    have hcut : BSl L (slcV b ((3 : Nat) : Int) (b.len : Int) (b.cap : Int) 1) (p.drop ((i + 1) * 3)) := by
      have h0 := Sl.slc (m := b.cap) hb (by decide) (l := 3) (h' := b.len) (by omega) (by omega) (by omega)
      rw [bvs_slc, List.take_of_length_le (by rw [List.length_drop, List.length_drop]; omega), List.drop_drop] at h0
      rw [show (i + 1) * 3 = i * 3 + 3 by omega]
      exact h0
    refine ⟨n - (i + 1), by omega, i + 1, _, s2, nx + (sItem p i).2.2.1, ds ++ [sItem p i], sg2, _, by omega, rfl, ?_, List.append_assoc .., ?_, by simp [hdl], hcut, by omega, by omega, ?_⟩
    · rw [w64_id (by first | omega | (simp only; omega)) (by first | omega | (simp only; omega))]
    · rw [List.flatMap_append, List.flatMap_singleton]; exact own2
    · rw [hG, hsu, if_pos ⟨hk, hz, hx⟩, Option.map_map]
      have : ∀ y : List It × Int, (ds ++ (sItem p i :: y.1), y.2) = (ds ++ [sItem p i] ++ y.1, y.2) := fun y => by simp
      exact congrArg (fun f => Option.map f _) (funext this)
  · obtain rfl : i = n := by omega
    rw [Nat.sub_self] at hG
    have hG' : sealG p i 0 1 = some (ds, nx) := by rw [hG]; simp [sealG]
    refine nilc_of rfl (ld_of (lastR ps : Int) ((s_la hmO).mono fun x hx => by simp [hx]) ?_)
    by_cases hl : nx = lastR ps
    · have hb2 : (nx == (lastR ps : Int)) = true := by simp [hl]
      simp only [hb2]
      refine .app (.of (.inr ⟨ds, s, sg, ?_, rfl, rfl, own⟩))
      rw [hR1 _ hG', if_pos hl]
    · have hb2 : (nx == (lastR ps : Int)) = false := by rw [beq_eq_false_iff_ne]; exact hl
      simp only [hb2]
      refine .app (.app (.of (.inl ⟨?_, rfl, s, rfl⟩)))
      rw [hR1 _ hG', if_neg hl]
theorem at_cl (L B : HList) (m : Nat) (ps : List (List UInt8)) (ep : Int) (last : Nat) (hB : SH m ps ep last B) (hs : ∀ x ∈ B, x ∈ L) (q : Nat) (hq : q < min ps.length 16) :
    CallF PP 78 #[.pointer (some ⟨m, 0, none⟩), .int .i64 q] L fun r L' => L' = L ∧ ((foundR ps ep q = none ∧ r = .tuple #[.agg #[.int .i64 0, .int .i64 0, .int .i64 0], .bool false]) ∨ ∃ x : It, foundR ps ep q = some x ∧ r = .tuple #[itV x, .bool true]) := by
  have hB0 := hB
  obtain ⟨sv, seg, ims, hBe, hh⟩ := hB
  refine CallF.of (args := [.pointer (some ⟨m, 0, none⟩), .int .i64 q]) noNum mixed Tryd.func78 (e78 (some ⟨m, 0, none⟩) q _) ?_
  unfold t78
  have hmO : sO m sv ep last ∈ L := hs _ (by rw [hBe]; exact List.mem_cons_self)
  have hsl : Sl L sv 7 (ims.flatMap IM.enc) := Sl.mono hh.own.sl fun x hx => hs x (by rw [hBe]; simp [hx])
  have hvl := hsl.els_len IM.enc_len (by decide)
  have hil := hh.ilen
  have hi : q < ims.length := by omega
  obtain ⟨hip, i1, i2, i3⟩ := hh.im hi
  obtain ⟨a, ha, hld⟩ := hsl.el IM.enc_len (by decide) hi
  refine nw_of fun n1 _ => nilc_of rfl (ld_of sv ((s_im hmO).mono fun x hx => List.mem_cons_of_mem _ hx) (nilc_of ha (ixn_of (show (0 : Int) ≤ (q : Int) by omega) (show (q : Int) < (sv.len : Int) by omega) ?_)))
  refine ld_of (ims[q].h.1, ims[q].h.2.1, ims[q].h.2.2.1, ims[q].h.2.2.2.1, ims[q].h.2.2.2.2.1, ims[q].g.v, ims[q].fine, ()) (by rw [Int.toNat_natCast]; exact hld.mono fun x hx => List.mem_cons_of_mem _ hx) (nw_of fun n2 _ => ?_)
  have hsz : wr #[.int .i64 0, .int .i64 0, .int .i64 0, .int .i64 0, .int .i64 0, .slice none 0 0, .bool false] 0 [.int .i64 ims[q].h.1, .int .i64 ims[q].h.2.1, .int .i64 ims[q].h.2.2.1, .int .i64 ims[q].h.2.2.2.1, .int .i64 ims[q].h.2.2.2.2.1, .slice ims[q].g.v.a ims[q].g.v.len ims[q].g.v.cap, .bool ims[q].fine] = #[.int .i64 ims[q].h.1, .int .i64 ims[q].h.2.1, .int .i64 ims[q].h.2.2.1, .int .i64 ims[q].h.2.2.2.1, .int .i64 ims[q].h.2.2.2.2.1, .slice ims[q].g.v.a ims[q].g.v.len ims[q].g.v.cap, .bool ims[q].fine] := wr_all _ _ rfl
  refine st_of (n := n2) (off := 0) (c := #[.int .i64 0, .int .i64 0, .int .i64 0, .int .i64 0, .int .i64 0, .slice none 0 0, .bool false]) (T := eIm) (fz := (0, 0)) [] _ rfl rfl (by simp) (.inl (Nat.le_refl _)) _ hsz ?_
  rw [List.nil_append]
  generalize ho2 : ((n2, Obj.cells #[.int .i64 ims[q].h.1, .int .i64 ims[q].h.2.1, .int .i64 ims[q].h.2.2.1, .int .i64 ims[q].h.2.2.2.1, .int .i64 ims[q].h.2.2.2.2.1, .slice ims[q].g.v.a ims[q].g.v.len ims[q].g.v.cap, .bool ims[q].fine] eIm) : Nat × Obj) = o2
  have lc : ∀ Z : HList, o2 ∈ Z → LdAt ⟨n2, 0, none⟩ [.int .i64 ims[q].h.1, .int .i64 ims[q].h.2.1, .int .i64 ims[q].h.2.2.1, .int .i64 ims[q].h.2.2.2.1, .int .i64 ims[q].h.2.2.2.2.1, .slice ims[q].g.v.a ims[q].g.v.len ims[q].g.v.cap, .bool ims[q].fine] Z := fun Z hm => ldB (by rw [← ho2] at hm; exact hm) rfl
  clear ho2 hsz
  have lk : ∀ Z : HList, o2 ∈ Z → LdAt ⟨n2, 0, none⟩ [.int .i64 ims[q].h.1] Z := fun Z hm => (lc Z hm).pre fun i u hu => by cases i with | zero => exact hu | succ i => exact absurd (show (none : Option Value) = some u from hu) (by simp)
  have hfr : foundR ps ep q = if (parR ps[q]).2.2 = 0 ∧ ((parR ps[q]).1.1 = 2 ∨ (parR ps[q]).1.1 = 3) then
      if (List.range (parR ps[q]).1.2.2.1.toNat).all (fun i => (saysR ps ((q : Int) + i) ((parR ps[q]).1.1, i, (parR ps[q]).1.2.2.1, ep, (q : Int) + i, ())).isSome) = true then some ((parR ps[q]).1.1, ((q : Nat) : Int), (parR ps[q]).1.2.2.1, ()) else none
    else none := by unfold foundR; rw [List.getElem?_eq_getElem hip]
  generalize hz0 : ((n1, Obj.cells #[.int .i64 0, .int .i64 0, .int .i64 0] 73) : Nat × Obj) = o1
  have hzz : ∀ (Z : HList), foundR ps ep q = none → st ⟨n1, 0, none⟩ [.int .i64 0, .int .i64 0, .int .i64 0] (ld ⟨n1, 0, none⟩ (.agg [.int .i64, .int .i64, .int .i64]) fun v4 => HL.Ends (fun r L' => L' = L ∧ ((foundR ps ep q = none ∧ r = .tuple #[.agg #[.int .i64 0, .int .i64 0, .int .i64 0], .bool false]) ∨ ∃ x : It, foundR ps ep q = some x ∧ r = .tuple #[itV x, .bool true])) (.tuple #[.agg #[.int .i64 v4.1, .int .i64 v4.2.1, .int .i64 v4.2.2.1], .bool false])) (o2 :: o1 :: L) := by
    intro Z hx
    refine st_of (n := n1) (off := 0) (c := #[.int .i64 0, .int .i64 0, .int .i64 0]) (T := 73) (fz := (0, 0)) [o2] L rfl (by rw [← hz0]; rfl) (by simp) (.inl (Nat.le_refl _)) #[.int .i64 0, .int .i64 0, .int .i64 0] rfl ?_
    exact ld_of (0, 0, 0, ()) (ldB (n := n1) (off := 0) (c := #[.int .i64 0, .int .i64 0, .int .i64 0]) (T := 73) (fz := (0, 0)) (by simp) rfl) (.cons (.cons (.of ⟨rfl, .inl ⟨hx, rfl⟩⟩)))
  have hm2 : o2 ∈ o2 :: o1 :: L := List.mem_cons_self
  refine ld_of ims[q].fine ((lc _ hm2).one 6 rfl) ?_
  rw [i3]
  by_cases hf : (parR ps[q]).2.2 = 0
  case neg => rw [decide_eq_false hf]; exact ifT rfl (hzz [] (by rw [hfr, if_neg (fun h => hf h.1)]))
  rw [decide_eq_true hf]
  refine ifF rfl (ld_of ims[q].h.1 (lk _ hm2) (cl_rd (item_rd _ ims[q].h.1) (decide (ims[q].h.1 = 2 ∨ ims[q].h.1 = 3), ()) rfl ?_))
  by_cases hk : ims[q].h.1 = 2 ∨ ims[q].h.1 = 3
  case neg => rw [decide_eq_false hk]; exact ifT rfl (hzz [] (by rw [hfr, if_neg (fun h => hk (by rw [i1]; exact h.2))]))
  rw [decide_eq_true hk]
  rw [i1] at lc lk hk
  simp only [i1]
  have hok := hErr_ok (par_ok hf)
  generalize hH : (parR ps[q]).1 = H at *
  refine ifF rfl (ld_of H.2.2.1 ((lc _ hm2).one 2 rfl) ?_)
  refine lp_of (fun z' z L' => L' = o2 :: o1 :: L ∧ ∃ i : Nat, (i : Int) ≤ H.2.2.1 ∧ z' = H.2.2.1.toNat - i ∧ z = ((i : Int), ()) ∧ ∀ j, j < i → (saysR ps ((q : Int) + j) (H.1, j, H.2.2.1, ep, (q : Int) + j, ())).isSome = true) H.2.2.1.toNat ⟨rfl, 0, by omega, by omega, rfl, by omega⟩ ?_
  rintro z' z _ ⟨rfl, i, hi, rfl, rfl, hall⟩
  refine ifD_of (fun (hlt : (i : Int) < H.2.2.1) => ?_) (fun (hge : ¬ (i : Int) < H.2.2.1) => ?_)
  · refine ld_of H.1 (lk _ hm2) (ld_of H.2.2.1 ((lc _ hm2).one 2 rfl) ?_)
    have hwi : IntKind.i64.wrap ((q : Int) + (i : Int)) = (q : Int) + i := w64_id (by omega) (by omega)
    simp only [hwi]
    refine cl_in [] [] (says_cl (o2 :: o1 :: L) B m ps ep last hB0 (fun x hx => List.mem_cons_of_mem _ (List.mem_cons_of_mem _ (hs x hx))) ((q : Int) + i) (H.1, i, H.2.2.1, 0, 0, ())) (by simp) ?_
    rintro _ L1 - ⟨hL1, ⟨hn, rfl⟩ | ⟨v, p, hsm, rfl, -, -⟩⟩
    · rw [List.nil_append, List.append_nil, hL1]
      refine ⟨(⟨none, 0, 0⟩, false, ()), rfl, ifT rfl (hzz [] ?_)⟩
      rw [hfr, if_pos ⟨hf, hk⟩, if_neg]
      intro hx
      rw [List.all_eq_true] at hx
      have := hx i (List.mem_range.2 (by omega))
      rw [hn] at this
      cases this
    · rw [List.nil_append, List.append_nil, hL1]
      refine ⟨(v, true, ()), rfl, ifF rfl ⟨H.2.2.1.toNat - (i + 1), by omega, rfl, i + 1, by omega, rfl, ?_, fun j hj => ?_⟩⟩
      · rw [w64_id (by first | omega | (simp only; omega)) (by first | omega | (simp only; omega))]
        rfl
      · rcases Nat.lt_or_ge j i with h5 | h5
        · exact hall j h5
        · obtain rfl : j = i := by omega
          rw [hsm]; rfl
  · refine ld_of H.1 (lk _ hm2) (ld_of H.2.2.1 ((lc _ hm2).one 2 rfl) ?_)
    refine st_of (n := n1) (off := 0) (c := #[.int .i64 0, .int .i64 0, .int .i64 0]) (T := 73) (fz := (0, 0)) [o2] L rfl (by rw [← hz0]; rfl) (by simp) (.inl (Nat.le_refl _)) #[.int .i64 H.1, .int .i64 q, .int .i64 H.2.2.1] rfl ?_
    refine ld_of (H.1, (q : Int), H.2.2.1, ()) (ldB (n := n1) (off := 0) (c := #[.int .i64 H.1, .int .i64 q, .int .i64 H.2.2.1]) (T := 73) (fz := (0, 0)) (by simp) rfl) (.cons (.cons (.of ⟨rfl, .inr ⟨(H.1, (q : Int), H.2.2.1, ()), ?_, rfl⟩⟩)))
    rw [hfr, if_pos ⟨hf, hk⟩, if_pos]
    rw [List.all_eq_true]
    intro j hj
    exact hall j (by have := List.mem_range.1 hj; omega)
end Go.Proofs.YtlabcgnegbdlfaaDoor
set_option linter.unusedVariables false
set_option linter.unusedSimpArgs false
namespace Go.HL
section
variable {P : Program} {w : World}
end
end Go.HL
set_option linter.unusedVariables false
set_option linter.unusedSimpArgs false
namespace Go.HL
section
variable {P : Program} {L : HList}
theorem run_append_zeros {t t2 ty e : TypeId} {i : TypeInfo} {z : Value} {ik : IntKind} (ht : P.underlying t = some (.slice e)) (h2 : P.underlying t2 = some (.int ik)) (hi : P.info? e = some i) (hz : i.zero = some z) (hs : 0 < i.size) {n : Nat} (h0 : 0 < n) (h63 : (n : Int) ≤ 9223372036854775807) (hb : n * i.bytes ≤ 281474976710656) (w : World) :
    (Builtin.append_ #[t, t2] ty #[.slice none 0 0, .int .i64 (n : Int)]).run P w =
      .ok (.slice (some ⟨w.heap.size, 0, none⟩) n (grownCap w n 0 e)) (w.drew.alloc (.cells (#[] ++ Builtin.zeroCells z.cells n ++ Builtin.zeroCells z.cells (grownCap w n 0 e - n)) e)) := by
  have hw : IntKind.i64.wrap (n : Int) = n := w64_id (by omega) (by omega)
  have h1 : ¬ ((n : Int) < 0) := by omega
  have hbi : ¬ (281474976710656 < (n : Int) * (i.bytes : Int)) := by
    have : ((n * i.bytes : Nat) : Int) ≤ 281474976710656 := by omega
    rw [Int.natCast_mul] at this
    omega
  have hn : n ≠ 0 := by omega
  have hns : n * i.size ≠ 0 := Nat.mul_ne_zero hn (by omega)
  have hns2 : ¬ (n = 0 ∨ i.size = 0) := by omega
  have h48' : ¬ (281474976710656 < Builtin.nextslicecap n 0 * i.bytes) := by rw [nextslicecap_zero h0]; omega
  have h63' : ¬ (9223372036854775807 < (n : Int)) := by omega
  have hs0 : i.size ≠ 0 := by omega
  simp [Builtin.append_, run_underlying ht, run_underlying h2, sizeOf, typeInfo, zeroValue, hi, hz, asInt, asIntOf, hw, h1, hbi, hn, hs0, hns, hns2, h48', h63', Question.forced, run_firstCells_none, newRow, grownCap]
/-- Zeros are appended to what is nil. -/
theorem grow0_of {t t2 ty e : TypeId} {sz bytes : Nat} {z : List Value} {ik : IntKind} (hT : ElemT P t e sz bytes z) (h2 : P.underlying t2 = some (.int ik)) {n : Nat} (h0 : 0 < n) (hb : n * bytes ≤ 140737488355328) {k : RsV [.lf .sl] → HP}
    (hk : ∀ q cap ob, n ≤ cap → Own ⟨some ⟨q, 0, none⟩, 0, cap⟩ sz e [] [(q, ob)] → k (⟨some ⟨q, 0, none⟩, n, cap⟩, ()) ((q, ob) :: L)) :
    smW P (Builtin.append_ #[t, t2] ty #[.slice none 0 0, .int .i64 (n : Int)]) [.lf .sl] k L := by
  obtain ⟨i, hi, his, hib, zv, hz, hzl⟩ := hT.info
  subst his hib
  intro E F w hw
  have hle : n ≤ n * i.bytes := Nat.le_mul_of_pos_right _ hT.bpos
  have hzs : zv.cells.size = i.size := by rw [← hT.zlen, ← hzl]; simp
  have hr := run_append_zeros (ty := ty) hT.und h2 hi hz hT.pos h0 (by omega) (by omega) w
  have hge := grownCap_ge w n 0 e
  refine ⟨_, _, (w.heap.size, Obj.cells (#[] ++ Builtin.zeroCells zv.cells n ++ Builtin.zeroCells zv.cells (grownCap w n 0 e - n)) e) :: L, hr, ?_, (⟨some ⟨w.heap.size, 0, none⟩, n, grownCap w n 0 e⟩, ()), rfl, ?_⟩
  · exact (hw.drew _).push (.cells (#[] ++ Builtin.zeroCells zv.cells n ++ Builtin.zeroCells zv.cells (grownCap w n 0 e - n)) e)
  · refine hk _ _ _ hge ⟨by simp, Nat.zero_le _, .inr ⟨w.heap.size, 0, _, (0, 0), rfl, rfl, ?_, .inl (Nat.le_refl _), fun j u hu => by simp at hu⟩⟩
    simp only [Array.size_append, zeroCells_size, hzs]
    simp only [List.size_toArray, List.length_nil, Nat.zero_add, ← Nat.add_mul]
    rw [show n + (grownCap w n 0 e - n) = grownCap w n 0 e by omega]
    simp
end
end Go.HL
set_option linter.unusedVariables false
set_option linter.unusedSimpArgs false
namespace Go.HL
/-- Where N' holds, N holds with the variables R and whatever beside it. -/
def Fr (R : HList) (N' N : HP) : Prop := ∀ L L2 J, N' L → L2.Perm (L ++ (R ++ J)) → N L2
def elp (a : Option Addr) (len : Nat) (i : Int) (sz : Nat) (k : Addr → HP) : HP := nilc a fun ad => ixn i len (k (ad.add (i.toNat * sz)))
def w64 (e : Int) (k : Int → HP) : HP := k (IntKind.i64.wrap e)
def apv (P : Program) (t t2 ty e : TypeId) (v : SlV) (n : Nat) (ws : List Value) (k : SlV → HP) : HP := fun L =>
  ∀ m, SemF P (Builtin.append_ #[t, t2] ty #[.slice v.a v.len v.cap, .slice (some ⟨m, 0, none⟩) n n]) (fun r L' => ∃ s L0, r = .slice s.a s.len s.cap ∧ L'.Perm ((m, Obj.cells ws.toArray e) :: L0) ∧ k s L0) ((m, Obj.cells ws.toArray e) :: L)
/-- A row's cells as a shape. -/
def ldX (sh : Sh) (cs : List Value) (off : Nat) : Option (ShV sh) :=
  match sh with
  | .lf l => match cs.drop off with | v :: _ => l.of v | [] => none
  | .agg ls => lfOfs ls ((cs.drop off).take ls.length)
def wrO : List Value → Nat → List Value → Option (List Value)
  | cs, 0, [] => some cs
  | c :: cs, 0, w :: ws => match wrO cs 0 ws with | some r => some (w :: r) | none => none
  | c :: cs, i + 1, ws => match wrO cs i ws with | some r => some (c :: r) | none => none
  | [], _, _ => none
def getO : HList → Nat → Option (Nat × Obj)
  | p :: r, 0 => some p
  | p :: r, i + 1 => getO r i
  | [], _ => none
def setO : HList → Nat → Nat × Obj → Option HList
  | p :: r, 0, x => some (x :: r)
  | p :: r, i + 1, x => match setO r i x with | some r' => some (p :: r') | none => none
  | [], _, _ => none
def delO : HList → Nat → Option HList
  | p :: r, 0 => some r
  | p :: r, i + 1 => match delO r i with | some r' => some (p :: r') | none => none
  | [], _ => none
theorem getO_spec : ∀ {R : HList} {i : Nat} {p : Nat × Obj}, getO R i = some p → ∃ A B, R = A ++ p :: B ∧ (∀ x R', setO R i x = some R' → R' = A ++ x :: B) ∧ (∀ R', delO R i = some R' → R' = A ++ B)
  | p :: r, 0, q, h => by
    simp only [getO, Option.some.injEq] at h; subst h
    exact ⟨[], r, rfl, fun x R' h => by simp only [setO, Option.some.injEq] at h; exact h.symm, fun R' h => by simp only [delO, Option.some.injEq] at h; exact h.symm⟩
  | p :: r, i + 1, q, h => by
    simp only [getO] at h
    obtain ⟨A, B, rfl, h1, h2⟩ := getO_spec h
    refine ⟨p :: A, B, rfl, fun x R' h => ?_, fun R' h => ?_⟩
    · simp only [setO] at h
      split at h
      · rename_i r' hr; obtain rfl := Option.some.inj h; rw [h1 _ _ hr]; rfl
      · cases h
    · simp only [delO] at h
      split at h
      · rename_i r' hr; obtain rfl := Option.some.inj h; rw [h2 _ hr]; rfl
      · cases h
  | [], _, _, h => by simp [getO] at h
theorem ldX_spec {sh : Sh} {cs : List Value} {off : Nat} {x : ShV sh} (h : ldX sh cs off = some x) : ∀ (i : Nat) (v : Value), (sh.vals x)[i]? = some v → cs[off + i]? = some v := by
  intro i v hv
  cases sh with
  | lf l =>
    simp only [ldX] at h
    split at h
    · rename_i u r hu
      have := Lf.of_spec h
      cases i with
      | zero =>
        have h2 : l.val x = v := by simpa [Sh.vals] using hv
        have h3 : (cs.drop off)[0]? = some u := by rw [hu]; rfl
        rw [List.getElem?_drop] at h3
        rw [h3, ← this, h2]
      | succ i => simp [Sh.vals] at hv
    · cases h
  | agg ls =>
    simp only [ldX] at h
    have h1 := lfOfs_spec h
    have h3 : ((cs.drop off).take ls.length)[i]? = some v := by rw [← h1]; exact hv
    rw [List.getElem?_take] at h3
    split at h3
    · rwa [List.getElem?_drop] at h3
    · cases h3
theorem wrO_spec : ∀ (cs : List Value) (off : Nat) (ws cs' : List Value), wrO cs off ws = some cs' → off + ws.length ≤ cs.length ∧ wr cs.toArray off ws = cs'.toArray
  | cs, 0, [], cs', h => by cases cs <;> simp only [wrO, Option.some.injEq] at h <;> subst h <;> exact ⟨by simp, rfl⟩
  | c :: cs, 0, w :: ws, cs', h => by
    simp only [wrO] at h
    split at h
    · rename_i r hr
      obtain rfl := Option.some.inj h
      obtain ⟨h1, h2⟩ := wrO_spec cs 0 ws r hr
      have hl : (0 : Nat) + (w :: ws).length ≤ (c :: cs).length := by simp only [List.length_cons] at *; omega
      refine ⟨hl, ?_⟩
      apply Array.ext_getElem?
      intro j
      rw [wr_get _ _ _ _ (by simpa using hl)]
      cases j with
      | zero => simp
      | succ j =>
        have h3 := wr_get ws cs.toArray 0 j (by simpa using h1)
        rw [h2] at h3
        simp only [List.getElem?_toArray, List.getElem?_cons_succ, List.length_cons, Nat.zero_add, Nat.sub_zero, Nat.zero_le, true_and] at h3 ⊢
        rw [h3]
        by_cases hj : j < ws.length
        · rw [if_pos hj, if_pos (by omega)]
        · rw [if_neg hj, if_neg (by omega)]
    · cases h
  | c :: cs, i + 1, ws, cs', h => by
    simp only [wrO] at h
    split at h
    · rename_i r hr
      obtain rfl := Option.some.inj h
      obtain ⟨h1, h2⟩ := wrO_spec cs i ws r hr
      have hl : i + 1 + ws.length ≤ (c :: cs).length := by simp only [List.length_cons]; omega
      refine ⟨hl, ?_⟩
      apply Array.ext_getElem?
      intro j
      rw [wr_get _ _ _ _ (by simpa using hl)]
      cases j with
      | zero => simp
      | succ j =>
        have h3 := wr_get ws cs.toArray i j (by simpa using h1)
        rw [h2] at h3
        simp only [List.getElem?_toArray, List.getElem?_cons_succ] at h3 ⊢
        rw [h3]
        by_cases hj : i ≤ j ∧ j < i + ws.length
        · rw [if_pos hj, if_pos (by omega), show j + 1 - (i + 1) = j - i by omega]
        · rw [if_neg hj, if_neg (by omega)]
    · cases h
  | [], 0, w :: ws, _, h => by simp [wrO] at h
  | [], i + 1, ws, _, h => by simp [wrO] at h

theorem mid_swap {A2 B2 L A B J : HList} {x y : Nat × Obj} (hp : (A2 ++ x :: B2).Perm (L ++ (A ++ x :: B ++ J))) : (A2 ++ y :: B2).Perm (L ++ (A ++ y :: B ++ J)) := by
  classical
  rw [List.perm_iff_count]
  intro z
  have := hp.count_eq z
  simp only [List.count_append, List.count_cons] at this ⊢
  omega
theorem mid_mem {L A B J : HList} {x : Nat × Obj} : x ∈ L ++ (A ++ x :: B ++ J) := List.mem_append_right _ (List.mem_append_left _ (List.mem_append_right _ List.mem_cons_self))
theorem Sat.sub {L L2 G : HList} (h : Sat L2) (hp : L2.Perm (L ++ G)) : Sat L := by
  obtain ⟨E, F, w, hw⟩ := h
  exact ⟨E, G ++ F, w, by rw [← List.append_assoc]; exact hw.perm (hp.append_right F)⟩
theorem LdAt.perm {ad : Addr} {vs : List Value} {L L2 G : HList} (h : LdAt ad vs L) (hp : L2.Perm (L ++ G)) : LdAt ad vs L2 := h.mono fun p hq => hp.symm.subset (List.mem_append_left _ hq)
section
variable {P : Program} {R : HList}
theorem fr_run {a b : HP} {L : HList} (h : Fr [] a b) (ha : a L) : b L := h L L [] ha (by simp)
theorem fr_end {K : Value → HP} {v : Value} : Fr R (Ends K v) (Ends K v) := by
  rintro L L2 J ⟨A, B, hp, hK⟩ h2
  exact ⟨A, B ++ (R ++ J), by rw [← List.append_assoc]; exact h2.trans (hp.append_right _), hK⟩
theorem fr_ff {N : HP} : Fr R ff N := fun _ _ _ h => h.elim
theorem fr_nw {o : Obj} {k' k : Nat → HP} (h : ∀ n, Fr R (k' n) (k n)) : Fr R (nw o k') (nw o k) := fun L L2 J hN hp n hs =>
  h n _ _ J (hN n (hs.sub (G := R ++ J) (hp.cons _))) (hp.cons _)
theorem fr_nwL {o : Obj} {k' : HP} {k : Nat → HP} (h : ∀ n, Fr ((n, o) :: R) k' (k n)) : Fr R k' (nw o k) := fun L L2 J hN hp n hs =>
  h n L _ J hN ((hp.cons _).trans List.perm_middle.symm)
theorem fr_ld {ad : Addr} {sh : Sh} {k' k : ShV sh → HP} (h : ∀ x, Fr R (k' x) (k x)) : Fr R (ld ad sh k') (ld ad sh k) := fun L L2 J ⟨x, hx, hk⟩ hp => ⟨x, hx.perm hp, h x _ _ J hk hp⟩
theorem fr_ldI (i off : Nat) {ad : Addr} {sh : Sh} {k' : HP} {k : ShV sh → HP} {n : Nat} {cs : List Value} {T : TypeId} {fz : Nat × Nat} {x : ShV sh} (hi : getO R i = some (n, Obj.cells cs.toArray T fz)) (had : ad = ⟨n, off, none⟩) (hx : ldX sh cs off = some x) (h : Fr R k' (k x)) : Fr R k' (ld ad sh k) := by
  intro L L2 J hk hp
  obtain ⟨A, B, rfl, _⟩ := getO_spec hi
  subst had
  refine ⟨x, ⟨_, T, fz, hp.symm.subset mid_mem, rfl, fun j v hv => ?_⟩, h _ _ J hk hp⟩
  simpa using ldX_spec hx j v hv
theorem fr_st {ad : Addr} {ws : List Value} {k' k : HP} (h : Fr R k' k) : Fr R (st ad ws k') (st ad ws k) := by
  rintro L L2 J ⟨A, B, c, T, fz, rfl, hs, h1, h2, hk⟩ hp
  obtain ⟨A2, B2, rfl⟩ := List.append_of_mem (hp.symm.subset (show (ad.block, Obj.cells c T fz) ∈ (A ++ (ad.block, Obj.cells c T fz) :: B) ++ (R ++ J) by simp))
  refine ⟨A2, B2, c, T, fz, rfl, hs, h1, h2, h _ _ J hk ?_⟩
  have h3 : (A2 ++ B2).Perm (A ++ (B ++ (R ++ J))) := by
    have h4 : ((ad.block, Obj.cells c T fz) :: (A2 ++ B2)).Perm ((ad.block, Obj.cells c T fz) :: (A ++ (B ++ (R ++ J)))) := by
      refine List.perm_middle.symm.trans (hp.trans ?_)
      rw [List.append_assoc, List.cons_append]
      exact List.perm_middle
    exact (List.perm_cons _).1 h4
  refine List.perm_middle.trans (((h3.cons _)).trans ?_)
  rw [List.append_assoc, List.cons_append]
  exact List.perm_middle.symm
theorem fr_stI (i off : Nat) {ad : Addr} {ws cs cs' : List Value} {k' k : HP} {n : Nat} {T : TypeId} {R' : HList} (hi : getO R i = some (n, Obj.cells cs.toArray T (0, 0))) (had : ad = ⟨n, off, none⟩) (hw : wrO cs off ws = some cs') (hs : setO R i (n, Obj.cells cs'.toArray T (0, 0)) = some R') (h : Fr R' k' k) : Fr R k' (st ad ws k) := by
  intro L L2 J hk hp
  obtain ⟨A, B, rfl, hset, _⟩ := getO_spec hi
  obtain rfl := hset _ _ hs
  subst had
  obtain ⟨h1, h2⟩ := wrO_spec _ _ _ _ hw
  obtain ⟨A2, B2, rfl⟩ := List.append_of_mem (hp.symm.subset (mid_mem (L := L)))
  refine ⟨A2, B2, _, T, (0, 0), rfl, rfl, by simpa using h1, fun j hj => by simp, ?_⟩
  simp only [h2]
  exact h _ _ J hk (mid_swap hp)
theorem fr_perm {R' : HList} {a b : HP} (hp : R.Perm R') (h : Fr R' a b) : Fr R a b := fun L L2 J ha h2 => h L L2 J ha (h2.trans ((hp.append_right J).append_left L))
theorem fr_front (i : Nat) {a b : HP} {p : Nat × Obj} {R' : HList} (hi : getO R i = some p) (hd : delO R i = some R') (h : Fr (p :: R') a b) : Fr R a b := by
  obtain ⟨A, B, rfl, _, hdel⟩ := getO_spec hi
  obtain rfl := hdel _ hd
  exact fr_perm List.perm_middle h
theorem fr_wk {R' G : HList} {a b : HP} (h : Fr R' a b) (hR : R = R' ++ G) : Fr R a b := by
  subst hR
  intro L L2 J ha hp
  exact h L L2 (G ++ J) ha (by rw [List.append_assoc] at hp; exact hp)
theorem fr_keepL {ad : Addr} {vs : List Value} {k' k : HP} (h : Fr R k' k) : Fr R (keep (LdAt ad vs) k') (keep (LdAt ad vs) k) := fun L L2 J ⟨h1, h2⟩ hp => ⟨h1.perm hp, h _ _ J h2 hp⟩
theorem RdV.perm {s : Sem Value} {v : Value} {L L2 G : HList} (h : RdV P s v L) (hp : L2.Perm (L ++ G)) : RdV P s v L2 := fun E F w hw => h E (G ++ F) w (by rw [← List.append_assoc]; exact hw.perm (hp.append_right F))
theorem SemF.fr {s : Sem Value} {K : Value → HP} {L L2 G : HList} (h : SemF P s K L) (hp : L2.Perm (L ++ G)) : SemF P s (fun v L' => ∃ L0, L' = L0 ++ G ∧ K v L0) L2 := by
  intro E F w hw
  obtain ⟨v, w', L', h1, h2, h3⟩ := h E (G ++ F) w (by rw [← List.append_assoc]; exact hw.perm (hp.append_right F))
  exact ⟨v, w', L' ++ G, h1, by rw [List.append_assoc]; exact h2, L', rfl, h3⟩
theorem SemF.mono {s : Sem Value} {K K' : Value → HP} {L : HList} (h : SemF P s K L) (hk : ∀ v L', K v L' → K' v L') : SemF P s K' L := by
  intro E F w hw
  obtain ⟨v, w', L', h1, h2, h3⟩ := h E F w hw
  exact ⟨v, w', L', h1, h2, hk _ _ h3⟩
theorem fr_keepI (i off : Nat) {ad : Addr} {vs cs : List Value} {k' k : HP} {n : Nat} {T : TypeId} {fz : Nat × Nat} (hi : getO R i = some (n, Obj.cells cs.toArray T fz)) (had : ad = ⟨n, off, none⟩) (hx : (cs.drop off).take vs.length = vs) (h : Fr R k' k) : Fr R k' (keep (LdAt ad vs) k) := by
  intro L L2 J hk hp
  obtain ⟨A, B, rfl, _⟩ := getO_spec hi
  subst had
  exact ⟨ldB (hp.symm.subset mid_mem) (by simpa using hx), h _ _ J hk hp⟩
theorem CallF.fr {f : FuncId} {args : Array Value} {K : Value → HP} {L L2 G : HList} (h : CallF P f args L K) (hp : L2.Perm (L ++ G)) : CallF P f args L2 fun v L' => ∃ L0, L' = L0 ++ G ∧ K v L0 := CallF.perm hp.symm (CallF.frame (R := G) h)
theorem fr_cl {f : FuncId} {args : Array Value} {rs : List Sh} {k' k : RsV rs → HP} (h : ∀ r, Fr R (k' r) (k r)) : Fr R (cl P f args rs k') (cl P f args rs k) := fun L L2 J hc hp =>
  CallF.mono (CallF.fr hc hp) (by rintro v L' - ⟨L0, rfl, r, hr, hk⟩; exact ⟨r, hr, h r _ _ J hk (List.Perm.refl _)⟩)
theorem fr_clv {f : Fn} {args captured : Array Value} {rs : List Sh} {k' k : RsV rs → HP} (h : ∀ r, Fr R (k' r) (k r)) : Fr R (clv P f args captured rs k') (clv P f args captured rs k) := fun L L2 J ⟨g, h1, h2, hc⟩ hp =>
  ⟨g, h1, h2, CallF.mono (CallF.fr hc hp) (by rintro v L' - ⟨L0, rfl, r, hr, hk⟩; exact ⟨r, hr, h r _ _ J hk (List.Perm.refl _)⟩)⟩
theorem fr_ifB {t : Bool} {A' A B' B : HP} (h1 : Fr R A' A) (h2 : Fr R B' B) : Fr R (ifB t A' B') (ifB t A B) := by cases t <;> assumption
theorem fr_ifNot {t : Bool} {A' A B' B : HP} (h1 : Fr R A' A) (h2 : Fr R B' B) : Fr R (ifB t B' A') (ifB (!t) A B) := by cases t <;> assumption
theorem fr_ifEq {x y : Int} {A' A B' B : HP} (h1 : Fr R A' A) (h2 : Fr R B' B) : Fr R (ifB (decide (x = y)) A' B') (ifB (x == y) A B) := by
  by_cases h : x = y
  · rw [decide_eq_true h, beq_iff_eq.2 h]; exact h1
  · rw [decide_eq_false h, beq_eq_false_iff_ne.2 h]; exact h2
theorem fr_ifNe {x y : Int} {A' A B' B : HP} (h1 : Fr R A' A) (h2 : Fr R B' B) : Fr R (ifB (decide (x = y)) B' A') (ifB (x != y) A B) := by
  by_cases h : x = y
  · rw [decide_eq_true h]; simp only [bne, beq_iff_eq.2 h, Bool.not_true]; exact h2
  · rw [decide_eq_false h]; simp only [bne, beq_eq_false_iff_ne.2 h, Bool.not_false]; exact h1
theorem fr_ifS {x y : ByteArray} {A' A B' B : HP} (h1 : Fr R A' A) (h2 : Fr R B' B) : Fr R (ifB (decide (x = y)) A' B') (ifB (x.toList == y.toList) A B) := by rw [str_beq]; exact fr_ifB h1 h2
theorem fr_ifSn {x y : ByteArray} {A' A B' B : HP} (h1 : Fr R A' A) (h2 : Fr R B' B) : Fr R (ifB (decide (x = y)) B' A') (ifB (!(x.toList == y.toList)) A B) := by rw [str_beq]; exact fr_ifNot h1 h2
theorem fr_nilcK {p : Option Addr} {k' k : Addr → HP} (h : ∀ a, p = some a → Fr R (k' a) (k a)) : Fr R (nilc p k') (nilc p k) := by
  cases p with
  | none => exact fr_ff
  | some a => exact h a rfl
theorem fr_nilcE {p : Option Addr} {a : Addr} {k' : HP} {k : Addr → HP} (hp : p = some a) (h : Fr R k' (k a)) : Fr R k' (nilc p k) := by subst hp; exact h
theorem fr_elpK {a : Option Addr} {len : Nat} {i : Int} {sz : Nat} {k' : Addr → HP} {k : Addr → HP} (h : ∀ b, (a = some b ∧ 0 ≤ i ∧ i < len) → Fr R (k' (b.add (i.toNat * sz))) (k b)) : Fr R (elp a len i sz k') (nilc a fun b => ixn i len (k b)) := by
  cases a with
  | none => exact fr_ff
  | some b =>
    rintro L L2 J ⟨h1, h2⟩ hp
    exact ⟨h1, h _ ⟨rfl, h1⟩ _ _ J h2 hp⟩
theorem fr_elpE {a : Option Addr} {len : Nat} {i : Int} {b : Addr} {k' : HP} {k : Addr → HP} (he : a = some b ∧ 0 ≤ i ∧ i < len) (h : Fr R k' (k b)) : Fr R k' (nilc a fun b => ixn i len (k b)) := by
  obtain ⟨rfl, h1⟩ := he
  intro L L2 J h2 hp
  exact ⟨h1, h _ _ J h2 hp⟩
theorem fr_w64 {e : Int} {k' : Int → HP} {N : HP} (h : Fr R (k' (IntKind.i64.wrap e)) N) : Fr R (w64 e k') N := h
theorem fr_smP {s : Sem Value} {sh : Sh} {k' k : ShV sh → HP} (h : ∀ r, Fr R (k' r) (k r)) : Fr R (smP P s sh k') (smP P s sh k) := fun L L2 J ⟨r, h1, h2⟩ hp => ⟨r, h1, h r _ _ J h2 hp⟩
theorem fr_smR {s : Sem Value} {sh : List Sh} {k' k : RsV sh → HP} (h : ∀ r, Fr R (k' r) (k r)) : Fr R (smR P s sh k') (smR P s sh k) := fun L L2 J ⟨r, h1, h2⟩ hp => ⟨r, h1.perm hp, h r _ _ J h2 hp⟩
theorem fr_smA {s : Sem Value} {sh : Sh} {k' k : ShV sh → HP} (h : ∀ r, Fr R (k' r) (k r)) : Fr R (smA P s sh k') (smA P s sh k) := fun L L2 J ⟨h1, h2⟩ hp =>
  ⟨h1, fun n ob v hg hs => by
    obtain ⟨r, hr, hk⟩ := h2 n ob v hg (hs.sub (G := R ++ J) (hp.cons _))
    exact ⟨r, hr, h r _ _ J hk (hp.cons _)⟩⟩
theorem fr_smW {s : Sem Value} {sh : List Sh} {k' k : RsV sh → HP} (h : ∀ r, Fr R (k' r) (k r)) : Fr R (smW P s sh k') (smW P s sh k) := fun L L2 J hc hp =>
  (SemF.fr hc hp).mono (by rintro v L' ⟨L0, rfl, r, hr, hk⟩; exact ⟨r, hr, h r _ _ J hk (List.Perm.refl _)⟩)
theorem fr_smU {s : Sem Unit} {k' k : HP} (h : Fr R k' k) : Fr R (smU P s k') (smU P s k) := by
  intro L L2 J hc hp E F w hw
  obtain ⟨w', L', h1, h2, h3⟩ := hc E ((R ++ J) ++ F) w (by rw [← List.append_assoc]; exact hw.perm (hp.append_right F))
  exact ⟨w', L' ++ (R ++ J), h1, by rw [List.append_assoc]; exact h2, h _ _ J h3 (List.Perm.refl _)⟩
theorem fr_apv (i : Nat) {t t2 ty e : TypeId} {v : SlV} {n m : Nat} {ws : List Value} {k' : SlV → HP} {k : RsV [.lf .sl] → HP} (hi : getO R i = some (m, Obj.cells ws.toArray e (0, 0))) (h : ∀ s : SlV, Fr R (k' s) (k (s, ()))) :
    Fr R (apv P t t2 ty e v n ws k') (smW P (Builtin.append_ #[t, t2] ty #[.slice v.a v.len v.cap, .slice (some ⟨m, 0, none⟩) n n]) [.lf .sl] k) := by
  intro L L2 J hc hp
  obtain ⟨A, B, rfl, _⟩ := getO_spec hi
  have hp2 : L2.Perm (((m, Obj.cells ws.toArray e (0, 0)) :: L) ++ (A ++ B ++ J)) := hp.trans (by
    classical
    rw [List.perm_iff_count]
    intro z
    simp only [List.count_append, List.count_cons]
    omega)
  refine (SemF.fr (hc m) hp2).mono ?_
  rintro r L' ⟨L0, rfl, s, L1, rfl, hp3, hk⟩
  refine ⟨(s, ()), rfl, h s L1 _ J hk ?_⟩
  classical
  rw [List.perm_iff_count]
  intro z
  have := hp3.count_eq z
  simp only [List.count_append, List.count_cons] at this ⊢
  omega
theorem fr_lp {sh sh' : List Sh} {x0 : RsV sh} {x0' : RsV sh'} {body : RsV sh → (RsV sh → HP) → HP} {body' : RsV sh' → (RsV sh' → HP) → HP} {C : HList} (M : RsV sh' → HList) (pr : RsV sh' → RsV sh) (hx : pr x0' = x0) (hR : R = M x0' ++ C)
    (h : ∀ (go' : RsV sh' → HP) (go : RsV sh → HP), (∀ x, Fr (M x ++ C) (go' x) (go (pr x))) → ∀ x, Fr (M x ++ C) (body' x go') (body (pr x) go)) : Fr R (lp sh' x0' body') (lp sh x0 body) := by
  rintro L L2 J ⟨I, ⟨k0, hI0⟩, hI⟩ hp
  subst hx hR
  refine ⟨fun k x L2 => ∃ x' L1 J1, pr x' = x ∧ L2.Perm (L1 ++ ((M x' ++ C) ++ J1)) ∧ I k x' L1, ⟨k0, x0', L, J, rfl, hp, hI0⟩, ?_⟩
  rintro k _ L2 ⟨x', L1, J1, rfl, hp1, hI1⟩
  refine h (fun x L'' => ∃ k', k' < k ∧ I k' x L'') _ ?_ x' L1 L2 J1 (hI k x' L1 hI1) hp1
  rintro x L3 L4 J3 ⟨k', hk', h3⟩ hp3
  exact ⟨k', hk', x, L3, J3, rfl, hp3, h3⟩
/-- A loop that changes none of the variables. -/
theorem fr_lp0 {sh : List Sh} {x0 : RsV sh} {body body' : RsV sh → (RsV sh → HP) → HP}
    (h : ∀ (go' go : RsV sh → HP), (∀ x, Fr R (go' x) (go x)) → ∀ x, Fr R (body' x go') (body x go)) : Fr R (lp sh x0 body') (lp sh x0 body) :=
  fr_lp (C := R) (fun _ => []) id rfl rfl h
theorem fr_jn0 {α : Type} {b b' : α → HP} {r r' : (α → HP) → HP}
    (hb : ∀ y, Fr R (b' y) (b y)) (hr : ∀ (j' j : α → HP), (∀ y, Fr R (j' y) (j y)) → Fr R (r' j') (r j)) : Fr R (jn b' r') (jn b r) := hr b' b hb
end
end Go.HL
set_option linter.unusedVariables false
set_option linter.unusedSimpArgs false
namespace Go.HL
section
variable {P : Program} {L A : HList}
theorem w64_of {e : Int} {k : Int → HP} (h : -9223372036854775808 ≤ e ∧ e ≤ 9223372036854775807) (hk : k e L) : w64 e k L := by
  unfold w64; rw [w64_id h.1 h.2]; exact hk
theorem elp_of {v : SlV} {sz : Nat} {vs : List Value} (h : Sl L v sz vs) (hsz : 0 < sz) {i : Int} {n : Nat} (hi : i = n) (hn : n < v.len) {k : Addr → HP} (hk : ∀ a, LdAt a ((vs.drop (n * sz)).take sz) L → k a L) : elp v.a v.len i sz k L := by
  subst hi
  obtain ⟨a, ha, hl⟩ := h.at' hn hsz
  refine nilc_of ha (ixn_of (by omega) (by omega) (hk _ ?_))
  rw [Int.toNat_natCast]
  refine hl.sub (n * sz) fun j u hu => ?_
  rw [List.getElem?_take] at hu
  split at hu
  · rwa [List.getElem?_drop] at hu
  · cases hu
theorem elp_el {α : Type} {enc : α → List Value} {sz : Nat} (hsz : ∀ x, (enc x).length = sz) (hpos : 0 < sz) {v : SlV} {l : List α} (h : Sl L v sz (l.flatMap enc)) {i : Int} {n : Nat} (hi : i = n) (hn : n < l.length) {k : Addr → HP} (hk : ∀ a, LdAt a (enc l[n]) L → k a L) : elp v.a v.len i sz k L := by
  subst hi
  obtain ⟨a, ha, hl⟩ := h.el hsz hpos hn
  refine nilc_of ha (ixn_of (by omega) (by have := h.els_len hsz hpos; omega) (hk _ ?_))
  rw [Int.toNat_natCast]; exact hl
theorem elp_1 {v : SlV} {vs : List Value} (h : Sl L v 1 vs) {i : Int} {n : Nat} (hi : i = n) (hn : n < vs.length) {k : Addr → HP} (hk : ∀ a, LdAt a [vs[n]] L → k a L) : elp v.a v.len i 1 k L := by
  have hl := h.len
  refine elp_of h (by decide) hi (by omega) fun a ha => hk a ?_
  have e : (vs.drop (n * 1)).take 1 = [vs[n]] := by rw [Nat.mul_one, List.drop_eq_getElem_cons hn]; rfl
  rw [← e]; exact ha
theorem apv_in {t t2 ty e : TypeId} {sz bytes : Nat} {z : List Value} (hT : ElemT P t e sz bytes z) (h2 : SrcT P t2) {v : SlV} {vs ws : List Value} {n : Nat} {seg : HList} (X Y : HList) (own : Own v sz e vs seg) (hL : L = X ++ seg ++ Y) (hn : n * sz = ws.length) (hws : ws.all plainV = true)
    (hb : (v.len + n) * bytes ≤ 140737488355328) {k : SlV → HP} (hk : ∀ v' seg', v'.len = v.len + n → Own v' sz e (vs ++ ws) seg' → k v' (X ++ seg' ++ Y)) : apv P t t2 ty e v n ws k L := by
  subst hL
  intro m
  refine SemF.mono (append_in hT h2 ((m, Obj.cells ws.toArray e) :: X) Y own (by simp) (n := n) (ws := ws) (Src.sl (v := ⟨some ⟨m, 0, none⟩, n, n⟩) ⟨hn, Nat.le_refl _, .inr ⟨_, rfl, ldB List.mem_cons_self (by simp)⟩⟩) hws hb (k := fun r L' => ∃ L0, L' = (m, Obj.cells ws.toArray e) :: L0 ∧ k r.1 L0) fun v' seg' h1 h2 => ⟨_, rfl, hk v' seg' h1 h2⟩) ?_
  rintro r L' ⟨x, rfl, L0, rfl, hk0⟩
  exact ⟨x.1, L0, rfl, List.Perm.refl _, hk0⟩
open Classical in
noncomputable def cnt (L : HList) (z : Nat × Obj) : Nat := L.count z
open Classical in
noncomputable def cn1 (p z : Nat × Obj) : Nat := if p == z then 1 else 0
open Classical in
theorem cnt_a (X Y : HList) (z : Nat × Obj) : cnt (X ++ Y) z = cnt X z + cnt Y z := by unfold cnt; exact List.count_append
open Classical in
theorem cnt_c (p : Nat × Obj) (Y : HList) (z : Nat × Obj) : cnt (p :: Y) z = cnt Y z + cn1 p z := by unfold cnt cn1; exact List.count_cons
open Classical in
theorem cnt_n (z : Nat × Obj) : cnt [] z = 0 := by unfold cnt; exact List.count_nil
theorem pc {X Y : HList} (h : ∀ z, cnt X z = cnt Y z) : X.Perm Y := by
  classical
  rw [List.perm_iff_count]
  intro z
  have := h z
  unfold cnt at this
  exact this
open Classical in
theorem pcn {X Y : HList} (h : X.Perm Y) (z : Nat × Obj) : cnt X z = cnt Y z := by
  unfold cnt
  exact h.count_eq z
theorem psub0 {Y : HList} (h : L.Perm (A ++ Y)) : ∀ p ∈ A, p ∈ L := fun p hp => h.symm.subset (by simp [hp])
theorem apv_pm {t t2 ty e : TypeId} {sz bytes : Nat} {z : List Value} (hT : ElemT P t e sz bytes z) (h2 : SrcT P t2) {v : SlV} {vs ws : List Value} {n : Nat} {seg Y : HList} (own : Own v sz e vs seg) (hL : L.Perm (seg ++ Y)) (hn : n * sz = ws.length) (hws : ws.all plainV = true)
    (hb : (v.len + n) * bytes ≤ 140737488355328) {k : SlV → HP} (hk : ∀ v' seg', v'.len = v.len + n → Own v' sz e (vs ++ ws) seg' → k v' (seg' ++ Y)) : apv P t t2 ty e v n ws k L := fun m =>
  SemF.permL (hL.cons _) (apv_in hT h2 [] Y own rfl hn hws hb hk m)
theorem st_pm {ad : Addr} {ws : List Value} {k : HP} {n off : Nat} {c : Array Value} {T : TypeId} {fz : Nat × Nat} {Y : HList} (hL : L.Perm ((n, Obj.cells c T fz) :: Y)) (had : ad = ⟨n, off, none⟩) (hsz : off + ws.length ≤ c.size)
    (hfz : fz.2 ≤ fz.1 ∨ c.size ≤ fz.1) (c' : Array Value) (hc : wr c off ws = c') (hk : ∀ L', L'.Perm ((n, Obj.cells c' T fz) :: Y) → k L') : st ad ws k L := by
  obtain ⟨A2, B2, rfl⟩ := List.append_of_mem (hL.symm.subset (List.mem_cons_self))
  exact st_of A2 B2 had rfl hsz hfz c' hc (hk _ (List.perm_middle.trans (((List.perm_cons _).1 (List.perm_middle.symm.trans hL)).cons _)))
theorem cl_p {f : FuncId} {args : Array Value} {rs : List Sh} {k : RsV rs → HP} {K : Value → HP} (h : CallF P f args A K) (hp : L.Perm A) (hk : ∀ v L', K v L' → ∃ r, v = rsVal rs r ∧ k r L') : cl P f args rs k L :=
  cl_of (CallF.perm hp.symm h) fun v L' _ hK => hk v L' hK
theorem wf_mk {n : Int} (h : -9223372036854775808 ≤ n ∧ n ≤ 9223372036854775807) : intWf .i64 n := by
  show (Lit.int .i64 n).wf = true
  simp only [Lit.wf, Bool.and_eq_true, decide_eq_true_eq]
  exact h
theorem LdAt.hd {ad : Addr} {v : Value} {vs : List Value} (h : LdAt ad (v :: vs) L) : LdAt ad [v] L := h.pre fun i u hu => by
  cases i with
  | zero => exact hu
  | succ i => simp at hu
theorem mem_r {X : HList} : ∀ p ∈ A, p ∈ X ++ A := fun _ h => List.mem_append_right _ h
theorem mem_l {X : HList} : ∀ p ∈ A, p ∈ A ++ X := fun _ h => List.mem_append_left _ h
theorem ifb_of {p : Prop} [Decidable p] {A B : HP} (h1 : p → A L) (h2 : ¬ p → B L) : ifB (decide p) A B L := ifD_of h1 h2
end
end Go.HL
set_option linter.unusedVariables false
set_option maxRecDepth 100000
namespace Go.Proofs.YtlabcgnegbdlfaaDoor
open Go.HL
/-- depot/depotlaw30.RebuildOnce -/
def s3 (x0 : ShV (.agg [.int .i64, .int .i64, .int .i64, .int .i64])) (x1 : SlV) (K : Value → HP) : HP :=
  cl PP 4 #[.agg #[.int .i64 x0.1, .int .i64 x0.2.1, .int .i64 x0.2.2.1, .int .i64 x0.2.2.2.1], .slice x1.a x1.len x1.cap] [.lf .ptr, .lf .ptr] fun r1 =>
  ifB (Option.isNone r1.1) (
   cl PP 5 #[] [.lf .bool] fun r2 =>
   K (.bool r2.1)) (
   cl PP 6 #[.pointer r1.1] [.agg [.sl, .sl, .int .i64], .lf (.int .i64)] fun r3 =>
   ifB (decide ((r3.2.1 : Int) = 0)) (
    lp [.lf (.int .i64)] (0, ()) fun z1 go1 =>   -- i
     ifB (decide ((z1.1 : Int) < r3.1.1.len)) (
      ifB (decide ((z1.1 : Int) > 0)) (
       w64 (z1.1 - 1) fun i3 =>
       elp r3.1.1.a r3.1.1.len z1.1 3 fun a1 =>
       ld (Addr.add a1 1) (.lf (.int .i64)) fun v1 =>
       elp r3.1.1.a r3.1.1.len i3 3 fun a2 =>
       ld (Addr.add a2 1) (.lf (.int .i64)) fun v2 =>
       ifB (decide ((v1 : Int) < v2)) (
        K (.bool false)) (
        ld (Addr.add a1 1) (.lf (.int .i64)) fun v3 =>
        ifB (decide ((v3 : Int) > r3.1.2.2.1)) (
         K (.bool false)) (
         w64 (z1.1 + 1) fun i4 =>
         go1 (i4, ())))) (
       elp r3.1.1.a r3.1.1.len z1.1 3 fun a3 =>
       ld (Addr.add a3 1) (.lf (.int .i64)) fun v4 =>
       ifB (decide ((v4 : Int) > r3.1.2.2.1)) (
        K (.bool false)) (
        w64 (z1.1 + 1) fun i5 =>
        go1 (i5, ())))) (
      lp [.lf (.int .i64), .lf (.int .i64)] (0, 0, ()) fun z2 go2 =>   -- at, i
       ifB (decide ((z2.2.1 : Int) < r3.1.2.1.len)) (
        lp [.lf (.int .i64)] (0, ()) fun z3 go3 =>   -- k
         ifB (decide ((z3.1 : Int) < z2.2.1)) (
          elp r3.1.2.1.a r3.1.2.1.len z3.1 4 fun a4 =>
          ld a4 (.lf .str) fun v5 =>
          elp r3.1.2.1.a r3.1.2.1.len z2.2.1 4 fun a5 =>
          ld a5 (.lf .str) fun v6 =>
          ifB (decide (v5 = v6)) (
           K (.bool false)) (
           w64 (z3.1 + 1) fun i6 =>
           go3 (i6, ()))) (
          elp r3.1.2.1.a r3.1.2.1.len z2.2.1 4 fun a6 =>
          ld (Addr.add a6 1) (.agg [.int .i64, .int .i64, .int .i64]) fun v7 =>
          cl PP 8 #[.pointer r1.1, .agg #[.int .i64 v7.1, .int .i64 v7.2.1, .int .i64 v7.2.2.1]] [.lf .str, .lf .sl, .lf (.int .i64)] fun r6 =>
          ld a6 (.lf .str) fun v8 =>
          ifB (decide (r6.1 = v8)) (
           ifB (decide ((r6.2.2.1 : Int) = 0)) (
            jn (fun y1 : RsV [.lf (.int .i64)] =>
             ifB (decide ((y1.1 : Int) = r3.1.1.len)) (
              K (.bool false)) (
              elp r3.1.1.a r3.1.1.len y1.1 3 fun a8 =>
              ld (Addr.add a8 1) (.lf (.int .i64)) fun v10 =>
              ifB (decide ((v10 : Int) = v7.2.2.1)) (
               w64 (z2.2.1 + 1) fun i8 =>
               go2 (y1.1, i8, ())) (
               K (.bool false)))) fun j1 =>
            lp [.lf (.int .i64)] (z2.1, ()) fun z4 go4 =>   -- at
              ifB (decide ((z4.1 : Int) < r3.1.1.len)) (
               elp r3.1.1.a r3.1.1.len z4.1 3 fun a7 =>
               ld a7 (.lf (.int .i64)) fun v9 =>
               ifB (decide ((v9 : Int) = v7.1)) (
                j1 (z4.1, ())) (
                w64 (z4.1 + 1) fun i7 =>
                go4 (i7, ()))) (
               j1 (z4.1, ()))) (
            K (.bool false))) (
           K (.bool false)))) (
        cl PP 5 #[] [.lf .bool] fun r7 =>
        K (.bool r7.1)))) (
    cl PP 7 #[.pointer r1.1] [.lf .bool] fun r4 =>
    ifB r4.1 (
     w64 (r3.1.1.len + r3.1.2.1.len) fun i1 =>
     w64 (i1 + r3.1.2.2.1) fun i2 =>
     ifB (decide ((i2 : Int) = 0)) (
      cl PP 5 #[] [.lf .bool] fun r5 =>
      K (.bool r5.1)) (
      K (.bool false))) (
     K (.bool false))))
theorem c3 (x0 : ShV (.agg [.int .i64, .int .i64, .int .i64, .int .i64])) (x1 : SlV) {K : Value → HP} {L : HList} (h : s3 x0 x1 (HL.Ends K) L) : CallF PP 3 #[.agg #[.int .i64 x0.1, .int .i64 x0.2.1, .int .i64 x0.2.2.1, .int .i64 x0.2.2.2.1], .slice x1.a x1.len x1.cap] L K := by
  refine CallF.of (args := [.agg #[.int .i64 x0.1, .int .i64 x0.2.1, .int .i64 x0.2.2.1, .int .i64 x0.2.2.2.1], .slice x1.a x1.len x1.cap]) noNum mixed Tryd.func3 (e3 x0 x1 _) (fr_run ?_ h)
  unfold s3 t3
  refine fr_nwL fun n1 => ?_
  refine fr_ldI 0 0 rfl rfl rfl ?_
  refine fr_cl fun r1 => ?_
  refine fr_ifB ?_ ?_
  · refine fr_cl fun r2 => ?_
    exact fr_end
  · refine fr_cl fun r3 => ?_
    refine fr_nwL fun n2 => ?_
    refine fr_stI 0 0 rfl rfl rfl rfl ?_
    refine fr_ifNe ?_ ?_
    · refine fr_cl fun r4 => ?_
      refine fr_ifB ?_ ?_
      · refine fr_ldI 0 0 rfl rfl rfl ?_
        refine fr_ldI 0 1 rfl rfl rfl ?_
        refine fr_w64 ?_
        refine fr_ldI 0 2 rfl rfl rfl ?_
        refine fr_w64 ?_
        refine fr_ifEq ?_ ?_
        · refine fr_cl fun r5 => ?_
          exact fr_end
        · exact fr_end
      · exact fr_end
    · refine fr_lp0 fun go1' go1 hgo1 z1 => ?_
      refine fr_ldI 0 0 rfl rfl rfl ?_
      refine fr_ifB ?_ ?_
      · refine fr_ifB ?_ ?_
        · refine fr_w64 ?_
          refine fr_ldI 0 0 rfl rfl rfl ?_
          refine fr_elpK fun a1 ha1 => ?_
          refine fr_ld fun v1 => ?_
          refine fr_ldI 0 0 rfl rfl rfl ?_
          refine fr_elpK fun a2 ha2 => ?_
          refine fr_ld fun v2 => ?_
          refine fr_ifB ?_ ?_
          · exact fr_end
          · refine fr_ldI 0 0 rfl rfl rfl ?_
            refine fr_elpE ha1 ?_
            refine fr_ld fun v3 => ?_
            refine fr_ldI 0 2 rfl rfl rfl ?_
            refine fr_ifB ?_ ?_
            · exact fr_end
            · refine fr_w64 ?_
              exact fr_wk (hgo1 _) rfl
        · refine fr_ldI 0 0 rfl rfl rfl ?_
          refine fr_elpK fun a3 ha3 => ?_
          refine fr_ld fun v4 => ?_
          refine fr_ldI 0 2 rfl rfl rfl ?_
          refine fr_ifB ?_ ?_
          · exact fr_end
          · refine fr_w64 ?_
            exact fr_wk (hgo1 _) rfl
      · refine fr_lp0 fun go2' go2 hgo2 z2 => ?_
        refine fr_ldI 0 1 rfl rfl rfl ?_
        refine fr_ifB ?_ ?_
        · refine fr_lp0 fun go3' go3 hgo3 z3 => ?_
          refine fr_ifB ?_ ?_
          · refine fr_ldI 0 1 rfl rfl rfl ?_
            refine fr_elpK fun a4 ha4 => ?_
            refine fr_ld fun v5 => ?_
            refine fr_ldI 0 1 rfl rfl rfl ?_
            refine fr_elpK fun a5 ha5 => ?_
            refine fr_ld fun v6 => ?_
            refine fr_ifS ?_ ?_
            · exact fr_end
            · refine fr_w64 ?_
              exact fr_wk (hgo3 _) rfl
          · refine fr_ldI 0 1 rfl rfl rfl ?_
            refine fr_elpK fun a6 ha6 => ?_
            refine fr_ld fun v7 => ?_
            refine fr_nwL fun n3 => ?_
            refine fr_stI 0 0 rfl rfl rfl rfl ?_
            refine fr_ldI 0 0 rfl rfl rfl ?_
            refine fr_cl fun r6 => ?_
            refine fr_ldI 1 1 rfl rfl rfl ?_
            refine fr_elpE ha6 ?_
            refine fr_ld fun v8 => ?_
            refine fr_ifSn ?_ ?_
            · exact fr_end
            · refine fr_ifNe ?_ ?_
              · exact fr_end
              · refine fr_jn0 (fun y1 => ?_) fun j1' j1 hj1 => ?_
                · refine fr_ldI 1 0 rfl rfl rfl ?_
                  refine fr_ifEq ?_ ?_
                  · exact fr_end
                  · refine fr_ldI 1 0 rfl rfl rfl ?_
                    refine fr_elpK fun a8 ha8 => ?_
                    refine fr_ld fun v10 => ?_
                    refine fr_ldI 0 2 rfl rfl rfl ?_
                    refine fr_ifNe ?_ ?_
                    · exact fr_end
                    · refine fr_w64 ?_
                      refine fr_front 2 rfl rfl ?_
                      refine fr_front 2 rfl rfl ?_
                      exact fr_wk (hgo2 _) rfl
                · refine fr_lp0 fun go4' go4 hgo4 z4 => ?_
                  refine fr_ldI 1 0 rfl rfl rfl ?_
                  refine fr_ifB ?_ ?_
                  · refine fr_ldI 1 0 rfl rfl rfl ?_
                    refine fr_elpK fun a7 ha7 => ?_
                    refine fr_ld fun v9 => ?_
                    refine fr_ldI 0 0 rfl rfl rfl ?_
                    refine fr_ifNe ?_ ?_
                    · refine fr_w64 ?_
                      exact fr_wk (hgo4 _) rfl
                    · exact fr_wk (hj1 _) rfl
                  · exact fr_wk (hj1 _) rfl
        · refine fr_cl fun r7 => ?_
          exact fr_end

/-- depot/depotlaw30.played -/
def s4 (x0 : ShV (.agg [.int .i64, .int .i64, .int .i64, .int .i64])) (x1 : SlV) (K : Value → HP) : HP :=
  cl PP 9 #[.agg #[.int .i64 x0.1, .int .i64 x0.2.1, .int .i64 x0.2.2.1, .int .i64 x0.2.2.2.1]] [.lf .ptr, .lf (.int .i64)] fun r1 =>
  cl PP 10 #[.agg #[.int .i64 x0.1, .int .i64 x0.2.1, .int .i64 x0.2.2.1, .int .i64 x0.2.2.2.1]] [.lf .ptr, .lf (.int .i64)] fun r2 =>
  jn (fun y1 : RsV [] =>
   lp [.lf (.int .i64)] (0, ()) fun z1 go1 =>   -- i
    ifB (decide ((z1.1 : Int) < x1.len)) (
     elp x1.a x1.len z1.1 6 fun a1 =>
     ld a1 (.agg [.int .i64, .int .i64, .int .i64, .sl, .int .i64, .int .i64]) fun v1 =>
     ifB (decide ((v1.2.2.2.1.len : Int) > 600)) (
      K (.tuple #[.pointer none, .pointer none])) (
      ifB (decide ((v1.1 : Int) = 0)) (
       cl PP 11 #[.pointer r1.1, .int .i64 v1.2.1, .int .i64 v1.2.2.1, .slice v1.2.2.2.1.a v1.2.2.2.1.len v1.2.2.2.1.cap] [.lf (.int .i64)] fun r3 =>
       cl PP 12 #[.pointer r2.1, .int .i64 v1.2.1, .int .i64 v1.2.2.1, .slice v1.2.2.2.1.a v1.2.2.2.1.len v1.2.2.2.1.cap] [.lf (.int .i64)] fun r4 =>
       w64 (z1.1 + 1) fun i1 =>
       go1 (i1, ())) (
       ifB (decide ((v1.1 : Int) = 2)) (
        cl PP 13 #[.pointer r1.1, .int .i64 v1.2.1] [.lf (.int .i64)] fun r5 =>
        cl PP 14 #[.pointer r2.1, .int .i64 v1.2.1] [.lf (.int .i64)] fun r6 =>
        w64 (z1.1 + 1) fun i2 =>
        go1 (i2, ())) (
        ifB (decide ((v1.1 : Int) = 3)) (
         cl PP 15 #[.pointer r1.1, .int .i64 v1.2.2.2.2.1, .int .i64 v1.2.2.2.2.2.1] [] fun r7 =>
         cl PP 16 #[.pointer r2.1, .int .i64 v1.2.2.2.2.1, .int .i64 v1.2.2.2.2.2.1] [] fun r8 =>
         w64 (z1.1 + 1) fun i3 =>
         go1 (i3, ())) (
         cl PP 17 #[.pointer r1.1] [] fun r9 =>
         cl PP 18 #[.pointer r2.1] [] fun r10 =>
         w64 (z1.1 + 1) fun i4 =>
         go1 (i4, ())))))) (
     K (.tuple #[.pointer r1.1, .pointer r2.1]))) fun j1 =>
  ifB (decide ((r1.2.1 : Int) = 0)) (
    ifB (decide ((x1.len : Int) > 200)) (
     K (.tuple #[.pointer none, .pointer none])) (
     j1 (()))) (
    K (.tuple #[.pointer none, .pointer none]))
theorem c4 (x0 : ShV (.agg [.int .i64, .int .i64, .int .i64, .int .i64])) (x1 : SlV) {K : Value → HP} {L : HList} (h : s4 x0 x1 (HL.Ends K) L) : CallF PP 4 #[.agg #[.int .i64 x0.1, .int .i64 x0.2.1, .int .i64 x0.2.2.1, .int .i64 x0.2.2.2.1], .slice x1.a x1.len x1.cap] L K := by
  refine CallF.of (args := [.agg #[.int .i64 x0.1, .int .i64 x0.2.1, .int .i64 x0.2.2.1, .int .i64 x0.2.2.2.1], .slice x1.a x1.len x1.cap]) noNum mixed Tryd.func4 (e4 x0 x1 _) (fr_run ?_ h)
  unfold s4 t4
  refine fr_nwL fun n1 => ?_
  refine fr_ldI 0 0 rfl rfl rfl ?_
  refine fr_cl fun r1 => ?_
  refine fr_ldI 0 0 rfl rfl rfl ?_
  refine fr_cl fun r2 => ?_
  refine fr_jn0 (fun y1 => ?_) fun j1' j1 hj1 => ?_
  · refine fr_lp0 fun go1' go1 hgo1 z1 => ?_
    refine fr_ifB ?_ ?_
    · refine fr_elpK fun a1 ha1 => ?_
      refine fr_ld fun v1 => ?_
      refine fr_nwL fun n2 => ?_
      refine fr_stI 0 0 rfl rfl rfl rfl ?_
      refine fr_ldI 0 3 rfl rfl rfl ?_
      refine fr_ifB ?_ ?_
      · exact fr_end
      · refine fr_ldI 0 0 rfl rfl rfl ?_
        refine fr_ifEq ?_ ?_
        · refine fr_ldI 0 1 rfl rfl rfl ?_
          refine fr_ldI 0 2 rfl rfl rfl ?_
          refine fr_ldI 0 3 rfl rfl rfl ?_
          refine fr_cl fun r3 => ?_
          refine fr_ldI 0 1 rfl rfl rfl ?_
          refine fr_ldI 0 2 rfl rfl rfl ?_
          refine fr_ldI 0 3 rfl rfl rfl ?_
          refine fr_cl fun r4 => ?_
          refine fr_w64 ?_
          refine fr_front 1 rfl rfl ?_
          exact fr_wk (hgo1 _) rfl
        · refine fr_ifEq ?_ ?_
          · refine fr_ldI 0 1 rfl rfl rfl ?_
            refine fr_cl fun r5 => ?_
            refine fr_ldI 0 1 rfl rfl rfl ?_
            refine fr_cl fun r6 => ?_
            refine fr_w64 ?_
            refine fr_front 1 rfl rfl ?_
            exact fr_wk (hgo1 _) rfl
          · refine fr_ifEq ?_ ?_
            · refine fr_ldI 0 4 rfl rfl rfl ?_
              refine fr_ldI 0 5 rfl rfl rfl ?_
              refine fr_cl fun r7 => ?_
              refine fr_ldI 0 4 rfl rfl rfl ?_
              refine fr_ldI 0 5 rfl rfl rfl ?_
              refine fr_cl fun r8 => ?_
              refine fr_w64 ?_
              refine fr_front 1 rfl rfl ?_
              exact fr_wk (hgo1 _) rfl
            · refine fr_cl fun r9 => ?_
              refine fr_cl fun r10 => ?_
              refine fr_w64 ?_
              refine fr_front 1 rfl rfl ?_
              exact fr_wk (hgo1 _) rfl
    · exact fr_end
  · refine fr_ifNe ?_ ?_
    · exact fr_end
    · refine fr_ifB ?_ ?_
      · exact fr_end
      · exact fr_wk (hj1 _) rfl

/-- depot/depotlaw30.finds -/
def s5 (K : Value → HP) : HP :=
  cl PP 19 #[] [.agg [.int .i64, .int .i64, .int .i64, .int .i64]] fun r1 =>
  cl PP 9 #[.agg #[.int .i64 r1.1.1, .int .i64 r1.1.2.1, .int .i64 r1.1.2.2.1, .int .i64 r1.1.2.2.2.1]] [.lf .ptr, .lf (.int .i64)] fun r2 =>
  ifB (decide ((r2.2.1 : Int) = 0)) (
   cl PP 20 #[.pointer r2.1, .int .i64 2, .int .i64 1] [.lf (.int .i64)] fun r3 =>
   cl PP 20 #[.pointer r2.1, .int .i64 0, .int .i64 2] [.lf (.int .i64)] fun r4 =>
   cl PP 21 #[.pointer r2.1, .int .i64 2, .int .i64 1, .string (ByteArray.mk #[97]), .string (ByteArray.mk #[49])] [.lf .bool] fun r5 =>
   ifB r5.1 (
    cl PP 21 #[.pointer r2.1, .int .i64 2, .int .i64 1, .string (ByteArray.mk #[98]), .string (ByteArray.mk #[50])] [.lf .bool] fun r6 =>
    ifB r6.1 (
     cl PP 21 #[.pointer r2.1, .int .i64 0, .int .i64 2, .string (ByteArray.mk #[97]), .string (ByteArray.mk #[51])] [.lf .bool] fun r7 =>
     nw (.cells #[.int .i64 0, .int .i64 1, .int .i64 2] 41) fun n1 =>
     cl PP 22 #[.slice (some ⟨n1, 0, none⟩) 1 1] [.lf .sl, .lf (.int .i64)] fun r8 =>
     nw (.cells #[.slice r8.1.a r8.1.len r8.1.cap] 44) fun n2 =>
     cl PP 23 #[.pointer r2.1, .int .i64 0, .int .i64 2, .int .i64 2, .int .i64 3, .slice (some ⟨n2, 0, none⟩) 1 1] [.lf (.int .i64)] fun r9 =>
     cl PP 6 #[.pointer r2.1] [.agg [.sl, .sl, .int .i64], .lf (.int .i64)] fun r10 =>
     cl PP 8 #[.pointer r2.1, .agg #[.int .i64 2, .int .i64 2, .int .i64 1]] [.lf .str, .lf .sl, .lf (.int .i64)] fun r11 =>
     cl PP 8 #[.pointer r2.1, .agg #[.int .i64 2, .int .i64 2, .int .i64 2]] [.lf .str, .lf .sl, .lf (.int .i64)] fun r12 =>
     cl PP 6 #[.pointer none] [.agg [.sl, .sl, .int .i64], .lf (.int .i64)] fun r13 =>
     ifB (decide ((r3.1 : Int) = 0)) (
      ifB (decide ((r4.1 : Int) = 0)) (
       ifB r7.1 (
        ifB (decide ((r9.1 : Int) = 0)) (
         ifB (decide ((r10.2.1 : Int) = 0)) (
          ifB (decide ((r10.1.2.2.1 : Int) = 2)) (
           ifB (decide ((r10.1.1.len : Int) = 2)) (
            elp r10.1.1.a r10.1.1.len 0 3 fun a1 =>
            ld a1 (.lf (.int .i64)) fun v1 =>
            ifB (decide ((v1 : Int) = 2)) (
             ifB (decide ((r10.1.2.1.len : Int) = 1)) (
              elp r10.1.2.1.a r10.1.2.1.len 0 4 fun a2 =>
              ld a2 (.lf .str) fun v2 =>
              ifB (decide (v2 = (ByteArray.mk #[98]))) (
               ifB (decide (r11.1 = (ByteArray.mk #[98]))) (
                smR PP (Conv.bytesToString (.slice r11.2.1.a r11.2.1.len r11.2.1.cap)) [.lf .str] fun v3 =>
                ifB (decide (v3.1 = (ByteArray.mk #[50]))) (
                 ifB (decide ((r11.2.2.1 : Int) = 0)) (
                  ifB (decide ((r12.2.2.1 : Int) = 8)) (
                   K (.bool ((r13.2.1 : Int) == 1))) (
                   K (.bool false))) (
                  K (.bool false))) (
                 K (.bool false))) (
                K (.bool false))) (
               K (.bool false))) (
              K (.bool false))) (
             K (.bool false))) (
            K (.bool false))) (
           K (.bool false))) (
          K (.bool false))) (
         K (.bool false))) (
        K (.bool false))) (
       K (.bool false))) (
      K (.bool false))) (
     nw (.cells #[.int .i64 0, .int .i64 1, .int .i64 2] 41) fun n5 =>
     cl PP 22 #[.slice (some ⟨n5, 0, none⟩) 1 1] [.lf .sl, .lf (.int .i64)] fun r14 =>
     nw (.cells #[.slice r14.1.a r14.1.len r14.1.cap] 44) fun n6 =>
     cl PP 23 #[.pointer r2.1, .int .i64 0, .int .i64 2, .int .i64 2, .int .i64 3, .slice (some ⟨n6, 0, none⟩) 1 1] [.lf (.int .i64)] fun r15 =>
     cl PP 6 #[.pointer r2.1] [.agg [.sl, .sl, .int .i64], .lf (.int .i64)] fun r16 =>
     cl PP 8 #[.pointer r2.1, .agg #[.int .i64 2, .int .i64 2, .int .i64 1]] [.lf .str, .lf .sl, .lf (.int .i64)] fun r17 =>
     cl PP 8 #[.pointer r2.1, .agg #[.int .i64 2, .int .i64 2, .int .i64 2]] [.lf .str, .lf .sl, .lf (.int .i64)] fun r18 =>
     cl PP 6 #[.pointer none] [.agg [.sl, .sl, .int .i64], .lf (.int .i64)] fun r19 =>
     ifB (decide ((r3.1 : Int) = 0)) (
      ifB (decide ((r4.1 : Int) = 0)) (
       K (.bool false)) (
       K (.bool false))) (
      K (.bool false)))) (
    nw (.cells #[.int .i64 0, .int .i64 1, .int .i64 2] 41) fun n9 =>
    cl PP 22 #[.slice (some ⟨n9, 0, none⟩) 1 1] [.lf .sl, .lf (.int .i64)] fun r20 =>
    nw (.cells #[.slice r20.1.a r20.1.len r20.1.cap] 44) fun n10 =>
    cl PP 23 #[.pointer r2.1, .int .i64 0, .int .i64 2, .int .i64 2, .int .i64 3, .slice (some ⟨n10, 0, none⟩) 1 1] [.lf (.int .i64)] fun r21 =>
    cl PP 6 #[.pointer r2.1] [.agg [.sl, .sl, .int .i64], .lf (.int .i64)] fun r22 =>
    cl PP 8 #[.pointer r2.1, .agg #[.int .i64 2, .int .i64 2, .int .i64 1]] [.lf .str, .lf .sl, .lf (.int .i64)] fun r23 =>
    cl PP 8 #[.pointer r2.1, .agg #[.int .i64 2, .int .i64 2, .int .i64 2]] [.lf .str, .lf .sl, .lf (.int .i64)] fun r24 =>
    cl PP 6 #[.pointer none] [.agg [.sl, .sl, .int .i64], .lf (.int .i64)] fun r25 =>
    ifB (decide ((r3.1 : Int) = 0)) (
     ifB (decide ((r4.1 : Int) = 0)) (
      K (.bool false)) (
      K (.bool false))) (
     K (.bool false)))) (
   K (.bool false))
theorem c5 {K : Value → HP} {L : HList} (h : s5 (HL.Ends K) L) : CallF PP 5 #[] L K := by
  refine CallF.of (args := []) noNum mixed Tryd.func5 (e5 _) (fr_run ?_ h)
  unfold s5 t5
  refine fr_cl fun r1 => ?_
  refine fr_cl fun r2 => ?_
  refine fr_ifNe ?_ ?_
  · exact fr_end
  · refine fr_cl fun r3 => ?_
    refine fr_cl fun r4 => ?_
    refine fr_cl fun r5 => ?_
    refine fr_ifB ?_ ?_
    · refine fr_cl fun r6 => ?_
      refine fr_ifB ?_ ?_
      · refine fr_cl fun r7 => ?_
        refine fr_nw fun n1 => ?_
        refine fr_cl fun r8 => ?_
        refine fr_nw fun n2 => ?_
        refine fr_cl fun r9 => ?_
        refine fr_cl fun r10 => ?_
        refine fr_nwL fun n3 => ?_
        refine fr_stI 0 0 rfl rfl rfl rfl ?_
        refine fr_cl fun r11 => ?_
        refine fr_cl fun r12 => ?_
        refine fr_cl fun r13 => ?_
        refine fr_nwL fun n4 => ?_
        refine fr_stI 0 0 rfl rfl rfl rfl ?_
        refine fr_ifEq ?_ ?_
        · refine fr_ifEq ?_ ?_
          · refine fr_ifB ?_ ?_
            · refine fr_ifEq ?_ ?_
              · refine fr_ifEq ?_ ?_
                · refine fr_ldI 1 2 rfl rfl rfl ?_
                  refine fr_ifEq ?_ ?_
                  · refine fr_ldI 1 0 rfl rfl rfl ?_
                    refine fr_ifEq ?_ ?_
                    · refine fr_ldI 1 0 rfl rfl rfl ?_
                      refine fr_elpK fun a1 ha1 => ?_
                      refine fr_ld fun v1 => ?_
                      refine fr_ifEq ?_ ?_
                      · refine fr_ldI 1 1 rfl rfl rfl ?_
                        refine fr_ifEq ?_ ?_
                        · refine fr_ldI 1 1 rfl rfl rfl ?_
                          refine fr_elpK fun a2 ha2 => ?_
                          refine fr_ld fun v2 => ?_
                          refine fr_ifS ?_ ?_
                          · refine fr_ifS ?_ ?_
                            · refine fr_smR fun v3 => ?_
                              refine fr_ifS ?_ ?_
                              · refine fr_ifEq ?_ ?_
                                · refine fr_ifEq ?_ ?_
                                  · exact fr_end
                                  · exact fr_end
                                · exact fr_end
                              · exact fr_end
                            · exact fr_end
                          · exact fr_end
                        · exact fr_end
                      · exact fr_end
                    · exact fr_end
                  · exact fr_end
                · exact fr_end
              · exact fr_end
            · exact fr_end
          · exact fr_end
        · exact fr_end
      · refine fr_nw fun n5 => ?_
        refine fr_cl fun r14 => ?_
        refine fr_nw fun n6 => ?_
        refine fr_cl fun r15 => ?_
        refine fr_cl fun r16 => ?_
        refine fr_nwL fun n7 => ?_
        refine fr_stI 0 0 rfl rfl rfl rfl ?_
        refine fr_cl fun r17 => ?_
        refine fr_cl fun r18 => ?_
        refine fr_cl fun r19 => ?_
        refine fr_nwL fun n8 => ?_
        refine fr_stI 0 0 rfl rfl rfl rfl ?_
        refine fr_ifEq ?_ ?_
        · refine fr_ifEq ?_ ?_
          · exact fr_end
          · exact fr_end
        · exact fr_end
    · refine fr_nw fun n9 => ?_
      refine fr_cl fun r20 => ?_
      refine fr_nw fun n10 => ?_
      refine fr_cl fun r21 => ?_
      refine fr_cl fun r22 => ?_
      refine fr_nwL fun n11 => ?_
      refine fr_stI 0 0 rfl rfl rfl rfl ?_
      refine fr_cl fun r23 => ?_
      refine fr_cl fun r24 => ?_
      refine fr_cl fun r25 => ?_
      refine fr_nwL fun n12 => ?_
      refine fr_stI 0 0 rfl rfl rfl rfl ?_
      refine fr_ifEq ?_ ?_
      · refine fr_ifEq ?_ ?_
        · exact fr_end
        · exact fr_end
      · exact fr_end

/-- depot/rebuild.Read -/
def s6 (x0 : Option Addr) (K : Value → HP) : HP :=
  nw (.cells #[.pointer x0] 25) fun n1 =>
  ld ⟨n1, 0, none⟩ (.lf .ptr) fun v1 =>
  ifB (Option.isNone v1) (
   K (.tuple #[.agg #[.slice none 0 0, .slice none 0 0, .int .i64 0], .int .i64 1])) (
   ld ⟨n1, 0, none⟩ (.lf .ptr) fun v2 =>
   cl PP 7 #[.pointer v2] [.lf .bool] fun r1 =>
   ifB r1.1 (
    K (.tuple #[.agg #[.slice none 0 0, .slice none 0 0, .int .i64 0], .int .i64 11])) (
    ld ⟨n1, 0, none⟩ (.lf .ptr) fun v3 =>
    cl PP 24 #[.pointer v3] [.lf .sl, .lf .sl, .lf (.int .i64)] fun r2 =>
    nw (.cells #[.slice none 0 0] 67) fun n3 =>
    st ⟨n3, 0, none⟩ [.slice r2.2.1.a r2.2.1.len r2.2.1.cap] <|
    ifB (decide ((r2.2.2.1 : Int) = 0)) (
     lp [.lf (.int .i64), .lf (.int .i64)] (0, 0, ()) fun z1 go1 =>   -- , n4.2
      ifB (decide ((z1.1 : Int) < r2.1.len)) (
       elp r2.1.a r2.1.len z1.1 3 fun a1 =>
       ld a1 (.agg [.int .i64, .int .i64, .sl]) fun v4 =>
       w64 (z1.1 + 1) fun i1 =>
       go1 (i1, imax z1.2.1 v4.2.1, ())) (
       nw (.cells #[.slice none 0 0] 31) fun n6 =>
       nw (.map #[] 0) fun n7 =>
       nw (.cells #[.map none] 70) fun n8 =>
       st ⟨n8, 0, none⟩ [.map (some n7)] <|
       cl PP 25 #[.slice r2.1.a r2.1.len r2.1.cap, .int .i64 2, .func (.func 26) #[] #[.pointer (some ⟨n1, 0, none⟩), .pointer (some ⟨n6, 0, none⟩), .pointer (some ⟨n8, 0, none⟩)]] [] fun r3 =>
       nw (.map #[] 0) fun n9 =>
       nw (.cells #[.map none] 75) fun n10 =>
       st ⟨n10, 0, none⟩ [.map (some n9)] <|
       cl PP 25 #[.slice r2.1.a r2.1.len r2.1.cap, .int .i64 3, .func (.func 27) #[] #[.pointer (some ⟨n3, 0, none⟩), .pointer (some ⟨n10, 0, none⟩)]] [] fun r4 =>
       ld ⟨n6, 0, none⟩ (.lf .sl) fun v5 =>
       lp [.lf (.int .i64)] (0, ()) fun z2 go2 =>   -- 
        ifB (decide ((z2.1 : Int) < v5.len)) (
         elp v5.a v5.len z2.1 4 fun a2 =>
         ld a2 (.agg [.str, .int .i64, .int .i64, .int .i64]) fun v6 =>
         ld ⟨n10, 0, none⟩ (.lf .map) fun v7 =>
         ld ⟨n8, 0, none⟩ (.lf .map) fun v8 =>
         smR PP (Instr.lookup 70 (.map v8) (.string v6.1) false) [.agg [.int .i64, .int .i64, .int .i64]] fun v9 =>
         smR PP (Instr.lookup 75 (.map v7) (.agg #[.int .i64 v9.1.1, .int .i64 v9.1.2.1, .int .i64 v9.1.2.2.1]) false) [.lf .bool] fun v10 =>
         ifB v10.1 (
          ld ⟨n8, 0, none⟩ (.lf .map) fun v11 =>
          smW PP (Builtin.delete_ #[70, 9] 0 #[.map v11, .string v6.1]) [] fun v12 =>
          w64 (z2.1 + 1) fun i2 =>
          go2 (i2, ())) (
          w64 (z2.1 + 1) fun i3 =>
          go2 (i3, ()))) (
         ld ⟨n6, 0, none⟩ (.lf .sl) fun v13 =>
         lp [.lf (.int .i64), .lf .sl, .lf (.int .i64)] (0, ⟨none, 0, 0⟩, z1.2.1, ()) fun z3 go3 =>   -- , n4.1, n4.2
          ifB (decide ((z3.1 : Int) < v13.len)) (
           elp v13.a v13.len z3.1 4 fun a3 =>
           ld a3 (.agg [.str, .int .i64, .int .i64, .int .i64]) fun v14 =>
           ld ⟨n8, 0, none⟩ (.lf .map) fun v15 =>
           smR PP (Instr.lookup 70 (.map v15) (.string v14.1) true) [.agg [.int .i64, .int .i64, .int .i64], .lf .bool] fun v16 =>
           ifB v16.2.1 (
            smP PP (binOp .eql 41 (.agg #[.int .i64 v16.1.1, .int .i64 v16.1.2.1, .int .i64 v16.1.2.2.1]) (.agg #[.int .i64 v14.2.1, .int .i64 v14.2.2.1, .int .i64 v14.2.2.2.1])) (.lf .bool) fun v17 =>
            ifB v17 (
             apv PP 31 31 31 43 z3.2.1 1 [.string v14.1, .int .i64 v14.2.1, .int .i64 v14.2.2.1, .int .i64 v14.2.2.2.1] fun s1 =>
             w64 (z3.1 + 1) fun i4 =>
             go3 (i4, s1, z3.2.2.1, ())) (
             w64 (z3.1 + 1) fun i5 =>
             go3 (i5, z3.2.1, z3.2.2.1, ()))) (
            w64 (z3.1 + 1) fun i6 =>
            go3 (i6, z3.2.1, z3.2.2.1, ()))) (
           K (.tuple #[.agg #[.slice r2.1.a r2.1.len r2.1.cap, .slice z3.2.1.a z3.2.1.len z3.2.1.cap, .int .i64 z3.2.2.1], .int .i64 0]))))) (
     K (.tuple #[.agg #[.slice none 0 0, .slice none 0 0, .int .i64 0], .int .i64 r2.2.2.1]))))
theorem c6 (x0 : Option Addr) {K : Value → HP} {L : HList} (h : s6 x0 (HL.Ends K) L) : CallF PP 6 #[.pointer x0] L K := by
  refine CallF.of (args := [.pointer x0]) noNum mixed Tryd.func6 (e6 x0 _) (fr_run ?_ h)
  unfold s6 t6
  refine fr_nw fun n1 => ?_
  refine fr_nwL fun n2 => ?_
  refine fr_ld fun v1 => ?_
  refine fr_ifB ?_ ?_
  · refine fr_stI 0 0 rfl rfl rfl rfl ?_
    refine fr_ldI 0 0 rfl rfl rfl ?_
    exact fr_end
  · refine fr_ld fun v2 => ?_
    refine fr_cl fun r1 => ?_
    refine fr_ifB ?_ ?_
    · refine fr_stI 0 0 rfl rfl rfl rfl ?_
      refine fr_ldI 0 0 rfl rfl rfl ?_
      exact fr_end
    · refine fr_ld fun v3 => ?_
      refine fr_cl fun r2 => ?_
      refine fr_nw fun n3 => ?_
      refine fr_st ?_
      refine fr_ifNe ?_ ?_
      · refine fr_stI 0 0 rfl rfl rfl rfl ?_
        refine fr_ldI 0 0 rfl rfl rfl ?_
        exact fr_end
      · refine fr_nwL fun n4 => ?_
        refine fr_stI 0 0 rfl rfl rfl rfl ?_
        refine fr_lp (fun z1 => [(n4, .cells #[.slice r2.1.a r2.1.len r2.1.cap, .slice none 0 0, .int .i64 z1.2.1] 33 (0, 0))]) (fun z1 => (z1.1, ())) rfl rfl fun go1' go1 hgo1 z1 => ?_
        refine fr_ifB ?_ ?_
        · refine fr_elpK fun a1 ha1 => ?_
          refine fr_ld fun v4 => ?_
          refine fr_nwL fun n5 => ?_
          refine fr_stI 0 0 rfl rfl rfl rfl ?_
          refine fr_ldI 1 2 rfl rfl rfl ?_
          refine fr_ldI 0 1 rfl rfl rfl ?_
          refine fr_stI 1 2 rfl rfl rfl rfl ?_
          refine fr_w64 ?_
          refine fr_front 2 rfl rfl ?_
          refine fr_front 2 rfl rfl ?_
          exact fr_wk (hgo1 _) rfl
        · refine fr_nw fun n6 => ?_
          refine fr_nw fun n7 => ?_
          refine fr_nw fun n8 => ?_
          refine fr_st ?_
          refine fr_cl fun r3 => ?_
          refine fr_nw fun n9 => ?_
          refine fr_nw fun n10 => ?_
          refine fr_st ?_
          refine fr_cl fun r4 => ?_
          refine fr_ld fun v5 => ?_
          refine fr_lp0 fun go2' go2 hgo2 z2 => ?_
          refine fr_ifB ?_ ?_
          · refine fr_elpK fun a2 ha2 => ?_
            refine fr_ld fun v6 => ?_
            refine fr_nwL fun n11 => ?_
            refine fr_stI 0 0 rfl rfl rfl rfl ?_
            refine fr_ld fun v7 => ?_
            refine fr_ld fun v8 => ?_
            refine fr_ldI 0 0 rfl rfl rfl ?_
            refine fr_smR fun v9 => ?_
            refine fr_smR fun v10 => ?_
            refine fr_ifB ?_ ?_
            · refine fr_ld fun v11 => ?_
              refine fr_ldI 0 0 rfl rfl rfl ?_
              refine fr_smW fun v12 => ?_
              refine fr_w64 ?_
              refine fr_front 2 rfl rfl ?_
              refine fr_front 2 rfl rfl ?_
              exact fr_wk (hgo2 _) rfl
            · refine fr_w64 ?_
              refine fr_front 2 rfl rfl ?_
              refine fr_front 2 rfl rfl ?_
              exact fr_wk (hgo2 _) rfl
          · refine fr_ld fun v13 => ?_
            refine fr_lp (fun z3 => [(n4, .cells #[.slice r2.1.a r2.1.len r2.1.cap, .slice z3.2.1.a z3.2.1.len z3.2.1.cap, .int .i64 z3.2.2.1] 33 (0, 0))]) (fun z3 => (z3.1, ())) rfl rfl fun go3' go3 hgo3 z3 => ?_
            refine fr_ifB ?_ ?_
            · refine fr_elpK fun a3 ha3 => ?_
              refine fr_ld fun v14 => ?_
              refine fr_nwL fun n12 => ?_
              refine fr_stI 0 0 rfl rfl rfl rfl ?_
              refine fr_ld fun v15 => ?_
              refine fr_ldI 0 0 rfl rfl rfl ?_
              refine fr_smR fun v16 => ?_
              refine fr_nwL fun n13 => ?_
              refine fr_stI 0 0 rfl rfl rfl rfl ?_
              refine fr_ifB ?_ ?_
              · refine fr_ldI 0 0 rfl rfl rfl ?_
                refine fr_ldI 1 1 rfl rfl rfl ?_
                refine fr_smP fun v17 => ?_
                refine fr_ifB ?_ ?_
                · refine fr_ldI 2 1 rfl rfl rfl ?_
                  refine fr_ldI 1 0 rfl rfl rfl ?_
                  refine fr_nwL fun n14 => ?_
                  refine fr_apv (v := _) 0 rfl fun s1 => ?_
                  refine fr_stI 3 1 rfl rfl rfl rfl ?_
                  refine fr_w64 ?_
                  refine fr_front 4 rfl rfl ?_
                  refine fr_front 4 rfl rfl ?_
                  exact fr_wk (hgo3 _) rfl
                · refine fr_w64 ?_
                  refine fr_front 3 rfl rfl ?_
                  refine fr_front 3 rfl rfl ?_
                  exact fr_wk (hgo3 _) rfl
              · refine fr_w64 ?_
                refine fr_front 3 rfl rfl ?_
                refine fr_front 3 rfl rfl ?_
                exact fr_wk (hgo3 _) rfl
            · refine fr_ldI 0 0 rfl rfl rfl ?_
              refine fr_stI 1 0 rfl rfl rfl rfl ?_
              refine fr_ldI 1 0 rfl rfl rfl ?_
              exact fr_end

/-- depot/rebuild.Fetch -/
def s8 (x0 : Option Addr) (x1 : ShV (.agg [.int .i64, .int .i64, .int .i64])) (K : Value → HP) : HP :=
  cl PP 30 #[.pointer x0, .int .i64 x1.1, .int .i64 0] [.lf .sl, .lf (.int .i64)] fun r1 =>
  ifB (decide ((r1.2.1 : Int) = 0)) (
   lp [.lf .sl, .lf (.int .i64)] (⟨none, 0, 0⟩, 1, ()) fun z1 go1 =>   -- l, n
    ifB (decide ((z1.1.len : Int) < z1.2.1)) (
     w64 (x1.2.1 + z1.1.len) fun i1 =>
     cl PP 30 #[.pointer x0, .int .i64 x1.1, .int .i64 i1] [.lf .sl, .lf (.int .i64)] fun r2 =>
     ifB (decide ((r2.2.1 : Int) = 0)) (
      cl PP 31 #[.slice r2.1.a r2.1.len r2.1.cap] [.agg [.int .i64, .int .i64, .int .i64, .int .i64, .int .i64], .lf .sl, .lf (.int .i64)] fun r3 =>
      ifB (decide ((r3.2.2.1 : Int) = 0)) (
       jn (fun y1 : RsV [.lf (.int .i64)] =>
        apv PP 66 66 66 44 z1.1 1 [.slice r3.2.1.a r3.2.1.len r3.2.1.cap] fun s1 =>
        go1 (s1, y1.1, ())) fun j1 =>
       ifB (decide ((z1.1.len : Int) = 0)) (
         ifB (decide ((r3.1.1 : Int) = 2)) (
          ifB (decide ((r3.1.2.1 : Int) = 0)) (
           ifB (decide ((r3.1.2.2.2.1 : Int) = x1.2.2.1)) (
            ifB (decide ((r3.1.2.2.2.2.1 : Int) = x1.2.1)) (
             j1 (r3.1.2.2.1, ())) (
             K (.tuple #[.string (ByteArray.mk #[]), .slice none 0 0, .int .i64 8]))) (
            K (.tuple #[.string (ByteArray.mk #[]), .slice none 0 0, .int .i64 8]))) (
           K (.tuple #[.string (ByteArray.mk #[]), .slice none 0 0, .int .i64 8]))) (
          K (.tuple #[.string (ByteArray.mk #[]), .slice none 0 0, .int .i64 8]))) (
         j1 (z1.2.1, ()))) (
       K (.tuple #[.string (ByteArray.mk #[]), .slice none 0 0, .int .i64 8]))) (
      K (.tuple #[.string (ByteArray.mk #[]), .slice none 0 0, .int .i64 8]))) (
     cl PP 32 #[.slice z1.1.a z1.1.len z1.1.cap] [.lf .str, .lf .sl, .lf (.int .i64)] fun r4 =>
     K (.tuple #[.string r4.1, .slice r4.2.1.a r4.2.1.len r4.2.1.cap, .int .i64 r4.2.2.1]))) (
   K (.tuple #[.string (ByteArray.mk #[]), .slice none 0 0, .int .i64 r1.2.1]))
theorem c8 (x0 : Option Addr) (x1 : ShV (.agg [.int .i64, .int .i64, .int .i64])) {K : Value → HP} {L : HList} (h : s8 x0 x1 (HL.Ends K) L) : CallF PP 8 #[.pointer x0, .agg #[.int .i64 x1.1, .int .i64 x1.2.1, .int .i64 x1.2.2.1]] L K := by
  refine CallF.of (args := [.pointer x0, .agg #[.int .i64 x1.1, .int .i64 x1.2.1, .int .i64 x1.2.2.1]]) noNum mixed Tryd.func8 (e8 x0 x1 _) (fr_run ?_ h)
  unfold s8 t8
  refine fr_nwL fun n1 => ?_
  refine fr_ldI 0 0 rfl rfl rfl ?_
  refine fr_cl fun r1 => ?_
  refine fr_ifNe ?_ ?_
  · exact fr_end
  · refine fr_lp0 fun go1' go1 hgo1 z1 => ?_
    refine fr_ifB ?_ ?_
    · refine fr_ldI 0 0 rfl rfl rfl ?_
      refine fr_ldI 0 1 rfl rfl rfl ?_
      refine fr_w64 ?_
      refine fr_cl fun r2 => ?_
      refine fr_ifNe ?_ ?_
      · exact fr_end
      · refine fr_cl fun r3 => ?_
        refine fr_nwL fun n2 => ?_
        refine fr_stI 0 0 rfl rfl rfl rfl ?_
        refine fr_ifNe ?_ ?_
        · exact fr_end
        · refine fr_jn0 (fun y1 => ?_) fun j1' j1 hj1 => ?_
          · refine fr_nwL fun n3 => ?_
            refine fr_apv (v := _) 0 rfl fun s1 => ?_
            refine fr_front 2 rfl rfl ?_
            exact fr_wk (hgo1 _) rfl
          · refine fr_ifEq ?_ ?_
            · refine fr_ldI 0 0 rfl rfl rfl ?_
              refine fr_ifNe ?_ ?_
              · exact fr_end
              · refine fr_ldI 0 1 rfl rfl rfl ?_
                refine fr_ifNe ?_ ?_
                · exact fr_end
                · refine fr_ldI 0 3 rfl rfl rfl ?_
                  refine fr_ldI 1 2 rfl rfl rfl ?_
                  refine fr_ifNe ?_ ?_
                  · exact fr_end
                  · refine fr_ldI 0 4 rfl rfl rfl ?_
                    refine fr_ldI 1 1 rfl rfl rfl ?_
                    refine fr_ifNe ?_ ?_
                    · exact fr_end
                    · refine fr_ldI 0 2 rfl rfl rfl ?_
                      exact fr_wk (hj1 _) rfl
            · exact fr_wk (hj1 _) rfl
    · refine fr_cl fun r4 => ?_
      exact fr_end

end Go.Proofs.YtlabcgnegbdlfaaDoor
set_option linter.unusedVariables false
set_option maxRecDepth 100000
namespace Go.Proofs.YtlabcgnegbdlfaaDoor
open Go.HL
/-- depot/depotlaw30.device -/
def s19 (K : Value → HP) : HP :=
  K (.agg #[.int .i64 4, .int .i64 8, .int .i64 64, .int .i64 9])
theorem c19 {K : Value → HP} {L : HList} (h : s19 (HL.Ends K) L) : CallF PP 19 #[] L K := by
  refine CallF.of (args := []) noNum mixed Tryd.func19 (e19 _) (fr_run ?_ h)
  unfold s19 t19
  refine fr_nwL fun n1 => ?_
  refine fr_stI 0 0 rfl rfl rfl rfl ?_
  refine fr_ldI 0 0 rfl rfl rfl ?_
  exact fr_end

/-- depot/region.Open -/
def s20 (x0 : Option Addr) (x1 : Int) (x2 : Int) (K : Value → HP) : HP :=
  cl PP 44 #[.pointer x0, .int .i64 x1, .agg #[.int .i64 1, .int .i64 0, .int .i64 1, .int .i64 x2, .int .i64 0], .slice none 0 0] [.lf (.int .i64)] fun r1 =>
  K (.int .i64 r1.1)
theorem c20 (x0 : Option Addr) (x1 : Int) (x2 : Int) {K : Value → HP} {L : HList} (h : s20 x0 x1 x2 (HL.Ends K) L) : CallF PP 20 #[.pointer x0, .int .i64 x1, .int .i64 x2] L K := by
  refine CallF.of (args := [.pointer x0, .int .i64 x1, .int .i64 x2]) noNum mixed Tryd.func20 (e20 x0 x1 x2 _) (fr_run ?_ h)
  unfold s20 t20
  refine fr_cl fun r1 => ?_
  exact fr_end

/-- depot/depotlaw30.put -/
def s21 (x0 : Option Addr) (x1 : Int) (x2 : Int) (x3 : ByteArray) (x4 : ByteArray) (K : Value → HP) : HP :=
  smA PP (Conv.stringToBytes 5 x4) (.lf .sl) fun v1 =>
  cl PP 19 #[] [.agg [.int .i64, .int .i64, .int .i64, .int .i64]] fun r1 =>
  cl PP 45 #[.string x3, .slice v1.a v1.len v1.cap, .agg #[.int .i64 r1.1.1, .int .i64 r1.1.2.1, .int .i64 r1.1.2.2.1, .int .i64 r1.1.2.2.2.1]] [.lf .sl, .lf (.int .i64)] fun r2 =>
  ifB (decide ((r2.2.1 : Int) = 0)) (
   cl PP 46 #[.pointer x0, .int .i64 x1] [.lf (.int .i64)] fun r3 =>
   cl PP 23 #[.pointer x0, .int .i64 x1, .int .i64 x2, .int .i64 r3.1, .int .i64 2, .slice r2.1.a r2.1.len r2.1.cap] [.lf (.int .i64)] fun r4 =>
   K (.bool ((r4.1 : Int) == 0))) (
   K (.bool false))
theorem c21 (x0 : Option Addr) (x1 : Int) (x2 : Int) (x3 : ByteArray) (x4 : ByteArray) {K : Value → HP} {L : HList} (h : s21 x0 x1 x2 x3 x4 (HL.Ends K) L) : CallF PP 21 #[.pointer x0, .int .i64 x1, .int .i64 x2, .string x3, .string x4] L K := by
  refine CallF.of (args := [.pointer x0, .int .i64 x1, .int .i64 x2, .string x3, .string x4]) noNum mixed Tryd.func21 (e21 x0 x1 x2 x3 x4 _) (fr_run ?_ h)
  unfold s21 t21
  refine fr_smA fun v1 => ?_
  refine fr_cl fun r1 => ?_
  refine fr_cl fun r2 => ?_
  refine fr_ifEq ?_ ?_
  · refine fr_cl fun r3 => ?_
    refine fr_cl fun r4 => ?_
    exact fr_end
  · exact fr_end

/-- depot/region.Append -/
def s23 (x0 : Option Addr) (x1 : Int) (x2 : Int) (x3 : Int) (x4 : Int) (x5 : SlV) (K : Value → HP) : HP :=
  ifB (decide ((x5.len : Int) = 0)) (
   K (.int .i64 2)) (
   lp [.lf (.int .i64), .lf (.int .i64), .lf (.int .i64), .lf (.int .i64), .lf (.int .i64), .lf (.int .i64)] (0, x4, 0, x5.len, x2, x3, ()) fun z1 go1 =>   -- , n1.0, n1.1, n1.2, n1.3, n1.4
    ifB (decide ((z1.1 : Int) < x5.len)) (
     elp x5.a x5.len z1.1 1 fun a1 =>
     ld a1 (.lf .sl) fun v1 =>
     cl PP 44 #[.pointer x0, .int .i64 x1, .agg #[.int .i64 z1.2.1, .int .i64 z1.1, .int .i64 z1.2.2.2.1, .int .i64 z1.2.2.2.2.1, .int .i64 z1.2.2.2.2.2.1], .slice v1.a v1.len v1.cap] [.lf (.int .i64)] fun r1 =>
     ifB (decide ((r1.1 : Int) = 0)) (
      w64 (z1.2.2.2.2.2.1 + 1) fun i1 =>
      w64 (z1.1 + 1) fun i2 =>
      go1 (i2, z1.2.1, z1.1, z1.2.2.2.1, z1.2.2.2.2.1, i1, ())) (
      K (.int .i64 r1.1))) (
     K (.int .i64 0)))
theorem c23 (x0 : Option Addr) (x1 : Int) (x2 : Int) (x3 : Int) (x4 : Int) (x5 : SlV) {K : Value → HP} {L : HList} (h : s23 x0 x1 x2 x3 x4 x5 (HL.Ends K) L) : CallF PP 23 #[.pointer x0, .int .i64 x1, .int .i64 x2, .int .i64 x3, .int .i64 x4, .slice x5.a x5.len x5.cap] L K := by
  refine CallF.of (args := [.pointer x0, .int .i64 x1, .int .i64 x2, .int .i64 x3, .int .i64 x4, .slice x5.a x5.len x5.cap]) noNum mixed Tryd.func23 (e23 x0 x1 x2 x3 x4 x5 _) (fr_run ?_ h)
  unfold s23 t23
  refine fr_ifEq ?_ ?_
  · exact fr_end
  · refine fr_nwL fun n1 => ?_
    refine fr_stI 0 0 rfl rfl rfl rfl ?_
    refine fr_lp (fun z1 => [(n1, .cells #[.int .i64 z1.2.1, .int .i64 z1.2.2.1, .int .i64 z1.2.2.2.1, .int .i64 z1.2.2.2.2.1, .int .i64 z1.2.2.2.2.2.1] 88 (0, 0))]) (fun z1 => (z1.1, ())) rfl rfl fun go1' go1 hgo1 z1 => ?_
    refine fr_ifB ?_ ?_
    · refine fr_elpK fun a1 ha1 => ?_
      refine fr_ld fun v1 => ?_
      refine fr_stI 0 1 rfl rfl rfl rfl ?_
      refine fr_ldI 0 0 rfl rfl rfl ?_
      refine fr_cl fun r1 => ?_
      refine fr_ifNe ?_ ?_
      · exact fr_end
      · refine fr_ldI 0 4 rfl rfl rfl ?_
        refine fr_w64 ?_
        refine fr_stI 0 4 rfl rfl rfl rfl ?_
        refine fr_w64 ?_
        exact fr_wk (hgo1 _) rfl
    · exact fr_end

/-- depot/rebuild.hold -/
def s24 (x0 : Option Addr) (K : Value → HP) : HP :=
  cl PP 50 #[.pointer x0] [.agg [.int .i64, .int .i64, .int .i64, .int .i64]] fun r1 =>
  lp [.lf .sl, .lf .sl, .lf (.int .i64)] (⟨none, 0, 0⟩, ⟨none, 0, 0⟩, 0, ()) fun z1 go1 =>   -- l, pages, 
   ifB (decide ((z1.2.2.1 : Int) < r1.1.1)) (
    cl PP 51 #[.pointer x0, .int .i64 z1.2.2.1] [.lf .sl, .lf (.int .i64)] fun r2 =>
    ifB (decide ((r2.2.1 : Int) = 0)) (
     apv PP 67 67 67 66 z1.2.1 1 [.slice r2.1.a r2.1.len r2.1.cap] fun s1 =>
     cl PP 52 #[.slice r2.1.a r2.1.len r2.1.cap] [.agg [.int .i64, .bool, .sl], .lf .bool] fun r3 =>
     ifB r3.2.1 (
      apv PP 30 30 30 39 z1.1 1 [.int .i64 z1.2.2.1, .int .i64 r3.1.1, .slice r3.1.2.2.1.a r3.1.2.2.1.len r3.1.2.2.1.cap] fun s2 =>
      w64 (z1.2.2.1 + 1) fun i1 =>
      go1 (s2, s1, i1, ())) (
      w64 (z1.2.2.1 + 1) fun i2 =>
      go1 (z1.1, s1, i2, ()))) (
     K (.tuple #[.slice none 0 0, .slice none 0 0, .int .i64 r2.2.1]))) (
    cl PP 53 #[.slice z1.1.a z1.1.len z1.1.cap, .func (.func 54) #[] #[]] [] fun r4 =>
    K (.tuple #[.slice z1.1.a z1.1.len z1.1.cap, .slice z1.2.1.a z1.2.1.len z1.2.1.cap, .int .i64 0]))
theorem c24 (x0 : Option Addr) {K : Value → HP} {L : HList} (h : s24 x0 (HL.Ends K) L) : CallF PP 24 #[.pointer x0] L K := by
  refine CallF.of (args := [.pointer x0]) noNum mixed Tryd.func24 (e24 x0 _) (fr_run ?_ h)
  unfold s24 t24
  refine fr_cl fun r1 => ?_
  refine fr_lp0 fun go1' go1 hgo1 z1 => ?_
  refine fr_ifB ?_ ?_
  · refine fr_cl fun r2 => ?_
    refine fr_ifNe ?_ ?_
    · exact fr_end
    · refine fr_nwL fun n1 => ?_
      refine fr_apv (v := _) 0 rfl fun s1 => ?_
      refine fr_cl fun r3 => ?_
      refine fr_nwL fun n2 => ?_
      refine fr_stI 0 0 rfl rfl rfl rfl ?_
      refine fr_ifB ?_ ?_
      · refine fr_ldI 0 0 rfl rfl rfl ?_
        refine fr_ldI 0 2 rfl rfl rfl ?_
        refine fr_nwL fun n3 => ?_
        refine fr_apv (v := _) 0 rfl fun s2 => ?_
        refine fr_w64 ?_
        exact fr_wk (hgo1 _) rfl
      · refine fr_w64 ?_
        exact fr_wk (hgo1 _) rfl
  · refine fr_cl fun r4 => ?_
    exact fr_end

/-- depot/rebuild.each -/
def s25 (x0 : SlV) (x1 : Int) (x2 : FnV) (K : Value → HP) : HP :=
  lp [.lf (.int .i64)] (0, ()) fun z1 go1 =>   -- 
   ifB (decide ((z1.1 : Int) < x0.len)) (
    elp x0.a x0.len z1.1 3 fun a1 =>
    ld a1 (.agg [.int .i64, .int .i64, .sl]) fun v1 =>
    lp [.lf (.int .i64)] (0, ()) fun z2 go2 =>   -- 
     ifB (decide ((z2.1 : Int) < v1.2.2.1.len)) (
      elp v1.2.2.1.a v1.2.2.1.len z2.1 3 fun a2 =>
      ld a2 (.agg [.int .i64, .int .i64, .int .i64]) fun v2 =>
      ifB (decide ((v2.1 : Int) = x1)) (
       clv PP x2.fn (x2.first ++ #[.agg #[.int .i64 v1.1, .int .i64 v1.2.1, .slice v1.2.2.1.a v1.2.2.1.len v1.2.2.1.cap], .agg #[.int .i64 v2.1, .int .i64 v2.2.1, .int .i64 v2.2.2.1]]) x2.captured [] fun r1 =>
       w64 (z2.1 + 1) fun i1 =>
       go2 (i1, ())) (
       w64 (z2.1 + 1) fun i2 =>
       go2 (i2, ()))) (
      w64 (z1.1 + 1) fun i3 =>
      go1 (i3, ()))) (
    K (.tuple #[]))
theorem c25 (x0 : SlV) (x1 : Int) (x2 : FnV) {K : Value → HP} {L : HList} (h : s25 x0 x1 x2 (HL.Ends K) L) : CallF PP 25 #[.slice x0.a x0.len x0.cap, .int .i64 x1, .func x2.fn x2.first x2.captured] L K := by
  refine CallF.of (args := [.slice x0.a x0.len x0.cap, .int .i64 x1, .func x2.fn x2.first x2.captured]) noNum mixed Tryd.func25 (e25 x0 x1 x2 _) (fr_run ?_ h)
  unfold s25 t25
  refine fr_lp0 fun go1' go1 hgo1 z1 => ?_
  refine fr_ifB ?_ ?_
  · refine fr_elpK fun a1 ha1 => ?_
    refine fr_ld fun v1 => ?_
    refine fr_nwL fun n1 => ?_
    refine fr_stI 0 0 rfl rfl rfl rfl ?_
    refine fr_ldI 0 2 rfl rfl rfl ?_
    refine fr_lp0 fun go2' go2 hgo2 z2 => ?_
    refine fr_ifB ?_ ?_
    · refine fr_elpK fun a2 ha2 => ?_
      refine fr_ld fun v2 => ?_
      refine fr_nwL fun n2 => ?_
      refine fr_stI 0 0 rfl rfl rfl rfl ?_
      refine fr_ldI 0 0 rfl rfl rfl ?_
      refine fr_ifEq ?_ ?_
      · refine fr_ldI 1 0 rfl rfl rfl ?_
        refine fr_ldI 0 0 rfl rfl rfl ?_
        refine fr_clv fun r1 => ?_
        refine fr_w64 ?_
        refine fr_front 1 rfl rfl ?_
        exact fr_wk (hgo2 _) rfl
      · refine fr_w64 ?_
        refine fr_front 1 rfl rfl ?_
        exact fr_wk (hgo2 _) rfl
    · refine fr_w64 ?_
      exact fr_wk (hgo1 _) rfl
  · exact fr_end

/-- depot/rebuild.Read$1 -/
def s26 (x0 : ShV (.agg [.int .i64, .int .i64, .sl])) (x1 : ShV (.agg [.int .i64, .int .i64, .int .i64])) (x2 : Option Addr) (x3 : Option Addr) (x4 : Option Addr) (K : Value → HP) : HP :=
  nilc x2 fun a1 =>
  ld a1 (.lf .ptr) fun v1 =>
  cl PP 8 #[.pointer v1, .agg #[.int .i64 x0.1, .int .i64 x1.2.1, .int .i64 x0.2.1]] [.lf .str, .lf .sl, .lf (.int .i64)] fun r1 =>
  ifB (decide ((r1.2.2.1 : Int) = 0)) (
   nilc x3 fun a2 =>
   ld a2 (.lf .sl) fun v2 =>
   apv PP 31 31 31 43 v2 1 [.string r1.1, .int .i64 x0.1, .int .i64 x1.2.1, .int .i64 x0.2.1] fun s1 =>
   st a2 [.slice s1.a s1.len s1.cap] <|
   nilc x4 fun a3 =>
   ld a3 (.lf .map) fun v3 =>
   smU PP (Instr.mapUpdate 70 (.map v3) (.string r1.1) (.agg #[.int .i64 x0.1, .int .i64 x1.2.1, .int .i64 x0.2.1])) <|
   K (.tuple #[])) (
   K (.tuple #[]))
theorem c26 (x0 : ShV (.agg [.int .i64, .int .i64, .sl])) (x1 : ShV (.agg [.int .i64, .int .i64, .int .i64])) (x2 : Option Addr) (x3 : Option Addr) (x4 : Option Addr) {K : Value → HP} {L : HList} (h : s26 x0 x1 x2 x3 x4 (HL.Ends K) L) : CallF PP 26 #[.agg #[.int .i64 x0.1, .int .i64 x0.2.1, .slice x0.2.2.1.a x0.2.2.1.len x0.2.2.1.cap], .agg #[.int .i64 x1.1, .int .i64 x1.2.1, .int .i64 x1.2.2.1], .pointer x2, .pointer x3, .pointer x4] L K := by
  refine CallF.of (args := [.agg #[.int .i64 x0.1, .int .i64 x0.2.1, .slice x0.2.2.1.a x0.2.2.1.len x0.2.2.1.cap], .agg #[.int .i64 x1.1, .int .i64 x1.2.1, .int .i64 x1.2.2.1], .pointer x2, .pointer x3, .pointer x4]) noNum mixed Tryd.func26 (e26 x0 x1 x2 x3 x4 _) (fr_run ?_ h)
  unfold s26 t26
  refine fr_nwL fun n1 => ?_
  refine fr_nwL fun n2 => ?_
  refine fr_ldI 1 0 rfl rfl rfl ?_
  refine fr_ldI 0 1 rfl rfl rfl ?_
  refine fr_ldI 1 1 rfl rfl rfl ?_
  refine fr_nwL fun n3 => ?_
  refine fr_stI 0 0 rfl rfl rfl rfl ?_
  refine fr_nilcK fun a1 ha1 => ?_
  refine fr_ld fun v1 => ?_
  refine fr_ldI 0 0 rfl rfl rfl ?_
  refine fr_cl fun r1 => ?_
  refine fr_ifEq ?_ ?_
  · refine fr_nilcK fun a2 ha2 => ?_
    refine fr_ld fun v2 => ?_
    refine fr_ldI 0 0 rfl rfl rfl ?_
    refine fr_nwL fun n4 => ?_
    refine fr_apv (v := _) 0 rfl fun s1 => ?_
    refine fr_nilcE ha2 ?_
    refine fr_st ?_
    refine fr_nilcK fun a3 ha3 => ?_
    refine fr_ld fun v3 => ?_
    refine fr_ldI 1 0 rfl rfl rfl ?_
    refine fr_smU ?_
    exact fr_end
  · exact fr_end

/-- depot/rebuild.Read$2 -/
def s27 (x0 : ShV (.agg [.int .i64, .int .i64, .sl])) (x1 : ShV (.agg [.int .i64, .int .i64, .int .i64])) (x2 : Option Addr) (x3 : Option Addr) (K : Value → HP) : HP :=
  nilc x2 fun a1 =>
  ld a1 (.lf .sl) fun v1 =>
  elp v1.a v1.len x0.1 1 fun a2 =>
  ld a2 (.lf .sl) fun v2 =>
  cl PP 28 #[.slice v2.a v2.len v2.cap, .agg #[.int .i64 x1.1, .int .i64 x1.2.1, .int .i64 x1.2.2.1]] [.lf .sl] fun r1 =>
  lp [.lf (.int .i64)] (0, ()) fun z1 go1 =>   -- 
   ifB (decide ((z1.1 : Int) < r1.1.len)) (
    elp r1.1.a r1.1.len z1.1 1 fun a3 =>
    ld a3 (.lf .sl) fun v3 =>
    cl PP 29 #[.slice v3.a v3.len v3.cap] [.lf .sl, .lf (.int .i64)] fun r2 =>
    lp [.lf (.int .i64)] (0, ()) fun z2 go2 =>   -- 
     ifB (decide ((z2.1 : Int) < r2.1.len)) (
      elp r2.1.a r2.1.len z2.1 3 fun a4 =>
      ld a4 (.agg [.int .i64, .int .i64, .int .i64]) fun v4 =>
      nilc x3 fun a5 =>
      ld a5 (.lf .map) fun v5 =>
      smU PP (Instr.mapUpdate 75 (.map v5) (.agg #[.int .i64 v4.1, .int .i64 v4.2.1, .int .i64 v4.2.2.1]) (.bool true)) <|
      w64 (z2.1 + 1) fun i1 =>
      go2 (i1, ())) (
      w64 (z1.1 + 1) fun i2 =>
      go1 (i2, ()))) (
    K (.tuple #[]))
theorem c27 (x0 : ShV (.agg [.int .i64, .int .i64, .sl])) (x1 : ShV (.agg [.int .i64, .int .i64, .int .i64])) (x2 : Option Addr) (x3 : Option Addr) {K : Value → HP} {L : HList} (h : s27 x0 x1 x2 x3 (HL.Ends K) L) : CallF PP 27 #[.agg #[.int .i64 x0.1, .int .i64 x0.2.1, .slice x0.2.2.1.a x0.2.2.1.len x0.2.2.1.cap], .agg #[.int .i64 x1.1, .int .i64 x1.2.1, .int .i64 x1.2.2.1], .pointer x2, .pointer x3] L K := by
  refine CallF.of (args := [.agg #[.int .i64 x0.1, .int .i64 x0.2.1, .slice x0.2.2.1.a x0.2.2.1.len x0.2.2.1.cap], .agg #[.int .i64 x1.1, .int .i64 x1.2.1, .int .i64 x1.2.2.1], .pointer x2, .pointer x3]) noNum mixed Tryd.func27 (e27 x0 x1 x2 x3 _) (fr_run ?_ h)
  unfold s27 t27
  refine fr_nwL fun n1 => ?_
  refine fr_nwL fun n2 => ?_
  refine fr_nilcK fun a1 ha1 => ?_
  refine fr_ld fun v1 => ?_
  refine fr_ldI 1 0 rfl rfl rfl ?_
  refine fr_elpK fun a2 ha2 => ?_
  refine fr_ld fun v2 => ?_
  refine fr_ldI 0 0 rfl rfl rfl ?_
  refine fr_cl fun r1 => ?_
  refine fr_lp0 fun go1' go1 hgo1 z1 => ?_
  refine fr_ifB ?_ ?_
  · refine fr_elpK fun a3 ha3 => ?_
    refine fr_ld fun v3 => ?_
    refine fr_cl fun r2 => ?_
    refine fr_lp0 fun go2' go2 hgo2 z2 => ?_
    refine fr_ifB ?_ ?_
    · refine fr_elpK fun a4 ha4 => ?_
      refine fr_ld fun v4 => ?_
      refine fr_nwL fun n3 => ?_
      refine fr_stI 0 0 rfl rfl rfl rfl ?_
      refine fr_nilcK fun a5 ha5 => ?_
      refine fr_ld fun v5 => ?_
      refine fr_ldI 0 0 rfl rfl rfl ?_
      refine fr_smU ?_
      refine fr_w64 ?_
      refine fr_front 2 rfl rfl ?_
      refine fr_front 2 rfl rfl ?_
      exact fr_wk (hgo2 _) rfl
    · refine fr_w64 ?_
      exact fr_wk (hgo1 _) rfl
  · exact fr_end

/-- depot/region.Parts -/
def s28 (x0 : SlV) (x1 : ShV (.agg [.int .i64, .int .i64, .int .i64])) (K : Value → HP) : HP :=
  lp [.lf .sl, .lf (.int .i64)] (⟨none, 0, 0⟩, 0, ()) fun z1 go1 =>   -- l, i
   ifB (decide ((z1.2.1 : Int) < x1.2.2.1)) (
    ifB (decide ((x1.2.1 : Int) < 0)) (
     K (.slice none 0 0)) (
     w64 (x0.len - z1.2.1) fun i1 =>
     ifB (decide ((x1.2.1 : Int) ≥ i1)) (
      K (.slice none 0 0)) (
      w64 (x1.2.1 + z1.2.1) fun i2 =>
      elp x0.a x0.len i2 1 fun a1 =>
      ld a1 (.lf .sl) fun v1 =>
      cl PP 31 #[.slice v1.a v1.len v1.cap] [.agg [.int .i64, .int .i64, .int .i64, .int .i64, .int .i64], .lf .sl, .lf (.int .i64)] fun r1 =>
      ifB (decide ((r1.2.2.1 : Int) = 0)) (
       apv PP 66 66 66 44 z1.1 1 [.slice r1.2.1.a r1.2.1.len r1.2.1.cap] fun s1 =>
       w64 (z1.2.1 + 1) fun i3 =>
       go1 (s1, i3, ())) (
       K (.slice none 0 0))))) (
    K (.slice z1.1.a z1.1.len z1.1.cap))
theorem c28 (x0 : SlV) (x1 : ShV (.agg [.int .i64, .int .i64, .int .i64])) {K : Value → HP} {L : HList} (h : s28 x0 x1 (HL.Ends K) L) : CallF PP 28 #[.slice x0.a x0.len x0.cap, .agg #[.int .i64 x1.1, .int .i64 x1.2.1, .int .i64 x1.2.2.1]] L K := by
  refine CallF.of (args := [.slice x0.a x0.len x0.cap, .agg #[.int .i64 x1.1, .int .i64 x1.2.1, .int .i64 x1.2.2.1]]) noNum mixed Tryd.func28 (e28 x0 x1 _) (fr_run ?_ h)
  unfold s28 t28
  refine fr_nwL fun n1 => ?_
  refine fr_lp0 fun go1' go1 hgo1 z1 => ?_
  refine fr_ldI 0 2 rfl rfl rfl ?_
  refine fr_ifB ?_ ?_
  · refine fr_ldI 0 1 rfl rfl rfl ?_
    refine fr_ifB ?_ ?_
    · exact fr_end
    · refine fr_ldI 0 1 rfl rfl rfl ?_
      refine fr_w64 ?_
      refine fr_ifB ?_ ?_
      · exact fr_end
      · refine fr_ldI 0 1 rfl rfl rfl ?_
        refine fr_w64 ?_
        refine fr_elpK fun a1 ha1 => ?_
        refine fr_ld fun v1 => ?_
        refine fr_cl fun r1 => ?_
        refine fr_nwL fun n2 => ?_
        refine fr_stI 0 0 rfl rfl rfl rfl ?_
        refine fr_ifNe ?_ ?_
        · exact fr_end
        · refine fr_nwL fun n3 => ?_
          refine fr_apv (v := _) 0 rfl fun s1 => ?_
          refine fr_w64 ?_
          refine fr_front 2 rfl rfl ?_
          exact fr_wk (hgo1 _) rfl
  · exact fr_end

/-- depot/region.program -/
def s44 (x0 : Option Addr) (x1 : Int) (x2 : ShV (.agg [.int .i64, .int .i64, .int .i64, .int .i64, .int .i64])) (x3 : SlV) (K : Value → HP) : HP :=
  cl PP 50 #[.pointer x0] [.agg [.int .i64, .int .i64, .int .i64, .int .i64]] fun r1 =>
  cl PP 69 #[.agg #[.int .i64 x2.1, .int .i64 x2.2.1, .int .i64 x2.2.2.1, .int .i64 x2.2.2.2.1, .int .i64 x2.2.2.2.2.1], .slice x3.a x3.len x3.cap, .int .i64 r1.1.2.2.1] [.lf .sl, .lf (.int .i64)] fun r2 =>
  ifB (decide ((r2.2.1 : Int) = 0)) (
   cl PP 11 #[.pointer x0, .int .i64 x1, .int .i64 x2.2.2.2.2.1, .slice r2.1.a r2.1.len r2.1.cap] [.lf (.int .i64)] fun r3 =>
   K (.int .i64 r3.1)) (
   K (.int .i64 r2.2.1))
theorem c44 (x0 : Option Addr) (x1 : Int) (x2 : ShV (.agg [.int .i64, .int .i64, .int .i64, .int .i64, .int .i64])) (x3 : SlV) {K : Value → HP} {L : HList} (h : s44 x0 x1 x2 x3 (HL.Ends K) L) : CallF PP 44 #[.pointer x0, .int .i64 x1, .agg #[.int .i64 x2.1, .int .i64 x2.2.1, .int .i64 x2.2.2.1, .int .i64 x2.2.2.2.1, .int .i64 x2.2.2.2.2.1], .slice x3.a x3.len x3.cap] L K := by
  refine CallF.of (args := [.pointer x0, .int .i64 x1, .agg #[.int .i64 x2.1, .int .i64 x2.2.1, .int .i64 x2.2.2.1, .int .i64 x2.2.2.2.1, .int .i64 x2.2.2.2.2.1], .slice x3.a x3.len x3.cap]) noNum mixed Tryd.func44 (e44 x0 x1 x2 x3 _) (fr_run ?_ h)
  unfold s44 t44
  refine fr_nwL fun n1 => ?_
  refine fr_ldI 0 0 rfl rfl rfl ?_
  refine fr_cl fun r1 => ?_
  refine fr_keepI 0 0 rfl rfl rfl ?_
  refine fr_cl fun r2 => ?_
  refine fr_ifNe ?_ ?_
  · exact fr_end
  · refine fr_ldI 0 4 rfl rfl rfl ?_
    refine fr_cl fun r3 => ?_
    exact fr_end

end Go.Proofs.YtlabcgnegbdlfaaDoor
set_option linter.unusedVariables false
set_option maxRecDepth 100000
namespace Go.Proofs.YtlabcgnegbdlfaaDoor
open Go.HL
/-- depot/region.Load -/
def s51 (x0 : Option Addr) (x1 : Int) (K : Value → HP) : HP :=
  ifB (Option.isNone x0) (
   K (.tuple #[.slice none 0 0, .int .i64 1])) (
   cl PP 50 #[.pointer x0] [.agg [.int .i64, .int .i64, .int .i64, .int .i64]] fun r1 =>
   lp [.lf .sl, .lf (.int .i64)] (⟨none, 0, 0⟩, 0, ()) fun z1 go1 =>   -- l, 
    ifB (decide ((z1.2.1 : Int) < r1.1.2.1)) (
     cl PP 30 #[.pointer x0, .int .i64 x1, .int .i64 z1.2.1] [.lf .sl, .lf (.int .i64)] fun r2 =>
     ifB (decide ((r2.2.1 : Int) = 0)) (
      apv PP 66 66 66 44 z1.1 1 [.slice r2.1.a r2.1.len r2.1.cap] fun s1 =>
      w64 (z1.2.1 + 1) fun i1 =>
      go1 (s1, i1, ())) (
      K (.tuple #[.slice none 0 0, .int .i64 r2.2.1]))) (
     K (.tuple #[.slice z1.1.a z1.1.len z1.1.cap, .int .i64 0])))
theorem c51 (x0 : Option Addr) (x1 : Int) {K : Value → HP} {L : HList} (h : s51 x0 x1 (HL.Ends K) L) : CallF PP 51 #[.pointer x0, .int .i64 x1] L K := by
  refine CallF.of (args := [.pointer x0, .int .i64 x1]) noNum mixed Tryd.func51 (e51 x0 x1 _) (fr_run ?_ h)
  unfold s51 t51
  refine fr_ifB ?_ ?_
  · exact fr_end
  · refine fr_cl fun r1 => ?_
    refine fr_lp0 fun go1' go1 hgo1 z1 => ?_
    refine fr_ifB ?_ ?_
    · refine fr_cl fun r2 => ?_
      refine fr_ifNe ?_ ?_
      · exact fr_end
      · refine fr_nwL fun n1 => ?_
        refine fr_apv (v := _) 0 rfl fun s1 => ?_
        refine fr_w64 ?_
        exact fr_wk (hgo1 _) rfl
    · exact fr_end

/-- depot/region.Scan -/
def s52 (x0 : SlV) (K : Value → HP) : HP :=
  cl PP 74 #[.slice x0.a x0.len x0.cap] [.lf .ptr] fun r1 =>
  nilc r1.1 fun a1 =>
  ld a1 (.lf .sl) fun v1 =>
  ifB (decide ((v1.len : Int) = 0)) (
   K (.tuple #[.agg #[.int .i64 0, .bool false, .slice none 0 0], .bool false])) (
   ld a1 (.lf .sl) fun v2 =>
   elp v2.a v2.len 0 7 fun a2 =>
   ld (Addr.add a2 3) (.lf (.int .i64)) fun v3 =>
   st (Addr.add a1 1) [.int .i64 v3] <|
   cl PP 75 #[.pointer r1.1, .int .i64 0, .agg #[.int .i64 1, .int .i64 0, .int .i64 1, .int .i64 0, .int .i64 0]] [.lf .sl, .lf .bool] fun r2 =>
   ifB r2.2.1 (
    ifB (decide ((r2.1.len : Int) > 0)) (
     K (.tuple #[.agg #[.int .i64 0, .bool false, .slice none 0 0], .bool false])) (
     jn (fun y1 : RsV [] =>
      ld (Addr.add a1 1) (.lf (.int .i64)) fun v6 =>
      cl PP 77 #[.pointer r1.1, .func (.func 78) #[.pointer r1.1] #[]] [.lf .sl] fun r4 =>
      keep (LdAt (Addr.add a1 1) [.int .i64 v6]) <|
      K (.tuple #[.agg #[.int .i64 v6, .bool false, .slice r4.1.a r4.1.len r4.1.cap], .bool true])) fun j1 =>
     ld (Addr.add a1 2) (.lf (.int .i64)) fun v4 =>
      ifB (decide ((v4 : Int) > 0)) (
       cl PP 76 #[.pointer r1.1] [.lf .sl, .lf .bool] fun r3 =>
       ifB r3.2.1 (
        ld (Addr.add a1 1) (.lf (.int .i64)) fun v5 =>
        K (.tuple #[.agg #[.int .i64 v5, .bool true, .slice r3.1.a r3.1.len r3.1.cap], .bool true])) (
        j1 (()))) (
       j1 (())))) (
    K (.tuple #[.agg #[.int .i64 0, .bool false, .slice none 0 0], .bool false])))
theorem c52 (x0 : SlV) {K : Value → HP} {L : HList} (h : s52 x0 (HL.Ends K) L) : CallF PP 52 #[.slice x0.a x0.len x0.cap] L K := by
  refine CallF.of (args := [.slice x0.a x0.len x0.cap]) noNum mixed Tryd.func52 (e52 x0 _) (fr_run ?_ h)
  unfold s52 t52
  refine fr_nwL fun n1 => ?_
  refine fr_cl fun r1 => ?_
  refine fr_nilcK fun a1 ha1 => ?_
  refine fr_ld fun v1 => ?_
  refine fr_ifEq ?_ ?_
  · refine fr_stI 0 0 rfl rfl rfl rfl ?_
    refine fr_ldI 0 0 rfl rfl rfl ?_
    exact fr_end
  · refine fr_nilcE ha1 ?_
    refine fr_ld fun v2 => ?_
    refine fr_elpK fun a2 ha2 => ?_
    refine fr_ld fun v3 => ?_
    refine fr_nilcE ha1 ?_
    refine fr_st ?_
    refine fr_cl fun r2 => ?_
    refine fr_ifNot ?_ ?_
    · refine fr_stI 0 0 rfl rfl rfl rfl ?_
      refine fr_ldI 0 0 rfl rfl rfl ?_
      exact fr_end
    · refine fr_ifB ?_ ?_
      · refine fr_stI 0 0 rfl rfl rfl rfl ?_
        refine fr_ldI 0 0 rfl rfl rfl ?_
        exact fr_end
      · refine fr_jn0 (fun y1 => ?_) fun j1' j1 hj1 => ?_
        · refine fr_nilcE ha1 ?_
          refine fr_ld fun v6 => ?_
          refine fr_cl fun r4 => ?_
          refine fr_keepL ?_
          refine fr_stI 0 0 rfl rfl rfl rfl ?_
          refine fr_ldI 0 0 rfl rfl rfl ?_
          exact fr_end
        · refine fr_nilcE ha1 ?_
          refine fr_ld fun v4 => ?_
          refine fr_ifB ?_ ?_
          · refine fr_cl fun r3 => ?_
            refine fr_ifB ?_ ?_
            · refine fr_nilcE ha1 ?_
              refine fr_ld fun v5 => ?_
              refine fr_stI 0 0 rfl rfl rfl rfl ?_
              refine fr_ldI 0 0 rfl rfl rfl ?_
              exact fr_end
            · exact fr_wk (hj1 _) rfl
          · exact fr_wk (hj1 _) rfl

/-- slices.SortStableFunc[[]depot/rebuild.Held,depot/rebuild.Held] -/
def s53 (x0 : SlV) (x1 : FnV) (K : Value → HP) : HP :=
  cl PP 79 #[.slice x0.a x0.len x0.cap, .int .i64 x0.len, .func x1.fn x1.first x1.captured] [] fun r1 =>
  K (.tuple #[])
theorem c53 (x0 : SlV) (x1 : FnV) {K : Value → HP} {L : HList} (h : s53 x0 x1 (HL.Ends K) L) : CallF PP 53 #[.slice x0.a x0.len x0.cap, .func x1.fn x1.first x1.captured] L K := by
  refine CallF.of (args := [.slice x0.a x0.len x0.cap, .func x1.fn x1.first x1.captured]) noNum mixed Tryd.func53 (e53 x0 x1 _) (fr_run ?_ h)
  unfold s53 t53
  refine fr_cl fun r1 => ?_
  exact fr_end

/-- depot/rebuild.hold$1 -/
def s54 (x0 : ShV (.agg [.int .i64, .int .i64, .sl])) (x1 : ShV (.agg [.int .i64, .int .i64, .sl])) (K : Value → HP) : HP :=
  w64 (x0.2.1 - x1.2.1) fun i1 =>
  K (.int .i64 i1)
theorem c54 (x0 : ShV (.agg [.int .i64, .int .i64, .sl])) (x1 : ShV (.agg [.int .i64, .int .i64, .sl])) {K : Value → HP} {L : HList} (h : s54 x0 x1 (HL.Ends K) L) : CallF PP 54 #[.agg #[.int .i64 x0.1, .int .i64 x0.2.1, .slice x0.2.2.1.a x0.2.2.1.len x0.2.2.1.cap], .agg #[.int .i64 x1.1, .int .i64 x1.2.1, .slice x1.2.2.1.a x1.2.2.1.len x1.2.2.1.cap]] L K := by
  refine CallF.of (args := [.agg #[.int .i64 x0.1, .int .i64 x0.2.1, .slice x0.2.2.1.a x0.2.2.1.len x0.2.2.1.cap], .agg #[.int .i64 x1.1, .int .i64 x1.2.1, .slice x1.2.2.1.a x1.2.2.1.len x1.2.2.1.cap]]) noNum mixed Tryd.func54 (e54 x0 x1 _) (fr_run ?_ h)
  unfold s54 t54
  refine fr_nwL fun n1 => ?_
  refine fr_nwL fun n2 => ?_
  refine fr_ldI 1 1 rfl rfl rfl ?_
  refine fr_ldI 0 1 rfl rfl rfl ?_
  refine fr_w64 ?_
  exact fr_end

/-- (*depot/region.scanner).each -/
def s77 (x0 : Option Addr) (x1 : FnV) (K : Value → HP) : HP :=
  lp [.lf .sl, .lf (.int .i64)] (⟨none, 0, 0⟩, 1, ()) fun z1 go1 =>   -- l, p
   nilc x0 fun a1 =>
   ld (Addr.add a1 2) (.lf (.int .i64)) fun v1 =>
   ifB (decide ((z1.2.1 : Int) ≤ v1)) (
    clv PP x1.fn (x1.first ++ #[.int .i64 z1.2.1]) x1.captured [.agg [.int .i64, .int .i64, .int .i64], .lf .bool] fun r1 =>
    ifB r1.2.1 (
     apv PP 37 37 37 73 z1.1 1 [.int .i64 r1.1.1, .int .i64 r1.1.2.1, .int .i64 r1.1.2.2.1] fun s1 =>
     w64 (r1.1.2.2.1 - 1) fun i2 =>
     w64 (z1.2.1 + i2) fun i3 =>
     w64 (i3 + 1) fun i4 =>
     go1 (s1, i4, ())) (
     w64 (z1.2.1 + 1) fun i1 =>
     go1 (z1.1, i1, ()))) (
    K (.slice z1.1.a z1.1.len z1.1.cap))
theorem c77 (x0 : Option Addr) (x1 : FnV) {K : Value → HP} {L : HList} (h : s77 x0 x1 (HL.Ends K) L) : CallF PP 77 #[.pointer x0, .func x1.fn x1.first x1.captured] L K := by
  refine CallF.of (args := [.pointer x0, .func x1.fn x1.first x1.captured]) noNum mixed Tryd.func77 (e77 x0 x1 _) (fr_run ?_ h)
  unfold s77 t77
  refine fr_lp0 fun go1' go1 hgo1 z1 => ?_
  refine fr_nilcK fun a1 ha1 => ?_
  refine fr_ld fun v1 => ?_
  refine fr_ifB ?_ ?_
  · refine fr_clv fun r1 => ?_
    refine fr_nwL fun n1 => ?_
    refine fr_stI 0 0 rfl rfl rfl rfl ?_
    refine fr_ifNot ?_ ?_
    · refine fr_w64 ?_
      exact fr_wk (hgo1 _) rfl
    · refine fr_ldI 0 0 rfl rfl rfl ?_
      refine fr_nwL fun n2 => ?_
      refine fr_apv (v := _) 0 rfl fun s1 => ?_
      refine fr_ldI 1 2 rfl rfl rfl ?_
      refine fr_w64 ?_
      refine fr_w64 ?_
      refine fr_w64 ?_
      exact fr_wk (hgo1 _) rfl
  · exact fr_end

/-- slices.stableCmpFunc[depot/rebuild.Held] -/
def s79 (x0 : SlV) (x1 : Int) (x2 : FnV) (K : Value → HP) : HP :=
  lp [.lf (.int .i64), .lf (.int .i64)] (0, 20, ()) fun z1 go1 =>   -- a, b
   ifB (decide ((z1.2.1 : Int) ≤ x1)) (
    cl PP 85 #[.slice x0.a x0.len x0.cap, .int .i64 z1.1, .int .i64 z1.2.1, .func x2.fn x2.first x2.captured] [] fun r1 =>
    w64 (z1.2.1 + 20) fun i1 =>
    go1 (z1.2.1, i1, ())) (
    cl PP 85 #[.slice x0.a x0.len x0.cap, .int .i64 z1.1, .int .i64 x1, .func x2.fn x2.first x2.captured] [] fun r2 =>
    lp [.lf (.int .i64)] (20, ()) fun z2 go2 =>   -- blockSize
     ifB (decide ((z2.1 : Int) < x1)) (
      w64 (2 * z2.1) fun i2 =>
      lp [.lf (.int .i64), .lf (.int .i64)] (0, i2, ()) fun z3 go3 =>   -- a, b
       ifB (decide ((z3.2.1 : Int) ≤ x1)) (
        w64 (z3.1 + z2.1) fun i3 =>
        cl PP 86 #[.slice x0.a x0.len x0.cap, .int .i64 z3.1, .int .i64 i3, .int .i64 z3.2.1, .func x2.fn x2.first x2.captured] [] fun r3 =>
        w64 (2 * z2.1) fun i4 =>
        w64 (z3.2.1 + i4) fun i5 =>
        go3 (z3.2.1, i5, ())) (
        w64 (z3.1 + z2.1) fun i6 =>
        ifB (decide ((i6 : Int) < x1)) (
         cl PP 86 #[.slice x0.a x0.len x0.cap, .int .i64 z3.1, .int .i64 i6, .int .i64 x1, .func x2.fn x2.first x2.captured] [] fun r4 =>
         w64 (z2.1 * 2) fun i7 =>
         go2 (i7, ())) (
         w64 (z2.1 * 2) fun i8 =>
         go2 (i8, ())))) (
      K (.tuple #[])))
theorem c79 (x0 : SlV) (x1 : Int) (x2 : FnV) {K : Value → HP} {L : HList} (h : s79 x0 x1 x2 (HL.Ends K) L) : CallF PP 79 #[.slice x0.a x0.len x0.cap, .int .i64 x1, .func x2.fn x2.first x2.captured] L K := by
  refine CallF.of (args := [.slice x0.a x0.len x0.cap, .int .i64 x1, .func x2.fn x2.first x2.captured]) noNum mixed Tryd.func79 (e79 x0 x1 x2 _) (fr_run ?_ h)
  unfold s79 t79
  refine fr_lp0 fun go1' go1 hgo1 z1 => ?_
  refine fr_ifB ?_ ?_
  · refine fr_cl fun r1 => ?_
    refine fr_w64 ?_
    exact fr_wk (hgo1 _) rfl
  · refine fr_cl fun r2 => ?_
    refine fr_lp0 fun go2' go2 hgo2 z2 => ?_
    refine fr_ifB ?_ ?_
    · refine fr_w64 ?_
      refine fr_lp0 fun go3' go3 hgo3 z3 => ?_
      refine fr_ifB ?_ ?_
      · refine fr_w64 ?_
        refine fr_cl fun r3 => ?_
        refine fr_w64 ?_
        refine fr_w64 ?_
        exact fr_wk (hgo3 _) rfl
      · refine fr_w64 ?_
        refine fr_ifB ?_ ?_
        · refine fr_cl fun r4 => ?_
          refine fr_w64 ?_
          exact fr_wk (hgo2 _) rfl
        · refine fr_w64 ?_
          exact fr_wk (hgo2 _) rfl
    · exact fr_end

/-- slices.insertionSortCmpFunc[depot/rebuild.Held] -/
def s85 (x0 : SlV) (x1 : Int) (x2 : Int) (x3 : FnV) (K : Value → HP) : HP :=
  w64 (x1 + 1) fun i1 =>
  lp [.lf (.int .i64)] (i1, ()) fun z1 go1 =>   -- i
   ifB (decide ((z1.1 : Int) < x2)) (
    lp [.lf (.int .i64)] (z1.1, ()) fun z2 go2 =>   -- j
     jn (fun y1 : RsV [] =>
      w64 (z2.1 - 1) fun i5 =>
      w64 (z2.1 - 1) fun i6 =>
      elp x0.a x0.len i6 3 fun a3 =>
      elp x0.a x0.len z2.1 3 fun a4 =>
      ld a3 (.agg [.int .i64, .int .i64, .sl]) fun v3 =>
      ld a4 (.agg [.int .i64, .int .i64, .sl]) fun v4 =>
      st a4 [.int .i64 v3.1, .int .i64 v3.2.1, .slice v3.2.2.1.a v3.2.2.1.len v3.2.2.1.cap] <|
      elp x0.a x0.len i5 3 fun a5 =>
      st a5 [.int .i64 v4.1, .int .i64 v4.2.1, .slice v4.2.2.1.a v4.2.2.1.len v4.2.2.1.cap] <|
      w64 (z2.1 - 1) fun i7 =>
      go2 (i7, ())) fun j1 =>
     ifB (decide ((z2.1 : Int) > x1)) (
       elp x0.a x0.len z2.1 3 fun a1 =>
       w64 (z2.1 - 1) fun i2 =>
       elp x0.a x0.len i2 3 fun a2 =>
       ld a1 (.agg [.int .i64, .int .i64, .sl]) fun v1 =>
       ld a2 (.agg [.int .i64, .int .i64, .sl]) fun v2 =>
       clv PP x3.fn (x3.first ++ #[.agg #[.int .i64 v1.1, .int .i64 v1.2.1, .slice v1.2.2.1.a v1.2.2.1.len v1.2.2.1.cap], .agg #[.int .i64 v2.1, .int .i64 v2.2.1, .slice v2.2.2.1.a v2.2.2.1.len v2.2.2.1.cap]]) x3.captured [.lf (.int .i64)] fun r1 =>
       ifB (decide ((r1.1 : Int) < 0)) (
        j1 (())) (
        w64 (z1.1 + 1) fun i3 =>
        go1 (i3, ()))) (
       w64 (z1.1 + 1) fun i4 =>
       go1 (i4, ()))) (
    K (.tuple #[]))
theorem c85 (x0 : SlV) (x1 : Int) (x2 : Int) (x3 : FnV) {K : Value → HP} {L : HList} (h : s85 x0 x1 x2 x3 (HL.Ends K) L) : CallF PP 85 #[.slice x0.a x0.len x0.cap, .int .i64 x1, .int .i64 x2, .func x3.fn x3.first x3.captured] L K := by
  refine CallF.of (args := [.slice x0.a x0.len x0.cap, .int .i64 x1, .int .i64 x2, .func x3.fn x3.first x3.captured]) noNum mixed Tryd.func85 (e85 x0 x1 x2 x3 _) (fr_run ?_ h)
  unfold s85 t85
  refine fr_w64 ?_
  refine fr_lp0 fun go1' go1 hgo1 z1 => ?_
  refine fr_ifB ?_ ?_
  · refine fr_lp0 fun go2' go2 hgo2 z2 => ?_
    refine fr_jn0 (fun y1 => ?_) fun j1' j1 hj1 => ?_
    · refine fr_w64 ?_
      refine fr_w64 ?_
      refine fr_elpK fun a3 ha3 => ?_
      refine fr_elpK fun a4 ha4 => ?_
      refine fr_ld fun v3 => ?_
      refine fr_ld fun v4 => ?_
      refine fr_elpE ha4 ?_
      refine fr_st ?_
      refine fr_elpK fun a5 ha5 => ?_
      refine fr_st ?_
      refine fr_w64 ?_
      exact fr_wk (hgo2 _) rfl
    · refine fr_ifB ?_ ?_
      · refine fr_elpK fun a1 ha1 => ?_
        refine fr_w64 ?_
        refine fr_elpK fun a2 ha2 => ?_
        refine fr_ld fun v1 => ?_
        refine fr_ld fun v2 => ?_
        refine fr_clv fun r1 => ?_
        refine fr_ifB ?_ ?_
        · exact fr_wk (hj1 _) rfl
        · refine fr_w64 ?_
          exact fr_wk (hgo1 _) rfl
      · refine fr_w64 ?_
        exact fr_wk (hgo1 _) rfl
  · exact fr_end

end Go.Proofs.YtlabcgnegbdlfaaDoor
set_option linter.unusedVariables false
set_option maxRecDepth 100000
namespace Go.Proofs.YtlabcgnegbdlfaaDoor
open Go.HL
end Go.Proofs.YtlabcgnegbdlfaaDoor
set_option linter.unusedVariables false
set_option linter.unusedSimpArgs false
namespace Go.Proofs.YtlabcgnegbdlfaaDoor
open Go.HL

theorem found_rng {ps : List (List UInt8)} {ep : Int} {q : Nat} {x : It} (h : foundR ps ep q = some x) : 1 ≤ x.2.2.1 ∧ x.2.2.1 ≤ 16 := by
  unfold foundR at h
  split at h
  · rename_i b hb
    split at h
    · rename_i h1
      split at h
      · obtain rfl := Option.some.inj h
        have := hErr_ok (par_ok h1.1)
        exact ⟨this.2.2.1, this.2.2.2.1⟩
      · cases h
    · cases h
  · cases h
theorem each_cl (L B : HList) (m : Nat) (ps : List (List UInt8)) (ep : Int) (last : Nat) (hB : SH m ps ep last B) (hs : ∀ x ∈ B, x ∈ L) (hlast : last < min ps.length 16) :
    CallF PP 77 #[.pointer (some ⟨m, 0, none⟩), .func (.func 78) #[.pointer (some ⟨m, 0, none⟩)] #[]] L fun r L' => ∃ (v : SlV) (seg : HList), r = .slice v.a v.len v.cap ∧ L' = seg ++ L ∧ Own v 3 eItm ((eachR (foundR ps ep) last 17 1).flatMap itEnc) seg := by
  refine c77 (some ⟨m, 0, none⟩) ⟨.func 78, #[.pointer (some ⟨m, 0, none⟩)], #[]⟩ ?_
  unfold s77
  have hB0 := hB
  obtain ⟨sv, seg, ims, hBe, hh⟩ := hB
  have hmO : sO m sv ep last ∈ L := hs _ (by rw [hBe]; exact List.mem_cons_self)
  refine lp_of (fun z' z L' => ∃ (p k : Nat) (s : SlV) (ds : List It) (sg : HList), 1 ≤ p ∧ p ≤ 32 ∧ z' = 40 - p ∧ last + 1 ≤ p + k ∧ z = (s, (p : Int), ()) ∧ L' = sg ++ L ∧ Own s 3 eItm (ds.flatMap itEnc) sg ∧ ds.length < p ∧ eachR (foundR ps ep) last 17 1 = ds ++ eachR (foundR ps ep) last k p) 39
    ⟨1, 17, ⟨none, 0, 0⟩, [], [], by omega, by omega, rfl, by omega, rfl, rfl, own_nil, by simp, rfl⟩ ?_
  rintro z' z _ ⟨p, k, s, ds, sg, h1, h2, rfl, hk, rfl, rfl, own, hd, he⟩
  dsimp only
  have hsl := own.sl.els_len itEnc_len (by decide)
  refine nilc_of rfl (ld_of (last : Int) ((s_la hmO).mono mem_r) (ifb_of (fun (hle : (p : Int) ≤ last) => ?_) (fun (hgt : ¬ (p : Int) ≤ last) => ?_)))
  · obtain ⟨k, rfl⟩ : ∃ k', k = k' + 1 := ⟨k - 1, by omega⟩
    have hst : eachR (foundR ps ep) last (k + 1) p = match foundR ps ep p with | some x => x :: eachR (foundR ps ep) last k (p + x.2.2.1.toNat) | none => eachR (foundR ps ep) last k (p + 1) := by
      rw [eachR, if_pos (by omega)] <;> rfl
    refine clv_of (by kernel_rfl) (cl_of (at_cl (sg ++ L) B m ps ep last hB0 (fun x hx => List.mem_append_right _ (hs x hx)) p (by omega)) ?_)
    rintro _ _ - ⟨rfl, ⟨hn, rfl⟩ | ⟨x, hx, rfl⟩⟩
    · rw [hst, hn] at he
      refine ⟨((0, 0, 0, ()), false, ()), rfl, ifF rfl (w64_of (by omega) ⟨40 - (p + 1), by omega, p + 1, k, s, ds, sg, by omega, by omega, rfl, by omega, rfl, rfl, own, by omega, he⟩)⟩
    · have hr := found_rng hx
      rw [hst, hx] at he
      refine ⟨(x, true, ()), rfl, ifT rfl ?_⟩
      dsimp only
      refine apv_in elemItm srcItm [] L own rfl rfl rfl (by omega) fun s2 sg2 hs2 own2 => w64_of (by omega) (w64_of (by omega) (w64_of (by omega) ?_))
      refine ⟨40 - (p + x.2.2.1.toNat), by omega, p + x.2.2.1.toNat, k, s2, ds ++ [x], sg2, by omega, by omega, rfl, by omega, ?_, rfl, ?_, by simp; omega, by rw [he]; simp⟩
      · show (s2, (p : Int) + (x.2.2.1 - 1) + 1, ()) = _
        rw [show (p : Int) + (x.2.2.1 - 1) + 1 = ((p + x.2.2.1.toNat : Nat) : Int) by omega]
      · rw [List.flatMap_append, List.flatMap_singleton]; exact own2
  · have hst : eachR (foundR ps ep) last k p = [] := by
      cases k with
      | zero => rfl
      | succ k => rw [eachR, if_neg (by omega)]
    rw [hst, List.append_nil] at he
    exact .of ⟨s, sg, rfl, rfl, by rw [he]; exact own⟩
abbrev Rg := (Int × Bool × List It) × Bool
def ScanK (q : Rg) (A : HList) (r : Value) (L' : HList) : Prop := ∃ (v : SlV) (seg : HList), r = .tuple #[.agg #[.int .i64 q.1.1, .bool q.1.2.1, .slice v.a v.len v.cap], .bool q.2] ∧ L' = seg ++ A ∧ Own v 3 eItm (q.1.2.2.flatMap itEnc) seg
theorem ScanK.no {q : Rg} {A J : HList} (h : q = ((0, false, []), false)) : HL.Ends (ScanK q A) (.tuple #[.agg #[.int .i64 0, .bool false, .slice none 0 0], .bool false]) (J ++ A) := .app (.of ⟨⟨none, 0, 0⟩, [], by rw [h], rfl, by rw [h]; exact own_nil⟩)
theorem lastR_lt {ps : List (List UInt8)} (h : ps ≠ []) : lastR ps < min ps.length 16 := by
  have h1 := lastD_le ps (min ps.length 16 - 1)
  have h2 : 0 < ps.length := List.length_pos_iff.2 h
  unfold lastR
  omega
theorem scanR_no {ps : List (List UInt8)} (h : saysR ps 0 (1, 0, 1, epR ps, 0, ()) ≠ some []) : scanR ps = ((0, false, []), false) := by
  unfold scanR
  split
  · rfl
  · split
    · rename_i h2; exact absurd h2 h
    · rfl
theorem scanR_seal {ps : List (List UInt8)} (h0 : ps ≠ []) (h : saysR ps 0 (1, 0, 1, epR ps, 0, ()) = some []) {l : List It} (hl : (if lastR ps > 0 then sealS ps (epR ps) else none) = some l) : scanR ps = ((epR ps, true, l), true) := by
  unfold scanR
  rw [if_neg h0, h]
  simp only [hl]
theorem scanR_each {ps : List (List UInt8)} (h0 : ps ≠ []) (h : saysR ps 0 (1, 0, 1, epR ps, 0, ()) = some []) (hl : (if lastR ps > 0 then sealS ps (epR ps) else none) = none) : scanR ps = ((epR ps, false, eachR (foundR ps (epR ps)) (lastR ps) 17 1), true) := by
  unfold scanR
  rw [if_neg h0, h]
  simp only [hl]
theorem scan_cl (A : HList) (v : SlV) (l : List PV) (h : Parts A v l) (hl : l.length ≤ 1000000) (hb : ∀ x ∈ l, x.2.length ≤ 1000000) : CallF PP 52 #[.slice v.a v.len v.cap] A (ScanK (scanR (l.map Prod.snd)) A) := by
  refine c52 v ?_
  unfold s52
  refine cl_of (look_cl A v l h hl hb) ?_
  rintro _ _ - ⟨m, B, rfl, rfl, hSH⟩
  refine ⟨(some ⟨m, 0, none⟩, ()), rfl, nilc_of rfl ?_⟩
  obtain ⟨sv, seg, ims, rfl, hh⟩ := hSH
  generalize hps : l.map Prod.snd = ps at hh ⊢
  have hvl := hh.own.sl.els_len IM.enc_len (by decide)
  have hil := hh.ilen
  refine ld_of sv (s_im (L := sO m sv 0 (lastR ps) :: (seg ++ imsegs ims) ++ A) List.mem_cons_self) (ifb_of (fun (h0 : (sv.len : Int) = 0) => ?_) (fun (h0 : ¬ (sv.len : Int) = 0) => ?_))
  · have : ps = [] := List.length_eq_zero_iff.1 (by omega)
    exact ScanK.no (by rw [this]; rfl)
  have hne : ps ≠ [] := fun e => h0 (by rw [e, List.length_nil] at hil; omega)
  have hlt := lastR_lt hne
  refine ld_of sv (s_im (L := sO m sv 0 (lastR ps) :: (seg ++ imsegs ims) ++ A) List.mem_cons_self) ?_
  have hSl : Sl (sO m sv 0 (lastR ps) :: (seg ++ imsegs ims) ++ A) sv 7 (ims.flatMap IM.enc) := Sl.mono hh.own.sl fun x hx => by simp [hx]
  have hi0 : 0 < ims.length := by omega
  refine elp_el IM.enc_len (by decide) hSl (i := 0) (n := 0) rfl hi0 fun a ha => ?_
  obtain ⟨hip, i1, -, -⟩ := hh.im hi0
  have hep : epR ps = ims[0].h.2.2.2.1 := by
    unfold epR
    rw [i1]
    congr 4
    simp [List.getD_eq_getElem?_getD, hip]
  refine ld_of ims[0].h.2.2.2.1 (ha.one 3 rfl) ?_
  rw [← hep]
  refine st_of (n := m) (off := 1) (c := #[.slice sv.a sv.len sv.cap, .int .i64 0, .int .i64 (lastR ps)]) (T := 151) (fz := (0, 0)) [] ((seg ++ imsegs ims) ++ A) rfl (by simp [sO]) (by simp) (.inl (Nat.le_refl _)) #[.slice sv.a sv.len sv.cap, .int .i64 (epR ps), .int .i64 (lastR ps)] rfl ?_
  obtain ⟨B, hBd⟩ : ∃ B, B = sO m sv (epR ps) (lastR ps) :: (seg ++ imsegs ims) := ⟨_, rfl⟩
  have hBB : ([] ++ (m, Obj.cells #[.slice sv.a sv.len sv.cap, .int .i64 (epR ps), .int .i64 (lastR ps)] 151) :: ((seg ++ imsegs ims) ++ A)) = B ++ A := by rw [hBd]; rfl
  rw [hBB]
  have hSH : SH m ps (epR ps) (lastR ps) B := ⟨sv, seg, ims, hBd, hh⟩
  have hmO : sO m sv (epR ps) (lastR ps) ∈ B ++ A := by rw [hBd]; simp
  refine cl_of (says_cl (B ++ A) B m ps (epR ps) (lastR ps) hSH mem_l 0 (1, 0, 1, 0, 0, ())) ?_
  rintro _ _ - ⟨rfl, ⟨hn, rfl⟩ | ⟨w, p, hsm, rfl, hw, -⟩⟩
  · exact ⟨(⟨none, 0, 0⟩, false, ()), rfl, ifF rfl (ScanK.no (scanR_no (by rw [hn]; exact fun e => by cases e)))⟩
  have hwl := hw.len
  refine ⟨(w, true, ()), rfl, ifT rfl (ifb_of (fun (h1 : (w.len : Int) > 0) => ScanK.no (scanR_no (by rw [hsm]; intro e; cases e; simp at hwl; omega))) (fun (h1 : ¬ (w.len : Int) > 0) => ?_))⟩
  obtain rfl : p = [] := List.length_eq_zero_iff.1 (by omega)
  refine jn_of (fun _ L' => ∃ J, L' = J ++ (B ++ A) ∧ (if lastR ps > 0 then sealS ps (epR ps) else none) = none) ?_ ?_
  · rintro _ _ ⟨J, rfl, hno⟩
    refine ld_of (epR ps) ((s_ep hmO).mono mem_r) (cl_of (each_cl (J ++ (B ++ A)) B m ps (epR ps) (lastR ps) hSH (fun x hx => by simp [hx]) hlt) ?_)
    rintro _ _ - ⟨v1, sg1, rfl, rfl, own1⟩
    refine ⟨(v1, ()), rfl, keep_of (((s_ep hmO).mono mem_r).mono mem_r) (.drop (A := sg1 ++ A) (J := J ++ B) ⟨v1, sg1, ?_, rfl, ?_⟩ ?_)⟩
    · rw [scanR_each hne hsm hno]
    · rw [scanR_each hne hsm hno]; exact own1
    · classical
      rw [List.perm_iff_count]
      intro z
      simp only [List.count_append]
      omega
  · intro j hj
    refine ld_of (lastR ps : Int) (s_la hmO) (ifb_of (fun (h2 : (lastR ps : Int) > 0) => ?_) (fun (h2 : ¬ (lastR ps : Int) > 0) => hj _ _ ⟨[], rfl, by rw [if_neg (by omega)]⟩))
    have h2' : lastR ps > 0 := by omega
    refine cl_of (seal_cl (B ++ A) B m ps (epR ps) hSH mem_l) ?_
    rintro _ _ - (⟨hn, rfl, w2, rfl⟩ | ⟨its, w2, sg2, hs2, rfl, rfl, own2⟩)
    · exact ⟨(w2, false, ()), rfl, ifF rfl (hj _ _ ⟨[], rfl, by rw [if_pos h2']; exact hn⟩)⟩
    · have hsc := scanR_seal hne hsm (l := its) (by rw [if_pos h2']; exact hs2)
      refine ⟨(w2, true, ()), rfl, ifT rfl (ld_of (epR ps) ((s_ep hmO).mono mem_r) (.drop (A := sg2 ++ A) (J := B) ⟨w2, sg2, by rw [hsc], rfl, by rw [hsc]; exact own2⟩ ?_))⟩
      classical
      rw [List.perm_iff_count]
      intro z
      simp only [List.count_append]
      omega
def partsG (ps : List (List UInt8)) (pg : Int) : Nat → Option (List (List UInt8))
  | 0 => some []
  | n + 1 => match partsG ps pg n with
    | some l => if pg < 0 ∨ (ps.length : Int) ≤ pg + n then none else if (parR (ps.getD (pg.toNat + n) [])).2.2 = 0 then some (l ++ [(parR (ps.getD (pg.toNat + n) [])).2.1]) else none
    | none => none
def partsR (ps : List (List UInt8)) (x : It) : List (List UInt8) := (partsG ps x.2.1 x.2.2.1.toNat).getD []
theorem partsG_none {ps : List (List UInt8)} {pg : Int} : ∀ {n m : Nat}, n ≤ m → partsG ps pg n = none → partsG ps pg m = none
  | n, m, h, hn => by
    induction m with
    | zero => obtain rfl : n = 0 := by omega
              exact hn
    | succ m ih =>
      rcases Nat.lt_or_ge m n with h1 | h1
      · obtain rfl : n = m + 1 := by omega
        exact hn
      · rw [partsG, ih h1]
theorem partsG_len {ps : List (List UInt8)} {pg : Int} : ∀ {n : Nat} {l : List (List UInt8)}, partsG ps pg n = some l → l.length = n ∧ (0 < n → pg + n ≤ ps.length)
  | 0, l, h => by obtain rfl := Option.some.inj h; exact ⟨rfl, fun h => absurd h (by omega)⟩
  | n + 1, l, h => by
    rw [partsG] at h
    split at h
    · rename_i l' hl'
      split at h
      · cases h
      · split at h
        · obtain rfl := Option.some.inj h
          exact ⟨by simp [(partsG_len hl').1], fun _ => by omega⟩
        · cases h
    · cases h
def PartsK (l : List (List UInt8)) (A : HList) (r : Value) (L' : HList) : Prop := ∃ (v : SlV) (gs : List PG) (seg : HList), r = .slice v.a v.len v.cap ∧ L' = seg ++ (pgs gs ++ A) ∧ Own v 1 tB (gs.map PG.val) seg ∧ (∀ g ∈ gs, g.Ok) ∧ gs.map PG.l = l
theorem PartsK.nil {l : List (List UInt8)} {A : HList} (h : l = []) : PartsK l A (.slice none 0 0) A := ⟨⟨none, 0, 0⟩, [], [], rfl, rfl, own_nil, by simp, by rw [h]; rfl⟩
def PInv (ps : List (List UInt8)) (pg : Int) (A : HList) (i : Nat) (s : SlV) (L' : HList) : Prop := ∃ (gs : List PG) (sg J X Y : HList), L' = X ++ sg ++ Y ∧ (X ++ Y).Perm (pgs gs ++ (J ++ A)) ∧ Own s 1 tB (gs.map PG.val) sg ∧ (∀ g ∈ gs, g.Ok) ∧ partsG ps pg i = some (gs.map PG.l)
theorem PInv.sub {ps : List (List UInt8)} {pg : Int} {A : HList} {i : Nat} {s : SlV} {L' : HList} (h : PInv ps pg A i s L') : ∀ x ∈ A, x ∈ L' := by
  obtain ⟨gs, sg, J, X, Y, rfl, hp, -⟩ := h
  intro x hx
  have h5 : x ∈ X ++ Y := (hp.mem_iff (a := x)).2 (by simp [hx])
  simp only [List.mem_append] at h5 ⊢
  rcases h5 with h5 | h5 <;> simp [h5]
theorem PInv.fin {ps : List (List UInt8)} {x : It} {A : HList} {i : Nat} {s : SlV} {L' : HList} (h : PInv ps x.2.1 A i s L') (hi : i = x.2.2.1.toNat) : HL.Ends (PartsK (partsR ps x) A) (.slice s.a s.len s.cap) L' := by
  obtain ⟨gs, sg, J, X, Y, rfl, hp, own, hok, hg⟩ := h
  refine .drop (A := sg ++ (pgs gs ++ A)) (J := J) ⟨s, gs, sg, rfl, rfl, own, hok, ?_⟩ ?_
  · unfold partsR; rw [← hi, hg]; rfl
  · classical
    rw [List.perm_iff_count] at hp ⊢
    intro z
    have := hp z
    simp only [List.count_append] at this ⊢
    omega
theorem PInv.app {ps : List (List UInt8)} {x : It} {A : HList} {i : Nat} {s : SlV} {L' : HList} (h : PInv ps x.2.1 A i s L') (hn : partsG ps x.2.1 (i + 1) = none) (hi : i < x.2.2.1.toNat) (seg : HList) : HL.Ends (PartsK (partsR ps x) A) (.slice none 0 0) (seg ++ L') := by
  obtain ⟨gs, sg, J, X, Y, rfl, hp, -⟩ := h
  refine .drop (A := A) (J := seg ++ (sg ++ (pgs gs ++ J))) (PartsK.nil (by unfold partsR; rw [partsG_none hi hn]; rfl)) ?_
  classical
  rw [List.perm_iff_count] at hp ⊢
  intro z
  have := hp z
  simp only [List.count_append] at this ⊢
  omega
theorem PInv.snoc {ps : List (List UInt8)} {pg : Int} {A : HList} {i : Nat} {s : SlV} {L' : HList} (h : PInv ps pg A i s L') (g : PG) (hg : g.Ok) (hgl : g.l.length ≤ 1000000) (hi : i ≤ 1000000) (hn : partsG ps pg (i + 1) = (partsG ps pg i).map fun l => l ++ [g.l]) {k : SlV → HP} (hk : ∀ s' L', PInv ps pg A (i + 1) s' L' → k s' L') :
    apv PP tPs tPs tPs tB s 1 [g.val] k (g.seg ++ L') := by
  obtain ⟨gs, sg, J, X, Y, rfl, hp, own, hok, hl⟩ := h
  have hln := (partsG_len hl).1
  rw [List.length_map] at hln
  have hsl := own.len
  rw [List.length_map] at hsl
  refine apv_in elemPs srcPs (g.seg ++ X) Y own (by simp) rfl rfl (by omega) fun s2 sg2 _ own2 => hk _ _ ⟨gs ++ [g], sg2, J, g.seg ++ X, Y, by simp, ?_, ?_, ?_, ?_⟩
  · rw [pgs_append, pgs_one]
    classical
    rw [List.perm_iff_count] at hp ⊢
    intro z
    have := hp z
    simp only [List.count_append] at this ⊢
    omega
  · rw [List.map_append]; exact own2
  · intro g' hg'
    rcases List.mem_append.1 hg' with h1 | h1
    · exact hok g' h1
    · rw [List.mem_singleton.1 h1]; exact hg
  · rw [hn, hl]; simp
theorem ppartsrg_cl (A : HList) (v : SlV) (l : List PV) (h : Parts A v l) (hl : l.length ≤ 1000000) (hb : ∀ x ∈ l, x.2.length ≤ 1000000) (x : It) (hx : intWf .i64 x.2.1 ∧ intWf .i64 x.2.2.1) :
    CallF PP 28 #[.slice v.a v.len v.cap, .agg #[.int .i64 x.1, .int .i64 x.2.1, .int .i64 x.2.2.1]] A (PartsK (partsR (l.map Prod.snd) x) A) := by
  refine c28 v x ?_
  unfold s28
  have hvl := h.len
  have hx1 := wf_i64 hx.1
  have hx2 := wf_i64 hx.2
  generalize hps : l.map Prod.snd = ps
  have hpl : ps.length = l.length := by rw [← hps]; simp
  refine lp_of (fun z' z L' => ∃ (i : Nat) (s : SlV), i ≤ x.2.2.1.toNat ∧ i ≤ l.length ∧ z' = x.2.2.1.toNat - i ∧ z = (s, (i : Int), ()) ∧ PInv ps x.2.1 A i s L') x.2.2.1.toNat ⟨0, ⟨none, 0, 0⟩, by omega, by omega, by omega, rfl, [], [], [], [], A, rfl, List.Perm.refl _, own_nil, by simp, rfl⟩ ?_
  rintro z' z L1 ⟨i, s, hi, hil, rfl, rfl, hP⟩
  dsimp only
  refine ifb_of (fun (hlt : (i : Int) < x.2.2.1) => ?_) (fun (hge : ¬ (i : Int) < x.2.2.1) => hP.fin (by omega))
  obtain ⟨gs, sg, J, X, Y, hLe, hp, own, hok, hg⟩ := hP
  have hP : PInv ps x.2.1 A i s L1 := ⟨gs, sg, J, X, Y, hLe, hp, own, hok, hg⟩
  have hi' : i < x.2.2.1.toNat := by omega
  have hstep := show partsG ps x.2.1 (i + 1) = _ from rfl
  rw [partsG, hg] at hstep
  simp only at hstep
  refine ifb_of (fun (h1 : x.2.1 < 0) => hP.app (by rw [partsG, hg]; simp only; rw [if_pos (.inl h1)]) hi' []) (fun (h1 : ¬ x.2.1 < 0) => w64_of (by omega) (ifb_of (fun (h2 : x.2.1 ≥ (v.len : Int) - i) => hP.app (by rw [partsG, hg]; simp only; rw [if_pos (.inr (by omega))]) hi' []) (fun (h2 : ¬ x.2.1 ≥ (v.len : Int) - i) => w64_of (by omega) ?_)))
  have hq : x.2.1.toNat + i < l.length := by omega
  have hst : partsG ps x.2.1 (i + 1) = if (parR l[x.2.1.toNat + i].2).2.2 = 0 then some (gs.map PG.l ++ [(parR l[x.2.1.toNat + i].2).2.1]) else none := by
    rw [partsG, hg]
    simp only
    rw [if_neg (by omega)]
    have : ps.getD (x.2.1.toNat + i) [] = l[x.2.1.toNat + i].2 := by rw [← hps]; simp [List.getD_eq_getElem?_getD, hq]
    rw [this]
  refine elp_1 (h.sl.mono hP.sub) (n := x.2.1.toNat + i) (by omega) (by rw [List.length_map]; exact hq) fun a ha => ?_
  rw [List.getElem_map] at ha
  refine ld_of l[x.2.1.toNat + i].1 ha (cl_of (pparse_cl L1 _ l[x.2.1.toNat + i].2 (Sl.mono (h.val _ (List.getElem_mem hq)) hP.sub) (hb _ (List.getElem_mem hq))) ?_)
  rintro _ _ - ⟨s2, sg2, rfl, rfl, own2⟩
  refine ⟨((parR l[x.2.1.toNat + i].2).1, s2, (parR l[x.2.1.toNat + i].2).2.2, ()), rfl, ifb_of (fun (h3 : (parR l[x.2.1.toNat + i].2).2.2 = 0) => ?_) (fun (h3 : ¬ (parR l[x.2.1.toNat + i].2).2.2 = 0) => hP.app (by rw [hst, if_neg h3]) hi' sg2)⟩
  refine hP.snoc ⟨s2, sg2, (parR l[x.2.1.toNat + i].2).2.1⟩ own2 (Nat.le_trans (parR_len _) (hb _ (List.getElem_mem hq))) (by omega) (by rw [hst, hg, if_pos h3]; rfl) fun s' L' hP' => w64_of (by omega) ⟨x.2.2.1.toNat - (i + 1), by omega, i + 1, s', by omega, by omega, rfl, rfl, hP'⟩
end Go.Proofs.YtlabcgnegbdlfaaDoor
set_option linter.unusedVariables false
set_option linter.unusedSimpArgs false
namespace Go.Proofs.YtlabcgnegbdlfaaDoor
open Go.HL

end Go.Proofs.YtlabcgnegbdlfaaDoor
set_option linter.unusedVariables false
set_option linter.unusedSimpArgs false
namespace Go.Proofs.YtlabcgnegbdlfaaDoor
open Go.HL

structure Cfg where
  B : Nat
  P : Nat
  S : Nat
  W : Nat
structure CfgOk (c : Cfg) : Prop where
  b : 2 ≤ c.B ∧ c.B ≤ 16
  p : 4 ≤ c.P ∧ c.P ≤ 16
  s : 64 ≤ c.S ∧ c.S ≤ 512
  w : 1 ≤ c.W ∧ c.W ≤ 1048576
structure Blk where
  pages : List (List UInt8)
  next : Nat
  wear : Nat
  bad : Bool
structure Tn where
  b : Nat
  p : Nat
  meant : List UInt8
  image : List UInt8
structure Dev where
  c : Cfg
  after : Nat
  keep : Int
  down : Bool
  bs : List Blk
  bytes : Int
  torn : List Tn
def blk (n : Nat) : List UInt8 := List.replicate n 255
/-- The operation is torn, or is not. -/
def tear (d : Dev) : Bool × Dev := if d.after = 0 then (false, d) else (decide (d.after = 1), { d with after := d.after - 1, down := decide (d.after = 1) })
def keptN (k : Int) (n : Nat) : Nat := min k.toNat n
theorem tear_c (d : Dev) : (tear d).2.c = d.c ∧ (tear d).2.bs = d.bs ∧ (tear d).2.keep = d.keep ∧ (tear d).2.bytes = d.bytes ∧ (tear d).2.torn = d.torn := by unfold tear; split <;> exact ⟨rfl, rfl, rfl, rfl, rfl⟩

abbrev tBk : TypeId := 95
abbrev tFl : TypeId := 85
abbrev tPb : TypeId := 82
abbrev ePb : TypeId := 93
abbrev tTs : TypeId := 83
abbrev eT : TypeId := 108
theorem elemPb : ElemT PP tPb ePb 1 8 [.pointer none] := elemT_of (by kernel_rfl) (by kernel_rfl) rfl (by decide) (by decide)
theorem srcPb : SrcT PP tPb := .inl ⟨ePb, by kernel_rfl⟩
theorem elemTs : ElemT PP tTs eT 4 64 [.int .i64 0, .int .i64 0, .slice none 0 0, .slice none 0 0] := elemT_of (by kernel_rfl) (by kernel_rfl) rfl (by decide) (by decide)
theorem srcTs : SrcT PP tTs := .inl ⟨eT, by kernel_rfl⟩
structure PB where
  id : Nat
  v : SlV
  seg : HList
  ps : List PG
  next : Nat
  wear : Nat
  bad : Bool
def PB.blk (b : PB) : Blk := ⟨b.ps.map PG.l, b.next, b.wear, b.bad⟩
def PB.obj (b : PB) : Nat × Obj := (b.id, .cells #[.slice b.v.a b.v.len b.v.cap, .int .i64 b.next, .int .i64 b.wear, .bool b.bad] tBk)
def PB.objs (b : PB) : HList := b.obj :: (b.seg ++ pgs b.ps)
structure PB.Ok (b : PB) : Prop where
  own : Own b.v 1 tB (b.ps.map PG.val) b.seg
  ps : ∀ g ∈ b.ps, g.Ok
def pbp (b : PB) : Value := .pointer (some ⟨b.id, 0, none⟩)
def fO (m : Nat) (d : Dev) (bv tv : SlV) : Nat × Obj :=
  (m, .cells #[.int .i64 d.after, .int .i64 d.keep, .bool d.down, .int .i64 d.c.B, .int .i64 d.c.P, .int .i64 d.c.S, .int .i64 d.c.W, .slice bv.a bv.len bv.cap, .int .i64 d.bytes, .slice tv.a tv.len tv.cap] tFl)
section
variable {L : HList} {m : Nat} {d : Dev} {bv tv : SlV} {b : PB}
theorem b_ps (h : b.obj ∈ L) : LdAt ⟨b.id, 0, none⟩ [.slice b.v.a b.v.len b.v.cap] L := ldB (by unfold PB.obj at h; exact h) rfl
theorem b_next (h : b.obj ∈ L) : LdAt ⟨b.id, 1, none⟩ [.int .i64 b.next] L := ldB (by unfold PB.obj at h; exact h) rfl
theorem b_bad (h : b.obj ∈ L) : LdAt ⟨b.id, 3, none⟩ [.bool b.bad] L := ldB (by unfold PB.obj at h; exact h) rfl
theorem f_after (h : fO m d bv tv ∈ L) : LdAt ⟨m, 0, none⟩ [.int .i64 d.after] L := ldB (by unfold fO at h; exact h) rfl
theorem f_keep (h : fO m d bv tv ∈ L) : LdAt ⟨m, 1, none⟩ [.int .i64 d.keep] L := ldB (by unfold fO at h; exact h) rfl
theorem f_down (h : fO m d bv tv ∈ L) : LdAt ⟨m, 2, none⟩ [.bool d.down] L := ldB (by unfold fO at h; exact h) rfl
theorem f_cfg (h : fO m d bv tv ∈ L) : LdAt ⟨m, 3, none⟩ [.int .i64 d.c.B, .int .i64 d.c.P, .int .i64 d.c.S, .int .i64 d.c.W] L := ldB (by unfold fO at h; exact h) rfl
theorem f_P (h : fO m d bv tv ∈ L) : LdAt ⟨m, 4, none⟩ [.int .i64 d.c.P] L := ldB (by unfold fO at h; exact h) rfl
theorem f_S (h : fO m d bv tv ∈ L) : LdAt ⟨m, 5, none⟩ [.int .i64 d.c.S] L := ldB (by unfold fO at h; exact h) rfl
theorem f_W (h : fO m d bv tv ∈ L) : LdAt ⟨m, 6, none⟩ [.int .i64 d.c.W] L := ldB (by unfold fO at h; exact h) rfl
theorem f_bs (h : fO m d bv tv ∈ L) : LdAt ⟨m, 7, none⟩ [.slice bv.a bv.len bv.cap] L := ldB (by unfold fO at h; exact h) rfl
theorem f_bytes (h : fO m d bv tv ∈ L) : LdAt ⟨m, 8, none⟩ [.int .i64 d.bytes] L := ldB (by unfold fO at h; exact h) rfl
theorem f_torn (h : fO m d bv tv ∈ L) : LdAt ⟨m, 9, none⟩ [.slice tv.a tv.len tv.cap] L := ldB (by unfold fO at h; exact h) rfl
end

theorem within_rd (L : HList) (n a b : Int) : Reads PP 33 #[.int .i64 n, .int .i64 a, .int .i64 b] L (.bool (decide (a ≤ n ∧ n ≤ b))) := by
  refine Reads.of (args := [.int .i64 n, .int .i64 a, .int .i64 b]) noNum mixed Tryd.func33 (e33 n a b _) ?_
  unfold t33
  refine ifD_of (fun (h : n ≥ a) => .of ⟨?_, rfl⟩) (fun (h : ¬ n ≥ a) => .of ⟨?_, rfl⟩)
  · congr 1
    by_cases h2 : n ≤ b
    · rw [decide_eq_true h2, decide_eq_true (by omega)]
    · rw [decide_eq_false h2, decide_eq_false (by omega)]
  · congr 1
    rw [decide_eq_false (by omega)]
theorem blank_cl (n : Nat) (hn : n ≤ 1048576) : CallF PP 38 #[.int .i64 n] [] fun r L' => ∃ (g : PG), r = g.val ∧ L' = g.seg ∧ g.Ok ∧ g.l = blk n := by
  refine CallF.of (args := [.int .i64 n]) noNum mixed Tryd.func38 (e38 n _) ?_
  unfold t38
  refine make_of elemB (l := n) (c := n) (Nat.le_refl _) (by omega) fun q ob own _ _ => ?_
  rw [zeros_bvs] at own
  refine lp_of (fun z' z L' => ∃ (i : Nat) (seg : HList), i ≤ n ∧ z' = n - i ∧ z = ((i : Int), ()) ∧ L' = seg ∧ Own ⟨some ⟨q, 0, none⟩, n, n⟩ 1 eB (bvs (List.replicate i 255 ++ List.replicate (n - i) 0)) seg) n ⟨0, [(q, ob)], by omega, by omega, rfl, rfl, by simpa using own⟩ ?_
  rintro z' z L ⟨i, seg, hi, rfl, rfl, rfl, own⟩
  refine ifD_of (fun (hlt : (i : Int) < (n : Nat)) => ?_) (fun (hge : ¬ (i : Int) < (n : Nat)) => ?_)
  · refine nilc_of rfl (ixn_of (show (0 : Int) ≤ i by omega) hlt ?_)
    refine own.st (p := i) [] [] (by rw [bvs_length, List.length_append, List.length_replicate, List.length_replicate, List.length_singleton]; omega) (by simp) rfl (by rw [Int.toNat_natCast, Nat.mul_one]) (by simp) fun seg' own' => ?_
    rw [putL_one (by rw [bvs_length, List.length_append, List.length_replicate, List.length_replicate]; omega)] at own'
    refine ⟨n - (i + 1), by omega, i + 1, seg', by omega, rfl, ?_, by simp, ?_⟩
    · rw [w64_id (by first | omega | (simp only; omega)) (by first | omega | (simp only; omega))]
      rfl
    · have : (bvs (List.replicate i 255 ++ List.replicate (n - i) 0)).set i (.int .u8 255) = bvs (List.replicate (i + 1) 255 ++ List.replicate (n - (i + 1)) 0) := by
        have h1 := bvs_set (List.replicate i 255 ++ List.replicate (n - i) 0) i 255
        rw [show ((255 : UInt8).toNat : Int) = 255 by decide] at h1
        rw [h1]
        congr 1
        rw [List.set_append, if_neg (by simp), List.length_replicate, Nat.sub_self, show n - i = (n - (i + 1)) + 1 by omega, List.replicate_succ, List.set_cons_zero, List.replicate_succ', List.append_assoc]
        rfl
      rw [this] at own'
      exact own'
  · obtain rfl : i = n := by omega
    refine .of ⟨⟨⟨some ⟨q, 0, none⟩, i, i⟩, L, blk i⟩, rfl, rfl, ?_, rfl⟩
    rw [Nat.sub_self, List.replicate_zero, List.append_nil] at own
    exact own
theorem wipe_cl (b : PB) (hb : b.Ok) (n S : Nat) (hn : n ≤ b.ps.length) (hn2 : n ≤ 1048576) (hS : S ≤ 1048576) :
    CallF PP 34 #[.pointer (some ⟨b.id, 0, none⟩), .int .i64 n, .int .i64 S] b.objs fun r L' => r = .tuple #[] ∧ ∃ (seg' : HList) (ps' : List PG), L' = ({ b with seg := seg', ps := ps' } : PB).objs ∧ ({ b with seg := seg', ps := ps' } : PB).Ok ∧ ps'.map PG.l = List.replicate n (blk S) ++ (b.ps.map PG.l).drop n := by
  refine CallF.of (args := [.pointer (some ⟨b.id, 0, none⟩), .int .i64 n, .int .i64 S]) noNum mixed Tryd.func34 (e34 (some ⟨b.id, 0, none⟩) n S _) ?_
  unfold t34
  refine lp_of (fun z' z L' => ∃ (i : Nat) (seg' : HList) (D : List PG) (J : HList), i ≤ n ∧ z' = n - i ∧ z = ((i : Int), ()) ∧ L' = b.obj :: (seg' ++ (pgs D ++ (J ++ pgs (b.ps.drop i)))) ∧ Own b.v 1 tB ((D ++ b.ps.drop i).map PG.val) seg' ∧ D.length = i ∧ (∀ g ∈ D, g.Ok) ∧ D.map PG.l = List.replicate i (blk S)) n
    ⟨0, b.seg, [], [], by omega, by omega, rfl, rfl, hb.own, rfl, by simp, rfl⟩ ?_
  rintro z' z L ⟨i, seg', D, J, hi, rfl, rfl, rfl, own, hD, hok, hl⟩
  have hsl : Sl (b.obj :: (seg' ++ (pgs D ++ (J ++ pgs (b.ps.drop i))))) b.v 1 ((D ++ b.ps.drop i).map PG.val) := own.sl.left.cons
  have hvl : b.v.len = b.ps.length := by
    have := own.len
    rw [List.length_map, List.length_append, List.length_drop] at this
    omega
  refine ifD_of (fun (hlt : (i : Int) < (n : Int)) => ?_) (fun (hge : ¬ (i : Int) < (n : Int)) => ?_)
  · have hi' : i < b.ps.length := by omega
    have hdr : b.ps.drop i = b.ps[i] :: b.ps.drop (i + 1) := List.drop_eq_getElem_cons hi'
    refine nilc_of rfl (ld_of b.v (b_ps List.mem_cons_self) ?_)
    refine cl_in (b.obj :: (seg' ++ pgs D)) (J ++ pgs (b.ps.drop i)) (blank_cl S hS) (by simp) ?_
    rintro _ _ - ⟨g, rfl, rfl, hg, hgl⟩
    refine ⟨(g.v, ()), rfl, keep_of (b_ps (by simp)) ?_⟩
    obtain ⟨a, ha, -⟩ := hsl.at' (i := i) (by omega) (by decide)
    refine nilc_of ha (ixn_of (show (0 : Int) ≤ i by omega) (show (i : Int) < b.v.len by omega) ?_)
    refine own.st (p := i) [b.obj] (pgs D ++ (g.seg ++ (J ++ pgs (b.ps.drop i)))) (by rw [List.length_map, List.length_append, List.length_drop, List.length_singleton]; omega) (by simp) ha (by rw [Int.toNat_natCast, Nat.mul_one]) (by simp) fun seg2 own2 => ?_
    rw [putL_one (by rw [List.length_map, List.length_append, List.length_drop]; omega)] at own2
    refine ⟨n - (i + 1), by omega, i + 1, seg2, D ++ [g], J ++ b.ps[i].seg, by omega, rfl, ?_, ?_, ?_, by simp [hD], ?_, ?_⟩
    · rw [w64_id (by first | omega | (simp only; omega)) (by first | omega | (simp only; omega))]
      rfl
    · rw [hdr, pgs_cons, pgs_append, pgs_one]; simp
    · have : (((D ++ b.ps.drop i).map PG.val).set i g.val) = (((D ++ [g]) ++ b.ps.drop (i + 1)).map PG.val) := by
        rw [hdr, List.map_append, List.set_append, if_neg (by simp [hD]), List.length_map, hD, Nat.sub_self, List.map_cons, List.set_cons_zero]
        simp
      rw [← this]
      exact own2
    · intro x hx
      rcases List.mem_append.1 hx with h | h
      · exact hok x h
      · rw [List.mem_singleton.1 h]; exact hg
    · rw [List.map_append, hl, List.replicate_succ', List.map_singleton, hgl]
  · obtain rfl : i = n := by omega
    refine .drop (A := ({ b with seg := seg', ps := D ++ b.ps.drop i } : PB).objs) (J := J) ⟨rfl, seg', D ++ b.ps.drop i, rfl, ⟨own, fun x hx => ?_⟩, ?_⟩ ?_
    · rcases List.mem_append.1 hx with h | h
      · exact hok x h
      · exact hb.ps x (List.mem_of_mem_drop h)
    · rw [List.map_append, hl, List.map_drop]
    · show (b.obj :: (seg' ++ (pgs D ++ (J ++ pgs (b.ps.drop i))))).Perm ((b.obj :: (seg' ++ pgs (D ++ b.ps.drop i))) ++ J)
      rw [pgs_append]
      classical
      rw [List.perm_iff_count]
      intro x
      simp only [List.append_eq, List.cons_append, List.count_append, List.count_cons, List.count_nil]
      omega
theorem worn_cl (b : PB) (W : Int) (hw : b.wear ≤ 1048576) :
    CallF PP 43 #[.pointer (some ⟨b.id, 0, none⟩), .int .i64 W] [b.obj] fun r L' => r = .bool (decide (((b.wear + 1 : Nat) : Int) = W)) ∧ L' = [({ b with next := 0, wear := b.wear + 1, bad := decide (((b.wear + 1 : Nat) : Int) = W) } : PB).obj] := by
  refine CallF.of (args := [.pointer (some ⟨b.id, 0, none⟩), .int .i64 W]) noNum mixed Tryd.func43 (e43 (some ⟨b.id, 0, none⟩) W _) ?_
  unfold t43
  have hww : IntKind.i64.wrap ((b.wear : Int) + 1) = ((b.wear + 1 : Nat) : Int) := by rw [w64_id (by omega) (by omega)]; omega
  refine nilc_of rfl (st_of (n := b.id) (off := 1) (c := #[.slice b.v.a b.v.len b.v.cap, .int .i64 b.next, .int .i64 b.wear, .bool b.bad]) (T := tBk) (fz := (0, 0)) [] [] rfl rfl (by simp) (.inl (Nat.le_refl _)) #[.slice b.v.a b.v.len b.v.cap, .int .i64 0, .int .i64 b.wear, .bool b.bad] rfl ?_)
  refine nilc_of rfl (ld_of (b.wear : Int) (ldB List.mem_cons_self rfl) (nilc_of rfl ?_))
  simp only [hww]
  refine st_of (n := b.id) (off := 2) (T := tBk) (fz := (0, 0)) [] [] rfl rfl (by simp) (.inl (Nat.le_refl _)) #[.slice b.v.a b.v.len b.v.cap, .int .i64 0, .int .i64 ((b.wear + 1 : Nat) : Int), .bool b.bad] rfl ?_
  refine nilc_of rfl (ld_of ((b.wear + 1 : Nat) : Int) (ldB List.mem_cons_self rfl) (nilc_of rfl ?_))
  refine st_of (n := b.id) (off := 3) (T := tBk) (fz := (0, 0)) [] [] rfl rfl (by simp) (.inl (Nat.le_refl _)) #[.slice b.v.a b.v.len b.v.cap, .int .i64 0, .int .i64 ((b.wear + 1 : Nat) : Int), .bool (decide (((b.wear + 1 : Nat) : Int) = W))] rfl ?_
  refine nilc_of rfl (ld_of (decide (((b.wear + 1 : Nat) : Int) = W)) (ldB List.mem_cons_self rfl) ?_)
  exact .of ⟨rfl, rfl⟩
theorem tears_cl (m : Nat) (d : Dev) (bv tv : SlV) (ha : (d.after : Int) ≤ 9223372036854775807) :
    CallF PP 39 #[.pointer (some ⟨m, 0, none⟩)] [fO m d bv tv] fun r L' => r = .bool (tear d).1 ∧ L' = [fO m (tear d).2 bv tv] := by
  refine CallF.of (args := [.pointer (some ⟨m, 0, none⟩)]) noNum mixed Tryd.func39 (e39 (some ⟨m, 0, none⟩) _) ?_
  unfold t39
  refine nilc_of rfl (ld_of (d.after : Int) (f_after List.mem_cons_self) ?_)
  refine ifE_of (fun (h : (d.after : Int) = 0) => ?_) (fun (h : (d.after : Int) ≠ 0) => ?_)
  · have h0 : d.after = 0 := by omega
    unfold tear
    rw [if_pos h0]
    exact .of ⟨rfl, rfl⟩
  · have h0 : d.after ≠ 0 := by omega
    have hww : IntKind.i64.wrap ((d.after : Int) - 1) = ((d.after - 1 : Nat) : Int) := by rw [w64_id (by omega) (by omega)]; omega
    have hdd : (((d.after - 1 : Nat) : Int) == 0) = decide (d.after = 1) := by
      by_cases h1 : d.after = 1
      · rw [h1]; rfl
      · rw [decide_eq_false h1, beq_eq_false_iff_ne]; omega
    unfold tear
    rw [if_neg h0]
    refine nilc_of rfl (ld_of (d.after : Int) (f_after List.mem_cons_self) (nilc_of rfl ?_))
    simp only [hww]
    refine st_of (n := m) (off := 0) (c := #[.int .i64 d.after, .int .i64 d.keep, .bool d.down, .int .i64 d.c.B, .int .i64 d.c.P, .int .i64 d.c.S, .int .i64 d.c.W, .slice bv.a bv.len bv.cap, .int .i64 d.bytes, .slice tv.a tv.len tv.cap]) (T := tFl) (fz := (0, 0)) [] [] rfl rfl (by simp) (.inl (Nat.le_refl _))
      #[.int .i64 ((d.after - 1 : Nat) : Int), .int .i64 d.keep, .bool d.down, .int .i64 d.c.B, .int .i64 d.c.P, .int .i64 d.c.S, .int .i64 d.c.W, .slice bv.a bv.len bv.cap, .int .i64 d.bytes, .slice tv.a tv.len tv.cap] rfl ?_
    refine nilc_of rfl (ld_of ((d.after - 1 : Nat) : Int) (ldB List.mem_cons_self rfl) (nilc_of rfl ?_))
    simp only [hdd]
    refine st_of (n := m) (off := 2) (T := tFl) (fz := (0, 0)) [] [] rfl rfl (by simp) (.inl (Nat.le_refl _))
      #[.int .i64 ((d.after - 1 : Nat) : Int), .int .i64 d.keep, .bool (decide (d.after = 1)), .int .i64 d.c.B, .int .i64 d.c.P, .int .i64 d.c.S, .int .i64 d.c.W, .slice bv.a bv.len bv.cap, .int .i64 d.bytes, .slice tv.a tv.len tv.cap] rfl ?_
    refine nilc_of rfl (ld_of (decide (d.after = 1)) (ldB List.mem_cons_self rfl) ?_)
    exact .of ⟨rfl, rfl⟩
theorem imin_kept (k : Int) (n : Nat) : imin (imax k 0) n = (keptN k n : Int) := by
  unfold imin imax keptN
  omega
theorem kept_rd (L : HList) (m : Nat) (d : Dev) (bv tv : SlV) (h : fO m d bv tv ∈ L) (n : Nat) : Reads PP 40 #[.pointer (some ⟨m, 0, none⟩), .int .i64 n] L (.int .i64 (keptN d.keep n)) := by
  refine Reads.of (args := [.pointer (some ⟨m, 0, none⟩), .int .i64 n]) noNum mixed Tryd.func40 (e40 (some ⟨m, 0, none⟩) n _) ?_
  unfold t40
  refine nilc_of rfl (ld_of d.keep (f_keep h) ?_)
  rw [imin_kept]
  exact .of ⟨rfl, rfl⟩
/-- The block that has a number. -/
def ptAt (l : List PB) (b : Int) : Option Addr := if 0 ≤ b then (l[b.toNat]?).map fun k => ⟨k.id, 0, none⟩ else none
theorem ptAt_some {l : List PB} {i : Nat} (h : i < l.length) : ptAt l (i : Int) = some ⟨l[i].id, 0, none⟩ := by
  unfold ptAt
  rw [if_pos (by omega), Int.toNat_natCast, List.getElem?_eq_getElem h]; rfl
theorem ptAt_none {l : List PB} {b : Int} (h : ¬ (0 ≤ b ∧ b < l.length)) : ptAt l b = none := by
  unfold ptAt
  split
  · rw [List.getElem?_eq_none (by omega)]; rfl
  · rfl
theorem at_rd (L : HList) (m : Nat) (d : Dev) (bv tv : SlV) (h : fO m d bv tv ∈ L) (l : List PB) (hl : Sl L bv 1 (l.map pbp)) (hle : l.length ≤ 1048576) (b : Int) :
    Reads PP 68 #[.pointer (some ⟨m, 0, none⟩), .int .i64 b] L (.pointer (ptAt l b)) := by
  refine Reads.of (args := [.pointer (some ⟨m, 0, none⟩), .int .i64 b]) noNum mixed Tryd.func68 (e68 (some ⟨m, 0, none⟩) b _) ?_
  unfold t68
  have hlen : bv.len = l.length := by have := hl.len; rw [List.length_map] at this; omega
  refine ifF rfl (nilc_of rfl (ld_of bv (f_bs h) ?_))
  have hw : IntKind.i64.wrap ((bv.len : Int) - 1) = (l.length : Int) - 1 := by rw [w64_id (by omega) (by omega)]; omega
  simp only [hw]
  refine cl_rd (within_rd _ b 0 ((l.length : Int) - 1)) (decide (0 ≤ b ∧ b ≤ (l.length : Int) - 1), ()) rfl ?_
  by_cases hb : 0 ≤ b ∧ b ≤ (l.length : Int) - 1
  · rw [decide_eq_true hb]
    refine ifF rfl ?_
    obtain ⟨i, rfl⟩ : ∃ i : Nat, b = i := ⟨b.toNat, by omega⟩
    have hi : i < l.length := by omega
    rw [ptAt_some hi]
    obtain ⟨a, ha, hld⟩ := hl.at' (i := i) (by omega) (by decide)
    refine nilc_of rfl (ld_of bv (f_bs h) (nilc_of ha (ixn_of (show (0 : Int) ≤ i by omega) (show (i : Int) < bv.len by omega) (ld_of (some ⟨l[i].id, 0, none⟩ : Option Addr) (hld.one ((i : Int).toNat * 1) ?_) ?_))))
    · rw [Int.toNat_natCast, Nat.mul_one, List.getElem?_map, List.getElem?_eq_getElem hi]; rfl
    · exact .of ⟨rfl, rfl⟩
  · rw [decide_eq_false hb]
    refine ifT rfl (.of ⟨?_, rfl⟩)
    rw [ptAt_none (by omega)]
/-- Why there is no such page; 0: there is. -/
def findE (d : Dev) (b p : Int) : Int := if d.down then 11 else if ¬ (0 ≤ b ∧ b < d.bs.length) then 2 else if ¬ (0 ≤ p ∧ p < d.c.P) then 2 else 0
theorem find_rd (L : HList) (m : Nat) (d : Dev) (bv tv : SlV) (h : fO m d bv tv ∈ L) (l : List PB) (hl : Sl L bv 1 (l.map pbp)) (hle : l.length ≤ 1048576) (hd : l.map PB.blk = d.bs) (hP : d.c.P ≤ 1048576) (b p : Int) :
    Reads PP 37 #[.pointer (some ⟨m, 0, none⟩), .int .i64 b, .int .i64 p] L (.tuple #[.pointer (if findE d b p = 0 then ptAt l b else none), .int .i64 (findE d b p)]) := by
  refine Reads.of (args := [.pointer (some ⟨m, 0, none⟩), .int .i64 b, .int .i64 p]) noNum mixed Tryd.func37 (e37 (some ⟨m, 0, none⟩) b p _) ?_
  unfold t37
  have hbl : d.bs.length = l.length := by rw [← hd, List.length_map]
  refine ifF rfl (nilc_of rfl (ld_of d.down (f_down h) ?_))
  refine ifB_of (fun (hdn : d.down = true) => .of ⟨?_, rfl⟩) (fun (hdn : d.down = false) => ?_)
  · have hE : findE d b p = 11 := by unfold findE; rw [if_pos hdn]
    rw [hE]; rfl
  · refine cl_rd (at_rd L m d bv tv h l hl hle b) (ptAt l b, ()) rfl ?_
    by_cases hb : 0 ≤ b ∧ b < d.bs.length
    · obtain ⟨i, rfl⟩ : ∃ i : Nat, b = i := ⟨b.toNat, by omega⟩
      rw [ptAt_some (by omega)]
      refine ifF rfl (nilc_of rfl (ld_of (d.c.P : Int) (f_P h) ?_))
      have hw : IntKind.i64.wrap ((d.c.P : Int) - 1) = (d.c.P : Int) - 1 := w64_id (by omega) (by omega)
      simp only [hw]
      refine cl_rd (within_rd _ p 0 ((d.c.P : Int) - 1)) (decide (0 ≤ p ∧ p ≤ (d.c.P : Int) - 1), ()) rfl ?_
      by_cases hp : 0 ≤ p ∧ p < d.c.P
      · have hE : findE d i p = 0 := by unfold findE; rw [hdn, if_neg (by decide), if_neg (by simpa using hb), if_neg (by simpa using hp)]
        rw [decide_eq_true (by omega), hE, if_pos rfl]
        exact ifF rfl (.of ⟨rfl, rfl⟩)
      · have hE : findE d i p = 2 := by unfold findE; rw [hdn, if_neg (by decide), if_neg (by simpa using hb), if_pos hp]
        rw [decide_eq_false (by omega), hE]
        exact ifT rfl (.of ⟨rfl, rfl⟩)
    · have hE : findE d b p = 2 := by unfold findE; rw [hdn, if_neg (by decide), if_pos hb]
      rw [hE, ptAt_none (by omega)]
      exact ifT rfl (.of ⟨rfl, rfl⟩)
end Go.Proofs.YtlabcgnegbdlfaaDoor
set_option linter.unusedVariables false
set_option linter.unusedSimpArgs false
namespace Go.Proofs.YtlabcgnegbdlfaaDoor
open Go.HL

structure DvOk (d : Dev) : Prop where
  c : CfgOk d.c
  len : d.bs.length = d.c.B
  pg : ∀ k ∈ d.bs, k.pages.length = d.c.P ∧ ∀ l ∈ k.pages, l.length = d.c.S
  nx : ∀ k ∈ d.bs, k.next ≤ d.c.P ∧ k.wear ≤ d.c.W ∧ k.bad = decide (k.wear = d.c.W)
  after : (d.after : Int) ≤ 9223372036854775807
  torn : ∀ t ∈ d.torn, t.meant.length = d.c.S ∧ t.image.length = d.c.S
structure PT where
  b : Nat
  p : Nat
  m : PG
  i : PG
def PT.enc (t : PT) : List Value := [.int .i64 t.b, .int .i64 t.p, t.m.val, t.i.val]
theorem PT.enc_len (t : PT) : t.enc.length = 4 := rfl
def PT.tn (t : PT) : Tn := ⟨t.b, t.p, t.m.l, t.i.l⟩
def tsegs (l : List PT) : HList := l.flatMap fun t => t.m.seg ++ t.i.seg
theorem tsegs_append (a b : List PT) : tsegs (a ++ b) = tsegs a ++ tsegs b := List.flatMap_append
theorem tsegs_one (t : PT) : tsegs [t] = t.m.seg ++ t.i.seg := by simp [tsegs]
def bobjs (l : List PB) : HList := l.flatMap PB.objs
theorem bobjs_append (a b : List PB) : bobjs (a ++ b) = bobjs a ++ bobjs b := List.flatMap_append
theorem bobjs_cons (a : PB) (b : List PB) : bobjs (a :: b) = a.objs ++ bobjs b := rfl
/-- A device's objects. -/
structure FHs (m : Nat) (d : Dev) (bv : SlV) (bseg : HList) (bs : List PB) (tv : SlV) (tseg : HList) (ts : List PT) : Prop where
  ob : Own bv 1 ePb (bs.map pbp) bseg
  okb : ∀ b ∈ bs, b.Ok
  hb : bs.map PB.blk = d.bs
  ot : Own tv 4 eT (ts.flatMap PT.enc) tseg
  okt : ∀ t ∈ ts, t.m.Ok ∧ t.i.Ok
  ht : ts.map PT.tn = d.torn
def fL (m : Nat) (d : Dev) (bv : SlV) (bseg : HList) (bs : List PB) (tv : SlV) (tseg : HList) (ts : List PT) : HList := fO m d bv tv :: (bseg ++ (bobjs bs ++ (tseg ++ tsegs ts)))
def FH (m : Nat) (d : Dev) (A : HList) : Prop := ∃ bv bseg bs tv tseg ts, A = fL m d bv bseg bs tv tseg ts ∧ FHs m d bv bseg bs tv tseg ts
def blkAt (d : Dev) (b : Int) : Option Blk := if 0 ≤ b then d.bs[b.toNat]? else none
def nextOf (d : Dev) (b : Int) : Int := ((blkAt d b).elim 0 fun k => k.next : Nat)
theorem at_cases {d : Dev} {bs : List PB} (h : bs.map PB.blk = d.bs) (b : Int) : (ptAt bs b = none ∧ blkAt d b = none) ∨ ∃ (i : Nat) (hi : i < bs.length), b = i ∧ ptAt bs b = some ⟨bs[i].id, 0, none⟩ ∧ blkAt d b = some bs[i].blk := by
  by_cases hb : 0 ≤ b ∧ b < bs.length
  · right
    obtain ⟨i, rfl⟩ : ∃ i : Nat, b = i := ⟨b.toNat, by omega⟩
    have hi : i < bs.length := by omega
    refine ⟨i, hi, rfl, ptAt_some hi, ?_⟩
    unfold blkAt
    rw [if_pos (by omega), Int.toNat_natCast, ← h, List.getElem?_map, List.getElem?_eq_getElem hi]; rfl
  · left
    refine ⟨ptAt_none hb, ?_⟩
    have hl : d.bs.length = bs.length := by rw [← h, List.length_map]
    unfold blkAt
    split
    · rw [List.getElem?_eq_none (by omega)]
    · rfl
theorem obj_mem {bs : List PB} {i : Nat} (hi : i < bs.length) : bs[i].obj ∈ bobjs bs := List.mem_flatMap.2 ⟨bs[i], List.getElem_mem hi, List.mem_cons_self⟩
section
variable {m : Nat} {d : Dev} {bv : SlV} {bseg : HList} {bs : List PB} {tv : SlV} {tseg : HList} {ts : List PT}
theorem fL_o : fO m d bv tv ∈ fL m d bv bseg bs tv tseg ts := List.mem_cons_self
theorem FHs.sl (h : FHs m d bv bseg bs tv tseg ts) : Sl (fL m d bv bseg bs tv tseg ts) bv 1 (bs.map pbp) := h.ob.sl.left.cons
theorem FHs.few (h : FHs m d bv bseg bs tv tseg ts) (ok : DvOk d) : bs.length ≤ 16 := by
  have h1 := ok.len
  have h2 := ok.c.b
  rw [← h.hb, List.length_map] at h1
  omega
theorem fL_b {i : Nat} (hi : i < bs.length) : bs[i].obj ∈ fL m d bv bseg bs tv tseg ts := List.mem_cons_of_mem _ (List.mem_append_right _ (List.mem_append_left _ (obj_mem hi)))
end
theorem next_rd (m : Nat) (d : Dev) (A : HList) (h : FH m d A) (ok : DvOk d) (b : Int) : Reads PP 46 #[.pointer (some ⟨m, 0, none⟩), .int .i64 b] A (.int .i64 (nextOf d b)) := by
  obtain ⟨bv, bseg, bs, tv, tseg, ts, rfl, h⟩ := h
  refine Reads.of (args := [.pointer (some ⟨m, 0, none⟩), .int .i64 b]) noNum mixed Tryd.func46 (e46 (some ⟨m, 0, none⟩) b _) ?_
  unfold t46 nextOf
  have := h.few ok
  refine cl_rd (at_rd _ m d bv tv fL_o bs h.sl (by omega) b) (ptAt bs b, ()) rfl ?_
  rcases at_cases h.hb b with ⟨h1, h2⟩ | ⟨i, hi, rfl, h1, h2⟩
  · rw [h1, h2]; exact ifF rfl (.of ⟨rfl, rfl⟩)
  · rw [h1, h2]; exact ifT rfl (nilc_of rfl (ld_of (bs[i].next : Int) (b_next (fL_b hi)) (.of ⟨rfl, rfl⟩)))
theorem down_rd (m : Nat) (d : Dev) (A : HList) (h : FH m d A) : Reads PP 7 #[.pointer (some ⟨m, 0, none⟩)] A (.bool d.down) := by
  obtain ⟨bv, bseg, bs, tv, tseg, ts, rfl, h⟩ := h
  refine Reads.of (args := [.pointer (some ⟨m, 0, none⟩)]) noNum mixed Tryd.func7 (e7 (some ⟨m, 0, none⟩) _) ?_
  unfold t7
  exact ifT rfl (nilc_of rfl (ld_of d.down (f_down fL_o) (.of ⟨rfl, rfl⟩)))
def cfV (c : Cfg) : Value := .agg #[.int .i64 c.B, .int .i64 c.P, .int .i64 c.S, .int .i64 c.W]
theorem config_rd (m : Nat) (d : Dev) (A : HList) (h : FH m d A) : CallF PP 50 #[.pointer (some ⟨m, 0, none⟩)] A fun r L' => r = cfV d.c ∧ L' = A := by
  obtain ⟨bv, bseg, bs, tv, tseg, ts, rfl, h⟩ := h
  refine CallF.of (args := [.pointer (some ⟨m, 0, none⟩)]) noNum mixed Tryd.func50 (e50 (some ⟨m, 0, none⟩) _) ?_
  unfold t50
  refine nw_of fun n _ => ifF rfl (nilc_of rfl ?_)
  refine ld_of ((d.c.B : Int), (d.c.P : Int), (d.c.S : Int), (d.c.W : Int), ()) (f_cfg (List.mem_cons_of_mem _ fL_o)) ?_
  refine st_of (n := n) (off := 0) (c := #[.int .i64 0, .int .i64 0, .int .i64 0, .int .i64 0]) (T := 23) (fz := (0, 0)) [] _ rfl rfl (by simp) (.inl (Nat.le_refl _)) #[.int .i64 d.c.B, .int .i64 d.c.P, .int .i64 d.c.S, .int .i64 d.c.W] rfl ?_
  refine ld_of ((d.c.B : Int), (d.c.P : Int), (d.c.S : Int), (d.c.W : Int), ()) (ldB List.mem_cons_self rfl) ?_
  exact .cons (.of ⟨rfl, rfl⟩)
def arm (d : Dev) (n k : Int) : Dev := if d.down then d else { d with after := n.toNat, keep := k }
theorem arm_cl (m : Nat) (d : Dev) (A : HList) (h : FH m d A) (n k : Int) : CallF PP 15 #[.pointer (some ⟨m, 0, none⟩), .int .i64 n, .int .i64 k] A fun r L' => r = .tuple #[] ∧ FH m (arm d n k) L' := by
  obtain ⟨bv, bseg, bs, tv, tseg, ts, rfl, h⟩ := h
  refine CallF.of (args := [.pointer (some ⟨m, 0, none⟩), .int .i64 n, .int .i64 k]) noNum mixed Tryd.func15 (e15 (some ⟨m, 0, none⟩) n k _) ?_
  unfold t15 arm
  refine ifT rfl (nilc_of rfl (ld_of d.down (f_down fL_o) ?_))
  rcases Bool.eq_false_or_eq_true d.down with hd | hd
  · rw [if_pos hd]
    exact ifF (by simp only [hd]; rfl) (.of ⟨rfl, bv, bseg, bs, tv, tseg, ts, rfl, h⟩)
  · rw [if_neg (by rw [hd]; decide)]
    have hn : imax n 0 = (n.toNat : Int) := by unfold imax; omega
    refine ifT (by simp only [hd]; rfl) (nilc_of rfl ?_)
    rw [hn]
    refine st_of (n := m) (off := 0) (c := #[.int .i64 d.after, .int .i64 d.keep, .bool d.down, .int .i64 d.c.B, .int .i64 d.c.P, .int .i64 d.c.S, .int .i64 d.c.W, .slice bv.a bv.len bv.cap, .int .i64 d.bytes, .slice tv.a tv.len tv.cap]) (T := tFl) (fz := (0, 0)) [] _ rfl rfl (by simp) (.inl (Nat.le_refl _))
      #[.int .i64 (n.toNat : Int), .int .i64 d.keep, .bool d.down, .int .i64 d.c.B, .int .i64 d.c.P, .int .i64 d.c.S, .int .i64 d.c.W, .slice bv.a bv.len bv.cap, .int .i64 d.bytes, .slice tv.a tv.len tv.cap] rfl (nilc_of rfl ?_)
    refine st_of (n := m) (off := 1) (T := tFl) (fz := (0, 0)) [] _ rfl rfl (by simp) (.inl (Nat.le_refl _))
      #[.int .i64 (n.toNat : Int), .int .i64 k, .bool d.down, .int .i64 d.c.B, .int .i64 d.c.P, .int .i64 d.c.S, .int .i64 d.c.W, .slice bv.a bv.len bv.cap, .int .i64 d.bytes, .slice tv.a tv.len tv.cap] rfl ?_
    exact .of ⟨rfl, bv, bseg, bs, tv, tseg, ts, rfl, ⟨h.ob, h.okb, h.hb, h.ot, h.okt, h.ht⟩⟩
def restart (d : Dev) : Dev := { d with down := false, after := 0 }
theorem restart_cl (m : Nat) (d : Dev) (A : HList) (h : FH m d A) : CallF PP 17 #[.pointer (some ⟨m, 0, none⟩)] A fun r L' => r = .tuple #[] ∧ FH m (restart d) L' := by
  obtain ⟨bv, bseg, bs, tv, tseg, ts, rfl, h⟩ := h
  refine CallF.of (args := [.pointer (some ⟨m, 0, none⟩)]) noNum mixed Tryd.func17 (e17 (some ⟨m, 0, none⟩) _) ?_
  unfold t17 restart
  refine ifT rfl (nilc_of rfl ?_)
  refine st_of (n := m) (off := 2) (c := #[.int .i64 d.after, .int .i64 d.keep, .bool d.down, .int .i64 d.c.B, .int .i64 d.c.P, .int .i64 d.c.S, .int .i64 d.c.W, .slice bv.a bv.len bv.cap, .int .i64 d.bytes, .slice tv.a tv.len tv.cap]) (T := tFl) (fz := (0, 0)) [] _ rfl rfl (by simp) (.inl (Nat.le_refl _))
    #[.int .i64 d.after, .int .i64 d.keep, .bool false, .int .i64 d.c.B, .int .i64 d.c.P, .int .i64 d.c.S, .int .i64 d.c.W, .slice bv.a bv.len bv.cap, .int .i64 d.bytes, .slice tv.a tv.len tv.cap] rfl (nilc_of rfl ?_)
  refine st_of (n := m) (off := 0) (T := tFl) (fz := (0, 0)) [] _ rfl rfl (by simp) (.inl (Nat.le_refl _))
    #[.int .i64 0, .int .i64 d.keep, .bool false, .int .i64 d.c.B, .int .i64 d.c.P, .int .i64 d.c.S, .int .i64 d.c.W, .slice bv.a bv.len bv.cap, .int .i64 d.bytes, .slice tv.a tv.len tv.cap] rfl ?_
  exact .of ⟨rfl, bv, bseg, bs, tv, tseg, ts, rfl, ⟨h.ob, h.okb, h.hb, h.ot, h.okt, h.ht⟩⟩
def readR (d : Dev) (b p : Int) : List UInt8 × Int :=
  if findE d b p ≠ 0 then ([], findE d b p) else match d.bs[b.toNat]? with
  | none => ([], 2)
  | some k => if k.bad then (blk d.c.S, 0) else (k.pages.getD p.toNat [], 0)
theorem findE_0 {d : Dev} {b p : Int} (h : findE d b p = 0) : d.down = false ∧ 0 ≤ b ∧ b < d.bs.length ∧ 0 ≤ p ∧ p < d.c.P := by
  unfold findE at h
  split at h
  · cases h
  · split at h
    · cases h
    · split at h
      · cases h
      · rename_i h1 h2 h3
        refine ⟨by simpa using h1, ?_, ?_, ?_, ?_⟩ <;> omega
theorem read_cl (m : Nat) (d : Dev) (A : HList) (h : FH m d A) (ok : DvOk d) (b p : Int) :
    CallF PP 30 #[.pointer (some ⟨m, 0, none⟩), .int .i64 b, .int .i64 p] A fun r L' => ∃ g : PG, r = .tuple #[g.val, .int .i64 (readR d b p).2] ∧ L' = g.seg ++ A ∧ g.Ok ∧ g.l = (readR d b p).1 := by
  obtain ⟨bv, bseg, bs, tv, tseg, ts, rfl, h⟩ := h
  refine CallF.of (args := [.pointer (some ⟨m, 0, none⟩), .int .i64 b, .int .i64 p]) noNum mixed Tryd.func30 (e30 (some ⟨m, 0, none⟩) b p _) ?_
  unfold t30
  have hfew := h.few ok
  have hP := ok.c.p
  have hS := ok.c.s
  refine cl_rd (find_rd _ m d bv tv fL_o bs h.sl (by omega) h.hb (by omega) b p) (if findE d b p = 0 then ptAt bs b else none, findE d b p, ()) rfl ?_
  refine ifNe_of (fun (he : findE d b p ≠ 0) => ?_) (fun (he : findE d b p = 0) => ?_)
  · have hr : readR d b p = ([], findE d b p) := by unfold readR; rw [if_pos he]
    rw [hr]
    exact .of ⟨pg0, rfl, rfl, pg0_ok, rfl⟩
  obtain ⟨hdn, hb0, hb1, hp0, hp1⟩ := findE_0 he
  obtain ⟨i, rfl⟩ : ∃ i : Nat, b = i := ⟨b.toNat, by omega⟩
  obtain ⟨q, rfl⟩ : ∃ q : Nat, p = q := ⟨p.toNat, by omega⟩
  have hbl : d.bs.length = bs.length := by rw [← h.hb, List.length_map]
  have hi : i < bs.length := by omega
  have hk : d.bs[i]? = some bs[i].blk := by rw [← h.hb, List.getElem?_map, List.getElem?_eq_getElem hi]; rfl
  have hmk : bs[i].blk ∈ d.bs := List.mem_of_getElem? hk
  rw [if_pos he, ptAt_some hi]
  refine nilc_of rfl (ld_of bs[i].bad (b_bad (fL_b hi)) ?_)
  refine ifB_of (fun (hbad : bs[i].bad = true) => ?_) (fun (hbad : bs[i].bad = false) => ?_)
  · have hr : readR d i q = (blk d.c.S, 0) := by
      unfold readR
      rw [if_neg (by simpa using he), Int.toNat_natCast, hk]
      show (if bs[i].bad = true then _ else _) = _
      rw [if_pos hbad]
    rw [hr]
    refine nilc_of rfl (ld_of (d.c.S : Int) (f_S fL_o) ?_)
    refine cl_in [] (fL m d bv bseg bs tv tseg ts) (blank_cl d.c.S (by omega)) rfl ?_
    rintro _ _ - ⟨g, rfl, rfl, hg, hgl⟩
    exact ⟨(g.v, ()), rfl, .of ⟨g, rfl, rfl, hg, hgl⟩⟩
  · have hpl := (ok.pg _ hmk).1
    have hpl' : bs[i].ps.length = d.c.P := by rw [← hpl]; simp [PB.blk]
    have hq : q < bs[i].ps.length := by omega
    have hr : readR d i q = (bs[i].ps[q].l, 0) := by
      unfold readR
      rw [if_neg (by simpa using he), Int.toNat_natCast, Int.toNat_natCast, hk]
      show (if bs[i].bad = true then _ else ((bs[i].ps.map PG.l).getD q [], (0 : Int))) = _
      rw [if_neg (by rw [hbad]; decide), List.getD_eq_getElem?_getD, List.getElem?_map, List.getElem?_eq_getElem hq]; rfl
    rw [hr]
    have hbi := h.okb _ (List.getElem_mem hi)
    have hsub : ∀ x ∈ bs[i].objs, x ∈ fL m d bv bseg bs tv tseg ts := fun x hx => List.mem_cons_of_mem _ (List.mem_append_right _ (List.mem_append_left _ (List.mem_flatMap.2 ⟨bs[i], List.getElem_mem hi, hx⟩)))
    have hpsl : Sl (fL m d bv bseg bs tv tseg ts) bs[i].v 1 (bs[i].ps.map PG.val) := Sl.mono (hbi.own.sl.left.cons (p := bs[i].obj)) hsub
    have hgo := hbi.ps _ (List.getElem_mem hq)
    have hgsl : BSl (fL m d bv bseg bs tv tseg ts) bs[i].ps[q].v bs[i].ps[q].l := Sl.mono hgo.sl fun x hx => hsub x (List.mem_cons_of_mem _ (List.mem_append_right _ (List.mem_flatMap.2 ⟨_, List.getElem_mem hq, hx⟩)))
    have hgl : bs[i].ps[q].l.length = d.c.S := (ok.pg _ hmk).2 _ (List.mem_map.2 ⟨_, List.getElem_mem hq, rfl⟩)
    have hvl := hpsl.len
    rw [List.length_map] at hvl
    obtain ⟨a, ha, hld⟩ := hpsl.at' (i := q) (by omega) (by decide)
    refine nw_of fun n _ => nilc_of rfl (ld_of bs[i].v (b_ps (List.mem_cons_of_mem _ (fL_b hi))) (nilc_of ha (ixn_of (show (0 : Int) ≤ q by omega) (show (q : Int) < bs[i].v.len by omega) ?_)))
    refine ld_of bs[i].ps[q].v ((hld.one ((q : Int).toNat * 1) (v := bs[i].ps[q].val) (by rw [Int.toNat_natCast, Nat.mul_one, List.getElem?_map, List.getElem?_eq_getElem hq]; rfl)).mono fun x hx => List.mem_cons_of_mem _ hx) ?_
    refine append_in elemB srcB [] (fL m d bv bseg bs tv tseg ts) own_empty rfl (.sl hgsl.cons) (bvs_plain _) (by rw [hgsl.len]; simp only; omega) fun v' seg' hv' own' => ?_
    rw [List.nil_append] at own' ⊢
    exact .of ⟨⟨v', seg', bs[i].ps[q].l⟩, rfl, rfl, own', rfl⟩
end Go.Proofs.YtlabcgnegbdlfaaDoor
set_option linter.unusedVariables false
set_option linter.unusedSimpArgs false
namespace Go.Proofs.YtlabcgnegbdlfaaDoor
open Go.HL

end Go.Proofs.YtlabcgnegbdlfaaDoor
set_option linter.unusedVariables false
set_option linter.unusedSimpArgs false
namespace Go.Proofs.YtlabcgnegbdlfaaDoor
open Go.HL

def Blk.put (k : Blk) (p : Nat) (l : List UInt8) : Blk := { k with pages := k.pages.set p l, next := p + 1 }
def counted (d : Dev) : Dev := { d with bytes := IntKind.i64.wrap (d.bytes + d.c.S) }
def tornImg (d : Dev) (data : List UInt8) : List UInt8 := data.take (keptN d.keep d.c.S) ++ blk (d.c.S - keptN d.keep d.c.S)
def progK (d : Dev) (i p : Nat) (k : Blk) (data : List UInt8) : Int × Dev :=
  if (tear (counted d)).1 then (11, { (tear (counted d)).2 with bs := d.bs.set i (k.put p (tornImg d data)), torn := d.torn ++ [⟨i, p, data, tornImg d data⟩] })
  else (0, { (tear (counted d)).2 with bs := d.bs.set i (k.put p data) })
def prog (d : Dev) (b p : Int) (data : List UInt8) : Int × Dev :=
  if findE d b p ≠ 0 then (findE d b p, d) else if data.length ≠ d.c.S then (2, d) else
  match d.bs[b.toNat]? with
  | none => (2, d)
  | some k => if k.bad then (10, d) else if (k.next : Int) ≠ p then (9, d) else progK d b.toNat p.toNat k data
theorem ptAt_mid (pre post : List PB) (x : PB) : ptAt (pre ++ x :: post) (pre.length : Int) = some ⟨x.id, 0, none⟩ := by
  rw [ptAt_some (by simp)]
  simp
theorem program_cl (m : Nat) (d : Dev) (A R : HList) (h : FH m d A) (ok : DvOk d) (hf : d.torn.length ≤ 1048576) (b p : Int) (u : SlV) (data : List UInt8) (hu : BSl R u data) :
    CallF PP 11 #[.pointer (some ⟨m, 0, none⟩), .int .i64 b, .int .i64 p, .slice u.a u.len u.cap] (A ++ R) fun r L' => ∃ A', L' = A' ++ R ∧ r = .int .i64 (prog d b p data).1 ∧ FH m (prog d b p data).2 A' := by
  have hA := h
  obtain ⟨bv, bseg, bs, tv, tseg, ts, rfl, h⟩ := h
  refine CallF.of (args := [.pointer (some ⟨m, 0, none⟩), .int .i64 b, .int .i64 p, .slice u.a u.len u.cap]) noNum mixed Tryd.func11 (e11 (some ⟨m, 0, none⟩) b p u _) ?_
  unfold t11
  have hfew := h.few ok
  have hP := ok.c.p
  have hS := ok.c.s
  have hul := hu.len
  refine cl_rd (find_rd _ m d bv tv (List.mem_append_left _ fL_o) bs h.sl.left (by omega) h.hb (by omega) b p) (if findE d b p = 0 then ptAt bs b else none, findE d b p, ()) rfl ?_
  refine ifNe_of (fun (he : findE d b p ≠ 0) => ?_) (fun (he : findE d b p = 0) => ?_)
  · have hr : prog d b p data = (findE d b p, d) := by unfold prog; rw [if_pos he]
    rw [hr]
    exact .of ⟨_, rfl, rfl, hA⟩
  refine nilc_of rfl (ld_of (d.c.S : Int) (f_S (List.mem_append_left _ fL_o)) ?_)
  refine ifNe_of (fun (hs : (u.len : Int) ≠ (d.c.S : Int)) => ?_) (fun (hs : (u.len : Int) = (d.c.S : Int)) => ?_)
  · have hr : prog d b p data = (2, d) := by unfold prog; rw [if_neg (by simpa using he), if_pos (by omega)]
    rw [hr]
    exact .of ⟨_, rfl, rfl, hA⟩
  have hdl : data.length = d.c.S := by omega
  obtain ⟨hdn, hb0, hb1, hp0, hp1⟩ := findE_0 he
  obtain ⟨i, rfl⟩ : ∃ i : Nat, b = i := ⟨b.toNat, by omega⟩
  obtain ⟨q, rfl⟩ : ∃ q : Nat, p = q := ⟨p.toNat, by omega⟩
  have hbl : d.bs.length = bs.length := by rw [← h.hb, List.length_map]
  have hi : i < bs.length := by omega
  obtain ⟨pre, x, post, rfl, rfl⟩ : ∃ pre x post, bs = pre ++ x :: post ∧ pre.length = i := ⟨bs.take i, bs[i], bs.drop (i + 1), by rw [← List.drop_eq_getElem_cons hi, List.take_append_drop], by rw [List.length_take]; omega⟩
  have hk : d.bs[pre.length]? = some x.blk := by rw [← h.hb, List.getElem?_map]; simp
  have hset : ∀ y : PB, (pre ++ y :: post).map PB.blk = d.bs.set pre.length y.blk := fun y => by rw [← h.hb]; simp
  have hmk : x.blk ∈ d.bs := List.mem_of_getElem? hk
  have hpr : prog d (pre.length : Int) (q : Int) data = if x.bad then (10, d) else if (x.next : Int) ≠ (q : Int) then (9, d) else progK d pre.length q x.blk data := by
    unfold prog
    rw [if_neg (by simpa using he), if_neg (by omega), Int.toNat_natCast, Int.toNat_natCast, hk]
    rfl
  have hxm : x.obj ∈ fL m d bv bseg (pre ++ x :: post) tv tseg ts ++ R := List.mem_append_left _ (List.mem_cons_of_mem _ (List.mem_append_right _ (List.mem_append_left _ (by rw [bobjs_append, bobjs_cons]; exact List.mem_append_right _ (List.mem_append_left _ List.mem_cons_self)))))
  rw [if_pos he, ptAt_mid]
  refine nilc_of rfl (ld_of x.bad (b_bad hxm) ?_)
  refine ifB_of (fun (hbad : x.bad = true) => ?_) (fun (hbad : x.bad = false) => ?_)
  · rw [hpr, if_pos hbad]
    exact .of ⟨_, rfl, rfl, hA⟩
  refine nilc_of rfl (ld_of (x.next : Int) (b_next hxm) ?_)
  refine ifNe_of (fun (hn : (x.next : Int) ≠ (q : Int)) => ?_) (fun (hn : (x.next : Int) = (q : Int)) => ?_)
  · rw [hpr, if_neg (by rw [hbad]; decide), if_pos hn]
    exact .of ⟨_, rfl, rfl, hA⟩
  rw [hpr, if_neg (by rw [hbad]; decide), if_neg (by omega)]
  clear hpr hA
  refine nilc_of rfl (ld_of (d.c.S : Int) (f_S (List.mem_append_left _ fL_o)) ?_)
  have hok := h.okb x (by simp)
  have hpl := (ok.pg _ hmk).1
  have hpl' : x.ps.length = d.c.P := by rw [← hpl]; simp [PB.blk]
  have hq : q < x.ps.length := by omega
  obtain ⟨D, g0, E, hps, hDl⟩ : ∃ D g0 E, x.ps = D ++ g0 :: E ∧ D.length = q := ⟨x.ps.take q, x.ps[q], x.ps.drop (q + 1), by rw [← List.drop_eq_getElem_cons hq, List.take_append_drop], by rw [List.length_take]; omega⟩
  have hL : fL m d bv bseg (pre ++ x :: post) tv tseg ts ++ R = fO m d bv tv :: (bseg ++ (bobjs pre ++ (x.obj :: (x.seg ++ (pgs D ++ (g0.seg ++ (pgs E ++ (bobjs post ++ (tseg ++ (tsegs ts ++ R)))))))))) := by
    unfold fL
    rw [bobjs_append, bobjs_cons]
    unfold PB.objs
    rw [hps, pgs_append, pgs_cons]
    simp
  rw [hL]
  clear hL hxm
  refine cl_in (fO m d bv tv :: (bseg ++ (bobjs pre ++ (x.obj :: (x.seg ++ pgs D))))) (g0.seg ++ (pgs E ++ (bobjs post ++ (tseg ++ (tsegs ts ++ R))))) (blank_cl d.c.S (by omega)) (by simp) ?_
  rintro _ _ - ⟨g, rfl, rfl, hg, hgl⟩
  refine ⟨(g.v, ()), rfl, nilc_of rfl (ld_of x.v (b_ps (by simp)) ?_)⟩
  have hxl := hok.own.len
  rw [List.length_map] at hxl
  have hxsl : Sl x.seg x.v 1 (x.ps.map PG.val) := hok.own.sl
  obtain ⟨xa, hxa, -⟩ := hxsl.at' (i := q) (by omega) (by decide)
  refine nilc_of hxa (ixn_of (show (0 : Int) ≤ q by omega) (show (q : Int) < x.v.len by omega) ?_)
  refine hok.own.st (p := q) (ws := [g.val]) (fO m d bv tv :: (bseg ++ (bobjs pre ++ [x.obj]))) (pgs D ++ (g.seg ++ (g0.seg ++ (pgs E ++ (bobjs post ++ (tseg ++ (tsegs ts ++ R))))))) (by rw [List.length_map, List.length_singleton]; omega) (by simp) hxa (by rw [Int.toNat_natCast, Nat.mul_one]) (by simp) fun xs xown => ?_
  rw [putL_one (by rw [List.length_map]; omega)] at xown
  have hvals : ∀ v, (x.ps.map PG.val).set q v = (D.map PG.val) ++ v :: (E.map PG.val) := by
    intro v
    rw [hps, List.map_append, List.set_append, if_neg (by simp [hDl]), List.length_map, hDl, Nat.sub_self, List.map_cons, List.set_cons_zero]
  rw [hvals] at xown
  have hnx : IntKind.i64.wrap ((x.next : Int) + 1) = ((q + 1 : Nat) : Int) := by rw [w64_id (by omega) (by omega)]; omega
  refine nilc_of rfl (ld_of (x.next : Int) (b_next (by simp)) (nilc_of rfl ?_))
  simp only [hnx]
  refine st_of (n := x.id) (off := 1) (c := #[.slice x.v.a x.v.len x.v.cap, .int .i64 x.next, .int .i64 x.wear, .bool x.bad]) (T := tBk) (fz := (0, 0)) (fO m d bv tv :: (bseg ++ bobjs pre)) (xs ++ (pgs D ++ (g.seg ++ (g0.seg ++ (pgs E ++ (bobjs post ++ (tseg ++ (tsegs ts ++ R)))))))) rfl (by simp [PB.obj]) (by simp) (.inl (Nat.le_refl _))
    #[.slice x.v.a x.v.len x.v.cap, .int .i64 ((q + 1 : Nat) : Int), .int .i64 x.wear, .bool x.bad] rfl ?_
  have hox : ((x.id, Obj.cells #[.slice x.v.a x.v.len x.v.cap, .int .i64 ((q + 1 : Nat) : Int), .int .i64 x.wear, .bool x.bad] tBk) : Nat × Obj) = ({ x with next := q + 1 } : PB).obj := rfl
  rw [hox]
  refine nilc_of rfl (nilc_of rfl (ld_of d.bytes (f_bytes (m := m) (bv := bv) (tv := tv) (by simp)) (ld_of (d.c.S : Int) (f_S (m := m) (bv := bv) (tv := tv) (by simp)) (nilc_of rfl ?_))))
  refine st_of (n := m) (off := 8) (c := #[.int .i64 d.after, .int .i64 d.keep, .bool d.down, .int .i64 d.c.B, .int .i64 d.c.P, .int .i64 d.c.S, .int .i64 d.c.W, .slice bv.a bv.len bv.cap, .int .i64 d.bytes, .slice tv.a tv.len tv.cap]) (T := tFl) (fz := (0, 0)) [] (bseg ++ (bobjs pre ++ (({ x with next := q + 1 } : PB).obj :: (xs ++ (pgs D ++ (g.seg ++ (g0.seg ++ (pgs E ++ (bobjs post ++ (tseg ++ (tsegs ts ++ R))))))))))) rfl (by simp [fO]) (by simp) (.inl (Nat.le_refl _))
    #[.int .i64 d.after, .int .i64 d.keep, .bool d.down, .int .i64 d.c.B, .int .i64 d.c.P, .int .i64 d.c.S, .int .i64 d.c.W, .slice bv.a bv.len bv.cap, .int .i64 (IntKind.i64.wrap (d.bytes + d.c.S)), .slice tv.a tv.len tv.cap] rfl (nilc_of rfl ?_)
  rw [List.nil_append]
  refine cl_in [] (bseg ++ (bobjs pre ++ (({ x with next := q + 1 } : PB).obj :: (xs ++ (pgs D ++ (g.seg ++ (g0.seg ++ (pgs E ++ (bobjs post ++ (tseg ++ (tsegs ts ++ R))))))))))) (tears_cl m (counted d) bv tv ok.after) rfl ?_
  rintro _ _ - ⟨rfl, rfl⟩
  refine ⟨((tear (counted d)).1, ()), rfl, ?_⟩
  unfold progK
  obtain ⟨hc2, hb2, hk2, hy2, ht2⟩ := tear_c (counted d)
  generalize hd2 : tear (counted d) = tt at hc2 hb2 hk2 hy2 ht2 ⊢
  obtain ⟨t, d2⟩ := tt
  simp only at hc2 hb2 hk2 hy2 ht2 ⊢
  have hgv : g.v.len = d.c.S := by have := hg.sl.len; rw [bvs_length, hgl, blk, List.length_replicate] at this; omega
  obtain ⟨ga, hga⟩ := BSl.some (L := g.seg) hg.sl (i := 0) (by rw [hgl, blk, List.length_replicate]; omega)
  unfold PG.Ok at hg
  rw [hgl] at hg
  have hus : ∀ X : HList, BSl (X ++ R) u data := fun X => hu.right
  have hfin : ∀ (l : List UInt8) (segg : HList), Own g.v 1 eB (bvs l) segg → ({ x with seg := xs, ps := D ++ ⟨g.v, segg, l⟩ :: E, next := q + 1 } : PB).Ok := by
    intro l segg ho
    refine ⟨?_, fun y hy => ?_⟩
    · show Own x.v 1 tB ((D ++ ⟨g.v, segg, l⟩ :: E).map PG.val) xs
      rw [List.map_append, List.map_cons]
      exact xown
    · have hy' : y ∈ D ∨ y = ⟨g.v, segg, l⟩ ∨ y ∈ E := by simpa using hy
      rcases hy' with h1 | rfl | h1
      · exact hok.ps y (by rw [hps]; simp [h1])
      · exact ho
      · exact hok.ps y (by rw [hps]; simp [h1])
  have hblk : ∀ (l : List UInt8) (segg : HList), ({ x with seg := xs, ps := D ++ ⟨g.v, segg, l⟩ :: E, next := q + 1 } : PB).blk = x.blk.put q l := by
    intro l segg
    unfold PB.blk Blk.put
    simp only
    rw [hps]
    congr 1
    rw [List.map_append, List.map_append, List.set_append, if_neg (by simp [hDl]), List.length_map, hDl, Nat.sub_self, List.map_cons, List.map_cons, List.set_cons_zero]
  have hokb : ∀ y : PB, y.Ok → ∀ z ∈ pre ++ y :: post, z.Ok := by
    intro y hy z hz
    have hz' : z ∈ pre ∨ z = y ∨ z ∈ post := by simpa using hz
    rcases hz' with h1 | rfl | h1
    · exact h.okb z (by simp [h1])
    · exact hy
    · exact h.okb z (by simp [h1])
  have hobp : ∀ y : PB, y.id = x.id → Own bv 1 ePb ((pre ++ y :: post).map pbp) bseg := by
    intro y hy
    have : (pre ++ y :: post).map pbp = (pre ++ x :: post).map pbp := by simp [pbp, hy]
    rw [this]; exact h.ob
  cases t with
  | false =>
    refine ifT rfl ?_
    rw [if_neg (by decide)]
    refine copy_own (T := eB) (sz := 1) (l := 0) (v := g.v) (a := ga) undB (by kernel_rfl) (fO m d2 bv tv :: (bseg ++ (bobjs pre ++ (({ x with next := q + 1 } : PB).obj :: (xs ++ pgs D))))) (g0.seg ++ (pgs E ++ (bobjs post ++ (tseg ++ (tsegs ts ++ R))))) hg (by simp) hga (d := g.v) (by rw [hga]; rfl) (by omega) (u := u) (ws := bvs data) ?_ (bvs_plain _) fun segg owng => ?_
    · have := hus (fO m d2 bv tv :: (bseg ++ (bobjs pre ++ (({ x with next := q + 1 } : PB).obj :: (xs ++ (pgs D ++ (g.seg ++ (g0.seg ++ (pgs E ++ (bobjs post ++ (tseg ++ tsegs ts)))))))))))
      simpa using this
    have hbb : putL (bvs (blk d.c.S)) (0 * 1) ((bvs data).take (min u.len g.v.len * 1)) = bvs data := by
      rw [bvs_take, bvs_put, List.take_of_length_le (l := data) (by omega), Nat.zero_mul, List.take_zero, List.nil_append, List.drop_of_length_le (by rw [blk, List.length_replicate]; omega), List.append_nil]
    rw [hbb] at owng
    refine .drop (A := fL m { d2 with bs := d.bs.set pre.length (x.blk.put q data) } bv bseg (pre ++ ({ x with seg := xs, ps := D ++ ⟨g.v, segg, data⟩ :: E, next := q + 1 } : PB) :: post) tv tseg ts ++ R) (J := g0.seg)
      ⟨_, rfl, rfl, bv, bseg, _, tv, tseg, ts, rfl, hobp _ rfl, hokb _ (hfin _ _ owng), ?_, h.ot, h.okt, ?_⟩ ?_
    · rw [hset, hblk]
    · simp only; rw [ht2]; exact h.ht
    · unfold fL
      rw [bobjs_append, bobjs_cons]
      unfold PB.objs
      simp only
      rw [pgs_append, pgs_cons]
      have ho1 : ({ x with seg := xs, ps := D ++ ⟨g.v, segg, data⟩ :: E, next := q + 1 } : PB).obj = ({ x with next := q + 1 } : PB).obj := rfl
      have ho2 : fO m { d2 with bs := d.bs.set pre.length (x.blk.put q data) } bv tv = fO m d2 bv tv := rfl
      rw [ho1, ho2]
      generalize ({ x with next := q + 1 } : PB).obj = ox
      generalize fO m d2 bv tv = of
      classical
      rw [List.perm_iff_count]
      intro z
      simp only [List.append_eq, List.cons_append, List.count_append, List.count_cons, List.count_nil]
      omega
  | true =>
    refine ifF rfl (nilc_of rfl (nilc_of rfl ?_))
    rw [if_pos rfl]
    have hcS : d2.c.S = d.c.S := by rw [hc2]; rfl
    have hkk : d2.keep = d.keep := hk2
    have ht2' : d2.torn = d.torn := ht2
    refine ld_of (d2.c.S : Int) (f_S (m := m) (bv := bv) (tv := tv) (by simp)) ?_
    rw [hcS]
    refine cl_rd (kept_rd _ m d2 bv tv (by simp) d.c.S) ((keptN d2.keep d.c.S : Int), ()) rfl ?_
    rw [show keptN d2.keep d.c.S = keptN d.keep d.c.S by rw [hkk]]
    have hkp : keptN d.keep d.c.S ≤ d.c.S := by unfold keptN; omega
    have hcap := hu.cap
    refine slc_of (l' := 0) (h' := keptN d.keep d.c.S) (m' := u.cap) rfl rfl rfl (by omega) (by omega) (Nat.le_refl _) ?_
    have hss : ∀ X : HList, Sl (X ++ R) (slcV u (0 : Nat) (keptN d.keep d.c.S : Nat) (u.cap : Nat) 1) 1 (bvs (data.take (keptN d.keep d.c.S))) := by
      intro X
      have := (hus X).slc (l := 0) (h' := keptN d.keep d.c.S) (m := u.cap) (by decide) (by omega) (by omega) (by omega)
      rw [bvs_slc, List.drop_zero, Nat.sub_zero] at this
      exact this
    generalize slcV u (0 : Nat) (keptN d.keep d.c.S : Nat) (u.cap : Nat) 1 = us at hss ⊢
    have husl := (hss []).len
    rw [bvs_length, List.length_take] at husl
    refine copy_own (T := eB) (sz := 1) (l := 0) (v := g.v) (a := ga) undB (by kernel_rfl) (fO m d2 bv tv :: (bseg ++ (bobjs pre ++ (({ x with next := q + 1 } : PB).obj :: (xs ++ pgs D))))) (g0.seg ++ (pgs E ++ (bobjs post ++ (tseg ++ (tsegs ts ++ R))))) hg (by simp) hga (d := g.v) (by rw [hga]; rfl) (by omega) (u := us) (ws := bvs (data.take (keptN d.keep d.c.S))) ?_ (bvs_plain _) fun segg owng => ?_
    · have := hss (fO m d2 bv tv :: (bseg ++ (bobjs pre ++ (({ x with next := q + 1 } : PB).obj :: (xs ++ (pgs D ++ (g.seg ++ (g0.seg ++ (pgs E ++ (bobjs post ++ (tseg ++ tsegs ts)))))))))))
      simpa using this
    have hbb : putL (bvs (blk d.c.S)) (0 * 1) ((bvs (data.take (keptN d.keep d.c.S))).take (min us.len g.v.len * 1)) = bvs (tornImg d data) := by
      rw [bvs_take, bvs_put, List.take_of_length_le (l := data.take (keptN d.keep d.c.S)) (by rw [List.length_take]; omega), Nat.zero_mul, List.take_zero, List.nil_append, List.length_take]
      unfold tornImg blk
      rw [List.drop_replicate, Nat.zero_add, Nat.min_eq_left (by omega)]
    rw [hbb] at owng
    have himl : (tornImg d data).length = d.c.S := by
      unfold tornImg blk
      rw [List.length_append, List.length_take, List.length_replicate]; omega
    refine nilc_of rfl (ld_of tv (f_torn (m := m) (d := d2) (bv := bv) (by simp)) (nw_of fun n1 _ => ?_))
    have husL : BSl (fO m d2 bv tv :: (bseg ++ (bobjs pre ++ (({ x with next := q + 1 } : PB).obj :: (xs ++ pgs D)))) ++ segg ++ (g0.seg ++ (pgs E ++ (bobjs post ++ (tseg ++ (tsegs ts ++ R)))))) u data := by
      have := hus (fO m d2 bv tv :: (bseg ++ (bobjs pre ++ (({ x with next := q + 1 } : PB).obj :: (xs ++ (pgs D ++ (segg ++ (g0.seg ++ (pgs E ++ (bobjs post ++ (tseg ++ tsegs ts)))))))))))
      simpa using this
    have hgsL : BSl (fO m d2 bv tv :: (bseg ++ (bobjs pre ++ (({ x with next := q + 1 } : PB).obj :: (xs ++ pgs D)))) ++ segg ++ (g0.seg ++ (pgs E ++ (bobjs post ++ (tseg ++ (tsegs ts ++ R)))))) g.v (tornImg d data) := owng.sl.right.left
    have htoL : LdAt ⟨m, 9, none⟩ [.slice tv.a tv.len tv.cap] (fO m d2 bv tv :: (bseg ++ (bobjs pre ++ (({ x with next := q + 1 } : PB).obj :: (xs ++ pgs D)))) ++ segg ++ (g0.seg ++ (pgs E ++ (bobjs post ++ (tseg ++ (tsegs ts ++ R)))))) := f_torn (m := m) (d := d2) (bv := bv) (by simp)
    generalize hLL : fO m d2 bv tv :: (bseg ++ (bobjs pre ++ (({ x with next := q + 1 } : PB).obj :: (xs ++ pgs D)))) ++ segg ++ (g0.seg ++ (pgs E ++ (bobjs post ++ (tseg ++ (tsegs ts ++ R))))) = LL at husL hgsL htoL ⊢
    refine append_in elemB srcB [] LL own_empty rfl (.sl husL.cons) (bvs_plain _) (by simp only; omega) fun v5 seg5 hv5 own5 => ?_
    rw [List.nil_append] at own5 ⊢
    refine keep_of (htoL.mono fun z hz => List.mem_append_right _ hz) (nw_of fun n2 _ => ?_)
    refine append_in elemB srcB [] (seg5 ++ LL) own_empty rfl (.sl hgsL.right.cons) (bvs_plain _) (by simp only; omega) fun v6 seg6 hv6 own6 => ?_
    rw [List.nil_append] at own6 ⊢
    refine keep_of (htoL.mono fun z hz => List.mem_append_right _ (List.mem_append_right _ hz)) (nw_of fun n3 _ => ?_)
    subst hLL
    have htl : ts.length = d.torn.length := by rw [← h.ht, List.length_map]
    have htvl := h.ot.sl.els_len PT.enc_len (by decide)
    refine append_in elemTs srcTs ((n3, Obj.cells #[.int .i64 pre.length, .int .i64 q, .slice v5.a v5.len v5.cap, .slice v6.a v6.len v6.cap] eT) :: (seg6 ++ (seg5 ++ (fO m d2 bv tv :: (bseg ++ (bobjs pre ++ (({ x with next := q + 1 } : PB).obj :: (xs ++ (pgs D ++ (segg ++ (g0.seg ++ (pgs E ++ bobjs post)))))))))))) (tsegs ts ++ R) h.ot (by simp)
      (n := 1) (ws := PT.enc ⟨pre.length, q, ⟨v5, seg5, data⟩, ⟨v6, seg6, tornImg d data⟩⟩) (x := .slice (some ⟨n3, 0, none⟩) 1 1) (Src.sl (v := ⟨some ⟨n3, 0, none⟩, 1, 1⟩) ⟨rfl, Nat.le_refl _, .inr ⟨_, rfl, ldB List.mem_cons_self rfl⟩⟩) rfl (by omega) fun v8 seg8 hv8 own8 => ?_
    refine nilc_of rfl ?_
    refine st_of (n := m) (off := 9) (c := #[.int .i64 d2.after, .int .i64 d2.keep, .bool d2.down, .int .i64 d2.c.B, .int .i64 d2.c.P, .int .i64 d2.c.S, .int .i64 d2.c.W, .slice bv.a bv.len bv.cap, .int .i64 d2.bytes, .slice tv.a tv.len tv.cap]) (T := tFl) (fz := (0, 0)) ((n3, Obj.cells #[.int .i64 pre.length, .int .i64 q, .slice v5.a v5.len v5.cap, .slice v6.a v6.len v6.cap] eT) :: (seg6 ++ seg5)) (bseg ++ (bobjs pre ++ (({ x with next := q + 1 } : PB).obj :: (xs ++ (pgs D ++ (segg ++ (g0.seg ++ (pgs E ++ (bobjs post ++ (seg8 ++ (tsegs ts ++ R))))))))))) rfl (by simp [fO]) (by simp) (.inl (Nat.le_refl _))
      #[.int .i64 d2.after, .int .i64 d2.keep, .bool d2.down, .int .i64 d2.c.B, .int .i64 d2.c.P, .int .i64 d2.c.S, .int .i64 d2.c.W, .slice bv.a bv.len bv.cap, .int .i64 d2.bytes, .slice v8.a v8.len v8.cap] rfl ?_
    refine .drop (A := fL m { d2 with bs := d.bs.set pre.length (x.blk.put q (tornImg d data)), torn := d.torn ++ [⟨pre.length, q, data, tornImg d data⟩] } bv bseg (pre ++ ({ x with seg := xs, ps := D ++ ⟨g.v, segg, tornImg d data⟩ :: E, next := q + 1 } : PB) :: post) v8 seg8 (ts ++ [⟨pre.length, q, ⟨v5, seg5, data⟩, ⟨v6, seg6, tornImg d data⟩⟩]) ++ R) (J := (n3, Obj.cells #[.int .i64 pre.length, .int .i64 q, .slice v5.a v5.len v5.cap, .slice v6.a v6.len v6.cap] eT) :: g0.seg)
      ⟨_, rfl, rfl, bv, bseg, _, v8, seg8, _, rfl, hobp _ rfl, hokb _ (hfin _ _ owng), ?_, ?_, ?_, ?_⟩ ?_
    · rw [hset, hblk]
    · rw [List.flatMap_append, List.flatMap_singleton]; exact own8
    · intro z hz
      rcases List.mem_append.1 hz with h1 | h1
      · exact h.okt z h1
      · rw [List.mem_singleton.1 h1]; exact ⟨own5, own6⟩
    · rw [List.map_append, h.ht]; rfl
    · unfold fL
      rw [bobjs_append, bobjs_cons, tsegs_append, tsegs_one]
      unfold PB.objs
      simp only
      rw [pgs_append, pgs_cons]
      have ho1 : ({ x with seg := xs, ps := D ++ ⟨g.v, segg, tornImg d data⟩ :: E, next := q + 1 } : PB).obj = ({ x with next := q + 1 } : PB).obj := rfl
      have ho2 : fO m { d2 with bs := d.bs.set pre.length (x.blk.put q (tornImg d data)), torn := d.torn ++ [⟨pre.length, q, data, tornImg d data⟩] } bv v8 = (m, Obj.cells #[.int .i64 d2.after, .int .i64 d2.keep, .bool d2.down, .int .i64 d2.c.B, .int .i64 d2.c.P, .int .i64 d2.c.S, .int .i64 d2.c.W, .slice bv.a bv.len bv.cap, .int .i64 d2.bytes, .slice v8.a v8.len v8.cap] tFl) := rfl
      rw [ho1, ho2]
      generalize ({ x with next := q + 1 } : PB).obj = ox
      generalize (m, Obj.cells #[.int .i64 d2.after, .int .i64 d2.keep, .bool d2.down, .int .i64 d2.c.B, .int .i64 d2.c.P, .int .i64 d2.c.S, .int .i64 d2.c.W, .slice bv.a bv.len bv.cap, .int .i64 d2.bytes, .slice v8.a v8.len v8.cap] tFl) = of
      generalize (n3, Obj.cells #[.int .i64 pre.length, .int .i64 q, .slice v5.a v5.len v5.cap, .slice v6.a v6.len v6.cap] eT) = o3
      classical
      rw [List.perm_iff_count]
      intro z
      simp only [List.append_eq, List.cons_append, List.count_append, List.count_cons, List.count_nil]
      omega
end Go.Proofs.YtlabcgnegbdlfaaDoor
