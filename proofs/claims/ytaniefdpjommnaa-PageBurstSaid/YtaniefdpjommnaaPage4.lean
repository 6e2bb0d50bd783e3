/-
  It is proved what Blank and Parse of the layer page and of its document's answer compute. There are no further conditions than those that each theorem names.
-/
import Derived.Test.YtaniefdpjommnaaPagePlain
set_option linter.unusedVariables false
set_option linter.unusedSimpArgs false
namespace Go.Proofs.Ytaniefdpjommnaa
open Go.HL

theorem ne255 (x : UInt8) : ((x.toNat : Int) ≠ 255) ↔ x ≠ 255 := by
  constructor
  · rintro h rfl; exact h rfl
  · intro h e
    apply h
    apply UInt8.toNat_inj.1
    show x.toNat = 255
    omega
theorem eq_u8 (x : UInt8) (n : Nat) (hn : n < 256) : ((x.toNat : Int) = n) ↔ x = UInt8.ofNat n := by
  constructor
  · intro h; apply UInt8.toNat_inj.1; simp; omega
  · rintro rfl; simp; omega
theorem pblank_rd (L : HList) (v : SlV) (b : List UInt8) (hb : BSl L v b) (hl : b.length ≤ 1000000) : Reads PP 19 #[.slice v.a v.len v.cap] L (.bool (pblank b)) := by
  refine Reads.of (args := [.slice v.a v.len v.cap]) noNum mixed Try.func19 (e19 v _) ?_
  unfold t19
  have hlen := hb.len
  refine lp_of (fun k z L' => L' = L ∧ ∃ i : Nat, i ≤ b.length ∧ k = b.length - i ∧ z = ((i : Int), ()) ∧ ∀ x ∈ b.take i, x = 255) b.length ⟨rfl, 0, by omega, by omega, rfl, by simp⟩ ?_
  rintro k z L' ⟨rfl, i, hi, rfl, rfl, hall⟩
  refine ifD_of (fun (hlt : (i : Int) < v.len) => ?_) (fun (hge : ¬ (i : Int) < v.len) => ?_)
  · have hi' : i < b.length := by omega
    obtain ⟨a, ha⟩ := hb.some hi'
    refine nilc_of ha (ixn_of (show (0 : Int) ≤ i by omega) hlt (ld_of (b[i].toNat : Int) (hb.rd hi' ha _ (by simp)) ?_))
    refine ifNe_of (fun hne => .of ⟨?_, rfl⟩) (fun he => ⟨b.length - (i + 1), by omega, rfl, i + 1, by omega, rfl, ?_, fun x hx => ?_⟩)
    · have : pblank b = false := by
        unfold pblank
        rw [List.all_eq_false]
        exact ⟨b[i], List.getElem_mem hi', by simpa using (ne255 _).1 hne⟩
      rw [this]
    · rw [w64_id (by first | omega | (simp only; omega)) (by first | omega | (simp only; omega))]
      rfl
    · rw [List.take_succ_eq_append_getElem hi'] at hx
      rcases List.mem_append.1 hx with hx | hx
      · exact hall x hx
      · rw [List.mem_singleton.1 hx]
        exact Decidable.byContradiction fun hc => (ne255 _).2 hc he
  · obtain rfl : i = b.length := by omega
    rw [List.take_length] at hall
    refine .of ⟨?_, rfl⟩
    have : pblank b = true := by
      unfold pblank
      rw [List.all_eq_true]
      intro x hx
      simpa using hall x hx
    rw [this]
theorem rblank_rd (L : HList) (v : SlV) (b : List UInt8) (hb : BSl L v b) (hl : b.length ≤ 1000000) : Reads PP 20 #[.slice v.a v.len v.cap] L (.bool (pblank b)) := by
  refine Reads.of (args := [.slice v.a v.len v.cap]) noNum mixed Try.func20 (e20 v _) ?_
  unfold t20
  have hlen := hb.len
  refine lp_of (fun k z L' => L' = L ∧ ∃ i : Nat, i ≤ b.length ∧ k = b.length - i ∧ z = ((i : Int), ()) ∧ ∀ x ∈ b.take i, x = 255) b.length ⟨rfl, 0, by omega, by omega, rfl, by simp⟩ ?_
  rintro k z L' ⟨rfl, i, hi, rfl, rfl, hall⟩
  refine ifD_of (fun (hlt : (i : Int) < v.len) => ?_) (fun (hge : ¬ (i : Int) < v.len) => ?_)
  · have hi' : i < b.length := by omega
    obtain ⟨a, ha⟩ := hb.some hi'
    refine nilc_of ha (ixn_of (show (0 : Int) ≤ i by omega) hlt (ld_of (b[i].toNat : Int) (hb.rd hi' ha _ (by simp)) ?_))
    refine ifNe_of (fun hne => .of ⟨?_, rfl⟩) (fun he => ⟨b.length - (i + 1), by omega, rfl, i + 1, by omega, rfl, ?_, fun x hx => ?_⟩)
    · have : pblank b = false := by
        unfold pblank
        rw [List.all_eq_false]
        exact ⟨b[i], List.getElem_mem hi', by simpa using (ne255 _).1 hne⟩
      rw [this]
    · rw [w64_id (by first | omega | (simp only; omega)) (by first | omega | (simp only; omega))]
      rfl
    · rw [List.take_succ_eq_append_getElem hi'] at hx
      rcases List.mem_append.1 hx with hx | hx
      · exact hall x hx
      · rw [List.mem_singleton.1 hx]
        exact Decidable.byContradiction fun hc => (ne255 _).2 hc he
  · obtain rfl : i = b.length := by omega
    rw [List.take_length] at hall
    refine .of ⟨?_, rfl⟩
    have : pblank b = true := by
      unfold pblank
      rw [List.all_eq_true]
      intro x hx
      simpa using hall x hx
    rw [this]
theorem pat_rd (L : HList) (v : SlV) (b : List UInt8) (hb : BSl L v b) (hl : b.length ≤ 1000000) (a w : Int) : Reads PP 50 #[.slice v.a v.len v.cap, .int .i64 a, .int .i64 w] L (.int .i64 (wget b a w).1) := by
  refine Reads.of (args := [.slice v.a v.len v.cap, .int .i64 a, .int .i64 w]) noNum mixed Try.func50 (e50 v a w _) ?_
  unfold t50
  exact cl_rd (wget_rd _ v b hb (by omega) a w) ((wget b a w).1, (wget b a w).2, ()) rfl (.of ⟨rfl, rfl⟩)
def ParK (b : List UInt8) (A : HList) (v : Value) (L' : HList) : Prop := ∃ (s : SlV) (seg : HList), v = .tuple #[.agg #[.int .i64 (parR b).1.1, .int .i64 (parR b).1.2.1, .int .i64 (parR b).1.2.2.1, .int .i64 (parR b).1.2.2.2.1, .int .i64 (parR b).1.2.2.2.2.1], .slice s.a s.len s.cap, .int .i64 (parR b).2.2] ∧ L' = seg ++ A ∧ Own s 1 eB (bvs (parR b).2.1) seg
theorem ParK.err {b : List UInt8} {A : HList} {e : Int} (he : parR b = (hz, [], e)) : ParK b A (.tuple #[.agg #[.int .i64 0, .int .i64 0, .int .i64 0, .int .i64 0, .int .i64 0], .slice none 0 0, .int .i64 e]) A := ⟨⟨none, 0, 0⟩, [], by rw [he]; rfl, rfl, by rw [he]; exact own_nil⟩
theorem wget_at {b : List UInt8} {a w : Nat} (h : 1 ≤ w) (h7 : w ≤ 7) (h2 : a + w ≤ b.length) : (wget b (a : Int) (w : Int)).1 = (num ((b.drop a).take w) : Int) := by rw [wget_ok h h7 h2]
theorem getD_at {b : List UInt8} {i : Nat} (h : i < b.length) : b.getD i 0 = b[i] := by simp [List.getD_eq_getElem?_getD, h]
theorem parR_size {b : List UInt8} (h : ¬ (64 ≤ b.length ∧ b.length ≤ 512)) : parR b = (hz, [], 2) := by unfold parR; rw [if_pos h]
theorem parR_blank {b : List UInt8} (h : 64 ≤ b.length ∧ b.length ≤ 512) (h2 : pblank b = true) : parR b = (hz, [], 15) := by unfold parR; rw [if_neg (by simpa using h), if_pos h2]
theorem parR_sum {b : List UInt8} (h : 64 ≤ b.length ∧ b.length ≤ 512) (h2 : pblank b = false) (h3 : crcSum (b.take (b.length - 4)) ≠ (num (b.drop (b.length - 4)) : Int)) : parR b = (hz, [], 12) := by
  unfold parR; rw [if_neg (by simpa using h), if_neg (by rw [h2]; decide), if_pos h3]
theorem parR_bad {b : List UInt8} (h : 64 ≤ b.length ∧ b.length ≤ 512) (h2 : pblank b = false) (h3 : crcSum (b.take (b.length - 4)) = (num (b.drop (b.length - 4)) : Int)) (h4 : pbad b = true) : parR b = (hz, [], 5) := by
  unfold parR; rw [if_neg (by simpa using h), if_neg (by rw [h2]; decide), if_neg (by simpa using h3), if_pos h4]
theorem parR_ok {b : List UInt8} (h : 64 ≤ b.length ∧ b.length ≤ 512) (h2 : pblank b = false) (h3 : crcSum (b.take (b.length - 4)) = (num (b.drop (b.length - 4)) : Int)) (h4 : pbad b = false) : parR b = (hOf b, payOf b, 0) := by
  unfold parR; rw [if_neg (by simpa using h), if_neg (by rw [h2]; decide), if_neg (by simpa using h3), if_neg (by rw [h4]; decide)]
theorem pbad_iff (b : List UInt8) : pbad b = true ↔ b.getD 3 0 ≠ 165 ∨ b.getD 9 0 ≠ 0 ∨ nOf b > b.length - 16 ∨ hErr (hOf b) ≠ 0 ∨ ∃ x ∈ padOf b, x ≠ 0 := by
  unfold pbad
  simp only [Bool.or_eq_true, decide_eq_true_iff, List.any_eq_true]
  constructor
  · rintro ((((h | h) | h) | h) | h)
    · exact .inl h
    · exact .inr (.inl h)
    · exact .inr (.inr (.inl h))
    · exact .inr (.inr (.inr (.inl h)))
    · exact .inr (.inr (.inr (.inr h)))
  · rintro (h | h | h | h | h)
    · exact .inl (.inl (.inl (.inl h)))
    · exact .inl (.inl (.inl (.inr h)))
    · exact .inl (.inl (.inr h))
    · exact .inl (.inr h)
    · exact .inr h
theorem pbad_f {b : List UInt8} (h1 : b.getD 3 0 = 165) (h2 : b.getD 9 0 = 0) (h3 : nOf b ≤ b.length - 16) (h4 : hErr (hOf b) = 0) (h5 : ∀ x ∈ padOf b, x = 0) : pbad b = false := by
  rw [Bool.eq_false_iff]
  intro h
  rcases (pbad_iff b).1 h with h | h | h | h | ⟨x, hx, h⟩
  · exact h h1
  · exact h h2
  · omega
  · exact h h4
  · exact h (h5 x hx)
section
variable {b : List UInt8} {A : HList} {n1 : Nat} {e : Int}
/-- The way out where something is wrong. -/
theorem par_err (X : HList) (he : parR b = (hz, [], e)) :
    (st ⟨n1, 0, none⟩ [.int .i64 0, .int .i64 0, .int .i64 0, .int .i64 0, .int .i64 0] <|
      ld ⟨n1, 0, none⟩ (.agg [.int .i64, .int .i64, .int .i64, .int .i64, .int .i64]) fun v1 =>
      HL.Ends (ParK b A) (.tuple #[.agg #[.int .i64 v1.1, .int .i64 v1.2.1, .int .i64 v1.2.2.1, .int .i64 v1.2.2.2.1, .int .i64 v1.2.2.2.2.1], .slice none 0 0, .int .i64 e])) (X ++ (n1, Obj.cells #[.int .i64 0, .int .i64 0, .int .i64 0, .int .i64 0, .int .i64 0] 23) :: A) := by
  refine st_of X A rfl rfl (by simp) (.inl (Nat.le_refl _)) #[.int .i64 0, .int .i64 0, .int .i64 0, .int .i64 0, .int .i64 0] rfl ?_
  exact ld_of (0, 0, 0, 0, 0, ()) (ldB (n := n1) (c := #[.int .i64 0, .int .i64 0, .int .i64 0, .int .i64 0, .int .i64 0]) (T := 23) (fz := (0, 0)) (by simp) rfl) (.app (.cons (.of (ParK.err he))))
end
theorem par_end {b : List UInt8} {A : HList} {n1 : Nat} {h : Hd} {q : List UInt8} (hok : parR b = (h, q, 0)) {s : SlV} {seg : HList} (own : Own s 1 eB (bvs q) seg) (Y X : HList) :
    (st ⟨n1, 0, none⟩ [.int .i64 h.1, .int .i64 h.2.1, .int .i64 h.2.2.1, .int .i64 h.2.2.2.1, .int .i64 h.2.2.2.2.1] <|
      ld ⟨n1, 0, none⟩ (.agg [.int .i64, .int .i64, .int .i64, .int .i64, .int .i64]) fun v1 =>
      HL.Ends (ParK b A) (.tuple #[.agg #[.int .i64 v1.1, .int .i64 v1.2.1, .int .i64 v1.2.2.1, .int .i64 v1.2.2.2.1, .int .i64 v1.2.2.2.2.1], .slice s.a s.len s.cap, .int .i64 0])) (Y ++ seg ++ (X ++ (n1, Obj.cells #[.int .i64 0, .int .i64 0, .int .i64 0, .int .i64 0, .int .i64 0] 23) :: A)) := by
  obtain ⟨k, pa, ps, ep, pg, u⟩ := h
  simp only
  refine st_of (n := n1) (off := 0) (c := #[.int .i64 0, .int .i64 0, .int .i64 0, .int .i64 0, .int .i64 0]) (T := 23) (fz := (0, 0)) (Y ++ seg ++ X) A rfl (by simp) (by simp) (.inl (Nat.le_refl _)) #[.int .i64 k, .int .i64 pa, .int .i64 ps, .int .i64 ep, .int .i64 pg] rfl ?_
  have lh : LdAt ⟨n1, 0, none⟩ [.int .i64 k, .int .i64 pa, .int .i64 ps, .int .i64 ep, .int .i64 pg] (Y ++ seg ++ X ++ (n1, Obj.cells #[.int .i64 k, .int .i64 pa, .int .i64 ps, .int .i64 ep, .int .i64 pg] 23) :: A) := ldB (n := n1) (c := #[.int .i64 k, .int .i64 pa, .int .i64 ps, .int .i64 ep, .int .i64 pg]) (T := 23) (fz := (0, 0)) (by simp) rfl
  refine ld_of (k, pa, ps, ep, pg, ()) lh ?_
  refine .drop (A := seg ++ A) (J := Y ++ X ++ [(n1, Obj.cells #[.int .i64 k, .int .i64 pa, .int .i64 ps, .int .i64 ep, .int .i64 pg] 23)]) ⟨s, seg, by rw [hok], rfl, by rw [hok]; exact own⟩ ?_
  classical
  rw [List.perm_iff_count]
  intro x
  simp only [List.append_eq, List.cons_append, List.count_append, List.count_cons, List.count_nil]
  omega
theorem pparse_cl (A : HList) (v : SlV) (b : List UInt8) (hb : BSl A v b) (hl : b.length ≤ 1000000) :
    CallF PP 17 #[.slice v.a v.len v.cap] A (ParK b A) := by
  refine CallF.of (args := [.slice v.a v.len v.cap]) noNum mixed Try.func17 (e17 v _) ?_
  unfold t17
  have hlen := hb.len
  have hcap := hb.cap
  refine nw_of fun n1 _ => ?_
  have hb1 : ∀ {X : HList}, BSl (X ++ (n1, Obj.cells #[.int .i64 0, .int .i64 0, .int .i64 0, .int .i64 0, .int .i64 0] 23) :: A) v b := fun {X} => hb.cons.right
  have hvl : ((v.len : Nat) : Int) = ((b.length : Nat) : Int) := by omega
  refine cl_rd (psized_rd _ v.len) (szd v.len, ()) rfl ?_
  cases hsz : szd v.len with
  | false => exact ifT rfl (par_err [] (parR_size (b := b) (by have := szd_f hsz; omega)))
  | true =>
    have hS : 64 ≤ b.length ∧ b.length ≤ 512 := by have := szd_t hsz; omega
    refine ifF rfl (cl_rd (pblank_rd _ v b (hb1 (X := [])) hl) (pblank b, ()) rfl ?_)
    cases hbk : pblank b with
    | true => exact ifT rfl (par_err [] (parR_blank hS hbk))
    | false =>
      refine ifF rfl ?_
      have hw : IntKind.i64.wrap ((v.len : Int) - 4) = ((b.length - 4 : Nat) : Int) := by rw [w64_id (by omega) (by omega)]; omega
      simp only [hw]
      refine slc_of (l' := 0) (h' := b.length - 4) (m' := v.cap) rfl rfl rfl (by omega) (by omega) (Nat.le_refl _) ?_
      have hs1 : BSl ((n1, Obj.cells #[.int .i64 0, .int .i64 0, .int .i64 0, .int .i64 0, .int .i64 0] 23) :: A) (slcV v ((0 : Nat) : Int) ((b.length - 4 : Nat) : Int) v.cap 1) (b.take (b.length - 4)) := by
        have := Sl.slc (m := v.cap) (hb1 (X := [])) (by omega) (l := 0) (h' := b.length - 4) (by omega) (by omega) (by omega)
        rw [bvs_slc] at this
        simpa using this
      have hnum : (wget b ((b.length - 4 : Nat) : Int) 4).1 = (num (b.drop (b.length - 4)) : Int) := by
        have e := wget_at (b := b) (a := b.length - 4) (w := 4) (by decide) (by decide) (by omega)
        rw [List.take_of_length_le (by rw [List.length_drop]; omega)] at e
        exact e
      refine cl_rd (pat_rd _ v b (hb1 (X := [])) hl _ 4) ((wget b ((b.length - 4 : Nat) : Int) 4).1, ()) rfl ?_
      rw [hnum]
      refine cl_rd (check_rd _ _ _ hs1 (by rw [List.length_take]; omega) _) (crcSum (b.take (b.length - 4)) == (num (b.drop (b.length - 4)) : Int), ()) rfl ?_
      clear hs1
      by_cases hcs : crcSum (b.take (b.length - 4)) = (num (b.drop (b.length - 4)) : Int)
      · refine ifF (by simp [hcs]) ?_
        obtain ⟨a, ha⟩ := hb.some (show 0 < b.length by omega)
        have hrd : ∀ {X : HList} (i : Nat) (hi : i < b.length) (j : Nat), j = i * 1 → LdAt (Addr.add a j) [.int .u8 (b[i].toNat : Int)] (X ++ (n1, Obj.cells #[.int .i64 0, .int .i64 0, .int .i64 0, .int .i64 0, .int .i64 0] 23) :: A) := fun {X} i hi j hj => (hb1 (X := X)).rd hi ha j hj
        refine nilc_of ha (ixn_of (by decide) (by omega) (nilc_of ha (ixn_of (by decide) (by omega) (nilc_of ha (ixn_of (by decide) (by omega) (nilc_of ha (ixn_of (by decide) (by omega) ?_)))))))
        refine ld_of (b[0].toNat : Int) (hrd (X := []) 0 (by omega) _ rfl) (ld_of (b[1].toNat : Int) (hrd (X := []) 1 (by omega) _ rfl) (ld_of (b[2].toNat : Int) (hrd (X := []) 2 (by omega) _ rfl) (ld_of (b[8].toNat : Int) (hrd (X := []) 8 (by omega) _ rfl) ?_)))
        refine cl_rd (pat_rd _ v b (hb1 (X := [])) hl 4 4) ((num ((b.drop 4).take 4) : Int), ()) (by rw [← wget_at (by decide) (by decide) (by omega)]; rfl) ?_
        refine keep_of (hrd (X := []) 8 (by omega) _ rfl) (keep_of (hrd (X := []) 2 (by omega) _ rfl) (keep_of (hrd (X := []) 1 (by omega) _ rfl) (keep_of (hrd (X := []) 0 (by omega) _ rfl) ?_)))
        have hu : ∀ x : UInt8, IntKind.i64.wrap (x.toNat : Int) = (x.toNat : Int) := fun x => by have := x.toNat_lt; exact w64_id (by omega) (by omega)
        have hh : hOf b = ((b[0].toNat : Int), (b[1].toNat : Int), (b[2].toNat : Int), (num ((b.drop 4).take 4) : Int), (b[8].toNat : Int), ()) := by
          unfold hOf
          rw [getD_at (show 0 < b.length by omega), getD_at (show 1 < b.length by omega), getD_at (show 2 < b.length by omega), getD_at (show 8 < b.length by omega)]
        simp only [hu]
        refine nw_of fun n2 _ => st_of [] _ rfl rfl (by simp) (.inl (Nat.le_refl _)) #[.int .i64 b[0].toNat, .int .i64 b[1].toNat, .int .i64 b[2].toNat, .int .i64 (num ((b.drop 4).take 4)), .int .i64 b[8].toNat] rfl ?_
        rw [List.nil_append]
        have l2 : ∀ {X : HList}, LdAt ⟨n2, 0, none⟩ (hEnc (hOf b)) (X ++ (n2, Obj.cells #[.int .i64 b[0].toNat, .int .i64 b[1].toNat, .int .i64 b[2].toNat, .int .i64 (num ((b.drop 4).take 4)), .int .i64 b[8].toNat] 23) :: (n1, Obj.cells #[.int .i64 0, .int .i64 0, .int .i64 0, .int .i64 0, .int .i64 0] 23) :: A) := fun {X} => by
          rw [hh]
          exact ldB (n := n2) (c := #[.int .i64 b[0].toNat, .int .i64 b[1].toNat, .int .i64 b[2].toNat, .int .i64 (num ((b.drop 4).take 4)), .int .i64 b[8].toNat]) (T := 23) (fz := (0, 0)) (by simp) rfl
        generalize (n2, Obj.cells #[.int .i64 b[0].toNat, .int .i64 b[1].toNat, .int .i64 b[2].toNat, .int .i64 (num ((b.drop 4).take 4)), .int .i64 b[8].toNat] 23) = o2 at l2 ⊢
        clear hu hh
        have hn : nOf b < 65536 := nOf_lt b
        refine cl_rd (pat_rd _ v b (hb1 (X := [o2])) hl 10 2) ((nOf b : Int), ()) (by unfold nOf; rw [← wget_at (by decide) (by decide) (by omega)]; rfl) ?_
        refine nilc_of ha (ixn_of (by decide) (by omega) (ld_of (b[3].toNat : Int) (hrd (X := [o2]) 3 (by omega) _ rfl) ?_))
        refine ifNe_of (fun hne => par_err [o2] (parR_bad hS hbk hcs ((pbad_iff b).2 (.inl ?_)))) (fun h3 => ?_)
        · rw [getD_at (show 3 < b.length by omega)]
          rintro e
          rw [e] at hne
          exact hne rfl
        have h3' : b.getD 3 0 = 165 := by rw [getD_at (show 3 < b.length by omega)]; exact (eq_u8 _ 165 (by decide)).1 h3
        refine nilc_of ha (ixn_of (by decide) (by omega) (ld_of (b[9].toNat : Int) (hrd (X := [o2]) 9 (by omega) _ rfl) ?_))
        refine ifNe_of (fun hne => par_err [o2] (parR_bad hS hbk hcs ((pbad_iff b).2 (.inr (.inl ?_))))) (fun h9 => ?_)
        · rw [getD_at (show 9 < b.length by omega)]
          rintro e
          rw [e] at hne
          exact hne rfl
        have h9' : b.getD 9 0 = 0 := by rw [getD_at (show 9 < b.length by omega)]; exact (eq_u8 _ 0 (by decide)).1 h9
        clear h3 h9
        have hroom : roomOf (v.len : Int) = ((b.length - 16 : Nat) : Int) := by unfold roomOf; rw [if_pos (by omega)]; omega
        refine cl_rd (proom_rd _ v.len) (roomOf v.len, ()) rfl ?_
        rw [hroom]
        refine ifD_of (fun (hbig : (nOf b : Int) > ((b.length - 16 : Nat) : Int)) => par_err [o2] (parR_bad hS hbk hcs ((pbad_iff b).2 (.inr (.inr (.inl (by omega))))))) (fun (hsm : ¬ (nOf b : Int) > ((b.length - 16 : Nat) : Int)) => ?_)
        refine ld_of (hOf b) (l2 (X := [])) (cl_rd (pcheck_rd _ (hOf b)) (hErr (hOf b), ()) rfl ?_)
        refine ifNe_of (fun (he : hErr (hOf b) ≠ 0) => par_err [o2] (parR_bad hS hbk hcs ((pbad_iff b).2 (.inr (.inr (.inr (.inl he))))))) (fun (he : hErr (hOf b) = 0) => ?_)
        have hwn : IntKind.i64.wrap (12 + (nOf b : Int)) = ((12 + nOf b : Nat) : Int) := by rw [w64_id (by omega) (by omega)]; omega
        simp only [hwn]
        refine slc_of (l' := 12 + nOf b) (h' := b.length - 4) (m' := v.cap) rfl rfl rfl (by omega) (by omega) (Nat.le_refl _) ?_
        have hs2 : BSl (o2 :: (n1, Obj.cells #[.int .i64 0, .int .i64 0, .int .i64 0, .int .i64 0, .int .i64 0] 23) :: A) (slcV v ((12 + nOf b : Nat) : Int) ((b.length - 4 : Nat) : Int) v.cap 1) (padOf b) := by
          have := Sl.slc (m := v.cap) (hb1 (X := [o2])) (by omega) (l := 12 + nOf b) (h' := b.length - 4) (by omega) (by omega) (by omega)
          rw [bvs_slc] at this
          exact this
        generalize slcV v ((12 + nOf b : Nat) : Int) ((b.length - 4 : Nat) : Int) v.cap 1 = s2 at hs2 ⊢
        have hl2 := hs2.len
        have hpl : (padOf b).length ≤ b.length := by unfold padOf; rw [List.length_take, List.length_drop]; omega
        refine lp_of (fun k z L' => L' = o2 :: (n1, Obj.cells #[.int .i64 0, .int .i64 0, .int .i64 0, .int .i64 0, .int .i64 0] 23) :: A ∧ ∃ i : Nat, i ≤ (padOf b).length ∧ k = (padOf b).length - i ∧ z = ((i : Int), ()) ∧ ∀ x ∈ (padOf b).take i, x = 0) (padOf b).length ⟨rfl, 0, by omega, by omega, rfl, by simp⟩ ?_
        rintro k z L' ⟨rfl, i, hi, rfl, rfl, hall⟩
        refine ifD_of (fun (hlt : (i : Int) < s2.len) => ?_) (fun (hge : ¬ (i : Int) < s2.len) => ?_)
        · have hi' : i < (padOf b).length := by omega
          obtain ⟨a2, ha2⟩ := hs2.some hi'
          refine nilc_of ha2 (ixn_of (show (0 : Int) ≤ i by omega) hlt (ld_of ((padOf b)[i].toNat : Int) (hs2.rd hi' ha2 _ (by simp)) ?_))
          refine ifNe_of (fun hne => par_err [o2] (parR_bad hS hbk hcs ((pbad_iff b).2 (.inr (.inr (.inr (.inr ⟨(padOf b)[i], List.getElem_mem hi', ?_⟩))))))) (fun h0 => ⟨(padOf b).length - (i + 1), by omega, rfl, i + 1, by omega, rfl, ?_, fun x hx => ?_⟩)
          · rintro e
            rw [e] at hne
            exact hne rfl
          · rw [w64_id (by first | omega | (simp only; omega)) (by first | omega | (simp only; omega))]
            rfl
          · rw [List.take_succ_eq_append_getElem hi'] at hx
            rcases List.mem_append.1 hx with hx | hx
            · exact hall x hx
            · rw [List.mem_singleton.1 hx]
              exact (eq_u8 _ 0 (by decide)).1 h0
        · obtain rfl : i = (padOf b).length := by omega
          rw [List.take_length] at hall
          have hok := parR_ok hS hbk hcs (pbad_f h3' h9' (by omega) he hall)
          refine slc_of (l' := 12) (h' := 12 + nOf b) (m' := v.cap) rfl rfl rfl (by omega) (by omega) (Nat.le_refl _) ?_
          have hs3 : ∀ {o : Nat × Obj}, BSl (o :: o2 :: (n1, Obj.cells #[.int .i64 0, .int .i64 0, .int .i64 0, .int .i64 0, .int .i64 0] 23) :: A) (slcV v ((12 : Nat) : Int) ((12 + nOf b : Nat) : Int) v.cap 1) (payOf b) := by
            intro o
            have := Sl.slc (m := v.cap) (hb1 (X := [o, o2])) (by omega) (l := 12) (h' := 12 + nOf b) (by omega) (by omega) (by omega)
            rw [bvs_slc, Nat.add_sub_cancel_left] at this
            exact this
          have hsl3 : (slcV v ((12 : Nat) : Int) ((12 + nOf b : Nat) : Int) v.cap 1).len = nOf b := by simp only [slcV, Int.toNat_natCast]; omega
          generalize slcV v ((12 : Nat) : Int) ((12 + nOf b : Nat) : Int) v.cap 1 = s3 at hs3 hsl3 ⊢
          refine ld_of (hOf b) (l2 (X := [])) (nw_of fun n3 _ => append_in elemB srcB [] (o2 :: (n1, Obj.cells #[.int .i64 0, .int .i64 0, .int .i64 0, .int .i64 0, .int .i64 0] 23) :: A) own_empty rfl (.sl hs3) (bvs_plain _) (by first | omega | (simp only; omega)) fun s4 seg4 hs4 own4 => keep_of l2 ?_)
          rw [List.nil_append] at own4
          exact par_end hok own4 [] [o2]
      · exact ifT (by simp [hcs]) (par_err [] (parR_sum hS hbk hcs))
end Go.Proofs.Ytaniefdpjommnaa
