/-
  It is proved what Parse of the document's answer for the layer page computes. There are no further conditions than those that each theorem names.
-/
import Derived.Test.YtaniefdpjommnaaPage4
set_option linter.unusedVariables false
set_option linter.unusedSimpArgs false
namespace Go.Proofs.Ytaniefdpjommnaa
open Go.HL

theorem imgR_ok {h : Hd} {p : List UInt8} {S : Nat} (h1 : 64 ≤ S ∧ S ≤ 512) (h2 : hErr h = 0) (h3 : p.length ≤ S - 16) : imgR h p (S : Int) = (iAll h p S, 0) := by
  unfold imgR
  rw [if_neg (by omega), if_neg (by simpa using h2), if_neg (by omega), Int.toNat_natCast]
theorem imgR_err {h : Hd} {p : List UInt8} {S : Nat} (h1 : 64 ≤ S ∧ S ≤ 512) (h2 : hErr h ≠ 0) : imgR h p (S : Int) = ([], hErr h) := by
  unfold imgR
  rw [if_neg (by omega), if_pos h2]
theorem rparse_cl (A : HList) (v : SlV) (b : List UInt8) (hb : BSl A v b) (hl : b.length ≤ 1000000) :
    CallF PP 18 #[.slice v.a v.len v.cap] A (ParK b A) := by
  refine CallF.of (args := [.slice v.a v.len v.cap]) noNum mixed Try.func18 (e18 v _) ?_
  unfold t18
  have hlen := hb.len
  have hcap := hb.cap
  refine nw_of fun n1 _ => ?_
  have hb1 : ∀ {X : HList}, BSl (X ++ (n1, Obj.cells #[.int .i64 0, .int .i64 0, .int .i64 0, .int .i64 0, .int .i64 0] 23) :: A) v b := fun {X} => hb.cons.right
  have hvl : ((v.len : Nat) : Int) = ((b.length : Nat) : Int) := by omega
  refine cl_rd (rsized_rd _ v.len) (szd v.len, ()) rfl ?_
  cases hsz : szd v.len with
  | false => exact ifT rfl (par_err [] (parR_size (b := b) (by have := szd_f hsz; omega)))
  | true =>
    have hS : 64 ≤ b.length ∧ b.length ≤ 512 := by have := szd_t hsz; omega
    refine ifF rfl (cl_rd (rblank_rd _ v b (hb1 (X := [])) hl) (pblank b, ()) rfl ?_)
    cases hbk : pblank b with
    | true => exact ifT rfl (par_err [] (parR_blank hS hbk))
    | false =>
      refine ifF rfl ?_
      have hw : IntKind.i64.wrap ((v.len : Int) - 4) = ((b.length - 4 : Nat) : Int) := by rw [w64_id (by omega) (by omega)]; omega
      simp only [hw]
      have hnum : (wget b ((b.length - 4 : Nat) : Int) 4).1 = (num (b.drop (b.length - 4)) : Int) := by
        have e := wget_at (b := b) (a := b.length - 4) (w := 4) (by decide) (by decide) (by omega)
        rw [List.take_of_length_le (by rw [List.length_drop]; omega)] at e
        exact e
      refine cl_rd (rget_rd _ v b (hb1 (X := [])) (by omega) _ 4) ((wget b ((b.length - 4 : Nat) : Int) 4).1, (wget b ((b.length - 4 : Nat) : Int) 4).2, ()) rfl ?_
      rw [hnum]
      refine slc_of (l' := 0) (h' := b.length - 4) (m' := v.cap) rfl rfl rfl (by omega) (by omega) (Nat.le_refl _) ?_
      have hs1 : BSl ((n1, Obj.cells #[.int .i64 0, .int .i64 0, .int .i64 0, .int .i64 0, .int .i64 0] 23) :: A) (slcV v ((0 : Nat) : Int) ((b.length - 4 : Nat) : Int) v.cap 1) (b.take (b.length - 4)) := by
        have := Sl.slc (m := v.cap) (hb1 (X := [])) (by omega) (l := 0) (h' := b.length - 4) (by omega) (by omega) (by omega)
        rw [bvs_slc] at this
        simpa using this
      refine cl_rd (rsum_rd _ _ _ hs1 (by rw [List.length_take]; omega)) (crcSum (b.take (b.length - 4)), ()) rfl ?_
      clear hs1
      refine ifNe_of (fun (hcs : (num (b.drop (b.length - 4)) : Int) ≠ crcSum (b.take (b.length - 4))) => par_err [] (parR_sum hS hbk (fun e => hcs e.symm))) (fun (hcs' : (num (b.drop (b.length - 4)) : Int) = crcSum (b.take (b.length - 4))) => ?_)
      have hcs := hcs'.symm
      obtain ⟨a, ha⟩ := hb.some (show 0 < b.length by omega)
      have hrd : ∀ {X : HList} (i : Nat) (hi : i < b.length) (j : Nat), j = i * 1 → LdAt (Addr.add a j) [.int .u8 (b[i].toNat : Int)] (X ++ (n1, Obj.cells #[.int .i64 0, .int .i64 0, .int .i64 0, .int .i64 0, .int .i64 0] 23) :: A) := fun {X} i hi j hj => (hb1 (X := X)).rd hi ha j hj
      refine cl_rd (rget_rd _ v b (hb1 (X := [])) (by omega) 4 4) ((num ((b.drop 4).take 4) : Int), (wget b 4 4).2, ()) (by rw [← wget_at (by decide) (by decide) (by omega)]; rfl) ?_
      have hn : nOf b < 65536 := nOf_lt b
      refine cl_rd (rget_rd _ v b (hb1 (X := [])) (by omega) 10 2) ((nOf b : Int), (wget b 10 2).2, ()) (by unfold nOf; rw [← wget_at (by decide) (by decide) (by omega)]; rfl) ?_
      refine nilc_of ha (ixn_of (by decide) (by omega) (nilc_of ha (ixn_of (by decide) (by omega) (nilc_of ha (ixn_of (by decide) (by omega) (nilc_of ha (ixn_of (by decide) (by omega) ?_)))))))
      refine ld_of (b[0].toNat : Int) (hrd (X := []) 0 (by omega) _ rfl) (ld_of (b[1].toNat : Int) (hrd (X := []) 1 (by omega) _ rfl) (ld_of (b[2].toNat : Int) (hrd (X := []) 2 (by omega) _ rfl) (ld_of (b[8].toNat : Int) (hrd (X := []) 8 (by omega) _ rfl) ?_)))
      have hu : ∀ x : UInt8, IntKind.i64.wrap (x.toNat : Int) = (x.toNat : Int) := fun x => by have := x.toNat_lt; exact w64_id (by omega) (by omega)
      have hh : hOf b = ((b[0].toNat : Int), (b[1].toNat : Int), (b[2].toNat : Int), (num ((b.drop 4).take 4) : Int), (b[8].toNat : Int), ()) := by
        unfold hOf
        rw [getD_at (show 0 < b.length by omega), getD_at (show 1 < b.length by omega), getD_at (show 2 < b.length by omega), getD_at (show 8 < b.length by omega)]
      simp only [hu]
      refine nw_of fun n2 _ => st_of [] _ rfl rfl (by simp) (.inl (Nat.le_refl _)) #[.int .i64 b[0].toNat, .int .i64 b[1].toNat, .int .i64 b[2].toNat, .int .i64 (num ((b.drop 4).take 4)), .int .i64 b[8].toNat] rfl ?_
      rw [List.nil_append]
      have l2 : ∀ {X : HList}, LdAt ⟨n2, 0, none⟩ (hEnc (hOf b)) (X ++ (n2, Obj.cells #[.int .i64 b[0].toNat, .int .i64 b[1].toNat, .int .i64 b[2].toNat, .int .i64 (num ((b.drop 4).take 4)), .int .i64 b[8].toNat] 23) :: (n1, Obj.cells #[.int .i64 0, .int .i64 0, .int .i64 0, .int .i64 0, .int .i64 0] 23) :: A) := fun {X} => by
        rw [hh]
        exact ldB (n := n2) (c := #[.int .i64 b[0].toNat, .int .i64 b[1].toNat, .int .i64 b[2].toNat, .int .i64 (num ((b.drop 4).take 4)), .int .i64 b[8].toNat]) (T := 23) (fz := (0, 0)) (by simp) rfl
      generalize (n2, Obj.cells #[.int .i64 b[0].toNat, .int .i64 b[1].toNat, .int .i64 b[2].toNat, .int .i64 (num ((b.drop 4).take 4)), .int .i64 b[8].toNat] 23) = o2 at l2 ⊢
      clear hu hh
      have hw16 : IntKind.i64.wrap ((v.len : Int) - 16) = ((b.length - 16 : Nat) : Int) := by rw [w64_id (by omega) (by omega)]; omega
      rw [hw16]
      refine ifD_of (fun (hbig : (nOf b : Int) > ((b.length - 16 : Nat) : Int)) => par_err [o2] (parR_bad hS hbk hcs ((pbad_iff b).2 (.inr (.inr (.inl (by omega))))))) (fun (hsm : ¬ (nOf b : Int) > ((b.length - 16 : Nat) : Int)) => ?_)
      have hwn : IntKind.i64.wrap (12 + (nOf b : Int)) = ((12 + nOf b : Nat) : Int) := by rw [w64_id (by omega) (by omega)]; omega
      simp only [hwn]
      refine nw_of fun n3 _ => slc_of (l' := 12) (h' := 12 + nOf b) (m' := v.cap) rfl rfl rfl (by omega) (by omega) (Nat.le_refl _) ?_
      have hs3 : ∀ {o : Nat × Obj}, BSl (o :: o2 :: (n1, Obj.cells #[.int .i64 0, .int .i64 0, .int .i64 0, .int .i64 0, .int .i64 0] 23) :: A) (slcV v ((12 : Nat) : Int) ((12 + nOf b : Nat) : Int) v.cap 1) (payOf b) := by
        intro o
        have := Sl.slc (m := v.cap) (hb1 (X := [o, o2])) (by omega) (l := 12) (h' := 12 + nOf b) (by omega) (by omega) (by omega)
        rw [bvs_slc, Nat.add_sub_cancel_left] at this
        exact this
      have hsl3 : (slcV v ((12 : Nat) : Int) ((12 + nOf b : Nat) : Int) v.cap 1).len = nOf b := by simp only [slcV, Int.toNat_natCast]; omega
      generalize slcV v ((12 : Nat) : Int) ((12 + nOf b : Nat) : Int) v.cap 1 = s3 at hs3 hsl3 ⊢
      refine append_in elemB srcB [] (o2 :: (n1, Obj.cells #[.int .i64 0, .int .i64 0, .int .i64 0, .int .i64 0, .int .i64 0] 23) :: A) own_empty rfl (.sl hs3) (bvs_plain _) (by first | omega | (simp only; omega)) fun s4 seg4 hs4 own4 => ?_
      rw [List.nil_append] at own4
      refine ld_of (hOf b) l2 ?_
      rw [hvl]
      refine cl_in [] [] (rimage_cl ([] ++ seg4 ++ (o2 :: (n1, Obj.cells #[.int .i64 0, .int .i64 0, .int .i64 0, .int .i64 0, .int .i64 0] 23) :: A)) (hOf b) s4 (payOf b) own4.sl.right.left ((b.length : Nat) : Int) (by omega)) (by simp) ?_
      rintro _ _ - ⟨s7, seg7, rfl, rfl, own7⟩
      rw [List.append_nil, List.nil_append, List.nil_append]
      refine ⟨(s7, _, ()), rfl, ?_⟩
      have hpl := payOf_len (b := b) (by omega)
      have hX : seg7 ++ (seg4 ++ (o2 :: (n1, Obj.cells #[.int .i64 0, .int .i64 0, .int .i64 0, .int .i64 0, .int .i64 0] 23) :: A)) = (seg7 ++ (seg4 ++ [o2])) ++ (n1, Obj.cells #[.int .i64 0, .int .i64 0, .int .i64 0, .int .i64 0, .int .i64 0] 23) :: A := by simp
      by_cases he : hErr (hOf b) = 0
      · rw [imgR_ok hS he (by omega)] at own7 ⊢
        refine ifF rfl ?_
        have hag := again hS.1 hcs (by omega)
        have hb7 : BSl (seg7 ++ (seg4 ++ (o2 :: (n1, Obj.cells #[.int .i64 0, .int .i64 0, .int .i64 0, .int .i64 0, .int .i64 0] 23) :: A))) v b := hb.cons.cons.right.right
        refine b2s_of own7.sl.left (b2s_of hb7 ?_)
        simp only [str_beq]
        by_cases hE : iAll (hOf b) (payOf b) b.length = b
        · obtain ⟨e1, e2, e3⟩ := hag.1 hE
          refine ifF (by rw [hE]; simp) ?_
          refine ld_of (hOf b) ?_ ?_
          · have := l2 (X := seg7 ++ seg4)
            rw [List.append_assoc] at this
            exact this
          rw [← List.append_assoc]
          exact par_end (parR_ok hS hbk hcs (pbad_f e1 e2 (by omega) he e3)) own4 seg7 [o2]
        · refine ifT ?_ ?_
          · simp only [Bool.not_eq_true', decide_eq_false_iff_not]
            intro e
            apply hE
            have := congrArg (fun x : ByteArray => x.data.toList) e
            simpa using this
          rw [hX]
          refine par_err _ (parR_bad hS hbk hcs ?_)
          cases hq : pbad b with
          | true => rfl
          | false =>
            exfalso
            apply hE
            apply hag.2
            have hno := fun c => (Bool.eq_false_iff.1 hq) ((pbad_iff b).2 c)
            refine ⟨Decidable.byContradiction fun c => hno (.inl c), Decidable.byContradiction fun c => hno (.inr (.inl c)), fun x hx => Decidable.byContradiction fun c => hno (.inr (.inr (.inr (.inr ⟨x, hx, c⟩))))⟩
      · rw [imgR_err hS he]
        refine ifT (by simpa using he) ?_
        rw [hX]
        exact par_err _ (parR_bad hS hbk hcs ((pbad_iff b).2 (.inr (.inr (.inr (.inl he))))))
end Go.Proofs.Ytaniefdpjommnaa
