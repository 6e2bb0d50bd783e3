/-
  It is proved what Image of the document's answer for the layer page computes. There are no further conditions than those that each theorem names.
-/
import Derived.Test.YtaniefdpjommnaaPage2
set_option linter.unusedVariables false
set_option linter.unusedSimpArgs false
namespace Go.Proofs.Ytaniefdpjommnaa
open Go.HL

theorem u8w (k : Nat) : IntKind.u8.wrap (k : Int) = ((dig k 0).toNat : Int) := by
  have := wrap_dig k 0
  rwa [show k / 256 ^ 0 = k by simp] at this
theorem digs1 (k : Nat) : digs k 1 = [dig k 0] := rfl
theorem rimage_cl (A : HList) (h : Hd) (v : SlV) (p : List UInt8) (hv : BSl A v p) (size : Int) (hs : -9223372036854775808 ≤ size ∧ size ≤ 9223372036854775807) :
    CallF PP 13 #[.agg #[.int .i64 h.1, .int .i64 h.2.1, .int .i64 h.2.2.1, .int .i64 h.2.2.2.1, .int .i64 h.2.2.2.2.1], .slice v.a v.len v.cap, .int .i64 size] A (ImgK h p size A) := by
  refine CallF.of (args := [.agg #[.int .i64 h.1, .int .i64 h.2.1, .int .i64 h.2.2.1, .int .i64 h.2.2.2.1, .int .i64 h.2.2.2.2.1], .slice v.a v.len v.cap, .int .i64 size]) noNum mixed Try.func13 (e13 h v size _) ?_
  unfold t13
  have hvl := hv.len
  refine nw_of fun n1 _ => ?_
  generalize ho : (n1, Obj.cells #[.int .i64 h.1, .int .i64 h.2.1, .int .i64 h.2.2.1, .int .i64 h.2.2.2.1, .int .i64 h.2.2.2.2.1] 23) = o1
  have lh : ∀ {Z : HList}, o1 ∈ Z → LdAt ⟨n1, 0, none⟩ (hEnc h) Z := by subst ho; exact fun hm => ldB hm rfl
  clear ho
  refine cl_rd (rsized_rd _ size) (szd size, ()) rfl ?_
  cases hsz : szd size with
  | false => exact ifT rfl (.cons (.of (ImgK.err (by unfold imgR; rw [if_pos (szd_f hsz)]))))
  | true =>
    have hS := szd_t hsz
    refine ifF rfl (ld_of h (lh (by simp)) (cl_rd (rright_rd _ h) (hErr h, ()) rfl ?_))
    refine ifNe_of (fun (he : hErr h ≠ 0) => .cons (.of (ImgK.err (by unfold imgR; rw [if_neg (by simpa using hS), if_pos he])))) (fun (he : hErr h = 0) => ?_)
    rw [w64_id (by omega) (by omega)]
    refine ifD_of (fun (hl : (v.len : Int) > size - 16) => .cons (.of (ImgK.err (by unfold imgR; rw [if_neg (by simpa using hS), if_neg (by simpa using he), if_pos (by omega)])))) (fun (hl : ¬ (v.len : Int) > size - 16) => ?_)
    obtain ⟨S, rfl⟩ : ∃ S : Nat, size = S := ⟨size.toNat, by omega⟩
    have himg : imgR h p S = (iAll h p S, 0) := by
      unfold imgR
      rw [if_neg (by simpa using hS), if_neg (by simpa using he), if_neg (by omega), Int.toNat_natCast]
    unfold ImgK
    rw [himg]
    have hok := hErr_ok he
    obtain ⟨k, pa, ps, ep, pg, u⟩ := h
    simp only at hok
    obtain ⟨k, rfl⟩ : ∃ n : Nat, k = n := ⟨k.toNat, by omega⟩
    obtain ⟨pa, rfl⟩ : ∃ n : Nat, pa = n := ⟨pa.toNat, by omega⟩
    obtain ⟨ps, rfl⟩ : ∃ n : Nat, ps = n := ⟨ps.toNat, by omega⟩
    obtain ⟨ep, rfl⟩ : ∃ n : Nat, ep = n := ⟨ep.toNat, by omega⟩
    obtain ⟨pg, rfl⟩ : ∃ n : Nat, pg = n := ⟨pg.toNat, by omega⟩
    refine ld_of (k : Int) ((lh (by simp)).pre fun i u hu => by cases i with | zero => exact hu | succ i => exact absurd (show (none : Option Value) = some u from hu) (by simp)) (ld_of (pa : Int) ((lh (by simp)).one 1 rfl) (ld_of (ps : Int) ((lh (by simp)).one 2 rfl) (nw_of fun n2 _ => ?_)))
    simp only [u8w]
    have c2 : BSl ((n2, Obj.cells #[.int .u8 (dig k 0).toNat, .int .u8 (dig pa 0).toNat, .int .u8 (dig ps 0).toNat, .int .u8 165] eB) :: o1 :: A) ⟨some ⟨n2, 0, none⟩, 4, 4⟩ [dig k 0, dig pa 0, dig ps 0, 165] :=
      ⟨rfl, Nat.le_refl _, .inr ⟨_, rfl, ldB List.mem_cons_self rfl⟩⟩
    have e2 : [dig k 0, dig pa 0, dig ps 0, 165] = digs k 1 ++ digs pa 1 ++ digs ps 1 ++ digs 165 1 := rfl
    rw [e2] at c2
    generalize (n2, Obj.cells #[.int .u8 (dig k 0).toNat, .int .u8 (dig pa 0).toNat, .int .u8 (dig ps 0).toNat, .int .u8 165] eB) = o2 at c2 ⊢
    refine ld_of (ep : Int) ((lh (by simp)).one 3 rfl) (cl_in [] [] (rput_cl (o2 :: o1 :: A) ⟨some ⟨n2, 0, none⟩, 4, 4⟩ _ c2 (by simp [digs_len]) ep 4 (by omega) (by omega)) (by simp) ?_)
    rintro _ _ - ⟨s3, seg3, rfl, rfl, own3⟩
    rw [wput_4 (n := (ep : Int)) _ (by omega) (by omega), Int.toNat_natCast] at own3
    rw [List.append_nil, List.nil_append]
    refine ⟨(s3, _, ()), rfl, ld_of (pg : Int) ((lh (by simp)).one 4 rfl) (nw_of fun n3 _ => ?_)⟩
    have c3 : BSl ((n3, Obj.cells #[.int .u8 (IntKind.u8.wrap (pg : Int)), .int .u8 0] eB) :: (seg3 ++ (o2 :: o1 :: A))) ⟨some ⟨n3, 0, none⟩, 2, 2⟩ (digs pg 1 ++ digs 0 1) := by
      rw [u8w]
      exact ⟨rfl, Nat.le_refl _, .inr ⟨_, rfl, ldB List.mem_cons_self rfl⟩⟩
    have hl3 := own3.sl.len
    rw [bvs_length] at hl3
    simp only [List.length_append, digs_len] at hl3
    refine append_in elemB srcB [(n3, Obj.cells #[.int .u8 (IntKind.u8.wrap (pg : Int)), .int .u8 0] eB)] (o2 :: o1 :: A) own3 rfl (.sl c3) (bvs_plain _) (by first | omega | (simp only; omega)) fun s4 seg4 hs4 own4 => ?_
    rw [← bvs_append] at own4
    generalize (n3, Obj.cells #[.int .u8 (IntKind.u8.wrap (pg : Int)), .int .u8 0] eB) = o3 at own4 ⊢
    have hvl' : ((v.len : Nat) : Int) = ((p.length : Nat) : Int) := by omega
    rw [hvl']
    refine cl_in [] [] (rput_cl (o3 :: (seg4 ++ (o2 :: o1 :: A))) s4 _ own4.sl.left.cons (by simp [digs_len]) (p.length : Int) 2 (by omega) (by omega)) (by simp) ?_
    rintro _ _ - ⟨s5, seg5, rfl, rfl, own5⟩
    rw [wput_2 (n := ((p.length : Nat) : Int)) _ (by omega) (by omega), Int.toNat_natCast] at own5
    have e5 : digs k 1 ++ digs pa 1 ++ digs ps 1 ++ digs 165 1 ++ digs ep 4 ++ (digs pg 1 ++ digs 0 1) ++ digs p.length 2 = hBytes ((k : Int), (pa : Int), (ps : Int), (ep : Int), (pg : Int), ()) p.length := by
      unfold hBytes
      simp only [Int.toNat_natCast, List.append_assoc]
    rw [e5] at own5
    rw [List.append_nil, List.nil_append]
    refine ⟨(s5, _, ()), rfl, ?_⟩
    have hl5 := own5.sl.len
    rw [bvs_length, hBytes_len] at hl5
    refine append_in elemB srcB [] (o3 :: (seg4 ++ (o2 :: o1 :: A))) own5 rfl (.sl (hv.cons.cons.right.cons.right)) (bvs_plain _) (by first | omega | (simp only; omega)) fun s6 seg6 hs6 own6 => ?_
    rw [← bvs_append] at own6
    rw [List.nil_append]
    have hw : IntKind.i64.wrap ((S : Int) - 4) = ((S - 4 : Nat) : Int) := by rw [w64_id (by omega) (by omega)]; omega
    simp only [hw]
    generalize hh : ((k : Int), (pa : Int), (ps : Int), (ep : Int), (pg : Int), ()) = hd at own6 he himg
    have hb12 := hBytes_len hd p.length
    refine lp_of (fun q z L' => ∃ (j : Nat) (s : SlV) (seg J : HList), j ≤ S - 16 - p.length ∧ q = S - 16 - p.length - j ∧ z = (s, ()) ∧ L' = J ++ seg ++ (o3 :: (seg4 ++ (o2 :: o1 :: A))) ∧ Own s 1 eB (bvs (hBytes hd p.length ++ p ++ List.replicate j 0)) seg) (S - 16 - p.length)
      ⟨0, s6, seg6, [], by omega, by omega, rfl, rfl, by simpa using own6⟩ ?_
    rintro q z L' ⟨j, s, seg, J, hj, rfl, rfl, rfl, own⟩
    have hsl := own.sl.len
    rw [bvs_length] at hsl
    simp only [List.length_append, List.length_replicate, hb12] at hsl
    refine ifD_of (fun (hlt : (s.len : Int) < ((S - 4 : Nat) : Int)) => ?_) (fun (hge : ¬ (s.len : Int) < ((S - 4 : Nat) : Int)) => ?_)
    · refine nw_of fun n4 _ => ?_
      have c4 : BSl ((n4, Obj.cells #[.int .u8 0] eB) :: (J ++ seg ++ (o3 :: (seg4 ++ (o2 :: o1 :: A))))) ⟨some ⟨n4, 0, none⟩, 1, 1⟩ [0] := ⟨rfl, Nat.le_refl _, .inr ⟨_, rfl, ldB List.mem_cons_self rfl⟩⟩
      refine append_in elemB srcB ((n4, Obj.cells #[.int .u8 0] eB) :: J) (o3 :: (seg4 ++ (o2 :: o1 :: A))) own (by simp) (.sl c4) (bvs_plain _) (by first | omega | (simp only; omega)) fun s7 seg7 hs7 own7 => ?_
      rw [← bvs_append] at own7
      refine ⟨S - 16 - p.length - (j + 1), by omega, j + 1, s7, seg7, _, by omega, rfl, rfl, rfl, ?_⟩
      rw [List.replicate_succ', ← List.append_assoc]
      exact own7
    · obtain rfl : j = S - 16 - p.length := by omega
      have hbody : hBytes hd p.length ++ p ++ List.replicate (S - 16 - p.length) 0 = iBody hd p S := rfl
      have hallE : iAll hd p S = iBody hd p S ++ digs (crcSum (iBody hd p S)).toNat 4 := rfl
      have hbl := iBody_len (h := hd) (p := p) (size := S) (by omega) (by omega)
      rw [hbody] at own
      rw [hallE]
      generalize iBody hd p S = body at own hbl ⊢
      have hcs := crcSum_rng body
      refine cl_rd (rsum_rd _ s body own.sl.right.left (by omega)) (crcSum body, ()) rfl ?_
      refine cl_in [] [] (rput_cl (J ++ seg ++ (o3 :: (seg4 ++ (o2 :: o1 :: A)))) s body own.sl.right.left (by omega) (crcSum body) 4 (by omega) (by omega)) (by simp) ?_
      rintro _ _ - ⟨s9, seg9, rfl, rfl, own9⟩
      rw [wput_4 (n := crcSum body) _ (by omega) (by omega)] at own9
      rw [List.append_nil, List.nil_append]
      refine ⟨(s9, _, ()), rfl, .drop (A := seg9 ++ A) (J := J ++ seg ++ (o3 :: (seg4 ++ [o2, o1]))) ⟨s9, seg9, rfl, rfl, own9⟩ ?_⟩
      classical
      rw [List.perm_iff_count]
      intro x
      simp only [List.append_eq, List.cons_append, List.count_append, List.count_cons, List.count_nil]
      omega
end Go.Proofs.Ytaniefdpjommnaa
