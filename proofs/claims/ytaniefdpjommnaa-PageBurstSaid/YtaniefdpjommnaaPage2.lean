/-
  It is proved what Image of the layer page and of its document's answer computes. There are no further conditions than those that each theorem names.
-/
import Derived.Test.YtaniefdpjommnaaPage
set_option linter.unusedVariables false
set_option linter.unusedSimpArgs false
namespace Go.Proofs.Ytaniefdpjommnaa
open Go.HL

def hBytes (h : Hd) (n : Nat) : List UInt8 := digs h.1.toNat 1 ++ digs h.2.1.toNat 1 ++ digs h.2.2.1.toNat 1 ++ digs 165 1 ++ digs h.2.2.2.1.toNat 4 ++ digs h.2.2.2.2.1.toNat 1 ++ digs 0 1 ++ digs n 2
theorem hBytes_len (h : Hd) (n : Nat) : (hBytes h n).length = 12 := by simp [hBytes, digs_len]
def iBody (h : Hd) (p : List UInt8) (size : Nat) : List UInt8 := hBytes h p.length ++ p ++ List.replicate (size - 16 - p.length) 0
theorem iBody_len {h : Hd} {p : List UInt8} {size : Nat} (h1 : 16 ≤ size) (h2 : p.length ≤ size - 16) : (iBody h p size).length = size - 4 := by
  unfold iBody
  rw [List.length_append, List.length_append, hBytes_len, List.length_replicate]; omega
def iAll (h : Hd) (p : List UInt8) (size : Nat) : List UInt8 := iBody h p size ++ digs (crcSum (iBody h p size)).toNat 4
/-- A page's image, or why there is none. -/
def imgR (h : Hd) (p : List UInt8) (size : Int) : List UInt8 × Int :=
  if ¬ (64 ≤ size ∧ size ≤ 512) then ([], 2) else if hErr h ≠ 0 then ([], hErr h) else if (p.length : Int) > size - 16 then ([], 4) else (iAll h p size.toNat, 0)
def ImgK (h : Hd) (p : List UInt8) (size : Int) (A : HList) (v : Value) (L' : HList) : Prop := ∃ (s : SlV) (seg : HList), v = .tuple #[.slice s.a s.len s.cap, .int .i64 (imgR h p size).2] ∧ L' = seg ++ A ∧ Own s 1 eB (bvs (imgR h p size).1) seg
theorem ImgK.err {h : Hd} {p : List UInt8} {size : Int} {A : HList} {e : Int} (he : imgR h p size = ([], e)) : ImgK h p size A (.tuple #[.slice none 0 0, .int .i64 e]) A := ⟨⟨none, 0, 0⟩, [], by rw [he], rfl, by rw [he]; exact own_nil⟩
theorem crcSum_rng (l : List UInt8) : 0 ≤ crcSum l ∧ crcSum l < 4294967296 := crcMore_range 0 l
def nums (h : Hd) (n : Nat) : List PNum := [(h.1, 1, ()), (h.2.1, 1, ()), (h.2.2.1, 1, ()), (165, 1, ()), (h.2.2.2.1, 4, ()), (h.2.2.2.2.1, 1, ()), (0, 1, ()), ((n : Int), 2, ())]
theorem wput_1 (b : List UInt8) {n : Int} (h0 : 0 ≤ n) (h1 : n < 256) : (wput b n 1).1 = b ++ digs n.toNat 1 := by
  rw [wput_ok (by decide) (by omega) (by show n.toNat < 256; omega)]; rfl
theorem wput_4 (b : List UInt8) {n : Int} (h0 : 0 ≤ n) (h1 : n < 4294967296) : (wput b n 4).1 = b ++ digs n.toNat 4 := by
  rw [wput_ok (by decide) (by omega) (by show n.toNat < 4294967296; omega)]; rfl
theorem wput_2 (b : List UInt8) {n : Int} (h0 : 0 ≤ n) (h1 : n < 65536) : (wput b n 2).1 = b ++ digs n.toNat 2 := by
  rw [wput_ok (by decide) (by omega) (by show n.toNat < 65536; omega)]; rfl
theorem puts_nums {h : Hd} (e : hErr h = 0) {n : Nat} (hn : n < 65536) : putsL [] (nums h n) = hBytes h n := by
  have := hErr_ok e
  unfold nums putsL
  simp only [List.foldl_cons, List.foldl_nil]
  rw [wput_1 (n := h.1) _ (by omega) (by omega), wput_1 (n := h.2.1) _ (by omega) (by omega), wput_1 (n := h.2.2.1) _ (by omega) (by omega), wput_1 (n := 165) _ (by omega) (by omega), wput_4 (n := h.2.2.2.1) _ (by omega) (by omega), wput_1 (n := h.2.2.2.2.1) _ (by omega) (by omega), wput_1 (n := 0) _ (by omega) (by omega), wput_2 (n := (n : Int)) _ (by omega) (by omega)]
  unfold hBytes
  simp
theorem puts_crc (b : List UInt8) : putsL b [(crcSum b, 4, ())] = b ++ digs (crcSum b).toNat 4 := by
  have := crcSum_rng b
  exact wput_4 (n := crcSum b) b (by omega) (by omega)
theorem body_put {h : Hd} {p : List UInt8} {S : Nat} (h1 : 64 ≤ S) (h2 : p.length ≤ S - 16) :
    putL (putL (zeros [.int .u8 0] (S - 4)) 0 (bvs (hBytes h p.length))) (12 * 1) (bvs p) = bvs (iBody h p S) := by
  rw [zeros_bvs, bvs_put, bvs_put]
  congr 1
  unfold iBody
  rw [List.take_zero, List.nil_append, hBytes_len, Nat.zero_add, Nat.mul_one, List.take_left' (hBytes_len h _), ← List.drop_drop, List.drop_left' (hBytes_len h _), List.drop_drop, List.drop_replicate]
  congr 2
  omega
theorem pimage_cl (A : HList) (h : Hd) (v : SlV) (p : List UInt8) (hv : BSl A v p) (size : Int) (hs : -9223372036854775808 ≤ size ∧ size ≤ 9223372036854775807) :
    CallF PP 12 #[.agg #[.int .i64 h.1, .int .i64 h.2.1, .int .i64 h.2.2.1, .int .i64 h.2.2.2.1, .int .i64 h.2.2.2.2.1], .slice v.a v.len v.cap, .int .i64 size] A (ImgK h p size A) := by
  refine CallF.of (args := [.agg #[.int .i64 h.1, .int .i64 h.2.1, .int .i64 h.2.2.1, .int .i64 h.2.2.2.1, .int .i64 h.2.2.2.2.1], .slice v.a v.len v.cap, .int .i64 size]) noNum mixed Try.func12 (e12 h v size _) ?_
  unfold t12
  have hvl := hv.len
  refine nw_of fun n1 _ => ?_
  generalize ho : (n1, Obj.cells #[.int .i64 h.1, .int .i64 h.2.1, .int .i64 h.2.2.1, .int .i64 h.2.2.2.1, .int .i64 h.2.2.2.2.1] 23) = o1
  have lh : LdAt ⟨n1, 0, none⟩ (hEnc h) (o1 :: A) := by subst ho; exact ldB List.mem_cons_self rfl
  clear ho
  refine cl_rd (psized_rd _ size) (szd size, ()) rfl ?_
  cases hsz : szd size with
  | false => exact ifT rfl (.cons (.of (ImgK.err (by unfold imgR; rw [if_pos (szd_f hsz)]))))
  | true =>
    have hS := szd_t hsz
    refine ifF rfl (ld_of h lh (cl_rd (pcheck_rd _ h) (hErr h, ()) rfl ?_))
    refine ifNe_of (fun (he : hErr h ≠ 0) => .cons (.of (ImgK.err (by unfold imgR; rw [if_neg (by simpa using hS), if_pos he])))) (fun (he : hErr h = 0) => ?_)
    refine cl_rd (proom_rd _ size) (roomOf size, ()) rfl ?_
    have hroom : roomOf size = size - 16 := by unfold roomOf; rw [if_pos hS]
    rw [hroom]
    refine ifD_of (fun (hl : (v.len : Int) > size - 16) => .cons (.of (ImgK.err (by unfold imgR; rw [if_neg (by simpa using hS), if_neg (by simpa using he), if_pos (by omega)])))) (fun (hl : ¬ (v.len : Int) > size - 16) => ?_)
    obtain ⟨S, rfl⟩ : ∃ S : Nat, size = S := ⟨size.toNat, by omega⟩
    have himg : imgR h p S = (iAll h p S, 0) := by
      unfold imgR
      rw [if_neg (by simpa using hS), if_neg (by simpa using he), if_neg (by omega), Int.toNat_natCast]
    unfold ImgK
    rw [himg]
    refine ld_of h.1 (lh.pre fun i u hu => by cases i with | zero => exact hu | succ i => exact absurd (show (none : Option Value) = some u from hu) (by simp)) (ld_of h.2.1 (lh.one 1 rfl) (ld_of h.2.2.1 (lh.one 2 rfl) (ld_of h.2.2.2.1 (lh.one 3 rfl) (ld_of h.2.2.2.2.1 (lh.one 4 rfl) (nw_of fun n2 _ => ?_)))))
    have hvl' : ((v.len : Nat) : Int) = ((p.length : Nat) : Int) := by omega
    rw [hvl']
    have hnsl : Sl ((n2, Obj.cells #[.int .i64 h.1, .int .i64 1, .int .i64 h.2.1, .int .i64 1, .int .i64 h.2.2.1, .int .i64 1, .int .i64 165, .int .i64 1, .int .i64 h.2.2.2.1, .int .i64 4, .int .i64 h.2.2.2.2.1, .int .i64 1, .int .i64 0, .int .i64 1, .int .i64 ((p.length : Nat) : Int), .int .i64 2] 80) :: o1 :: A) ⟨some ⟨n2, 0, none⟩, 8, 8⟩ 2 ((nums h p.length).flatMap pnEnc) :=
      ⟨rfl, Nat.le_refl _, .inr ⟨_, rfl, ldB List.mem_cons_self rfl⟩⟩
    have hok := hErr_ok he
    generalize (n2, Obj.cells #[.int .i64 h.1, .int .i64 1, .int .i64 h.2.1, .int .i64 1, .int .i64 h.2.2.1, .int .i64 1, .int .i64 165, .int .i64 1, .int .i64 h.2.2.2.1, .int .i64 4, .int .i64 h.2.2.2.2.1, .int .i64 1, .int .i64 0, .int .i64 1, .int .i64 ((p.length : Nat) : Int), .int .i64 2] 80) = o2 at hnsl ⊢
    refine cl_in [] [] (pput_cl (o2 :: o1 :: A) ⟨none, 0, 0⟩ [] (Sl.nil 1) (by decide) ⟨some ⟨n2, 0, none⟩, 8, 8⟩ (nums h p.length) hnsl (by show 0 < 8; decide) (by show 8 ≤ 100; decide) ?_) (by simp) ?_
    · intro x hx
      unfold nums at hx
      simp only [List.mem_cons, List.not_mem_nil, or_false] at hx
      rcases hx with rfl | rfl | rfl | rfl | rfl | rfl | rfl | rfl <;> simp only <;> omega
    rintro _ _ - ⟨s4, seg4, rfl, rfl, own4⟩
    rw [puts_nums he (by omega)] at own4
    rw [List.append_nil, List.nil_append]
    have hs4 := own4.sl.len
    rw [bvs_length, hBytes_len] at hs4
    refine ⟨(s4, ()), rfl, ?_⟩
    have hw : IntKind.i64.wrap ((S : Int) - 4) = ((S - 4 : Nat) : Int) := by rw [w64_id (by omega) (by omega)]; omega
    simp only [hw]
    refine make_of elemB (l := S - 4) (c := S - 4) (Nat.le_refl _) (by omega) fun n7 ob own7 _ _ => ?_
    refine copy_own (T := eB) (sz := 1) (l := 0) (a := ⟨n7, 0, none⟩) undB (by kernel_rfl) [] (seg4 ++ (o2 :: o1 :: A)) own7 rfl rfl rfl (by simp) (.cons (own4.sl.left)) (bvs_plain _) fun seg7 own7' => ?_
    have hm1 : min s4.len (S - 4) = 12 := by omega
    simp only [hm1, Nat.mul_one, List.nil_append] at own7' ⊢
    rw [List.take_of_length_le (by rw [bvs_length, hBytes_len]; omega)] at own7'
    refine slc_of (l' := 12) (h' := S - 4) (m' := S - 4) rfl rfl rfl (by omega) (by omega) (Nat.le_refl _) ?_
    have hd : (slcV ⟨some ⟨n7, 0, none⟩, S - 4, S - 4⟩ ((12 : Nat) : Int) ((S - 4 : Nat) : Int) ((S - 4 : Nat) : Int) 1).a = some (Addr.add ⟨n7, 0, none⟩ (12 * 1)) := by
      simp only [slcV, Int.toNat_natCast]
      rw [if_neg (by omega)]
      rfl
    have hdl : (slcV ⟨some ⟨n7, 0, none⟩, S - 4, S - 4⟩ ((12 : Nat) : Int) ((S - 4 : Nat) : Int) ((S - 4 : Nat) : Int) 1).len = S - 16 := by
      simp only [slcV, Int.toNat_natCast]; omega
    generalize slcV ⟨some ⟨n7, 0, none⟩, S - 4, S - 4⟩ ((12 : Nat) : Int) ((S - 4 : Nat) : Int) ((S - 4 : Nat) : Int) 1 = d at hd hdl ⊢
    refine copy_own (T := eB) (sz := 1) (l := 12) (a := ⟨n7, 0, none⟩) undB (by kernel_rfl) [] (seg4 ++ (o2 :: o1 :: A)) own7' rfl rfl hd (by simp only; omega) (hv.cons.cons.right.right) (bvs_plain _) fun seg8 own8 => ?_
    have hm2 : min v.len d.len = p.length := by omega
    simp only [hm2, Nat.mul_one, List.nil_append] at own8 ⊢
    rw [List.take_of_length_le (by rw [bvs_length]; omega), body_put (by omega) (by omega)] at own8
    have hbl := iBody_len (h := h) (p := p) (size := S) (by omega) (by omega)
    have hallE : iAll h p S = iBody h p S ++ digs (crcSum (iBody h p S)).toNat 4 := rfl
    rw [hallE]
    generalize iBody h p S = body at own8 hbl ⊢
    refine cl_rd (sum_rd _ ⟨some ⟨n7, 0, none⟩, S - 4, S - 4⟩ body own8.sl.left (by omega)) (crcSum body, ()) rfl (nw_of fun n3 _ => ?_)
    have hcs := crcSum_rng body
    have hsl3 : Sl ((n3, Obj.cells #[.int .i64 (crcSum body), .int .i64 4] 80) :: (seg8 ++ (seg4 ++ (o2 :: o1 :: A)))) ⟨some ⟨n3, 0, none⟩, 1, 1⟩ 2 ([((crcSum body, 4, ()) : PNum)].flatMap pnEnc) := ⟨rfl, Nat.le_refl _, .inr ⟨_, rfl, ldB List.mem_cons_self rfl⟩⟩
    refine cl_in [] [] (pput_cl ((n3, Obj.cells #[.int .i64 (crcSum body), .int .i64 4] 80) :: (seg8 ++ (seg4 ++ (o2 :: o1 :: A)))) ⟨some ⟨n7, 0, none⟩, S - 4, S - 4⟩ body own8.sl.left.cons (by omega) ⟨some ⟨n3, 0, none⟩, 1, 1⟩ _ hsl3 (by show 0 < 1; decide) (by show 1 ≤ 100; decide) (fun x hx => by rw [List.mem_singleton.1 hx]; simp only; omega)) (by simp) ?_
    rintro _ _ - ⟨s9, seg9, rfl, rfl, own9⟩
    rw [puts_crc] at own9
    rw [List.append_nil, List.nil_append]
    refine ⟨(s9, ()), rfl, .drop (A := seg9 ++ A) (J := (n3, Obj.cells #[.int .i64 (crcSum body), .int .i64 4] 80) :: (seg8 ++ (seg4 ++ [o2, o1]))) ⟨s9, seg9, rfl, rfl, own9⟩ ?_⟩
    classical
    rw [List.perm_iff_count]
    intro x
    simp only [List.append_eq, List.cons_append, List.count_append, List.count_cons, List.count_nil]
    omega
end Go.Proofs.Ytaniefdpjommnaa
