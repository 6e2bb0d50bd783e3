/-
  It is proved what the parts of the program's blocks compute. There are no further conditions than those that each theorem names.
-/
import Derived.Test.YtefllmfoneocaaaHL21
import Derived.Test.YtefllmfoneocaaaT
set_option linter.unusedVariables false
set_option linter.unusedSimpArgs false
namespace Go.Proofs.Ytefllmfoneocaaa
open Go.HL

/-- A block's state: how worn it is, is it bad, is it dirty. -/
structure BS where
  wear : Int
  bad : Bool
  dirty : Bool
def bsEnc (s : BS) : List Value := [.int .i64 s.wear, .bool s.bad, .bool s.dirty]
theorem bsEnc_len (s : BS) : (bsEnc s).length = 3 := rfl
theorem bsEnc_plain (l : List BS) : (l.flatMap bsEnc).all plainV = true := by
  induction l with
  | nil => rfl
  | cons e r ih => rw [List.flatMap_cons, List.all_append, ih]; rfl
def bs0 : BS := ⟨0, false, false⟩
abbrev tyIn : TypeId := 37
abbrev eIn : TypeId := 3
abbrev tySt : TypeId := 104
abbrev eSt : TypeId := 163
theorem elemIn : ElemT PP tyIn eIn 1 8 [.int .i64 0] := elemT_of (by kernel_rfl) (by kernel_rfl) rfl (by decide) (by decide)
theorem srcIn : SrcT PP tyIn := .inl ⟨eIn, by kernel_rfl⟩
theorem elemSt : ElemT PP tySt eSt 3 16 [.int .i64 0, .bool false, .bool false] := elemT_of (by kernel_rfl) (by kernel_rfl) rfl (by decide) (by decide)
theorem srcSt : SrcT PP tySt := .inl ⟨eSt, by kernel_rfl⟩
theorem own_z {sz : Nat} {e : TypeId} : Own ⟨none, 0, 0⟩ sz e [] [] := ⟨by simp, Nat.le_refl _, .inl ⟨rfl, rfl, rfl⟩⟩
theorem own_n {sz n : Nat} {e : TypeId} : Own ⟨some ⟨n, 0, none⟩, 0, 0⟩ sz e [] [(n, Obj.cells #[] e)] := ⟨by simp, Nat.le_refl _, .inr ⟨n, 0, #[], (0, 0), rfl, rfl, by simp, .inl (Nat.le_refl _), fun i u hu => by simp at hu⟩⟩
/-! ### numbers -/
theorem inIndex_rd (L : HList) (v : SlV) (l : List Int) (h : ISl L v .i64 l) (hb : l.length ≤ 1000000) (x : Int) :
    Reads PP 123 #[.slice v.a v.len v.cap, .int .i64 x] L (.int .i64 (match l.findIdx? (fun y => decide (y = x)) with | some i => (i : Int) | none => -1)) := by
  refine Reads.of (args := [.slice v.a v.len v.cap, .int .i64 x]) noNum mixed Try.func123 (e123 v x _) ?_
  unfold t123
  have hlen := h.len
  refine lp_of (fun k z L' => L' = L ∧ ∃ i : Nat, i ≤ l.length ∧ k = l.length - i ∧ z = ((i : Int), ()) ∧ ∀ y ∈ l.take i, y ≠ x) l.length ⟨rfl, 0, by omega, by omega, rfl, by simp⟩ ?_
  rintro k z L' ⟨rfl, i, hi, rfl, rfl, hn⟩
  refine ifD_of (fun (hlt : (i : Int) < v.len) => ?_) (fun (hge : ¬ (i : Int) < v.len) => ?_)
  · have hi' : i < l.length := by omega
    obtain ⟨a, ha⟩ := h.some hi'
    refine nilc_of ha (ixn_of (show (0 : Int) ≤ i by omega) hlt (ld_of l[i] (h.rd hi' ha _ (by simp)) ?_))
    refine ifE_of (fun he => .of ⟨?_, rfl⟩) (fun he => ⟨l.length - (i + 1), by omega, rfl, i + 1, by omega, rfl, ?_, fun y hy => ?_⟩)
    · have : l.findIdx? (fun y => decide (y = x)) = some i := by
        rw [List.findIdx?_eq_some_iff_getElem]
        refine ⟨hi', by simpa using he.symm, fun j hj => ?_⟩
        have := hn l[j] (by rw [List.mem_take_iff_getElem]; exact ⟨j, by omega, rfl⟩)
        simpa using this
      rw [this]
    · rw [w64_id (by first | omega | (simp only; omega)) (by first | omega | (simp only; omega))]
      rfl
    · rw [List.take_succ_eq_append_getElem hi'] at hy
      rcases List.mem_append.1 hy with hy | hy
      · exact hn y hy
      · rw [List.mem_singleton.1 hy]; exact fun e => he e.symm
  · obtain rfl : i = l.length := by omega
    rw [List.take_length] at hn
    have : l.findIdx? (fun y => decide (y = x)) = none := by
      rw [List.findIdx?_eq_none_iff]
      intro y hy
      simpa using hn y hy
    rw [this]
    exact .of ⟨rfl, rfl⟩
theorem inHas_rd (L : HList) (v : SlV) (l : List Int) (h : ISl L v .i64 l) (hb : l.length ≤ 1000000) (x : Int) :
    Reads PP 120 #[.slice v.a v.len v.cap, .int .i64 x] L (.bool (decide (x ∈ l))) := by
  refine Reads.of (args := [.slice v.a v.len v.cap, .int .i64 x]) noNum mixed Try.func120 (e120 v x _) ?_
  unfold t120
  refine cl_rd (inIndex_rd _ v l h hb x) (_, ()) rfl (.of ⟨?_, rfl⟩)
  cases hf : l.findIdx? (fun y => decide (y = x)) with
  | none =>
    rw [List.findIdx?_eq_none_iff] at hf
    have : x ∉ l := fun hx => by have := hf x hx; simp at this
    simp [this]
  | some i =>
    rw [List.findIdx?_eq_some_iff_getElem] at hf
    obtain ⟨hi, h1, _⟩ := hf
    have : x ∈ l := by
      have e : l[i] = x := by simpa using h1
      rw [← e]; exact List.getElem_mem hi
    simp [this]
theorem inClone_cl (A : HList) (v : SlV) (l : List Int) (h : ISl A v .i64 l) (hb : l.length ≤ 1000000) :
    CallF PP 109 #[.slice v.a v.len v.cap] A fun r L' => ∃ (s : SlV) (seg : HList), r = .slice s.a s.len s.cap ∧ L' = seg ++ A ∧ Own s 1 eIn (ivs .i64 l) seg := by
  refine CallF.of (args := [.slice v.a v.len v.cap]) noNum mixed Try.func109 (e109 v _) ?_
  unfold t109
  have hlen := h.len
  refine ifB_of (fun hn => ?_) (fun hn => ?_)
  · have : l = [] := by
      cases l with
      | nil => rfl
      | cons x r =>
        obtain ⟨a, ha⟩ := h.some (i := 0) (by simp)
        rw [ha] at hn; cases hn
    subst this
    exact .of ⟨⟨none, 0, 0⟩, [], rfl, rfl, own_z⟩
  · refine nw_of fun n1 _ => append_in elemIn srcIn [] A own_n rfl (.sl h.cons) (ivs_plain _ _) (by first | omega | (simp only; omega)) fun s seg hs own => ?_
    rw [List.nil_append] at own
    exact .of ⟨s, seg, rfl, by simp, own⟩
theorem stClone_cl (A : HList) (v : SlV) (l : List BS) (h : Sl A v 3 (l.flatMap bsEnc)) (hb : l.length ≤ 1000000) :
    CallF PP 100 #[.slice v.a v.len v.cap] A fun r L' => ∃ (s : SlV) (seg : HList), r = .slice s.a s.len s.cap ∧ L' = seg ++ A ∧ Own s 3 eSt (l.flatMap bsEnc) seg := by
  refine CallF.of (args := [.slice v.a v.len v.cap]) noNum mixed Try.func100 (e100 v _) ?_
  unfold t100
  have hlen := h.els_len bsEnc_len (by decide)
  refine ifB_of (fun hn => ?_) (fun hn => ?_)
  · have : l = [] := by
      cases l with
      | nil => rfl
      | cons x r =>
        obtain ⟨a, ha, _⟩ := h.el bsEnc_len (by decide) (i := 0) (by simp)
        rw [ha] at hn; cases hn
    subst this
    exact .of ⟨⟨none, 0, 0⟩, [], rfl, rfl, own_z⟩
  · refine nw_of fun n1 _ => append_in elemSt srcSt [] A own_n rfl (.sl h.cons) (bsEnc_plain _) (by first | omega | (simp only; omega)) fun s seg hs own => ?_
    rw [List.nil_append] at own
    exact .of ⟨s, seg, rfl, by simp, own⟩
theorem turn1_rd (L : HList) (y x : Int) (ad : Addr) (hl : LdAt ad [.int .i64 x] L) : Reads PP 122 #[.int .i64 y, .pointer (some ad)] L (.bool (decide (y = x))) := by
  refine Reads.of (args := [.int .i64 y, .pointer (some ad)]) noNum mixed Try.func122 (e122 y (some ad) _) ?_
  unfold t122
  refine nilc_of rfl (ld_of x hl (.of ⟨?_, rfl⟩))
  congr 1
theorem inIndexF_rd (L : HList) (v : SlV) (l : List Int) (h : ISl L v .i64 l) (hb : l.length ≤ 1000000) (x : Int) (ad : Addr) (hl : LdAt ad [.int .i64 x] L) :
    Reads PP 124 #[.slice v.a v.len v.cap, .func (.func 122) #[] #[.pointer (some ad)]] L (.int .i64 (match l.findIdx? (fun y => decide (y = x)) with | some i => (i : Int) | none => -1)) := by
  refine Reads.of (args := [.slice v.a v.len v.cap, .func (.func 122) #[] #[.pointer (some ad)]]) noNum mixed Try.func124 (e124 v ⟨.func 122, #[], #[.pointer (some ad)]⟩ _) ?_
  unfold t124
  have hlen := h.len
  refine lp_of (fun k z L' => L' = L ∧ ∃ i : Nat, i ≤ l.length ∧ k = l.length - i ∧ z = ((i : Int), ()) ∧ ∀ y ∈ l.take i, y ≠ x) l.length ⟨rfl, 0, by omega, by omega, rfl, by simp⟩ ?_
  rintro k z L' ⟨rfl, i, hi, rfl, rfl, hn⟩
  refine ifD_of (fun (hlt : (i : Int) < v.len) => ?_) (fun (hge : ¬ (i : Int) < v.len) => ?_)
  · have hi' : i < l.length := by omega
    obtain ⟨a, ha⟩ := h.some hi'
    refine nilc_of ha (ixn_of (show (0 : Int) ≤ i by omega) hlt (ld_of l[i] (h.rd hi' ha _ (by simp)) (clv_of (by kernel_rfl) (cl_rd (turn1_rd _ l[i] x ad hl) (decide (l[i] = x), ()) rfl ?_))))
    refine ifD_of (fun (he : l[i] = x) => .of ⟨?_, rfl⟩) (fun (he : ¬ l[i] = x) => ⟨l.length - (i + 1), by omega, rfl, i + 1, by omega, rfl, ?_, fun y hy => ?_⟩)
    · have : l.findIdx? (fun y => decide (y = x)) = some i := by
        rw [List.findIdx?_eq_some_iff_getElem]
        refine ⟨hi', by simpa using he, fun j hj => ?_⟩
        have := hn l[j] (by rw [List.mem_take_iff_getElem]; exact ⟨j, by omega, rfl⟩)
        simpa using this
      rw [this]
    · rw [w64_id (by first | omega | (simp only; omega)) (by first | omega | (simp only; omega))]
      rfl
    · rw [List.take_succ_eq_append_getElem hi'] at hy
      rcases List.mem_append.1 hy with hy | hy
      · exact hn y hy
      · rw [List.mem_singleton.1 hy]; exact he
  · obtain rfl : i = l.length := by omega
    rw [List.take_length] at hn
    have : l.findIdx? (fun y => decide (y = x)) = none := by
      rw [List.findIdx?_eq_none_iff]
      intro y hy
      simpa using hn y hy
    rw [this]
    exact .of ⟨rfl, rfl⟩
def iwo (l : List Int) (x : Int) : List Int := l.filter fun y => decide (y ≠ x)
theorem iwo_snoc (l : List Int) (x y : Int) : iwo (l ++ [y]) x = iwo l x ++ (if y = x then [] else [y]) := by
  unfold iwo
  rw [List.filter_append]
  by_cases h : y = x <;> simp [h]
theorem inDel_cl (v : SlV) (l : List Int) (seg : HList) (own : Own v 1 eIn (ivs .i64 l) seg) (hb : l.length ≤ 1000000) (x : Int) (n1 : Nat) :
    CallF PP 121 #[.slice v.a v.len v.cap, .func (.func 122) #[] #[.pointer (some ⟨n1, 0, none⟩)]] ((n1, Obj.cells #[.int .i64 x] 3) :: seg)
      fun r L' => ∃ (s : SlV) (seg' : HList), r = .slice s.a s.len s.cap ∧ L' = (n1, Obj.cells #[.int .i64 x] 3) :: seg' ∧ Own s 1 eIn (ivs .i64 (iwo l x)) seg' := by
  refine CallF.of (args := [.slice v.a v.len v.cap, .func (.func 122) #[] #[.pointer (some ⟨n1, 0, none⟩)]]) noNum mixed Try.func121 (e121 v ⟨.func 122, #[], #[.pointer (some ⟨n1, 0, none⟩)]⟩ _) ?_
  unfold t121
  generalize ho : (n1, Obj.cells #[.int .i64 x] 3) = o1
  have l1 : ∀ {Z : HList}, LdAt ⟨n1, 0, none⟩ [.int .i64 x] (o1 :: Z) := by subst ho; exact ldB List.mem_cons_self rfl
  clear ho
  have h0 : ISl (o1 :: seg) v .i64 l := own.sl.cons
  have hlen := h0.len
  have hcap := own.cap
  refine cl_rd (inIndexF_rd _ v l h0 hb x ⟨n1, 0, none⟩ l1) (_, ()) rfl ?_
  cases hf : l.findIdx? (fun y => decide (y = x)) with
  | none =>
    rw [List.findIdx?_eq_none_iff] at hf
    have : iwo l x = l := by
      unfold iwo
      rw [List.filter_eq_self]
      intro y hy
      have := hf y hy
      simpa using this
    rw [this]
    exact ifT rfl (.of ⟨v, seg, rfl, rfl, own⟩)
  | some i0 =>
    rw [List.findIdx?_eq_some_iff_getElem] at hf
    obtain ⟨hi0, h1, h2⟩ := hf
    have h1' : l[i0] = x := by simpa using h1
    have hpre : iwo (l.take i0) x = l.take i0 := by
      unfold iwo
      rw [List.filter_eq_self]
      intro y hy
      obtain ⟨j, hj, rfl⟩ := List.mem_take_iff_getElem.1 hy
      have := h2 j (by omega)
      simpa using this
    have hsn := iwo_snoc (l.take i0) x l[i0]
    rw [← List.take_succ_eq_append_getElem hi0, if_pos h1', hpre, List.append_nil] at hsn
    refine ifF (by simp) ?_
    have hw : IntKind.i64.wrap ((i0 : Int) + 1) = ((i0 + 1 : Nat) : Int) := by rw [w64_id (by omega) (by omega)]; omega
    simp only [hw]
    refine lp_of (fun k z L' => ∃ (i j : Nat) (cur : List Int) (seg : HList), i ≤ j ∧ j ≤ l.length ∧ k = l.length - j ∧ z = ((i : Int), (j : Int), ()) ∧ L' = o1 :: seg ∧ Own v 1 eIn (ivs .i64 cur) seg ∧ cur.length = l.length ∧ i = (iwo (l.take j) x).length ∧ cur.take i = iwo (l.take j) x ∧ cur.drop j = l.drop j) (l.length - (i0 + 1))
      ⟨i0, i0 + 1, l, seg, by omega, by omega, by omega, rfl, rfl, own, rfl, by rw [hsn, List.length_take]; omega, by rw [hsn], rfl⟩ ?_
    clear hsn hpre own h0
    rintro k z L' ⟨i, j, cur, seg, hij, hj, rfl, rfl, rfl, own, hcl, hil, htk, hdr⟩
    have h0 : ISl (o1 :: seg) v .i64 cur := own.sl.cons
    refine ifD_of (fun (hlt : (j : Int) < v.len) => ?_) (fun (hge : ¬ (j : Int) < v.len) => ?_)
    · have hj' : j < cur.length := by omega
      have hjl : j < l.length := by omega
      have hcj : cur[j] = l[j] := by
        have a1 := List.drop_eq_getElem_cons hj'
        have a2 := List.drop_eq_getElem_cons hjl
        rw [hdr, a2] at a1
        injection a1 with b1 b2
        exact b1.symm
      have hdr' : cur.drop (j + 1) = l.drop (j + 1) := by
        rw [← List.drop_drop, hdr, List.drop_drop]
      obtain ⟨a, ha⟩ := h0.some hj'
      have hsn := iwo_snoc (l.take j) x l[j]
      rw [← List.take_succ_eq_append_getElem hjl] at hsn
      have hwj : IntKind.i64.wrap ((j : Int) + 1) = ((j + 1 : Nat) : Int) := by rw [w64_id (by omega) (by omega)]; omega
      have hwi : IntKind.i64.wrap ((i : Int) + 1) = ((i + 1 : Nat) : Int) := by rw [w64_id (by omega) (by omega)]; omega
      refine nilc_of ha (ixn_of (show (0 : Int) ≤ (j : Int) by omega) hlt (ld_of cur[j] (h0.rd hj' ha _ (by simp)) (clv_of (by kernel_rfl) (cl_rd (turn1_rd _ cur[j] x ⟨n1, 0, none⟩ l1) (decide (cur[j] = x), ()) rfl ?_))))
      rw [hcj]
      refine ifB_of (fun hne => ?_) (fun he => ?_)
      · have hne' : l[j] ≠ x := by simpa using hne
        rw [if_neg hne'] at hsn
        refine nilc_of ha (ixn_of (show (0 : Int) ≤ (i : Int) by omega) (show (i : Int) < v.len by omega) ?_)
        refine own.st [o1] [] (p := i) (by rw [ivs_length]; simp only [List.length_cons, List.length_nil]; omega) (by simp) ha (by simp) (by simp) fun seg' own' => ?_
        rw [putL_one (by rw [ivs_length]; omega), ivs_set] at own'
        refine ⟨l.length - (j + 1), by omega, i + 1, j + 1, cur.set i l[j], seg', by omega, by omega, rfl, ?_, by simp, own', by rw [List.length_set]; exact hcl, ?_, ?_, ?_⟩
        · show (IntKind.i64.wrap ((i : Int) + 1), IntKind.i64.wrap ((j : Int) + 1), ()) = _
          rw [hwi, hwj]
        · rw [hsn, List.length_append, ← hil]; rfl
        · rw [hsn, ← htk, List.take_succ_eq_append_getElem (by rw [List.length_set]; omega), List.take_set_of_le (by omega), List.getElem_set_self]
        · rw [List.drop_set_of_lt (by omega)]; exact hdr'
      · have he' : l[j] = x := by simpa using he
        rw [if_pos he', List.append_nil] at hsn
        refine ⟨l.length - (j + 1), by omega, i, j + 1, cur, seg, by omega, by omega, rfl, ?_, rfl, own, hcl, by rw [hsn]; exact hil, by rw [hsn]; exact htk, hdr'⟩
        show ((i : Int), IntKind.i64.wrap ((j : Int) + 1), ()) = _
        rw [hwj]
    · obtain rfl : j = l.length := by omega
      rw [List.take_length] at hil htk
      have own' := own.slc (l := 0) (h := i) (by omega) (by omega)
      rw [ivs_slc, List.drop_zero, Nat.sub_zero, htk] at own'
      refine slc_of (l' := i) (h' := v.len) (m' := v.cap) rfl rfl rfl (by omega) hcap (Nat.le_refl _) ?_
      have hs : slcV v ((i : Nat) : Int) ((v.len : Nat) : Int) ((v.cap : Nat) : Int) 1 = slcV (slcV v ((0 : Nat) : Int) ((i : Nat) : Int) ((v.cap : Nat) : Int) 1) ((slcV v ((0 : Nat) : Int) ((i : Nat) : Int) ((v.cap : Nat) : Int) 1).len) ((v.len : Nat) : Int) ((slcV v ((0 : Nat) : Int) ((i : Nat) : Int) ((v.cap : Nat) : Int) 1).cap) 1 := by
        have ea : ∀ o : Option Addr, o.map (·.add 0) = o := fun o => by cases o <;> simp [Addr.add]
        simp only [slcV, Int.toNat_natCast, Nat.sub_zero, Nat.zero_mul, Nat.mul_one, ea, ite_self]
      refine clear_own elemIn rfl [o1] [] own' (by simp) (h := v.len) (by simp only [slcV, Int.toNat_natCast]; omega) (by simp only [slcV, Int.toNat_natCast]; omega) hs fun seg2 own2 => ?_
      refine slc_of (l' := 0) (h' := i) (m' := v.cap) rfl rfl rfl (by omega) (by omega) (Nat.le_refl _) (.of ⟨_, seg2, rfl, by simp, own2⟩)
end Go.Proofs.Ytefllmfoneocaaa
