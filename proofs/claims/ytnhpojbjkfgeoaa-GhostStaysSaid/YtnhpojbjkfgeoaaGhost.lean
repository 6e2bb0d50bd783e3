/-
  It is proved what the functions of the layer ghost and of its document's answer compute. There are no further conditions than those that each theorem names.
-/
import Derived.Test.YtnhpojbjkfgeoaaHL19
import Derived.Test.YtnhpojbjkfgeoaaT
set_option linter.unusedVariables false
set_option linter.unusedSimpArgs false
namespace Go.Proofs.Ytnhpojbjkfgeoaa
open Go.HL

/-! ### the queue as plain data -/
def gAdd (room : Int) (l : List Int) (x : Int) : List Int := if ((l.erase x ++ [x]).length : Int) > room then (l.erase x ++ [x]).drop 1 else l.erase x ++ [x]
/-- Where a thing stands first. -/
def Stands (l : List Int) (x i : Int) : Prop := (i = -1 ∧ x ∉ l) ∨ ∃ k : Nat, i = k ∧ k < l.length ∧ l[k]? = some x ∧ x ∉ l.take k
theorem Stands.mem {l : List Int} {x i : Int} (h : Stands l x i) : (0 ≤ i ↔ x ∈ l) := by
  rcases h with ⟨rfl, h⟩ | ⟨k, rfl, hk, hx, _⟩
  · simp [h]
  · exact ⟨fun _ => List.mem_of_getElem? hx, fun _ => by omega⟩
theorem Stands.erase {l : List Int} {x : Int} {k : Nat} (hk : k < l.length) (hx : l[k]? = some x) (hn : x ∉ l.take k) : l.erase x = l.take k ++ l.drop (k + 1) := by
  have h1 : l = l.take k ++ x :: l.drop (k + 1) := by
    have : l[k] = x := by rw [List.getElem?_eq_getElem hk] at hx; exact Option.some.inj hx
    rw [← this, ← List.drop_eq_getElem_cons hk, List.take_append_drop]
  conv => lhs; rw [h1]
  rw [List.erase_append_right _ hn, List.erase_cons_head]
theorem not_take_succ {l : List Int} {x : Int} {i : Nat} (hi : i < l.length) (h : x ∉ l.take i) (hx : l[i] ≠ x) : x ∉ l.take (i + 1) := by
  rw [List.take_succ_eq_append_getElem hi, List.mem_append]
  rintro (h1 | h1)
  · exact h h1
  · exact hx (List.mem_singleton.1 h1).symm

abbrev tU : TypeId := 66
abbrev eU : TypeId := 34
theorem elemU : ElemT PP tU eU 1 8 [.int .u64 0] := elemT_of (by kernel_rfl) (by kernel_rfl) rfl (by decide) (by decide)
theorem srcU : SrcT PP tU := .inl ⟨eU, by kernel_rfl⟩
theorem place_cl (L : HList) (v : SlV) (l : List Int) (h : ISl L v .u64 l) (hb : l.length ≤ 1000000) (x : Int) :
    CallF PP 62 #[.slice v.a v.len v.cap, .int .u64 x] L fun r L' => L' = L ∧ ∃ i, r = .int .i64 i ∧ Stands l x i := by
  refine CallF.of (args := [.slice v.a v.len v.cap, .int .u64 x]) noNum mixed Try.func62 (e62 v x _) ?_
  unfold t62
  have hlen := h.len
  refine lp_of (fun k z L' => L' = L ∧ ∃ i, i ≤ l.length ∧ k = l.length - i ∧ z = ((i : Int), ()) ∧ x ∉ l.take i) l.length ⟨rfl, 0, by omega, by omega, rfl, by simp⟩ ?_
  rintro k z L ⟨rfl, i, hi, rfl, rfl, hn⟩
  refine ifD_of (fun (hlt : (i : Int) < v.len) => ?_) (fun (hge : ¬ (i : Int) < v.len) => ?_)
  · have hi' : i < l.length := by omega
    obtain ⟨a, ha⟩ := h.some hi'
    refine nilc_of ha (ixn_of (show (0 : Int) ≤ i by omega) hlt (ld_of l[i] (h.rd hi' ha _ (by simp)) ?_))
    refine ifE_of (fun (he : x = l[i]) => .of ⟨rfl, i, rfl, .inr ⟨i, rfl, hi', by rw [List.getElem?_eq_getElem hi', he], hn⟩⟩) (fun (he : x ≠ l[i]) => ?_)
    refine ⟨l.length - (i + 1), by omega, rfl, i + 1, by omega, rfl, ?_, not_take_succ hi' hn (fun e => he e.symm)⟩
    rw [w64_id (by first | omega | (simp only; omega)) (by first | omega | (simp only; omega))]
    rfl
  · obtain rfl : i = l.length := by omega
    rw [List.take_length] at hn
    exact .of ⟨rfl, -1, rfl, .inl ⟨rfl, hn⟩⟩

/-! ### the ring -/
def GOb (room : Int) (l : List Int) (o : Obj) : Prop := ∃ (c : Array Value) (f : Nat), o = .cells c 87 ∧ c.size = 67 ∧ c[0]? = some (.int .i64 room) ∧ c[65]? = some (.int .i64 f) ∧ c[66]? = some (.int .i64 l.length) ∧ f < 64 ∧ l.length ≤ 64 ∧
  ∀ (i : Nat) (x : Int), l[i]? = some x → c[1 + (f + i) % 64]? = some (.int .u64 x)
/-- One cell of a block. -/
theorem ldC {L : HList} {n off : Nat} {c : Array Value} {T : TypeId} {fz : Nat × Nat} {v : Value} (hm : (n, Obj.cells c T fz) ∈ L) (h : c[off]? = some v) : LdAt ⟨n, off, none⟩ [v] L :=
  .blk hm fun i u hu => by
    cases i with
    | zero => simp at hu; subst hu; exact h
    | succ i => simp at hu
theorem set_get (c : Array Value) (i j : Nat) (v : Value) (hi : i < c.size) : (c.setIfInBounds i v)[j]? = if i = j then some v else c[j]? := by
  rw [Array.getElem?_setIfInBounds]; simp [hi]
theorem all_cl (n : Nat) (room : Int) (l : List Int) (o : Obj) (h : GOb room l o) : CallF PP 61 #[.pointer (some ⟨n, 0, none⟩)] [(n, o)] fun v L' => ∃ s seg, v = .slice s.a s.len s.cap ∧ L' = (n, o) :: seg ∧ Own s 1 eU (ivs .u64 l) seg := by
  refine CallF.of (args := [.pointer (some ⟨n, 0, none⟩)]) noNum mixed Try.func61 (e61 (some ⟨n, 0, none⟩) _) ?_
  unfold t61
  obtain ⟨c, f, rfl, hsz, h0, h65, h66, hf, hl, hr⟩ := h
  refine nilc_of rfl (ld_of (l.length : Int) (ldC List.mem_cons_self h66) ?_)
  refine lp_of (fun k z L' => ∃ i s seg J, i ≤ l.length ∧ k = l.length - i ∧ z = (s, (i : Int), ()) ∧ L' = J ++ seg ++ [(n, Obj.cells c 87)] ∧ Own s 1 eU (ivs .u64 (l.take i)) seg) l.length
    ⟨0, ⟨none, 0, 0⟩, [], [], by omega, by omega, rfl, rfl, ⟨rfl, Nat.le_refl _, .inl ⟨rfl, rfl, rfl⟩⟩⟩ ?_
  rintro k z L' ⟨i, s, seg, J, hi, rfl, rfl, rfl, own⟩
  have hm : (n, Obj.cells c 87) ∈ J ++ seg ++ [(n, Obj.cells c 87)] := by simp
  refine ifD_of (fun (hlt : (i : Int) < l.length) => ?_) (fun (hge : ¬ (i : Int) < l.length) => ?_)
  · have hi' : i < l.length := by omega
    have hw : IntKind.i64.wrap ((f : Int) + i) = ((f + i : Nat) : Int) := by rw [w64_id (by omega) (by omega)]; omega
    have hmod : Int.tmod ((f + i : Nat) : Int) 64 = (((f + i) % 64 : Nat) : Int) := by rw [Int.tmod_eq_emod_of_nonneg (by omega)]; omega
    refine nilc_of rfl (nilc_of rfl (ld_of (f : Int) (ldC hm h65) (req_of (by decide) ?_)))
    simp only [hw, hmod, Int.toNat_natCast, Nat.mul_one]
    refine ixn_of (by omega) (by omega) (ld_of l[i] ?_ ?_)
    · rw [addr_add (ad := ⟨n, 0, none⟩) rfl, addr_add rfl]
      exact ldC hm (by rw [Nat.zero_add]; exact hr i l[i] (List.getElem?_eq_getElem hi'))
    refine nw_of fun m _ => append_in elemU srcU ((m, Obj.cells #[.int .u64 l[i]] eU) :: J) [(n, Obj.cells c 87)] own rfl (.sl (ISl.const (l := [l[i]]) 1 (Nat.le_refl _) List.mem_cons_self)) (ivs_plain _ _)
      (by have := own.sl.len; rw [ivs_length, List.length_take] at this; simp only [List.length_cons, List.length_nil]; omega) fun s' seg' hs' own' => ?_
    rw [← ivs_append, ← List.take_succ_eq_append_getElem hi'] at own'
    refine ⟨l.length - (i + 1), by omega, i + 1, s', seg', (m, Obj.cells #[.int .u64 l[i]] eU) :: J, by omega, rfl, ?_, rfl, own'⟩
    rw [w64_id (by first | omega | (simp only; omega)) (by first | omega | (simp only; omega))]
    rfl
  · obtain rfl : i = l.length := by omega
    rw [List.take_length] at own
    refine .drop (A := (n, Obj.cells c 87) :: seg) (J := J) ⟨s, seg, rfl, rfl, own⟩ ?_
    have h1 : (J ++ seg ++ [(n, Obj.cells c 87)]).Perm ([(n, Obj.cells c 87)] ++ (J ++ seg)) := List.perm_append_comm
    have h2 : ([(n, Obj.cells c 87)] ++ (J ++ seg)).Perm ([(n, Obj.cells c 87)] ++ (seg ++ J)) := List.Perm.append_left _ List.perm_append_comm
    simpa using h1.trans h2
theorem erase_len (l : List Int) (x : Int) : (l.erase x).length ≤ l.length := List.length_erase_le ..
theorem del_cl (v : SlV) (l : List Int) (seg : HList) (own : Own v 1 eU (ivs .u64 l) seg) (hb : l.length ≤ 1000000) (k : Nat) (hk : k < l.length) :
    CallF PP 64 #[.slice v.a v.len v.cap, .int .i64 k, .int .i64 ((k : Int) + 1)] seg fun r L' => ∃ s, r = .slice s.a s.len s.cap ∧ Own s 1 eU (ivs .u64 (l.take k ++ l.drop (k + 1))) L' := by
  refine CallF.of (args := [.slice v.a v.len v.cap, .int .i64 k, .int .i64 ((k : Int) + 1)]) noNum mixed Try.func64 (e64 v k ((k : Int) + 1) _) ?_
  unfold t64
  have hlen := own.sl.len
  rw [ivs_length, Nat.mul_one] at hlen
  have hcap := own.cap
  refine slc_of (l' := k) (h' := k + 1) (m' := v.len) rfl rfl rfl (by omega) (by omega) hcap ?_
  refine ifE_of (fun (he : (k : Int) = (k : Int) + 1) => absurd he (by omega)) (fun _ => ?_)
  refine slc_of (l' := 0) (h' := k) (m' := v.cap) rfl rfl rfl (by omega) (by omega) (Nat.le_refl _) ?_
  refine slc_of (l' := k + 1) (h' := v.len) (m' := v.cap) rfl rfl rfl (by omega) hcap (Nat.le_refl _) ?_
  have own2 := own.slc (l := 0) (h := k) (by omega) (by omega)
  have src2 := Sl.slc (m := v.cap) own.sl (by omega) (l := k + 1) (h' := v.len) (by omega) (Nat.le_refl _) hcap
  rw [ivs_slc] at own2 src2
  refine append_in' elemU srcU [] [] own2 (by simp) (.sl src2) (ivs_plain _ _) (by simp only [slcV, Int.toNat_natCast]; omega) fun s seg' hs _ hcap' own' => ?_
  rw [← ivs_append] at own'
  have e1 : (l.drop 0).take (k - 0) = l.take k := by simp
  have e2 : (l.drop (k + 1)).take (v.len - (k + 1)) = l.drop (k + 1) := by rw [hlen]; exact List.take_of_length_le (by rw [List.length_drop]; omega)
  rw [e1, e2] at own'
  simp only [slcV, Int.toNat_natCast] at hs hcap'
  have hsc := own'.cap
  refine slc_of (l' := s.len) (h' := v.len) (m' := s.cap) rfl rfl rfl (by omega) (by omega) (Nat.le_refl _) ?_
  refine clear_own elemU rfl [] [] own' (by simp) (h := v.len) (by omega) (by omega) rfl fun seg2 own2 => ?_
  exact .of ⟨s, rfl, by simpa using own2⟩
end Go.Proofs.Ytnhpojbjkfgeoaa
