/-
  It is proved what the parts of the program's index compute. There are no further conditions than those that each theorem names.
-/
import Derived.Test.YtefllmfoneocaaaHL21
import Derived.Test.YtefllmfoneocaaaT
set_option linter.unusedVariables false
set_option linter.unusedSimpArgs false
namespace Go.Proofs.Ytefllmfoneocaaa
open Go.HL

/-- A slot: its part, its place (block, page, epoch), how often it was hit. -/
structure ISlot where
  part : Int
  b : Int
  p : Int
  e : Int
  freq : Int
abbrev IName := Int × Int × Int × Int
def ISlot.nm (s : ISlot) : IName := (s.part, s.b, s.p, s.e)
def iEnc (s : ISlot) : List Value := [.int .i64 s.part, .int .i64 s.b, .int .i64 s.p, .int .i64 s.e, .int .i64 s.freq]
theorem iEnc_len (s : ISlot) : (iEnc s).length = 5 := rfl
theorem iEnc_plain (l : List ISlot) : (l.flatMap iEnc).all plainV = true := by
  induction l with
  | nil => rfl
  | cons e r ih => rw [List.flatMap_cons, List.all_append, ih]; rfl
def isz : ISlot := ⟨0, 0, 0, 0, 0⟩
abbrev tyIs : TypeId := 149
abbrev eIs : TypeId := 144
abbrev tyIr : TypeId := 150
theorem elemIs : ElemT PP tyIs eIs 5 40 [.int .i64 0, .int .i64 0, .int .i64 0, .int .i64 0, .int .i64 0] := elemT_of (by kernel_rfl) (by kernel_rfl) rfl (by decide) (by decide)
theorem srcIs : SrcT PP tyIs := .inl ⟨eIs, by kernel_rfl⟩
theorem undPl : isStr PP 81 = true := by kernel_rfl
theorem undNm : isStr PP 142 = true := by kernel_rfl
theorem eqPl {L : HList} (a b c a' b' c' : Int) {k : ShV (.lf .bool) → HP} (hk : k (decide ((a, b, c) = (a', b', c'))) L) :
    smP PP (binOp .eql 81 (.agg #[.int .i64 a, .int .i64 b, .int .i64 c]) (.agg #[.int .i64 a', .int .i64 b', .int .i64 c'])) (.lf .bool) k L := by
  refine eqS_of (r := (a == a' && (b == b' && (c == c' && true)))) undPl (by kernel_rfl) ?_
  have e : decide ((a, b, c) = (a', b', c')) = (a == a' && (b == b' && (c == c' && true))) := by
    rw [Bool.eq_iff_iff]; simp
  rw [e] at hk; exact hk
theorem nePl {L : HList} (a b c a' b' c' : Int) {k : ShV (.lf .bool) → HP} (hk : k (decide ((a, b, c) ≠ (a', b', c'))) L) :
    smP PP (binOp .neq 81 (.agg #[.int .i64 a, .int .i64 b, .int .i64 c]) (.agg #[.int .i64 a', .int .i64 b', .int .i64 c'])) (.lf .bool) k L := by
  refine neS_of (r := (a == a' && (b == b' && (c == c' && true)))) undPl (by kernel_rfl) ?_
  have e : decide ((a, b, c) ≠ (a', b', c')) = !(a == a' && (b == b' && (c == c' && true))) := by
    by_cases h : (a, b, c) = (a', b', c')
    · cases h; simp
    · have : (a == a' && (b == b' && (c == c' && true))) = false := by
        rw [Bool.eq_false_iff]; intro h2; apply h; simpa using h2
      rw [this]; simp [h]
  rw [e] at hk; exact hk
theorem eqNm {L : HList} (a b c d a' b' c' d' : Int) {k : ShV (.lf .bool) → HP} (hk : k (decide ((a, b, c, d) = (a', b', c', d'))) L) :
    smP PP (binOp .eql 142 (.agg #[.int .i64 a, .int .i64 b, .int .i64 c, .int .i64 d]) (.agg #[.int .i64 a', .int .i64 b', .int .i64 c', .int .i64 d'])) (.lf .bool) k L := by
  refine eqS_of (r := (a == a' && ((b == b' && (c == c' && (d == d' && true))) && true))) undNm (by kernel_rfl) ?_
  have e : decide ((a, b, c, d) = (a', b', c', d')) = (a == a' && ((b == b' && (c == c' && (d == d' && true))) && true)) := by
    rw [Bool.eq_iff_iff]; simp
  rw [e] at hk; exact hk
/-! ### sets and parts -/
def ipart (h : Nat) : Int := ((h / 2 ^ 48 : Nat) : Int)
theorem iset_rd (L : HList) (h k : Nat) (hh : h < 2 ^ 64) (h1 : 1 ≤ k) (h2 : k ≤ 1000) : Reads PP 119 #[.int .u64 h, .int .i64 k] L (.int .i64 ((h % k : Nat) : Int)) := by
  refine Reads.of (args := [.int .u64 h, .int .i64 k]) noNum mixed Try.func119 (e119 h k _) ?_
  unfold t119
  have hm := Nat.mod_lt h (show k > 0 by omega)
  have hw : IntKind.u64.wrap (k : Int) = k := wu64_id (by omega) (by omega)
  refine ifN (show ¬ (k : Int) < 1 by omega) (req_of (by rw [hw]; omega) (.of ⟨?_, rfl⟩))
  rw [hw, ← Int.ofNat_tmod, w64_id (by omega) (by omega)]
theorem ipart_rd (L : HList) (h : Nat) (hh : h < 2 ^ 64) : Reads PP 94 #[.int .u64 h] L (.int .i64 (ipart h)) := by
  refine Reads.of (args := [.int .u64 h]) noNum mixed Try.func94 (e94 h _) ?_
  unfold t94
  refine req_of (by decide) (.of ⟨?_, rfl⟩)
  have e : Int.fdiv (h : Int) (2 ^ (min (48 : Int).toNat IntKind.u64.bits)) = ((h / 2 ^ 48 : Nat) : Int) := by
    rw [show (2 : Int) ^ (min (48 : Int).toNat IntKind.u64.bits) = ((2 ^ 48 : Nat) : Int) from rfl, Int.fdiv_eq_ediv_of_nonneg _ (by omega)]
    rfl
  rw [e, w64_id (by omega) (by omega)]
  rfl
abbrev Pl := Int × Int × Int × Unit
def inm (h : Nat) (p : Pl) : IName := (ipart h, p.1, p.2.1, p.2.2.1)
theorem iof_rd (L : HList) (h : Nat) (hh : h < 2 ^ 64) (p : Pl) : Reads PP 93 #[.int .u64 h, .agg #[.int .i64 p.1, .int .i64 p.2.1, .int .i64 p.2.2.1]] L (.agg #[.int .i64 (ipart h), .int .i64 p.1, .int .i64 p.2.1, .int .i64 p.2.2.1]) := by
  refine Reads.of (args := [.int .u64 h, .agg #[.int .i64 p.1, .int .i64 p.2.1, .int .i64 p.2.2.1]]) noNum mixed Try.func93 (e93 h p _) ?_
  unfold t93
  refine nw_of fun n1 _ => nw_of fun n2 _ => ld_of p (ldB (n := n1) (c := #[.int .i64 p.1, .int .i64 p.2.1, .int .i64 p.2.2.1]) (T := 81) (fz := (0, 0)) (by simp) rfl) ?_
  refine cl_rd (ipart_rd _ h hh) (ipart h, ()) rfl (keep_of (ldB (n := n1) (c := #[.int .i64 p.1, .int .i64 p.2.1, .int .i64 p.2.2.1]) (T := 81) (fz := (0, 0)) (by simp) rfl) ?_)
  refine st_of [] _ rfl rfl (by simp) (.inl (Nat.le_refl _)) #[.int .i64 (ipart h), .int .i64 p.1, .int .i64 p.2.1, .int .i64 p.2.2.1] rfl ?_
  exact ld_of (ipart h, p) (ldB List.mem_cons_self rfl) (.cons (.cons (.of ⟨rfl, rfl⟩)))
/-! ### slots -/
theorem take1_rd (L : HList) (s : ISlot) (ad : Addr) (nm : IName) (hl : LdAt ad [.int .i64 nm.1, .int .i64 nm.2.1, .int .i64 nm.2.2.1, .int .i64 nm.2.2.2] L) :
    Reads PP 118 #[.agg #[.int .i64 s.part, .int .i64 s.b, .int .i64 s.p, .int .i64 s.e, .int .i64 s.freq], .pointer (some ad)] L (.bool (decide (s.nm = nm))) := by
  refine Reads.of (args := [.agg #[.int .i64 s.part, .int .i64 s.b, .int .i64 s.p, .int .i64 s.e, .int .i64 s.freq], .pointer (some ad)]) noNum mixed Try.func118 (e118 (s.part, s.b, s.p, s.e, s.freq, ()) (some ad) _) ?_
  unfold t118
  refine nw_of fun n1 _ => ld_of (s.part, s.b, s.p, s.e, ()) (ldB List.mem_cons_self rfl) (nilc_of rfl (ld_of (nm.1, nm.2.1, nm.2.2.1, nm.2.2.2, ()) (hl.mono fun _ hx => List.mem_cons_of_mem _ hx) (eqNm _ _ _ _ _ _ _ _ (.cons (.of ⟨rfl, rfl⟩)))))
theorem ifind_rd (L : HList) (v : SlV) (l : List ISlot) (h : Sl L v 5 (l.flatMap iEnc)) (hb : l.length ≤ 1000) (ad : Addr) (nm : IName) (hl : LdAt ad [.int .i64 nm.1, .int .i64 nm.2.1, .int .i64 nm.2.2.1, .int .i64 nm.2.2.2] L) :
    Reads PP 117 #[.slice v.a v.len v.cap, .func (.func 118) #[] #[.pointer (some ad)]] L
      (.int .i64 (match l.findIdx? (fun s => decide (s.nm = nm)) with | some i => (i : Int) | none => -1)) := by
  refine Reads.of (args := [.slice v.a v.len v.cap, .func (.func 118) #[] #[.pointer (some ad)]]) noNum mixed Try.func117 (e117 v ⟨.func 118, #[], #[.pointer (some ad)]⟩ _) ?_
  unfold t117
  have hlen := h.els_len iEnc_len (by decide)
  refine lp_of (fun k z L' => L' = L ∧ ∃ i : Nat, i ≤ l.length ∧ k = l.length - i ∧ z = ((i : Int), ()) ∧ ∀ s ∈ l.take i, s.nm ≠ nm) l.length ⟨rfl, 0, by omega, by omega, rfl, by simp⟩ ?_
  rintro k z L' ⟨rfl, i, hi, rfl, rfl, hn⟩
  refine ifD_of (fun (hlt : (i : Int) < v.len) => ?_) (fun (hge : ¬ (i : Int) < v.len) => ?_)
  · have hi' : i < l.length := by omega
    obtain ⟨a, ha, hld⟩ := h.el iEnc_len (by decide) hi'
    refine nilc_of ha (ixn_of (show (0 : Int) ≤ i by omega) hlt (ld_of (l[i].part, l[i].b, l[i].p, l[i].e, l[i].freq, ()) (by rw [Int.toNat_natCast]; exact hld) ?_))
    refine clv_of (by kernel_rfl) (cl_rd (take1_rd _ l[i] ad nm hl) (decide (l[i].nm = nm), ()) rfl ?_)
    refine ifD_of (fun (he : l[i].nm = nm) => .of ⟨?_, rfl⟩) (fun (he : ¬ l[i].nm = nm) => ?_)
    · have : l.findIdx? (fun s => decide (s.nm = nm)) = some i := by
        rw [List.findIdx?_eq_some_iff_getElem]
        refine ⟨hi', by simpa using he, fun j hj => ?_⟩
        have := hn l[j] (by rw [List.mem_take_iff_getElem]; exact ⟨j, by omega, rfl⟩)
        simpa using this
      rw [this]
    · refine ⟨l.length - (i + 1), by omega, rfl, i + 1, by omega, rfl, ?_, fun e hx => ?_⟩
      · rw [w64_id (by first | omega | (simp only; omega)) (by first | omega | (simp only; omega))]
        rfl
      · rw [List.take_succ_eq_append_getElem hi'] at hx
        rcases List.mem_append.1 hx with hx | hx
        · exact hn e hx
        · rw [List.mem_singleton.1 hx]; exact he
  · obtain rfl : i = l.length := by omega
    rw [List.take_length] at hn
    have : l.findIdx? (fun s => decide (s.nm = nm)) = none := by
      rw [List.findIdx?_eq_none_iff]
      intro s hs
      simpa using hn s hs
    rw [this]
    exact .of ⟨rfl, rfl⟩
theorem idel_cl (v : SlV) (l : List ISlot) (seg : HList) (own : Own v 5 eIs (l.flatMap iEnc) seg) (hb : l.length ≤ 1000) (k : Nat) (hk : k < l.length) :
    CallF PP 91 #[.slice v.a v.len v.cap, .int .i64 k, .int .i64 ((k : Int) + 1)] seg fun r L' => ∃ s, r = .slice s.a s.len s.cap ∧ Own s 5 eIs ((l.take k ++ l.drop (k + 1)).flatMap iEnc) L' := by
  refine CallF.of (args := [.slice v.a v.len v.cap, .int .i64 k, .int .i64 ((k : Int) + 1)]) noNum mixed Try.func91 (e91 v k ((k : Int) + 1) _) ?_
  unfold t91
  have hlen := own.sl.els_len iEnc_len (by decide)
  have hcap := own.cap
  refine slc_of (l' := k) (h' := k + 1) (m' := v.len) rfl rfl rfl (by omega) (by omega) hcap ?_
  refine ifE_of (fun (he : (k : Int) = (k : Int) + 1) => absurd he (by omega)) (fun _ => ?_)
  refine slc_of (l' := 0) (h' := k) (m' := v.cap) rfl rfl rfl (by omega) (by omega) (Nat.le_refl _) ?_
  refine slc_of (l' := k + 1) (h' := v.len) (m' := v.cap) rfl rfl rfl (by omega) hcap (Nat.le_refl _) ?_
  have own2 := own.slc (l := 0) (h := k) (by omega) (by omega)
  have src2 := Sl.slc (m := v.cap) own.sl (by omega) (l := k + 1) (h' := v.len) (by omega) (Nat.le_refl _) hcap
  rw [flat_slc iEnc_len] at own2 src2
  refine append_in' elemIs srcIs [] [] own2 (by simp) (.sl src2) (iEnc_plain _) (by simp only [slcV, Int.toNat_natCast]; omega) fun s seg' hs _ hcap' own' => ?_
  rw [← List.flatMap_append] at own'
  have e1 : (l.drop 0).take (k - 0) = l.take k := by simp
  have e2 : (l.drop (k + 1)).take (v.len - (k + 1)) = l.drop (k + 1) := by rw [hlen]; exact List.take_of_length_le (by rw [List.length_drop]; omega)
  rw [e1, e2] at own'
  simp only [slcV, Int.toNat_natCast] at hs hcap'
  have hsc := own'.cap
  refine slc_of (l' := s.len) (h' := v.len) (m' := s.cap) rfl rfl rfl (by omega) (by omega) (Nat.le_refl _) ?_
  refine clear_own elemIs rfl [] [] own' (by simp) (h := v.len) (by omega) (by omega) rfl fun seg2 own2 => ?_
  exact .of ⟨s, rfl, by simpa using own2⟩
end Go.Proofs.Ytefllmfoneocaaa
