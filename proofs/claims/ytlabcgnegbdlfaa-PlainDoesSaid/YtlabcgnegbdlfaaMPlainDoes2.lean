/-
  It is proved what the functions that the law PlainDoes reaches compute, part 2. There are no further conditions than those that each theorem names.
-/
import Derived.Test.YtlabcgnegbdlfaaMPlainDoes1
import Derived.Maps.RangeRun
set_option linter.unusedVariables false
set_option linter.unusedSimpArgs false
namespace Go.Proofs.Ytlabcgnegbdlfaa
open Go.HL

def len8 : ByteArray := ByteArray.mk #[0, 1, 2, 2, 3, 3, 3, 3, 4, 4, 4, 4, 4, 4, 4, 4, 5, 5, 5, 5, 5, 5, 5, 5, 5, 5, 5, 5, 5, 5, 5, 5, 6, 6, 6, 6, 6, 6, 6, 6, 6, 6, 6, 6, 6, 6, 6, 6, 6, 6, 6, 6, 6, 6, 6, 6, 6, 6, 6, 6, 6, 6, 6, 6, 7, 7, 7, 7, 7, 7, 7, 7, 7, 7, 7, 7, 7, 7, 7, 7, 7, 7, 7, 7, 7, 7, 7, 7, 7, 7, 7, 7, 7, 7, 7, 7, 7, 7, 7, 7, 7, 7, 7, 7, 7, 7, 7, 7, 7, 7, 7, 7, 7, 7, 7, 7, 7, 7, 7, 7, 7, 7, 7, 7, 7, 7, 7, 7, 8, 8, 8, 8, 8, 8, 8, 8, 8, 8, 8, 8, 8, 8, 8, 8, 8, 8, 8, 8, 8, 8, 8, 8, 8, 8, 8, 8, 8, 8, 8, 8, 8, 8, 8, 8, 8, 8, 8, 8, 8, 8, 8, 8, 8, 8, 8, 8, 8, 8, 8, 8, 8, 8, 8, 8, 8, 8, 8, 8, 8, 8, 8, 8, 8, 8, 8, 8, 8, 8, 8, 8, 8, 8, 8, 8, 8, 8, 8, 8, 8, 8, 8, 8, 8, 8, 8, 8, 8, 8, 8, 8, 8, 8, 8, 8, 8, 8, 8, 8, 8, 8, 8, 8, 8, 8, 8, 8, 8, 8, 8, 8, 8, 8, 8, 8, 8, 8, 8, 8, 8, 8, 8, 8, 8, 8, 8, 8]
def lenN (y : Nat) : Int := byteAt len8 (y : Int)
theorem len8_ok : ∀ y < 256, 0 ≤ lenN y ∧ lenN y ≤ 8 ∧ y < 2 ^ (lenN y).toNat ∧ (0 < y → 2 ^ (lenN y).toNat ≤ 2 * y) := by decide +kernel
theorem len_leaf {T : ByteArray} (hT : T = len8) {L : HList} {y : Nat} (hy : y < 256) {k : Int → HP} (hk : k (lenN y) L) : ixn (IntKind.u8.wrap (y : Int)) T.size (w64 (byteAt T (IntKind.u8.wrap (y : Int))) k) L := by
  subst hT
  have e : IntKind.u8.wrap (y : Int) = (y : Int) := by
    simp [IntKind.wrap, IntKind.bits, IntKind.signed]
    omega
  rw [e]
  have hs : len8.size = 256 := by decide +kernel
  have := len8_ok y hy
  refine ixn_of (by omega) (by rw [hs]; omega) (w64_of (show -9223372036854775808 ≤ lenN y ∧ lenN y ≤ 9223372036854775807 by omega) hk)
def lenI (x : Nat) : Int := if 256 ≤ x then 8 + lenN (x / 256) else lenN x
theorem lenI_ok {x : Nat} (h : x < 65536) : 0 ≤ lenI x ∧ lenI x ≤ 16 ∧ x < 2 ^ (lenI x).toNat ∧ (0 < x → 2 ^ (lenI x).toNat ≤ 2 * x) := by
  unfold lenI
  split
  · have := len8_ok (x / 256) (by omega)
    have e : (8 + lenN (x / 256)).toNat = 8 + (lenN (x / 256)).toNat := by omega
    rw [e, Nat.pow_add]
    obtain ⟨h1, h2, h3, h4⟩ := this
    have h5 := h4 (by omega)
    generalize 2 ^ (lenN (x / 256)).toNat = p at *
    refine ⟨by omega, by omega, by omega, fun _ => by omega⟩
  · have := len8_ok x (by omega)
    exact ⟨this.1, by omega, this.2.2.1, this.2.2.2⟩
theorem len64_rd (L : HList) (x : Nat) (h : x < 65536) : Reads PP 127 #[.int .u64 x] L (.int .i64 (lenI x)) := by
  unfold Reads
  refine c127 x ?_
  unfold s127
  refine jn_of (fun y L' => y = ((x : Int), 0, ()) ∧ L' = L) ?_ (fun j hj => ifN (show ¬ ((x : Int) ≥ 4294967296) by omega) (hj _ _ ⟨rfl, rfl⟩))
  rintro _ L1 ⟨rfl, hL⟩
  rw [hL]
  refine jn_of (fun y L' => y = ((x : Int), 0, ()) ∧ L' = L) ?_ (fun j hj => ifN (show ¬ ((x : Int) ≥ 65536) by omega) (hj _ _ ⟨rfl, rfl⟩))
  rintro _ L1 ⟨rfl, hL⟩
  rw [hL]
  have hok := lenI_ok h
  refine jn_of (fun y L' => ∃ (q : Nat) (a : Int), y = ((q : Int), a, ()) ∧ L' = L ∧ q < 256 ∧ 0 ≤ a ∧ a ≤ 8 ∧ a + lenN q = lenI x) ?_ ?_
  · rintro _ L1 ⟨q, a, rfl, hL, hq, h1, h2, h3⟩
    rw [hL]
    dsimp only
    refine len_leaf rfl hq (w64_of (by omega) ?_)
    rw [h3]
    exact .of ⟨rfl, rfl⟩
  · intro j hj
    dsimp only
    refine ifb_of (fun (hge : (x : Int) ≥ 256) => w64_of (by omega) (hj _ _ ⟨x / 256, 8, ?_, rfl, by omega, by omega, by omega, by unfold lenI; rw [if_pos (by omega)]⟩)) (fun (hlt : ¬ (x : Int) ≥ 256) => hj _ _ ⟨x, 0, rfl, rfl, by omega, by omega, by omega, by unfold lenI; rw [if_neg (by omega)]; omega⟩)
    have e : (2 : Int) ^ (min (8 : Int).toNat IntKind.u64.bits) = ((256 : Nat) : Int) := by decide
    have e2 : Int.fdiv (x : Int) ((256 : Nat) : Int) = ((x / 256 : Nat) : Int) := by rw [Int.fdiv_eq_ediv_of_nonneg _ (by omega)]; rfl
    rw [e, e2]; rfl
theorem len_rd (L : HList) (x : Nat) (h : x < 65536) : Reads PP 108 #[.int .u64 x] L (.int .i64 (lenI x)) := by
  unfold Reads
  refine c108 x ?_
  unfold s108
  exact cl_rd (len64_rd L x h) (lenI x, ()) rfl (.of ⟨rfl, rfl⟩)
theorem u64_id {x : Int} (h : 0 ≤ x) (h2 : x < 18446744073709551616) : IntKind.u64.wrap x = x := by
  simp [IntKind.wrap, IntKind.bits, IntKind.signed]
  omega
theorem npow_rd (L : HList) (x : Nat) (h : x < 65536) : Reads PP 133 #[.int .i64 x] L (.int .u64 ((2 ^ (lenI x).toNat : Nat) : Int)) := by
  unfold Reads
  refine c133 x ?_
  unfold s133
  have hok := lenI_ok h
  have hr := len_rd L x h
  rw [← u64_id (x := (x : Int)) (by omega) (by omega)] at hr
  refine cl_rd hr (lenI x, ()) rfl (req_of hok.1 ?_)
  have hm : min (lenI x).toNat IntKind.u64.bits = (lenI x).toNat := Nat.min_eq_left (show (lenI x).toNat ≤ 64 by omega)
  have hp : 2 ^ (lenI x).toNat ≤ 2 ^ 16 := Nat.pow_le_pow_right (by omega) (by omega)
  have e : IntKind.u64.wrap (1 * 2 ^ (min (lenI x).toNat IntKind.u64.bits)) = ((2 ^ (lenI x).toNat : Nat) : Int) := by
    rw [hm, Int.one_mul, u64_id]
    · simp
    · exact Int.pow_nonneg (by decide)
    · have : ((2 ^ (lenI x).toNat : Nat) : Int) ≤ 65536 := by omega
      simp only [Int.natCast_pow] at this
      exact Int.lt_of_le_of_lt this (by decide)
  rw [e]
  exact .of ⟨rfl, rfl⟩
theorem next_cl (n : Nat) (x : Int) (R : HList) : CallF PP 134 #[.pointer (some ⟨n, 0, none⟩)] ((n, Obj.cells #[.int .u64 x] 214) :: R) fun r L' => ∃ y : Int, r = .int .u64 y ∧ L' = (n, Obj.cells #[.int .u64 y] 214) :: R := by
  refine c134 (some ⟨n, 0, none⟩) ?_
  unfold s134
  have step : ∀ (x y : Int) (k : HP), k ((n, Obj.cells #[.int .u64 y] 214) :: R) → st ⟨n, 0, none⟩ [.int .u64 y] k ((n, Obj.cells #[.int .u64 x] 214) :: R) := fun x y k hk =>
    st_of (n := n) (off := 0) (c := #[.int .u64 x]) (T := 214) (fz := (0, 0)) [] R rfl rfl (by simp) (.inl (Nat.le_refl _)) #[.int .u64 y] rfl hk
  have hl : ∀ (x : Int) (k : ShV (.lf (.int .u64)) → HP), k x ((n, Obj.cells #[.int .u64 x] 214) :: R) → ld ⟨n, 0, none⟩ (.lf (.int .u64)) k ((n, Obj.cells #[.int .u64 x] 214) :: R) := fun x k hk => ld_of x (ldB List.mem_cons_self rfl) hk
  refine nilc_of rfl (hl _ _ (hl _ _ (step _ _ _ (hl _ _ (hl _ _ (step _ _ _ (hl _ _ (hl _ _ (step _ _ _ (hl _ _ ?_))))))))))
  exact .of ⟨_, rfl, rfl⟩
theorem and_le (x : Int) {m : Nat} (hm : m < 18446744073709551616) : ∃ q : Nat, bitI .and .u64 x (m : Int) = q ∧ q ≤ m := by
  rw [and64]
  refine ⟨_, rfl, ?_⟩
  have h1 : (BitVec.ofInt 64 x &&& BitVec.ofInt 64 (m : Int)).toNat ≤ (BitVec.ofInt 64 (m : Int)).toNat := by
    rw [BitVec.toNat_and]; exact Nat.and_le_right
  refine Nat.le_trans h1 ?_
  simp
  exact Nat.mod_le _ _
theorem break_cl (v : SlV) (l : BL) (seg R : HList) (o : SO v l seg) (a b : Nat) (hab : a + 12 < b) (hb : b ≤ l.length) (hl : l.length ≤ 60000) :
    CallF PP 119 #[.slice v.a v.len v.cap, .int .i64 a, .int .i64 b] (seg ++ R) (SK a b v l R fun l' r => r = .tuple #[]) := by
  refine c119 v a b ?_
  unfold s119
  obtain ⟨n, hn⟩ : ∃ n : Nat, n = b - a := ⟨_, rfl⟩
  have e0 : (b : Int) - a = n := by omega
  refine w64_of (by omega) ?_
  rw [e0]
  have hd : Int.tdiv (n : Int) 4 = ((n / 4 : Nat) : Int) := rfl
  refine ifP (by omega) (nw_of fun m _ => ?_)
  refine st_of (n := m) (off := 0) (c := #[.int .u64 0]) (T := 214) (fz := (0, 0)) [] (seg ++ R) rfl rfl (by simp) (.inl (Nat.le_refl _)) #[.int .u64 (IntKind.u64.wrap (n : Int))] rfl ?_
  have hok := lenI_ok (x := n) (by omega)
  refine cl_rd (npow_rd _ n (by omega)) (((2 ^ (lenI n).toNat : Nat) : Int), ()) rfl ?_
  have hp2 := hok.2.2.2 (by omega)
  have hp1 := hok.2.2.1
  dsimp only
  generalize 2 ^ (lenI n).toNat = w at hp1 hp2
  rw [hd]
  have hq : 3 ≤ n / 4 ∧ 4 * (n / 4) ≤ n := by omega
  generalize n / 4 = q at hq
  refine w64_of (by omega) (w64_of (by omega) (w64_of (by omega) (w64_of (by omega) ?_)))
  refine lp_of (fun z' z L' => ∃ (k : Nat) (x : Int) (l1 : BL) (sg : HList), z = (((a + q * 2 - 1 + k : Nat) : Int), ()) ∧ z' = 3 - k ∧ k ≤ 3 ∧ Sg a b l l1 ∧ L'.Perm ((m, Obj.cells #[.int .u64 x] 214) :: (sg ++ R)) ∧ SO v l1 sg) 3
    ⟨0, _, l, seg, by rw [show ((a + q * 2 - 1 + 0 : Nat) : Int) = (a : Int) + (q : Int) * 2 - 1 by omega], rfl, by omega, Sg.refl _ _ _, List.Perm.refl _, o⟩ ?_
  rintro z' z L1 ⟨k, x, l1, sg, rfl, rfl, hk, hs, hp, o1⟩
  dsimp only
  have hl1 := hs.len
  refine w64_of (by omega) (w64_of (by omega) (w64_of (by omega) (w64_of (by omega) ?_)))
  refine ifb_of (fun (hle : ((a + q * 2 - 1 + k : Nat) : Int) ≤ (a : Int) + (q : Int) * 2 + 1) => ?_) (fun _ => .drop (A := sg ++ R) (J := [(m, Obj.cells #[.int .u64 x] 214)]) ⟨l1, sg, rfl, o1, hs, rfl⟩ (pc fun z => by have := pcn hp z; simp only [cnt_a, cnt_c, cnt_n] at *; omega))
  refine cl_of (CallF.perm hp.symm (next_cl m x (sg ++ R))) ?_
  rintro _ _ - ⟨y, rfl, rfl⟩
  refine ⟨(y, ()), rfl, ?_⟩
  dsimp only
  rw [show (w : Int) - 1 = ((w - 1 : Nat) : Int) by omega, u64_id (by omega) (by omega)]
  obtain ⟨t, ht, htw⟩ := and_le y (m := w - 1) (by omega)
  rw [ht]
  refine w64_of (by omega) (jn_of (fun y' L' => ∃ u : Nat, y' = ((u : Int), ()) ∧ L' = (m, Obj.cells #[.int .u64 y] 214) :: (sg ++ R) ∧ u < n) ?_ ?_)
  · rintro _ L2 ⟨u, rfl, hL2, hu⟩
    rw [hL2]
    dsimp only
    have sub : ∀ p ∈ sg, p ∈ (m, Obj.cells #[.int .u64 y] 214) :: (sg ++ R) := fun p hp => by simp [hp]
    refine w64_of (by omega) (w64_of (by omega) (elp_s o1 (n := a + u) (by omega) (by omega) fun b1 hb1 => elp_s o1 (n := a + q * 2 - 1 + k) rfl (by omega) fun b2 hb2 => ?_))
    refine ld_of (ga l1 (a + u)) (o1.ld sub hb1 (by omega)) (ld_of (ga l1 (a + q * 2 - 1 + k)) (o1.ld sub hb2 (by omega)) ?_)
    refine o1.st hb2 (by omega) _ (Y := (m, Obj.cells #[.int .u64 y] 214) :: R) (pc fun z => by simp only [cnt_a, cnt_c]; omega) fun sg3 L3 hp3 o3 => ?_
    refine elp_s o3 (n := a + u) (by omega) (by simp; omega) fun b3 hb3 => ?_
    refine o3.st hb3 (by simp; omega) _ hp3 fun sg4 L4 hp4 o4 => ?_
    rw [sw_comm (i := a + u) (j := a + q * 2 - 1 + k) (by omega) (by omega)] at o4
    exact w64_of (by omega) ⟨3 - (k + 1), by omega, k + 1, y, _, sg4, by rw [show ((a + q * 2 - 1 + (k + 1) : Nat) : Int) = ((a + q * 2 - 1 + k : Nat) : Int) + 1 by omega], rfl, by omega, hs.trans (Sg.swap (by omega) (by omega) (by omega) (by omega) (by omega) (by omega)), pc fun z => by have := pcn hp4 z; simp only [cnt_a, cnt_c] at *; omega, o4⟩
  · intro j hj
    exact ifb_of (fun (h : (t : Int) ≥ n) => w64_of (by omega) (hj _ _ ⟨t - n, by rw [show ((t - n : Nat) : Int) = (t : Int) - n by omega], rfl, by omega⟩)) (fun (h : ¬ (t : Int) ≥ n) => hj _ _ ⟨t, rfl, rfl, by omega⟩)
end Go.Proofs.Ytlabcgnegbdlfaa
set_option linter.unusedVariables false
set_option linter.unusedSimpArgs false
namespace Go.Proofs.Ytlabcgnegbdlfaa
open Go.HL

theorem srt_snoc {l : BL} {a k : Nat} (h : Srt l a k) (ha : a < k) (hle : le (ga l (k - 1)) (ga l k)) : Srt l a (k + 1) := by
  refine srt_adj fun i h1 h2 => ?_
  by_cases e : i + 1 = k
  · have : i = k - 1 := by omega
    rw [this, show k - 1 + 1 = k by omega]; exact hle
  · exact h i (i + 1) h1 (by omega) (by omega)
/-- One step of moving an element down. -/
theorem move_down {l : BL} {a i j : Nat} (haj : a < j) (hji : j ≤ i) (hil : i < l.length) (hP : ∀ p q, a ≤ p → p < q → q ≤ i → q ≠ j → le (ga l p) (ga l q)) (hlt : lt (ga l j) (ga l (j - 1)) = true) :
    ∀ p q, a ≤ p → p < q → q ≤ i → q ≠ j - 1 → le (ga (sw l (j - 1) j) p) (ga (sw l (j - 1) j) q) := by
  intro p q h1 h2 h3 h4
  have hg := sw_ga (l := l) (i := j - 1) (j := j) (by omega) (by omega)
  rw [hg p, hg q]
  have e0 := hP (j - 1) q
  have e1 := hP j q
  have e2 := hP p (j - 1)
  have e3 := hP p q
  by_cases q1 : q = j
  · rw [if_pos q1]
    by_cases p1 : p = j - 1
    · rw [if_neg (by omega), if_pos p1]; exact le_of_lt hlt
    · rw [if_neg (by omega), if_neg p1]; exact e2 h1 (by omega) (by omega) (by omega)
  · rw [if_neg q1, if_neg h4]
    by_cases p1 : p = j
    · rw [if_pos p1]; exact e0 (by omega) (by omega) h3 q1
    · rw [if_neg p1]
      by_cases p2 : p = j - 1
      · rw [if_pos p2]; exact e1 (by omega) (by omega) h3 q1
      · rw [if_neg p2]; exact e3 h1 h2 h3 q1
theorem pins_cl (v : SlV) (l : BL) (seg R : HList) (o : SO v l seg) (a b : Nat) (hab : a + 12 < b) (hb : b ≤ l.length) (hl : l.length ≤ 60000) (hpre : 0 < a → ∀ k, a ≤ k → k < b → le (ga l (a - 1)) (ga l k)) :
    CallF PP 122 #[.slice v.a v.len v.cap, .int .i64 a, .int .i64 b] (seg ++ R) (SK a b v l R fun l' r => ∃ t : Bool, r = .bool t ∧ (t = true → Srt l' a b)) := by
  refine c122 v a b ?_
  unfold s122
  refine w64_of (by omega) ?_
  refine lp_of (fun z' z L' => ∃ (i j : Nat) (l1 : BL) (sg : HList), z = ((i : Int), (j : Int), ()) ∧ z' = 5 - j ∧ j ≤ 5 ∧ a < i ∧ i ≤ b ∧ Sg a b l l1 ∧ Srt l1 a i ∧ L'.Perm (sg ++ R) ∧ SO v l1 sg) 5
    ⟨a + 1, 0, l, seg, rfl, rfl, by omega, by omega, by omega, Sg.refl _ _ _, Srt.nil _ (by omega), List.Perm.refl _, o⟩ ?_
  rintro z' z L1 ⟨i0, j0, l1, sg, rfl, rfl, hj5, hi1, hi2, hs, hsrt, hp, o1⟩
  dsimp only
  have hl1 := hs.len
  refine ifb_of (fun (hlt : (j0 : Int) < 5) => ?_) (fun _ => SK.mk hp o1 hs ⟨false, rfl, fun h => by cases h⟩)
  refine jn_of (fun y L' => ∃ i : Nat, y = ((i : Int), ()) ∧ L' = L1 ∧ a < i ∧ i ≤ b ∧ Srt l1 a i ∧ (i = b ∨ lt (ga l1 i) (ga l1 (i - 1)) = true)) ?_ ?_
  · rintro _ L' ⟨i, rfl, hL', hai, hib, hsi, hend⟩
    rw [hL']
    dsimp only
    refine ifb_of (fun (he : (i : Int) = b) => SK.mk hp o1 hs ⟨true, rfl, fun _ => (show i = b by omega) ▸ hsi⟩) (fun (he : ¬ (i : Int) = b) => ?_)
    refine w64_of (by omega) (ifb_of (fun _ => SK.mk hp o1 hs ⟨false, rfl, fun h => by cases h⟩) (fun _ => ?_))
    have hib2 : i < b := by omega
    have hlt2 : lt (ga l1 i) (ga l1 (i - 1)) = true := hend.resolve_left (by omega)
    refine w64_of (by omega) (w64_of (by omega) ?_)
    refine elp_s o1 (n := i - 1) (by omega) (by omega) fun b1 hb1 => elp_s o1 (n := i) rfl (by omega) fun b2 hb2 => ?_
    refine ld_of (ga l1 (i - 1)) (o1.ld (psub0 hp) hb1 (by omega)) (ld_of (ga l1 i) (o1.ld (psub0 hp) hb2 (by omega)) ?_)
    refine o1.st hb2 (by omega) _ hp fun sg3 L3 hp3 o3 => ?_
    refine elp_s o3 (n := i - 1) (by omega) (by simp; omega) fun b3 hb3 => ?_
    refine o3.st hb3 (by simp; omega) _ hp3 fun sg4 L4 hp4 o4 => ?_
    rw [sw_comm (i := i - 1) (j := i) (by omega) (by omega)] at o4
    have hg := sw_ga (l := l1) (i := i - 1) (j := i) (by omega) (by omega)
    have hs4 : Sg a b l (sw l1 (i - 1) i) := hs.trans (Sg.swap (by omega) (by omega) (by omega) (by omega) (by omega) (by omega))
    have hs4l : ∀ p q, a ≤ p → p < q → q ≤ i - 1 → q ≠ i - 1 → le (ga (sw l1 (i - 1) i) p) (ga (sw l1 (i - 1) i) q) := fun p q h1 h2 h3 h4 => by
      rw [hg p, hg q, if_neg (by omega), if_neg (by omega), if_neg (by omega), if_neg (by omega)]
      exact hsi p q h1 h2 (by omega)
    generalize sw l1 (i - 1) i = l4 at o4 hs4 hs4l
    refine jn_of (fun _ L' => ∃ (l5 : BL) (sg5 : HList), L'.Perm (sg5 ++ R) ∧ SO v l5 sg5 ∧ Sg a b l l5 ∧ Srt l5 a i) ?_ ?_
    · rintro _ L5 ⟨l5, sg5, hp5, o5, hs5, hsrt5⟩
      have next : ∀ (l6 : BL) (sg6 L6 : HList), L6.Perm (sg6 ++ R) → SO v l6 sg6 → Sg a b l l6 → Srt l6 a i →
          ∃ k', k' < 5 - j0 ∧ ∃ (i' j : Nat) (l1 : BL) (sg : HList), (((i : Int), (j0 : Int) + 1, ()) : RsV [.lf (.int .i64), .lf (.int .i64)]) = ((i' : Int), (j : Int), ()) ∧ k' = 5 - j ∧ j ≤ 5 ∧ a < i' ∧ i' ≤ b ∧ Sg a b l l1 ∧ Srt l1 a i' ∧ L6.Perm (sg ++ R) ∧ SO v l1 sg :=
        fun l6 sg6 L6 h1 h2 h3 h4 => ⟨5 - (j0 + 1), by omega, i, j0 + 1, l6, sg6, rfl, rfl, by omega, by omega, by omega, h3, h4, h1, h2⟩
      refine w64_of (by omega) (ifb_of (fun _ => w64_of (by omega) ?_) (fun _ => w64_of (by omega) (next l5 sg5 L5 hp5 o5 hs5 hsrt5)))
      refine lp_of (fun z' z L' => ∃ (k : Nat) (l6 : BL) (sg6 : HList), z = ((k : Int), ()) ∧ z' = b - k ∧ i < k ∧ k ≤ b ∧ L'.Perm (sg6 ++ R) ∧ SO v l6 sg6 ∧ Sg a b l l6 ∧ Srt l6 a i) (b - (i + 1)) ⟨i + 1, l5, sg5, rfl, rfl, by omega, by omega, hp5, o5, hs5, hsrt5⟩ ?_
      rintro z' z L6 ⟨k, l6, sg6, rfl, rfl, hk1, hk2, hp6, o6, hs6, hsrt6⟩
      dsimp only
      have hl6 := hs6.len
      refine ifb_of (fun (hkb : (k : Int) < b) => ?_) (fun _ => w64_of (by omega) (next l6 sg6 L6 hp6 o6 hs6 hsrt6))
      refine elp_s o6 (n := k) rfl (by omega) fun b6 hb6 => w64_of (by omega) (elp_s o6 (n := k - 1) (by omega) (by omega) fun b7 hb7 => ?_)
      refine ld_of (ga l6 k) (o6.ld (psub0 hp6) hb6 (by omega)) (ld_of (ga l6 (k - 1)) (o6.ld (psub0 hp6) hb7 (by omega)) ?_)
      refine cl_rd (less_rd L6 _ _) (lt (ga l6 k) (ga l6 (k - 1)), ()) rfl (ifB_of (fun h => ?_) (fun h => w64_of (by omega) (next l6 sg6 L6 hp6 o6 hs6 hsrt6)))
      refine w64_of (by omega) (w64_of (by omega) (elp_s o6 (n := k - 1) (by omega) (by omega) fun b8 hb8 => ?_))
      refine ld_of (ga l6 (k - 1)) (o6.ld (psub0 hp6) hb8 (by omega)) (ld_of (ga l6 k) (o6.ld (psub0 hp6) hb6 (by omega)) ?_)
      refine o6.st hb6 (by omega) _ hp6 fun sg7 L7 hp7 o7 => ?_
      refine elp_s o7 (n := k - 1) (by omega) (by simp; omega) fun b9 hb9 => ?_
      refine o7.st hb9 (by simp; omega) _ hp7 fun sg8 L8 hp8 o8 => ?_
      rw [sw_comm (i := k - 1) (j := k) (by omega) (by omega)] at o8
      have hg6 := sw_ga (l := l6) (i := k - 1) (j := k) (by omega) (by omega)
      refine w64_of (by omega) ⟨b - (k + 1), by omega, k + 1, sw l6 (k - 1) k, sg8, rfl, rfl, by omega, by omega, hp8, o8, hs6.trans (Sg.swap (by omega) (by omega) (by omega) (by omega) (by omega) (by omega)), hsrt6.out fun q h1 h2 => by rw [hg6, if_neg (by omega), if_neg (by omega)]⟩
    · intro j2 hj2
      refine w64_of (by omega) (ifb_of (fun (h2 : (i : Int) - a ≥ 2) => w64_of (by omega) ?_) (fun (h2 : ¬ (i : Int) - a ≥ 2) => hj2 _ _ ⟨l4, sg4, hp4, o4, hs4, Srt.nil _ (by omega)⟩))
      refine lp_of (fun z' z L' => ∃ (j : Nat) (l5 : BL) (sg5 : HList), z = ((j : Int), ()) ∧ z' = j + 1 ∧ a ≤ j ∧ j ≤ i - 1 ∧ L'.Perm (sg5 ++ R) ∧ SO v l5 sg5 ∧ Sg a b l l5 ∧ ∀ p q, a ≤ p → p < q → q ≤ i - 1 → q ≠ j → le (ga l5 p) (ga l5 q)) (i - 1 + 1)
        ⟨i - 1, l4, sg4, by rw [show ((i - 1 : Nat) : Int) = (i : Int) - 1 by omega], rfl, by omega, by omega, hp4, o4, hs4, hs4l⟩ ?_
      rintro z' z L5 ⟨j, l5, sg5, rfl, rfl, hj1, hj2', hp5, o5, hs5, hP⟩
      dsimp only
      have hl5 := hs5.len
      refine ifb_of (fun (h1 : (j : Int) ≥ 1) => ?_) (fun (h1 : ¬ (j : Int) ≥ 1) => hj2 _ _ ⟨l5, sg5, hp5, o5, hs5, fun p q e1 e2 e3 => hP p q e1 e2 (by omega) (by omega)⟩)
      refine elp_s o5 (n := j) rfl (by omega) fun b6 hb6 => w64_of (by omega) (elp_s o5 (n := j - 1) (by omega) (by omega) fun b7 hb7 => ?_)
      refine ld_of (ga l5 j) (o5.ld (psub0 hp5) hb6 (by omega)) (ld_of (ga l5 (j - 1)) (o5.ld (psub0 hp5) hb7 (by omega)) ?_)
      refine cl_rd (less_rd L5 _ _) (lt (ga l5 j) (ga l5 (j - 1)), ()) rfl (ifB_of (fun h => ?_) (fun h => hj2 _ _ ⟨l5, sg5, hp5, o5, hs5, fun p q e1 e2 e3 => ?_⟩))
      · have haj : a < j := by
          rcases Nat.lt_or_ge a j with h3 | h3
          · exact h3
          · obtain rfl : j = a := by omega
            have h4 : le (ga l5 (j - 1)) (ga l5 j) := by
              rw [hs5.out (j - 1) (.inl (by omega))]
              exact hs5.all hb (P := fun x => le (ga l (j - 1)) x) (hpre (by omega)) j (by omega) (by omega)
            unfold le at h4
            have h5 : lt (ga l5 j) (ga l5 (j - 1)) = true := h
            rw [h5] at h4; cases h4
        refine w64_of (by omega) (w64_of (by omega) (elp_s o5 (n := j - 1) (by omega) (by omega) fun b8 hb8 => ?_))
        refine ld_of (ga l5 (j - 1)) (o5.ld (psub0 hp5) hb8 (by omega)) (ld_of (ga l5 j) (o5.ld (psub0 hp5) hb6 (by omega)) ?_)
        refine o5.st hb6 (by omega) _ hp5 fun sg7 L7 hp7 o7 => ?_
        refine elp_s o7 (n := j - 1) (by omega) (by simp; omega) fun b9 hb9 => ?_
        refine o7.st hb9 (by simp; omega) _ hp7 fun sg8 L8 hp8 o8 => ?_
        rw [sw_comm (i := j - 1) (j := j) (by omega) (by omega)] at o8
        exact w64_of (by omega) ⟨j - 1 + 1, by omega, j - 1, sw l5 (j - 1) j, sg8, by rw [show ((j - 1 : Nat) : Int) = (j : Int) - 1 by omega], rfl, by omega, by omega, hp8, o8, hs5.trans (Sg.swap (by omega) (by omega) (by omega) (by omega) (by omega) (by omega)), move_down haj hj2' (by omega) hP h⟩
      · by_cases q1 : q = j
        · subst q1
          by_cases p1 : p = q - 1
          · subst p1; exact h
          · exact le_trans (hP p (q - 1) e1 (by omega) (by omega) (by omega)) h
        · exact hP p q e1 e2 (by omega) q1
  · intro j1 hj1
    refine lp_of (fun z' z L' => ∃ k : Nat, z = ((k : Int), ()) ∧ z' = b - k ∧ i0 ≤ k ∧ k ≤ b ∧ Srt l1 a k ∧ L' = L1) (b - i0) ⟨i0, rfl, rfl, by omega, by omega, hsrt, rfl⟩ ?_
    rintro z' z L' ⟨k, rfl, rfl, hk1, hk2, hsk, hL'⟩
    rw [hL']
    dsimp only
    refine ifb_of (fun (hkb : (k : Int) < b) => ?_) (fun (hkb : ¬ (k : Int) < b) => hj1 _ _ ⟨k, rfl, rfl, by omega, hk2, hsk, .inl (by omega)⟩)
    refine elp_s o1 (n := k) rfl (by omega) fun b1 hb1 => w64_of (by omega) (elp_s o1 (n := k - 1) (by omega) (by omega) fun b2 hb2 => ?_)
    refine ld_of (ga l1 k) (o1.ld (psub0 hp) hb1 (by omega)) (ld_of (ga l1 (k - 1)) (o1.ld (psub0 hp) hb2 (by omega)) ?_)
    exact cl_rd (less_rd L1 _ _) (lt (ga l1 k) (ga l1 (k - 1)), ()) rfl (ifB_of (fun h => hj1 _ _ ⟨k, rfl, rfl, by omega, hk2, hsk, .inr h⟩) (fun h => w64_of (by omega) ⟨b - (k + 1), by omega, k + 1, rfl, rfl, by omega, by omega, srt_snoc hsk (by omega) h, rfl⟩))
end Go.Proofs.Ytlabcgnegbdlfaa
set_option linter.unusedVariables false
set_option linter.unusedSimpArgs false
namespace Go.Proofs.Ytlabcgnegbdlfaa
open Go.HL

/-- What partitioning has come to: less than the pivot up to i, not less behind j. -/
structure PI (a b : Nat) (l l1 : BL) (i j : Nat) : Prop where
  i1 : a + 1 ≤ i
  ij : i ≤ j + 1
  jb : j < b
  s : Sg a b l l1
  lo : ∀ k, a + 1 ≤ k → k < i → lt (ga l1 k) (ga l1 a) = true
  hi : ∀ k, j < k → k < b → le (ga l1 a) (ga l1 k)
theorem PI.up {a b : Nat} {l l1 : BL} {i j : Nat} (p : PI a b l l1 i j) (h : i ≤ j) (hl : lt (ga l1 i) (ga l1 a) = true) : PI a b l l1 (i + 1) j :=
  ⟨by have := p.i1; omega, by omega, p.jb, p.s, fun k h1 h2 => by
    by_cases e : k = i
    · rw [e]; exact hl
    · exact p.lo k h1 (by omega), p.hi⟩
theorem PI.down {a b : Nat} {l l1 : BL} {i j : Nat} (p : PI a b l l1 i j) (h : i ≤ j) (hl : lt (ga l1 j) (ga l1 a) = false) : PI a b l l1 i (j - 1) :=
  ⟨p.i1, by have := p.i1; omega, by have := p.jb; omega, p.s, p.lo, fun k h1 h2 => by
    by_cases e : k = j
    · rw [e]; exact hl
    · exact p.hi k (by omega) h2⟩
theorem PI.swap {a b : Nat} {l l1 : BL} {i j : Nat} (p : PI a b l l1 i j) (hb : b ≤ l.length) (h : i ≤ j) (h1 : lt (ga l1 i) (ga l1 a) = false) (h2 : lt (ga l1 j) (ga l1 a) = true) : PI a b l (sw l1 i j) (i + 1) (j - 1) := by
  have hl := p.s.len
  have hj := p.jb
  have hi := p.i1
  have hne : i ≠ j := fun e => by subst e; rw [h1] at h2; cases h2
  have hg := sw_ga (l := l1) (i := i) (j := j) (by omega) (by omega)
  refine ⟨by omega, by omega, by omega, p.s.trans (Sg.swap (by omega) (by omega) (by omega) (by omega) (by omega) (by omega)), fun k e1 e2 => ?_, fun k e1 e2 => ?_⟩
  · rw [hg, hg, if_neg (show ¬ k = j by omega), if_neg (show ¬ a = j by omega), if_neg (show ¬ a = i by omega)]
    by_cases e : k = i
    · rw [if_pos e]; exact h2
    · rw [if_neg e]; exact p.lo k e1 (by omega)
  · rw [hg, hg, if_neg (show ¬ a = j by omega), if_neg (show ¬ a = i by omega)]
    by_cases e : k = j
    · rw [if_pos e]; exact h1
    · rw [if_neg e, if_neg (by omega)]; exact p.hi k (by omega) e2
/-- What partitioning leaves. -/
structure PO (a b : Nat) (l' : BL) (m : Nat) : Prop where
  a1 : a ≤ m
  b1 : m < b
  lo : ∀ k, a ≤ k → k < m → lt (ga l' k) (ga l' m) = true
  hi : ∀ k, m < k → k < b → le (ga l' m) (ga l' k)
theorem PI.fin {a b : Nat} {l l1 : BL} {i j : Nat} (p : PI a b l l1 i j) (hb : b ≤ l.length) (h : i > j) : PO a b (sw l1 a j) j := by
  have hl := p.s.len
  have hj := p.jb
  have hi := p.i1
  have hij := p.ij
  have hg := sw_ga (l := l1) (i := a) (j := j) (by omega) (by omega)
  refine ⟨by omega, hj, fun k e1 e2 => ?_, fun k e1 e2 => ?_⟩
  · rw [hg, hg, if_neg (show ¬ k = j by omega), if_pos rfl]
    by_cases e : k = a
    · rw [if_pos e]; exact p.lo j (by omega) (by omega)
    · rw [if_neg e]; exact p.lo k (by omega) (by omega)
  · rw [hg, hg, if_neg (show ¬ k = j by omega), if_neg (show ¬ k = a by omega), if_pos rfl]
    exact p.hi k e1 e2
theorem part_cl (v : SlV) (l : BL) (seg R : HList) (o : SO v l seg) (a b q : Nat) (hab : a < b) (hb : b ≤ l.length) (hl : l.length ≤ 60000) (hq1 : a ≤ q) (hq2 : q < b) :
    CallF PP 125 #[.slice v.a v.len v.cap, .int .i64 a, .int .i64 b, .int .i64 q] (seg ++ R) (SK a b v l R fun l' r => ∃ (m : Nat) (t : Bool), r = .tuple #[.int .i64 m, .bool t] ∧ PO a b l' m) := by
  refine c125 v a b q ?_
  unfold s125
  refine elp_s o (n := q) rfl (by omega) fun b1 hb1 => elp_s o (n := a) rfl (by omega) fun b2 hb2 => ?_
  refine ld_of (ga l q) (o.ld (fun p hp => by simp [hp]) hb1 (by omega)) (ld_of (ga l a) (o.ld (fun p hp => by simp [hp]) hb2 (by omega)) ?_)
  refine st_sw2 o hb2 hb1 (by omega) (by omega) (List.Perm.refl _) fun sg1 L1 hp1 o1 => ?_
  have hs1 : Sg a b l (sw l a q) := Sg.swap (by omega) (by omega) (by omega) (by omega) (by omega) (by omega)
  generalize sw l a q = l1 at o1 hs1
  have hl1 := hs1.len
  refine w64_of (by omega) (w64_of (by omega) ?_)
  have pi0 : PI a b l l1 (a + 1) (b - 1) := ⟨by omega, by omega, by omega, hs1, fun k h1 h2 => by omega, fun k h1 h2 => by omega⟩
  -- how it ends
  have fin : ∀ (t : Bool) (l2 : BL) (sg2 L2 : HList) (i j : Nat), PI a b l l2 i j → i > j → L2.Perm (sg2 ++ R) → SO v l2 sg2 →
      elp v.a v.len (j : Int) 1 (fun a5 => HL.ld (Addr.add b2 (a * 1)) (.lf .str) fun v7 => HL.ld a5 (.lf .str) fun v8 => HL.st a5 [.string v7] <| HL.st (Addr.add b2 (a * 1)) [.string v8] <|
        HL.Ends (SK a b v l R fun l' r => ∃ (m : Nat) (t : Bool), r = .tuple #[.int .i64 m, .bool t] ∧ PO a b l' m) (.tuple #[.int .i64 (j : Int), .bool t])) L2 := by
    intro t l2 sg2 L2 i j pi hij hp2 o2
    have hl2 := pi.s.len
    have hjb := pi.jb
    have hi1 := pi.i1
    have hij1 := pi.ij
    refine elp_s o2 (n := j) rfl (by omega) fun b3 hb3 => ?_
    refine ld_of (ga l2 a) (o2.ld (psub0 hp2) hb2 (by omega)) (ld_of (ga l2 j) (o2.ld (psub0 hp2) hb3 (by omega)) ?_)
    refine st_sw o2 hb3 hb2 (i := a) (j := j) (by omega) (by omega) hp2 fun sg3 L3 hp3 o3 => ?_
    exact SK.mk hp3 o3 (pi.s.trans (Sg.swap (by omega) (by omega) (by omega) (by omega) (by omega) (by omega))) ⟨j, t, rfl, pi.fin hb hij⟩
  -- the loop that goes down
  have goes : ∀ (l2 : BL) (sg2 L2 : HList) (i j : Nat) (j1 : RsV [.lf (.int .i64)] → HP), PI a b l l2 i j → L2.Perm (sg2 ++ R) → SO v l2 sg2 → lt (ga l2 i) (ga l2 a) = false →
      (∀ (j' : Nat), PI a b l l2 i j' → (i > j' ∨ i ≤ j' ∧ lt (ga l2 j') (ga l2 a) = true) → j1 ((j' : Int), ()) L2) →
      lp [.lf (.int .i64)] ((j : Int), ()) (fun z2 go2 => ifB (decide ((i : Int) ≤ z2.1)) (elp v.a v.len z2.1 1 fun a4 => HL.ld a4 (.lf .str) fun v5 => HL.ld (Addr.add b2 (a * 1)) (.lf .str) fun v6 =>
        cl PP 123 #[.string v5, .string v6] [.lf .bool] fun r2 => ifB r2.1 (j1 (z2.1, ())) (w64 (z2.1 - 1) fun i4 => go2 (i4, ()))) (j1 (z2.1, ()))) L2 := by
    intro l2 sg2 L2 i j j1 pi hp2 o2 hni hj1
    refine lp_of (fun z' z L' => ∃ j' : Nat, z = ((j' : Int), ()) ∧ z' = j' + 1 ∧ PI a b l l2 i j' ∧ L' = L2) (j + 1) ⟨j, rfl, rfl, pi, rfl⟩ ?_
    rintro z' z L' ⟨j', rfl, rfl, pi', hL'⟩
    rw [hL']
    dsimp only
    have hl2 := pi'.s.len
    have hjb := pi'.jb
    have hi1 := pi'.i1
    refine ifb_of (fun (h : (i : Int) ≤ j') => ?_) (fun (h : ¬ (i : Int) ≤ j') => hj1 j' pi' (.inl (by omega)))
    refine elp_s o2 (n := j') rfl (by omega) fun b3 hb3 => ?_
    refine ld_of (ga l2 j') (o2.ld (psub0 hp2) hb3 (by omega)) (ld_of (ga l2 a) (o2.ld (psub0 hp2) hb2 (by omega)) ?_)
    refine cl_rd (less_rd L2 _ _) (lt (ga l2 j') (ga l2 a), ()) rfl (ifB_of (fun hh => hj1 j' pi' (.inr ⟨by omega, hh⟩)) (fun hh => w64_of (by omega) ⟨j' - 1 + 1, by omega, j' - 1, by rw [show ((j' - 1 : Nat) : Int) = (j' : Int) - 1 by omega], rfl, pi'.down (by omega) hh, rfl⟩))
  refine lp_of (fun z' z L' => ∃ i : Nat, z = ((i : Int), ()) ∧ z' = b - i ∧ PI a b l l1 i (b - 1) ∧ L' = L1) (b - (a + 1)) ⟨a + 1, rfl, rfl, pi0, rfl⟩ ?_
  rintro z' z L' ⟨i, rfl, rfl, pi, hL'⟩
  rw [hL']
  dsimp only
  have hi1 := pi.i1
  have hij := pi.ij
  refine ifb_of (fun (h : (i : Int) ≤ (b : Int) - 1) => ?_) (fun (h : ¬ (i : Int) ≤ (b : Int) - 1) => ?_)
  · refine elp_s o1 (n := i) rfl (by omega) fun b3 hb3 => ?_
    refine ld_of (ga l1 i) (o1.ld (psub0 hp1) hb3 (by omega)) (ld_of (ga l1 a) (o1.ld (psub0 hp1) hb2 (by omega)) ?_)
    refine cl_rd (less_rd L1 _ _) (lt (ga l1 i) (ga l1 a), ()) rfl (ifB_of (fun hh => w64_of (by omega) ⟨b - (i + 1), by omega, i + 1, rfl, rfl, pi.up (by omega) hh, rfl⟩) (fun hni => ?_))
    refine jn_of (fun y L' => ∃ j : Nat, y = ((j : Int), ()) ∧ L' = L1 ∧ PI a b l l1 i j ∧ (i > j ∨ i ≤ j ∧ lt (ga l1 j) (ga l1 a) = true)) ?_ ?_
    · rintro _ L' ⟨j, rfl, hL', pij, hst⟩
      rw [hL']
      dsimp only
      refine ifb_of (fun (hgt : (i : Int) > j) => fin true l1 sg1 L1 i j pij (by omega) hp1 o1) (fun (hgt : ¬ (i : Int) > j) => ?_)
      have hjl := hst.resolve_left (by omega)
      have hjb := pij.jb
      refine elp_s o1 (n := j) rfl (by omega) fun b4 hb4 => ?_
      refine ld_of (ga l1 j) (o1.ld (psub0 hp1) hb4 (by omega)) (ld_of (ga l1 i) (o1.ld (psub0 hp1) hb3 (by omega)) ?_)
      refine st_sw2 o1 hb3 hb4 (by omega) (by omega) hp1 fun sg2 L2 hp2 o2 => ?_
      have pi2 := pij.swap hb (by omega) hni hjl.2
      refine w64_of (by omega) (w64_of (by omega) ?_)
      refine jn_of (fun y L' => ∃ (l3 : BL) (sg3 : HList) (i j : Nat), y = ((j : Int), ()) ∧ PI a b l l3 i j ∧ i > j ∧ L'.Perm (sg3 ++ R) ∧ SO v l3 sg3) ?_ ?_
      · rintro _ L3 ⟨l3, sg3, i3, j3, rfl, pi3, hij3, hp3, o3⟩
        exact fin false l3 sg3 L3 i3 j3 pi3 hij3 hp3 o3
      · intro j2 hj2
        refine lp_of (fun z' z L' => ∃ (i j : Nat) (l3 : BL) (sg3 : HList), z = ((i : Int), (j : Int), ()) ∧ z' = b + 1 - i ∧ PI a b l l3 i j ∧ L'.Perm (sg3 ++ R) ∧ SO v l3 sg3) (b + 1 - (i + 1))
          ⟨i + 1, j - 1, _, sg2, by rw [show ((j - 1 : Nat) : Int) = (j : Int) - 1 by omega]; rfl, rfl, pi2, hp2, o2⟩ ?_
        rintro z' z L3 ⟨i3, j3, l3, sg3, rfl, rfl, pi3, hp3, o3⟩
        dsimp only
        refine lp_of (fun z' z L' => ∃ i4 : Nat, z = ((i4 : Int), ()) ∧ z' = b - i4 ∧ i3 ≤ i4 ∧ PI a b l l3 i4 j3 ∧ L' = L3) (b - i3) ⟨i3, rfl, rfl, by omega, pi3, rfl⟩ ?_
        rintro z' z L' ⟨i4, rfl, rfl, hi34, pi4, hL'⟩
        rw [hL']
        dsimp only
        have hl3 := pi4.s.len
        have hi41 := pi4.i1
        have hij4 := pi4.ij
        have hjb4 := pi4.jb
        refine ifb_of (fun (h : (i4 : Int) ≤ j3) => ?_) (fun (h : ¬ (i4 : Int) ≤ j3) => ?_)
        · refine elp_s o3 (n := i4) rfl (by omega) fun b5 hb5 => ?_
          refine ld_of (ga l3 i4) (o3.ld (psub0 hp3) hb5 (by omega)) (ld_of (ga l3 a) (o3.ld (psub0 hp3) hb2 (by omega)) ?_)
          refine cl_rd (less_rd L3 _ _) (lt (ga l3 i4) (ga l3 a), ()) rfl (ifB_of (fun hh => w64_of (by omega) ⟨b - (i4 + 1), by omega, i4 + 1, rfl, rfl, by omega, pi4.up (by omega) hh, rfl⟩) (fun hni4 => ?_))
          refine jn_of (fun y L' => ∃ j : Nat, y = ((j : Int), ()) ∧ L' = L3 ∧ PI a b l l3 i4 j ∧ (i4 > j ∨ i4 ≤ j ∧ lt (ga l3 j) (ga l3 a) = true)) ?_ (fun jj hjj => goes l3 sg3 L3 i4 j3 jj pi4 hp3 o3 hni4 fun j' h1 h2 => hjj _ _ ⟨j', rfl, rfl, h1, h2⟩)
          rintro _ L' ⟨j5, rfl, hL', pi5, hst5⟩
          rw [hL']
          dsimp only
          refine ifb_of (fun (hgt : (i4 : Int) > j5) => hj2 _ _ ⟨l3, sg3, i4, j5, rfl, pi5, by omega, hp3, o3⟩) (fun (hgt : ¬ (i4 : Int) > j5) => ?_)
          have hjl5 := hst5.resolve_left (by omega)
          have hjb5 := pi5.jb
          refine elp_s o3 (n := j5) rfl (by omega) fun b6 hb6 => ?_
          refine ld_of (ga l3 j5) (o3.ld (psub0 hp3) hb6 (by omega)) (ld_of (ga l3 i4) (o3.ld (psub0 hp3) hb5 (by omega)) ?_)
          refine st_sw2 o3 hb5 hb6 (by omega) (by omega) hp3 fun sg6 L6 hp6 o6 => ?_
          exact w64_of (by omega) (w64_of (by omega) ⟨b + 1 - (i4 + 1), by omega, i4 + 1, j5 - 1, _, sg6, by rw [show ((j5 - 1 : Nat) : Int) = (j5 : Int) - 1 by omega]; rfl, rfl, pi5.swap hb (by omega) hni4 hjl5.2, hp6, o6⟩)
        · refine jn_of (fun y L' => y = ((j3 : Int), ()) ∧ L' = L3) ?_ ?_
          · rintro _ L' ⟨rfl, hL'⟩
            rw [hL']
            exact ifP (show (i4 : Int) > j3 by omega) (hj2 _ _ ⟨l3, sg3, i4, j3, rfl, pi4, by omega, hp3, o3⟩)
          · intro jj hjj
            refine lp_of (fun z' z L' => z = ((j3 : Int), ()) ∧ z' = 0 ∧ L' = L3) 0 ⟨rfl, rfl, rfl⟩ ?_
            rintro z' z L' ⟨rfl, rfl, hL'⟩
            exact ifN (show ¬ (i4 : Int) ≤ j3 by omega) (hjj _ _ ⟨rfl, hL'⟩)
    · intro jj hjj
      have hg := goes l1 sg1 L1 i (b - 1) jj pi hp1 o1 hni fun j' h1 h2 => hjj _ _ ⟨j', rfl, rfl, h1, h2⟩
      rw [show ((b - 1 : Nat) : Int) = (b : Int) - 1 by omega] at hg
      exact hg
  · refine jn_of (fun y L' => y = (((b - 1 : Nat) : Int), ()) ∧ L' = L1) ?_ ?_
    · rintro _ L' ⟨rfl, hL'⟩
      rw [hL']
      exact ifP (show (i : Int) > ((b - 1 : Nat) : Int) by omega) (fin true l1 sg1 L1 i (b - 1) pi (by omega) hp1 o1)
    · intro jj hjj
      refine lp_of (fun z' z L' => z = (((b : Int) - 1), ()) ∧ z' = 0 ∧ L' = L1) 0 ⟨rfl, rfl, rfl⟩ ?_
      rintro z' z L' ⟨rfl, rfl, hL'⟩
      exact ifN (show ¬ (i : Int) ≤ (b : Int) - 1 by omega) (hjj _ _ ⟨by rw [show ((b - 1 : Nat) : Int) = (b : Int) - 1 by omega], hL'⟩)
end Go.Proofs.Ytlabcgnegbdlfaa
set_option linter.unusedVariables false
set_option linter.unusedSimpArgs false
namespace Go.Proofs.Ytlabcgnegbdlfaa
open Go.HL

/-- All pairs but those within a part are in order. -/
def Inv (l : BL) (a b a' b' : Nat) : Prop := ∀ p q, a ≤ p → p < q → q < b → (p < a' ∨ b' ≤ q) → le (ga l p) (ga l q)
theorem Inv.sg {l l2 : BL} {a b a' b' : Nat} (h : Inv l a b a' b') (s : Sg a' b' l l2) (hb : b' ≤ b) (ha : a ≤ a') (hbl : b ≤ l.length) : Inv l2 a b a' b' := by
  intro p q h1 h2 h3 h4
  rcases h4 with h4 | h4
  · rw [s.out p (.inl h4)]
    by_cases e : a' ≤ q ∧ q < b'
    · exact s.all (by omega) (P := fun x => le (ga l p) x) (fun k e1 e2 => h p k h1 (by omega) (by omega) (.inl h4)) q e.1 e.2
    · rw [s.out q (by omega)]; exact h p q h1 h2 h3 (.inl h4)
  · rw [s.out q (.inr h4)]
    by_cases e : a' ≤ p ∧ p < b'
    · exact s.all (by omega) (P := fun x => le x (ga l q)) (fun k e1 e2 => h k q (by omega) (by omega) h3 (.inr h4)) p e.1 e.2
    · rw [s.out p (by omega)]; exact h p q h1 h2 h3 (.inr h4)
theorem Inv.srt {l : BL} {a b a' b' : Nat} (h : Inv l a b a' b') (s : Srt l a' b') : Srt l a b := by
  intro p q h1 h2 h3
  by_cases e : p < a' ∨ b' ≤ q
  · exact h p q h1 h2 h3 e
  · exact s p q (by omega) h2 (by omega)
theorem PO.sgL {l l2 : BL} {a b m : Nat} (h : PO a b l m) (s : Sg a m l l2) (hb : b ≤ l.length) : PO a b l2 m := by
  have hm := h.b1
  refine ⟨h.a1, h.b1, fun k h1 h2 => ?_, fun k h1 h2 => ?_⟩
  · rw [s.out m (by omega)]; exact s.all (by omega) (P := fun x => lt x (ga l m) = true) h.lo k h1 h2
  · rw [s.out m (by omega), s.out k (by omega)]; exact h.hi k h1 h2
theorem PO.sgR {l l2 : BL} {a b m : Nat} (h : PO a b l m) (s : Sg (m + 1) b l l2) (hb : b ≤ l.length) : PO a b l2 m := by
  refine ⟨h.a1, h.b1, fun k h1 h2 => ?_, fun k h1 h2 => ?_⟩
  · rw [s.out m (by omega), s.out k (by omega)]; exact h.lo k h1 h2
  · rw [s.out m (by omega)]; exact s.all hb (P := fun x => le (ga l m) x) (fun k e1 e2 => h.hi k (by omega) e2) k (by omega) h2
theorem Inv.right {l : BL} {a b a' b' m : Nat} (h : Inv l a b a' b') (p : PO a' b' l m) (s : Srt l a' m) : Inv l a b (m + 1) b' := by
  intro x y h1 h2 h3 h4
  by_cases e : x < a' ∨ b' ≤ y
  · exact h x y h1 h2 h3 e
  · by_cases e1 : y < m
    · exact s x y (by omega) h2 e1
    · by_cases e2 : x < m
      · have := p.lo x (by omega) e2
        by_cases e3 : y = m
        · rw [e3]; exact le_of_lt this
        · exact le_trans (le_of_lt this) (p.hi y (by omega) (by omega))
      · have : x = m := by omega
        rw [this]; exact p.hi y (by omega) (by omega)
theorem Inv.left {l : BL} {a b a' b' m : Nat} (h : Inv l a b a' b') (p : PO a' b' l m) (s : Srt l (m + 1) b') : Inv l a b a' m := by
  intro x y h1 h2 h3 h4
  by_cases e : x < a' ∨ b' ≤ y
  · exact h x y h1 h2 h3 e
  · by_cases e1 : m < x
    · exact s x y (by omega) h2 (by omega)
    · by_cases e2 : x < m
      · have := p.lo x (by omega) e2
        by_cases e3 : y = m
        · rw [e3]; exact le_of_lt this
        · exact le_trans (le_of_lt this) (p.hi y (by omega) (by omega))
      · have : x = m := by omega
        rw [this]; exact p.hi y (by omega) (by omega)
theorem nodup_ne {l : BL} (h : l.Nodup) {i j : Nat} (hi : i < l.length) (hj : j < l.length) (hij : i ≠ j) : ga l i ≠ ga l j := by
  rw [ga_get hi, ga_get hj]
  rcases Nat.lt_or_gt_of_ne hij with h1 | h1
  · exact List.pairwise_iff_getElem.1 h i j hi hj h1
  · exact fun e => List.pairwise_iff_getElem.1 h j i hj hi h1 e.symm
theorem pdq_cl (v : SlV) (R : HList) : ∀ (N : Nat) (l : BL) (seg : HList) (a b : Nat) (lim : Int), SO v l seg → a ≤ b → b - a ≤ N → b ≤ l.length → l.length ≤ 60000 → l.Nodup → 0 ≤ lim → lim ≤ 100 → (0 < a → ∀ k, a ≤ k → k < b → le (ga l (a - 1)) (ga l k)) →
    CallF PP 107 #[.slice v.a v.len v.cap, .int .i64 a, .int .i64 b, .int .i64 lim] (seg ++ R) (SK a b v l R fun l' r => r = .tuple #[] ∧ Srt l' a b) := by
  intro N
  induction N using Nat.strongRecOn with
  | _ N IH =>
  intro l seg a b lim o hab hN hb hl hnd hlim0 hlim1 hpre
  refine c107 v a b lim ?_
  unfold s107
  refine lp_of (fun z' z L' => ∃ (a' b' : Nat) (lim : Int) (wb wp : Bool) (l1 : BL) (sg : HList), z = ((a' : Int), (b' : Int), lim, wb, wp, ()) ∧ z' = b' - a' ∧ a ≤ a' ∧ a' ≤ b' ∧ b' ≤ b ∧ 0 ≤ lim ∧ lim ≤ 100 ∧ Sg a b l l1 ∧ Inv l1 a b a' b' ∧ L'.Perm (sg ++ R) ∧ SO v l1 sg) (b - a)
    ⟨a, b, lim, true, true, l, seg, rfl, rfl, by omega, by omega, by omega, hlim0, hlim1, Sg.refl _ _ _, fun p q h1 h2 h3 h4 => by omega, List.Perm.refl _, o⟩ ?_
  rintro z' z L1 ⟨a', b', lim1, wb, wp, l1, sg, rfl, rfl, ha1, hab1, hb1, hlm0, hlm1, hs, hinv, hp, o1⟩
  dsimp only
  have hl1 := hs.len
  have hnd1 : l1.Nodup := hs.perm.nodup_iff.2 hnd
  -- what stands ahead of the part is at most all in it
  have pre : ∀ (l2 : BL), Sg a' b' l1 l2 → 0 < a' → ∀ k, a' ≤ k → k < b' → le (ga l2 (a' - 1)) (ga l2 k) := by
    intro l2 hs2 h0 k h1 h2
    by_cases e : a' = a
    · subst e
      have hs3 := hs.trans (hs2.wide (Nat.le_refl _) hb1)
      rw [hs3.out (a' - 1) (.inl (by omega))]
      exact hs3.all hb (P := fun x => le (ga l (a' - 1)) x) (hpre h0) k h1 (by omega)
    · exact (hinv.sg hs2 hb1 ha1 (by omega)) (a' - 1) k (by omega) (by omega) (by omega) (.inl (by omega))
  have done : ∀ (l2 : BL) (sg2 L2 : HList), L2.Perm (sg2 ++ R) → SO v l2 sg2 → Sg a' b' l1 l2 → Srt l2 a' b' → HL.Ends (SK a b v l R fun l' r => r = .tuple #[] ∧ Srt l' a b) (.tuple #[]) L2 := fun l2 sg2 L2 h1 h2 h3 h4 =>
    SK.mk h1 h2 (hs.trans (h3.wide ha1 hb1)) ⟨rfl, (hinv.sg h3 hb1 ha1 (by omega)).srt h4⟩
  refine w64_of (by omega) (ifb_of (fun (h12 : (b' : Int) - a' ≤ 12) => ?_) (fun (h12 : ¬ (b' : Int) - a' ≤ 12) => ?_))
  · refine cl_of (CallF.perm hp.symm (ins_cl v l1 sg R o1 a' b' hab1 (by omega) (by omega))) ?_
    rintro _ _ - ⟨l2, sg2, rfl, o2, hs2, rfl, hsrt⟩
    exact ⟨(), rfl, done l2 sg2 _ (List.Perm.refl _) o2 hs2 hsrt⟩
  refine ifb_of (fun (h0 : lim1 = 0) => ?_) (fun (h0 : ¬ lim1 = 0) => ?_)
  · refine cl_of (CallF.perm hp.symm (heap_cl v l1 sg R o1 a' b' (by omega) (by omega) (by omega))) ?_
    rintro _ _ - ⟨l2, sg2, rfl, o2, hs2, rfl, hsrt⟩
    exact ⟨(), rfl, done l2 sg2 _ (List.Perm.refl _) o2 hs2 hsrt⟩
  refine jn_of (fun y L' => ∃ (lim2 : Int) (l2 : BL) (sg2 : HList), y = (lim2, ()) ∧ 0 ≤ lim2 ∧ lim2 ≤ 100 ∧ L'.Perm (sg2 ++ R) ∧ SO v l2 sg2 ∧ Sg a' b' l1 l2) ?_ ?_
  case refine_2 =>
    intro j1 hj1
    refine ifB_of (fun _ => hj1 _ _ ⟨lim1, l1, sg, rfl, hlm0, hlm1, hp, o1, Sg.refl _ _ _⟩) (fun _ => ?_)
    refine cl_of (CallF.perm hp.symm (break_cl v l1 sg R o1 a' b' (by omega) (by omega) (by omega))) ?_
    rintro _ _ - ⟨l2, sg2, rfl, o2, hs2, rfl⟩
    exact ⟨(), rfl, w64_of (by omega) (hj1 _ _ ⟨lim1 - 1, l2, sg2, rfl, by omega, by omega, List.Perm.refl _, o2, hs2⟩)⟩
  rintro _ L2 ⟨lim2, l2, sg2, rfl, hm0, hmx, hp2, o2, hs2⟩
  dsimp only
  have hl2 := hs2.len
  refine cl_of (pivot_cl v l2 sg2 L2 o2 (psub0 hp2) a' b' (by omega) (by omega) (by omega)) ?_
  rintro _ _ - ⟨q, hint, rfl, rfl, hq1, hq2⟩
  refine ⟨((q : Int), hint, ()), rfl, ?_⟩
  dsimp only
  refine jn_of (fun y L' => ∃ (q : Nat) (hint : Int) (l3 : BL) (sg3 : HList), y = ((q : Int), hint, ()) ∧ a' ≤ q ∧ q < b' ∧ L'.Perm (sg3 ++ R) ∧ SO v l3 sg3 ∧ Sg a' b' l1 l3) ?_ ?_
  case refine_2 =>
    intro j2 hj2
    refine ifb_of (fun _ => ?_) (fun _ => hj2 _ _ ⟨q, hint, l2, sg2, rfl, hq1, hq2, hp2, o2, hs2⟩)
    refine cl_of (CallF.perm hp2.symm (rev_cl v l2 sg2 R o2 a' b' (by omega) (by omega) (by omega))) ?_
    rintro _ _ - ⟨l3, sg3, rfl, o3, hs3, rfl⟩
    exact ⟨(), rfl, w64_of (by omega) (w64_of (by omega) (w64_of (by omega) (hj2 _ _ ⟨b' - 1 - (q - a'), 1, l3, sg3, by rw [show ((b' - 1 - (q - a') : Nat) : Int) = (b' : Int) - 1 - ((q : Int) - a') by omega], by omega, by omega, List.Perm.refl _, o3, hs2.trans hs3⟩)))⟩
  clear hq1 hq2
  rintro _ L3 ⟨q, hint, l3, sg3, rfl, hq1, hq2, hp3, o3, hs3⟩
  dsimp only
  refine jn_of (fun _ L' => ∃ (l4 : BL) (sg4 : HList), L'.Perm (sg4 ++ R) ∧ SO v l4 sg4 ∧ Sg a' b' l1 l4) ?_ ?_
  case refine_2 =>
    intro j3 hj3
    have plain := hj3 () L3 ⟨l3, sg3, hp3, o3, hs3⟩
    refine ifB_of (fun _ => ifB_of (fun _ => ifb_of (fun _ => ?_) (fun _ => plain)) (fun _ => plain)) (fun _ => plain)
    have hl3 := hs3.len
    refine cl_of (CallF.perm hp3.symm (pins_cl v l3 sg3 R o3 a' b' (by omega) (by omega) (by omega) (pre l3 hs3))) ?_
    rintro _ _ - ⟨l4, sg4, rfl, o4, hs4, t, rfl, hsrt⟩
    exact ⟨(t, ()), rfl, ifB_of (fun ht => done l4 sg4 _ (List.Perm.refl _) o4 (hs3.trans hs4) (hsrt ht)) (fun _ => hj3 _ _ ⟨l4, sg4, List.Perm.refl _, o4, hs3.trans hs4⟩)⟩
  rintro _ L4 ⟨l4, sg4, hp4, o4, hs4⟩
  have hl4 := hs4.len
  have hnd4 : l4.Nodup := hs4.perm.nodup_iff.2 hnd1
  have hpre4 := pre l4 hs4
  refine jn_of (fun y L' => y = ((a' : Int), ()) ∧ L' = L4) ?_ ?_
  case refine_2 =>
    intro j4 hj4
    refine ifb_of (fun (hpos : (a' : Int) > 0) => ?_) (fun _ => hj4 _ _ ⟨rfl, rfl⟩)
    refine w64_of (by omega) (elp_s o4 (n := a' - 1) (by omega) (by omega) fun b1 hb1 => elp_s o4 (n := q) rfl (by omega) fun b2 hb2 => ?_)
    refine ld_of (ga l4 (a' - 1)) (o4.ld (psub0 hp4) hb1 (by omega)) (ld_of (ga l4 q) (o4.ld (psub0 hp4) hb2 (by omega)) ?_)
    have hlt : lt (ga l4 (a' - 1)) (ga l4 q) = true := lt_of_le_ne (hpre4 (by omega) q hq1 hq2) (nodup_ne hnd4 (by omega) (by omega) (by omega))
    exact cl_rd (less_rd L4 _ _) (lt (ga l4 (a' - 1)) (ga l4 q), ()) rfl (ifT hlt (hj4 _ _ ⟨rfl, rfl⟩))
  rintro _ L' ⟨rfl, hL'⟩
  rw [hL']
  dsimp only
  refine cl_of (CallF.perm hp4.symm (part_cl v l4 sg4 R o4 a' b' q (by omega) (by omega) (by omega) hq1 hq2)) ?_
  rintro _ _ - ⟨l5, sg5, rfl, o5, hs5, m, t, rfl, po⟩
  have hl5 := hs5.len
  have hs5' := hs4.trans hs5
  have hm1 := po.a1
  have hm2 := po.b1
  have hnd5 : l5.Nodup := hs5.perm.nodup_iff.2 hnd4
  have hinv5 := hinv.sg hs5' hb1 ha1 (by omega)
  have hd : Int.tdiv ((b' : Int) - a') 8 = (((b' - a') / 8 : Nat) : Int) := by rw [show (b' : Int) - a' = ((b' - a' : Nat) : Int) by omega]; rfl
  refine ⟨((m : Int), t, ()), rfl, ?_⟩
  dsimp only
  rw [hd]
  refine w64_of (by omega) (w64_of (by omega) (w64_of (by omega) (ifb_of (fun _ => ?_) (fun _ => ?_))))
  · refine cl_of (IH (m - a') (by omega) l5 sg5 a' m lim2 o5 hm1 (by omega) (by omega) (by omega) hnd5 hm0 hmx (fun h0 k h1 h2 => pre l5 hs5' h0 k h1 (by omega))) ?_
    rintro _ _ - ⟨l6, sg6, rfl, o6, hs6, rfl, hsrt⟩
    have hl6 := hs6.len
    have hinv6 := hinv5.sg (hs6.wide (Nat.le_refl _) (by omega)) hb1 ha1 (by omega)
    refine ⟨(), rfl, w64_of (by omega) ⟨b' - (m + 1), by omega, m + 1, b', lim2, _, _, l6, sg6, rfl, rfl, by omega, by omega, by omega, hm0, hmx, hs.trans ((hs5'.trans (hs6.wide (Nat.le_refl _) (by omega))).wide ha1 hb1), hinv6.right (po.sgL hs6 (by omega)) hsrt, List.Perm.refl _, o6⟩⟩
  · have hc := IH (b' - (m + 1)) (by omega) l5 sg5 (m + 1) b' lim2 o5 (by omega) (by omega) (by omega) (by omega) hnd5 hm0 hmx (fun h0 k h1 h2 => by
      rw [Nat.add_sub_cancel]; exact po.hi k (by omega) h2)
    rw [show ((m + 1 : Nat) : Int) = (m : Int) + 1 by omega] at hc
    refine w64_of (by omega) (cl_of hc ?_)
    rintro _ _ - ⟨l6, sg6, rfl, o6, hs6, rfl, hsrt⟩
    have hl6 := hs6.len
    have hinv6 := hinv5.sg (hs6.wide (by omega) (Nat.le_refl _)) hb1 ha1 (by omega)
    refine ⟨(), rfl, ⟨m - a', by omega, a', m, lim2, _, _, l6, sg6, rfl, rfl, by omega, by omega, by omega, hm0, hmx, hs.trans ((hs5'.trans (hs6.wide (by omega) (Nat.le_refl _))).wide ha1 hb1), hinv6.left (po.sgR hs6 (by omega)) hsrt, List.Perm.refl _, o6⟩⟩
theorem sort_cl (v : SlV) (l : BL) (seg R : HList) (o : SO v l seg) (hl : l.length ≤ 60000) (hnd : l.Nodup) :
    CallF PP 78 #[.slice v.a v.len v.cap] (seg ++ R) (SK 0 l.length v l R fun l' r => r = .tuple #[] ∧ Srt l' 0 l.length) := by
  refine c78 v ?_
  unfold s78
  have hvl := o.len
  have hok := lenI_ok (x := v.len) (by omega)
  rw [u64_id (x := (v.len : Int)) (by omega) (by omega)]
  refine cl_rd (len_rd _ v.len (by omega)) (lenI v.len, ()) rfl ?_
  have hc := pdq_cl v R (l.length) l seg 0 l.length (lenI v.len) o (by omega) (by omega) (by omega) hl hnd hok.1 (by omega) (fun h => by omega)
  rw [← hvl] at hc ⊢
  refine cl_of hc ?_
  rintro _ _ - ⟨l2, sg2, rfl, o2, hs2, rfl, hsrt⟩
  exact ⟨(), rfl, .of ⟨l2, sg2, rfl, o2, hs2, rfl, hsrt⟩⟩
end Go.Proofs.Ytlabcgnegbdlfaa
set_option linter.unusedVariables false
set_option linter.unusedSimpArgs false
set_option linter.unusedSectionVars false
namespace Go.HL
section
variable {P : Program} {L Y : HList} {κ : Type} [DecidableEq κ]
/-- Entries were laid at times of their own, all before now. -/
structure Born (es : Array MapEntry) (clock : Nat) : Prop where
  nd : (es.toList.map (·.born)).Nodup
  lt : ∀ e ∈ es.toList, e.born < clock
theorem Born.nil (c : Nat) : Born #[] c := ⟨by simp, by simp⟩
theorem modify_born (es : List MapEntry) (k : Value) (v : Value) : ∀ i, (es.modify i fun e => { e with key := k, val := v }).map (·.born) = es.map (·.born) := by
  induction es with
  | nil => intro i; simp
  | cons e r ih =>
    intro i
    cases i with
    | zero => simp
    | succ i => simp only [List.modify_succ_cons, List.map_cons, ih]
theorem updateB_of {t kt et : TypeId} {kv : κ → Value} {z : Value} (hT : MapT P t kt et kv z) {r : Nat} {es : Array MapEntry} {clock : Nat} {m : List (κ × Value)} (A B : HList) (hL : L = A ++ (r, Obj.map es clock) :: B) (h : Mp kv es m) (hb0 : Born es clock) (k : κ) (v : Value) {K : HP}
    (hk : ∀ es' clock', Mp kv es' (mput m k v) → Born es' clock' → K (A ++ (r, Obj.map es' clock') :: B)) : smU P (Instr.mapUpdate t (.map (some r)) (kv k) v) K L := by
  subst hL
  intro E F w hw
  have hb : w.heap[r]? = some (Obj.map es clock) := hw.blk (r, Obj.map es clock) (by simp)
  have hw0 : Hold E w (A ++ (r, Obj.map es clock) :: (B ++ F)) := by simpa using hw
  obtain ⟨i1, i2⟩ := put_entries (kv := kv) k v es.toList m 0 h
  cases hf : midx m k 0 with
  | none =>
    refine ⟨{ w with heap := w.heap.setIfInBounds r (Obj.map (es.push { key := kv k, val := v, born := clock }) (clock + 1)) }, A ++ (r, Obj.map (es.push { key := kv k, val := v, born := clock }) (clock + 1)) :: B, ?_, ?_, hk _ _ ?_ ?_⟩
    · simp only [Instr.mapUpdate, Sem.run_bind, run_und hT.und, Result.andThen_ok, run_getO hb, hT.key.chk, run_findKey hT.key h, hf]
      exact run_setO _ hb
    · simpa using hw0.put (Obj.map (es.push { key := kv k, val := v, born := clock }) (clock + 1))
    · unfold Mp at h ⊢
      rw [i1 hf, Array.toList_push, List.map_append, List.map_append, h]
      rfl
    · refine ⟨?_, fun e he => ?_⟩
      · rw [Array.toList_push, List.map_append, List.map_singleton, List.nodup_append]
        refine ⟨hb0.nd, by simp, fun x hx y hy => ?_⟩
        obtain ⟨e, he, rfl⟩ := List.mem_map.1 hx
        have := hb0.lt e he
        simp at hy
        omega
      · rw [Array.toList_push] at he
        rcases List.mem_append.1 he with he | he
        · have := hb0.lt e he; omega
        · rw [List.mem_singleton.1 he]; exact Nat.lt_succ_self _
  | some p =>
    obtain ⟨i, u⟩ := p
    obtain ⟨a1, a2, a3, a4⟩ := i2 i u hf
    rw [Nat.sub_zero] at a2 a3 a4
    have hkey : ((es[i]?).map (·.key)).getD (kv k) = kv k := by
      rw [Array.getElem?_toList] at a3
      rw [a3]; rfl
    refine ⟨{ w with heap := w.heap.setIfInBounds r (Obj.map (es.modify i fun e => { e with key := kv k, val := v }) clock) }, A ++ (r, Obj.map (es.modify i fun e => { e with key := kv k, val := v }) clock) :: B, ?_, ?_, hk _ _ ?_ ?_⟩
    · simp only [Instr.mapUpdate, Sem.run_bind, run_und hT.und, Result.andThen_ok, run_getO hb, hT.key.chk, run_findKey hT.key h, hf, hkey, Instr.keyThatStays, hT.key.bits, if_true, Sem.run_pure]
      exact run_setO _ hb
    · simpa using hw0.put (Obj.map (es.modify i fun e => { e with key := kv k, val := v }) clock)
    · unfold Mp
      rw [Array.toList_modify]
      exact a4
    · have hm := modify_born es.toList (kv k) v i
      refine ⟨?_, fun e he => ?_⟩
      · rw [Array.toList_modify, hm]; exact hb0.nd
      · rw [Array.toList_modify] at he
        have h1 : e.born ∈ (es.toList.modify i fun e => { e with key := kv k, val := v }).map (·.born) := List.mem_map_of_mem he
        rw [hm] at h1
        obtain ⟨e', he', h2⟩ := List.mem_map.1 h1
        have := hb0.lt e' he'
        omega
theorem updateB_pm {t kt et : TypeId} {kv : κ → Value} {z : Value} (hT : MapT P t kt et kv z) {r : Nat} {es : Array MapEntry} {clock : Nat} {m : List (κ × Value)} (hL : L.Perm ((r, Obj.map es clock) :: Y)) (h : Mp kv es m) (hb0 : Born es clock) (k : κ) (v : Value) {K : HP}
    (hk : ∀ es' clock' L', Mp kv es' (mput m k v) → Born es' clock' → L'.Perm ((r, Obj.map es' clock') :: Y) → K L') : smU P (Instr.mapUpdate t (.map (some r)) (kv k) v) K L := by
  obtain ⟨A2, B2, rfl⟩ := List.append_of_mem (hL.symm.subset List.mem_cons_self)
  refine updateB_of hT A2 B2 rfl h hb0 k v fun es' clock' hm hb => hk es' clock' _ hm hb ?_
  exact List.perm_middle.trans (((List.perm_cons _).1 (List.perm_middle.symm.trans hL)).cons _)
theorem mclear_pm {t ty kt et : TypeId} (hu : P.underlying t = some (.map kt et)) {r : Nat} {es : Array MapEntry} {clock : Nat} (hL : L.Perm ((r, Obj.map es clock) :: Y)) {K : RsV [] → HP}
    (hk : ∀ L', L'.Perm ((r, Obj.map #[] clock) :: Y) → K () L') : smW P (Builtin.clear_ #[t] ty #[.map (some r)]) [] K L := by
  obtain ⟨A, B, rfl⟩ := List.append_of_mem (hL.symm.subset List.mem_cons_self)
  intro E F w hw
  have hb : w.heap[r]? = some (Obj.map es clock) := hw.blk (r, Obj.map es clock) (by simp)
  have hw0 : Hold E w (A ++ (r, Obj.map es clock) :: (B ++ F)) := by simpa using hw
  refine ⟨.tuple #[], { w with heap := w.heap.setIfInBounds r (Obj.map #[] clock) }, A ++ (r, Obj.map #[] clock) :: B, ?_, by simpa using hw0.put (Obj.map #[] clock), (), rfl, hk _ (List.perm_middle.trans (((List.perm_cons _).1 (List.perm_middle.symm.trans hL)).cons _))⟩
  have h1 : (setObj r (Obj.map #[] clock)).run P w = .ok () { w with heap := w.heap.setIfInBounds r (Obj.map #[] clock) } := run_setO _ hb
  simp only [Builtin.clear_, List.getElem?_toArray, List.getElem?_cons_zero, Sem.run_bind, run_und hu, Result.andThen_ok, run_getO hb, h1, Sem.run_pure]
theorem range_of {t kt et : TypeId} (hu : P.underlying t = some (.map kt et)) {r : Nat} {es : Array MapEntry} {clock : Nat} (hm : (r, Obj.map es clock) ∈ L) {K : RsV [.lf .ptr] → HP}
    (hk : ∀ n, K (some ⟨n, 0, none⟩, ()) ((n, Obj.mapIter (some r) clock #[] clock) :: L)) : smW P (Instr.range t (.map (some r))) [.lf .ptr] K L := by
  intro E F w hw
  have hb : w.heap[r]? = some (Obj.map es clock) := hw.blk _ (List.mem_append_left F hm)
  refine ⟨_, _, _, ?_, hw.push (Obj.mapIter (some r) clock #[] clock), (some ⟨w.heap.size, 0, none⟩, ()), rfl, hk w.heap.size⟩
  simp only [Instr.range, Sem.run_bind, run_und hu, Result.andThen_ok, run_getO hb, Sem.run_pure, run_newObj]
  rfl
theorem next_of {ty : TypeId} {n r : Nat} {es : Array MapEntry} {clock : Nat} {seen : Array Nat} (hL : L.Perm ((n, Obj.mapIter (some r) clock seen clock) :: Y)) (hm : (r, Obj.map es clock) ∈ Y) (hb : Born es clock) {kE : HP} {kM : OvT none → OvT none → HP}
    (hE : (∀ e ∈ es.toList, e.born ∈ seen.toList) → kE L) (hM : ∀ e L', e ∈ es.toList → e.born ∉ seen.toList → L'.Perm ((n, Obj.mapIter (some r) clock (seen.push e.born) clock) :: Y) → kM e.key e.val L') :
    smN P (Instr.next (.pointer (some ⟨n, 0, none⟩)) false ty) none none kE kM L := by
  intro E F w hw
  have hw2 := hw.perm (hL.append_right F)
  have hr : w.heap[n]? = some (Obj.mapIter (some r) clock seen clock) := hw2.blk (n, _) (by simp)
  have hbm : w.heap[r]? = some (Obj.map es clock) := hw2.blk (r, _) (by simp [hm])
  rcases run_next_at (P := P) w ty n r clock clock seen es clock hr hbm hb.lt (Nat.le_refl _) with ⟨h0, h1⟩ | ⟨e, he, w1, hw1, h1⟩
  · refine ⟨_, w, L, h1, hw, .inl ⟨rfl, hE fun e he => ?_⟩⟩
    have : leftOf es seen = #[] := Array.eq_empty_of_size_eq_zero h0
    unfold leftOf at this
    rw [Array.filter_eq_empty_iff] at this
    have h2 := this e (by simpa using he)
    simpa using h2
  · obtain ⟨A, B, rfl⟩ := List.append_of_mem (hL.symm.subset List.mem_cons_self)
    have hw3 : Hold E w1 (A ++ (n, Obj.mapIter (some r) clock seen clock) :: (B ++ F)) := by
      rcases hw1 with rfl | rfl
      · simpa using hw
      · have := hw.drew (w.drawn + 1)
        simpa using this
    refine ⟨_, _, A ++ (n, Obj.mapIter (some r) clock (seen.push e.born) clock) :: B, h1, by simpa [ChangeMaps.setBlock] using hw3.put (Obj.mapIter (some r) clock (seen.push e.born) clock), .inr ⟨e.key, e.val, rfl, hM e _ ?_ ?_ ?_⟩⟩
    · unfold leftOf at he
      simp at he
      simpa using he.1
    · unfold leftOf at he
      simp at he
      simpa using he.2
    · exact List.perm_middle.trans (((List.perm_cons _).1 (List.perm_middle.symm.trans hL)).cons _)
theorem entry_rd {n r : Nat} {es : Array MapEntry} {clock since : Nat} {seen : Array Nat} {e : MapEntry} (hi : (n, Obj.mapIter (some r) since (seen.push e.born) clock) ∈ L) (hm : (r, Obj.map es clock) ∈ L) (hb : Born es clock) (he : e ∈ es.toList) :
    RdV P (Instr.entry (.pointer (some ⟨n, 0, none⟩))) (.tuple #[e.key, e.val]) L := by
  intro E F w hw
  exact run_entry_at w n r since seen es clock e (hw.blk _ (List.mem_append_left F hi)) (hw.blk _ (List.mem_append_left F hm)) he hb.nd
end
end Go.HL
set_option linter.unusedVariables false
set_option linter.unusedSimpArgs false
namespace Go.Proofs.Ytlabcgnegbdlfaa
open Go.HL

structure K1 where
  key : ByteArray
  has : Bool
  val : ByteArray
  may : BL
abbrev PSt := List K1
def noB : ByteArray := ByteArray.empty
def pfind (st : PSt) (k : ByteArray) : Option K1 := st.find? fun x => decide (x.key = k)
def pupd (st : PSt) (k : ByteArray) (f : K1 → K1) : PSt := st.map fun x => if x.key = k then f x else x
def K1.put (v : ByteArray) (x : K1) : K1 := ⟨x.key, true, v, x.may ++ [v]⟩
def K1.del (x : K1) : K1 := ⟨x.key, false, noB, x.may⟩
def K1.settle (x : K1) : K1 := ⟨x.key, x.has, x.val, if x.has then [x.val] else []⟩
def K1.only (v : ByteArray) (x : K1) : K1 := ⟨x.key, true, v, [v]⟩
def pput (st : PSt) (k v : ByteArray) : PSt := if (pfind st k).isSome then pupd st k (K1.put v) else st ++ [⟨k, true, v, [v]⟩]
def pdel (st : PSt) (k : ByteArray) : PSt := pupd st k K1.del
def pflush (st : PSt) : PSt := st.map K1.settle
def pmay (st : PSt) (k v : ByteArray) (h : Bool) : Bool := if h then (match pfind st k with | some x => x.has && decide (x.val = v) | none => false) else true
def pcrash (st : PSt) (k v : ByteArray) (h : Bool) : Bool × PSt :=
  match pfind st k with
  | none => (!h, st)
  | some x => if h then if v ∈ x.may then (true, pupd st k (K1.only v)) else (false, st) else (true, pupd st k K1.del)
def pkeys (st : PSt) : BL := st.map K1.key
theorem pfind_none {st : PSt} {k : ByteArray} (h : pfind st k = none) : k ∉ pkeys st := by
  unfold pfind at h
  rw [List.find?_eq_none] at h
  intro hm
  obtain ⟨x, hx, rfl⟩ := List.mem_map.1 hm
  exact h x hx (by simp)
theorem pupd_none {st : PSt} {k : ByteArray} (h : k ∉ pkeys st) (f : K1 → K1) : pupd st k f = st := by
  unfold pupd
  conv => rhs; rw [← List.map_id st]
  refine List.map_congr_left fun x hx => ?_
  rw [if_neg]; rfl
  exact fun e => h (e ▸ List.mem_map_of_mem hx)
theorem pupd_split {a b : PSt} {x : K1} (h : (pkeys (a ++ x :: b)).Nodup) (f : K1 → K1) : pupd (a ++ x :: b) x.key f = a ++ f x :: b := by
  unfold pkeys at h
  rw [List.map_append, List.map_cons, List.nodup_append, List.nodup_cons] at h
  have h1 : x.key ∉ pkeys a := fun hm => h.2.2 _ hm x.key (by simp) rfl
  have h2 : x.key ∉ pkeys b := h.2.1.1
  have e1 := pupd_none h1 f
  have e2 := pupd_none h2 f
  unfold pupd at e1 e2 ⊢
  rw [List.map_append, List.map_cons, if_pos rfl, e1, e2]
structure PN where
  k : K1
  id : Nat
  mid : Nat
  es : Array MapEntry
  ck : Nat
  mm : List (ByteArray × Value)
def PN.o (p : PN) : Nat × Obj := (p.id, Obj.cells #[.string p.k.val, .bool p.k.has, .map (some p.mid)] 145)
def PN.objs (p : PN) : HList := [p.o, (p.mid, Obj.map p.es p.ck)]
def PN.ptr (p : PN) : Value := .pointer (some ⟨p.id, 0, none⟩)
structure PN.Ok (p : PN) : Prop where
  mp : Mp Value.string p.es p.mm
  get : ∀ v, mget p.mm v = if v ∈ p.k.may then some (.bool true) else none
def pns (ps : List PN) : HList := ps.flatMap PN.objs
theorem pns_app (a b : List PN) : pns (a ++ b) = pns a ++ pns b := List.flatMap_append
theorem pns_cons (a : PN) (b : List PN) : pns (a :: b) = a.objs ++ pns b := rfl
def pmap (ps : List PN) : List (ByteArray × Value) := ps.map fun p => (p.k.key, p.ptr)
structure PX (m mk : Nat) (es : Array MapEntry) (ck : Nat) (ps : List PN) (A : HList) : Prop where
  eq : A = (m, Obj.cells #[.map (some mk)] 138) :: ((mk, Obj.map es ck) :: pns ps)
  mp : Mp Value.string es (pmap ps)
  born : Born es ck
  ok : ∀ p ∈ ps, p.Ok
  nd : (pkeys (ps.map PN.k)).Nodup
def PH (m : Nat) (st : PSt) (A : HList) : Prop := ∃ (mk : Nat) (es : Array MapEntry) (ck : Nat) (ps : List PN), PX m mk es ck ps A ∧ ps.map PN.k = st
theorem mapP : MapT PP 136 9 139 Value.string (.pointer none) := mapT_of (by kernel_rfl) (keyStr (by kernel_rfl)) (by kernel_rfl)
theorem mapM : MapT PP 141 9 4 Value.string (.bool false) := mapT_of (by kernel_rfl) (keyStr (by kernel_rfl)) (by kernel_rfl)
def nfind (ps : List PN) (k : ByteArray) : Option PN := ps.find? fun p => decide (p.k.key = k)
def nptr : Option PN → Option Addr
  | some p => some ⟨p.id, 0, none⟩
  | none => none
theorem nfind_k (ps : List PN) (k : ByteArray) : (nfind ps k).map PN.k = pfind (ps.map PN.k) k := by
  unfold nfind pfind
  rw [List.find?_map]
  rfl
theorem mget_pmap (ps : List PN) (k : ByteArray) : (mget (pmap ps) k).getD (.pointer none) = .pointer (nptr (nfind ps k)) := by
  induction ps with
  | nil => rfl
  | cons p r ih =>
    unfold pmap nfind at *
    rw [List.map_cons, mget_cons]
    by_cases h : k = p.k.key
    · rw [if_pos h, List.find?_cons_of_pos (by simp [h])]; rfl
    · rw [if_neg h, List.find?_cons_of_neg (by simpa using fun e => h e.symm)]; exact ih
theorem nfind_split {ps : List PN} {k : ByteArray} {p : PN} (h : nfind ps k = some p) : p.k.key = k ∧ ∃ a b, ps = a ++ p :: b := by
  unfold nfind at h
  have h1 := List.find?_some h
  exact ⟨by simpa using h1, List.append_of_mem (List.mem_of_find?_eq_some h)⟩
theorem pfindn_nil (L : HList) (k : ByteArray) : Reads PP 74 #[.pointer none, .string k] L (.pointer none) := by
  unfold Reads
  refine c74 none k ?_
  unfold s74
  exact ifT rfl (.of ⟨rfl, rfl⟩)
theorem pfindn_rd (m mk : Nat) (es : Array MapEntry) (ck : Nat) (ps : List PN) (A L : HList) (h : PX m mk es ck ps A) (hs : ∀ x ∈ A, x ∈ L) (k : ByteArray) :
    Reads PP 74 #[.pointer (some ⟨m, 0, none⟩), .string k] L (.pointer (nptr (nfind ps k))) := by
  unfold Reads
  refine c74 (some ⟨m, 0, none⟩) k ?_
  unfold s74
  have hA := h.eq
  refine ifF rfl (nilc_of rfl (ld_of (some mk) (ldB (c := #[.map (some mk)]) (T := 138) (fz := (0, 0)) (hs _ (by rw [hA]; simp)) rfl) ?_))
  have lk := lookup_rd (P := PP) mapP (hs (mk, Obj.map es ck) (by rw [hA]; simp)) h.mp k
  rw [mget_pmap] at lk
  exact ⟨(nptr (nfind ps k), ()), lk, .of ⟨rfl, rfl⟩⟩
/-- A node that changes, with the same key. -/
theorem PX.set {m mk : Nat} {es : Array MapEntry} {ck : Nat} {a b : List PN} {p p' : PN} {A A' : HList} (h : PX m mk es ck (a ++ p :: b) A) (hid : p'.id = p.id) (hk : p'.k.key = p.k.key) (ok : p'.Ok) (hA : A' = (m, Obj.cells #[.map (some mk)] 138) :: ((mk, Obj.map es ck) :: pns (a ++ p' :: b))) :
    PX m mk es ck (a ++ p' :: b) A' := by
  have hpm : pmap (a ++ p' :: b) = pmap (a ++ p :: b) := by
    unfold pmap PN.ptr
    simp only [List.map_append, List.map_cons, hk, hid]
  refine ⟨hA, by rw [hpm]; exact h.mp, h.born, fun q hq => ?_, ?_⟩
  · rcases List.mem_append.1 hq with hq | hq
    · exact h.ok q (by simp [hq])
    · rcases List.mem_cons.1 hq with rfl | hq
      · exact ok
      · exact h.ok q (by simp [hq])
  · have := h.nd
    unfold pkeys at this ⊢
    simp only [List.map_append, List.map_cons, hk] at this ⊢
    exact this
theorem PN.Ok.add {p : PN} (h : p.Ok) {es : Array MapEntry} {ck : Nat} (v : ByteArray) (hm : Mp Value.string es (mput p.mm v (.bool true))) (x : K1) (hx : ∀ u, u ∈ x.may ↔ u = v ∨ u ∈ p.k.may) : PN.Ok ⟨x, p.id, p.mid, es, ck, mput p.mm v (.bool true)⟩ := by
  refine ⟨hm, fun u => ?_⟩
  simp only
  rw [mget_mput, h.get u]
  by_cases e : u = v
  · rw [if_pos e, if_pos ((hx u).2 (.inl e))]
  · rw [if_neg e]
    by_cases e2 : u ∈ p.k.may
    · rw [if_pos e2, if_pos ((hx u).2 (.inr e2))]
    · rw [if_neg e2, if_neg fun hh => ((hx u).1 hh).elim e e2]
theorem pnew_cl : CallF PP 24 #[] [] fun r L' => ∃ m, r = .pointer (some ⟨m, 0, none⟩) ∧ PH m [] L' := by
  refine c24 ?_
  unfold s24
  refine nw_of fun n1 _ => nw_of fun n2 _ => .of ⟨n2, rfl, n1, #[], 0, [], ⟨rfl, rfl, Born.nil 0, by simp, List.nodup_nil⟩, rfl⟩
theorem psettle_cl (p : PN) (ok : p.Ok) (R : HList) : CallF PP 77 #[.pointer (some ⟨p.id, 0, none⟩)] (p.objs ++ R) fun r L' => ∃ p' : PN, r = .tuple #[] ∧ L' = p'.objs ++ R ∧ p'.Ok ∧ p'.k = p.k.settle ∧ p'.id = p.id := by
  refine c77 (some ⟨p.id, 0, none⟩) ?_
  unfold s77
  have lo : ∀ L : HList, p.o ∈ L → LdAt ⟨p.id, 0, none⟩ [.string p.k.val, .bool p.k.has, .map (some p.mid)] L := fun L hm => ldB (by unfold PN.o at hm; exact hm) rfl
  refine nilc_of rfl (ld_of (some p.mid) ((lo _ (by simp [PN.objs])).one 2 rfl) ?_)
  refine mclear_pm mapM.und (es := p.es) (clock := p.ck) (Y := p.o :: R) (pc fun z => by simp only [PN.objs, cnt_a, cnt_c, cnt_n]; omega) fun L1 hp1 => ?_
  have ho : p.o ∈ L1 := hp1.symm.subset (by simp)
  refine ld_of p.k.has ((lo _ ho).one 1 rfl) (ifB_of (fun (h : p.k.has = true) => ?_) (fun (h : p.k.has = false) => ?_))
  · refine ld_of (some p.mid) ((lo _ ho).one 2 rfl) (ld_of p.k.val (lo _ ho).hd ?_)
    refine update_pm mapM hp1 (m := []) rfl p.k.val (.bool true) fun es2 ck2 L2 hm2 hp2 => ?_
    refine .drop (A := PN.objs ⟨p.k.settle, p.id, p.mid, es2, ck2, mput [] p.k.val (.bool true)⟩ ++ R) (J := []) ⟨⟨p.k.settle, p.id, p.mid, es2, ck2, mput [] p.k.val (.bool true)⟩, rfl, rfl, ⟨hm2, fun v => ?_⟩, rfl, rfl⟩ (pc fun z => ?_)
    · simp only [K1.settle, h, if_true]
      rw [mget_mput]
      simp [mget_nil]
    · have := pcn hp2 z
      simp only [PN.objs, PN.o, K1.settle, cnt_a, cnt_c, cnt_n] at *
      omega
  · refine .drop (A := PN.objs ⟨p.k.settle, p.id, p.mid, #[], p.ck, []⟩ ++ R) (J := []) ⟨⟨p.k.settle, p.id, p.mid, #[], p.ck, []⟩, rfl, rfl, ⟨rfl, fun v => ?_⟩, rfl, rfl⟩ (pc fun z => ?_)
    · simp [K1.settle, h, mget_nil]
    · have := pcn hp1 z
      simp only [PN.objs, PN.o, K1.settle, cnt_a, cnt_c, cnt_n] at *
      omega
end Go.Proofs.Ytlabcgnegbdlfaa
set_option linter.unusedVariables false
set_option linter.unusedSimpArgs false
namespace Go.Proofs.Ytlabcgnegbdlfaa
open Go.HL

theorem mput_new {κ : Type} [DecidableEq κ] : ∀ (m : List (κ × Value)) (k : κ) (v : Value), k ∉ m.map Prod.fst → mput m k v = m ++ [(k, v)]
  | [], k, v, _ => rfl
  | p :: r, k, v, h => by
    rw [List.map_cons, List.mem_cons, not_or] at h
    rw [mput, if_neg h.1, mput_new r k v h.2]; rfl
theorem PX.frame {m mk : Nat} {es : Array MapEntry} {ck : Nat} {a b : List PN} {p : PN} {A : HList} (h : PX m mk es ck (a ++ p :: b) A) :
    A.Perm (p.o :: ((p.mid, Obj.map p.es p.ck) :: ((m, Obj.cells #[.map (some mk)] 138) :: ((mk, Obj.map es ck) :: (pns a ++ pns b))))) := by
  rw [h.eq, pns_app, pns_cons]
  exact pc fun z => by simp only [PN.objs, cnt_a, cnt_c, cnt_n]; omega
theorem PN.lo (p : PN) {L : HList} (hm : p.o ∈ L) : LdAt ⟨p.id, 0, none⟩ [.string p.k.val, .bool p.k.has, .map (some p.mid)] L := ldB (by unfold PN.o at hm; exact hm) rfl
/-- A store into a node. -/
theorem PN.set {p : PN} {L Y : HList} (hL : L.Perm (p.o :: Y)) (v : ByteArray) (t : Bool) {k : HP} (hk : ∀ L', L'.Perm ((PN.o ⟨⟨p.k.key, t, v, p.k.may⟩, p.id, p.mid, p.es, p.ck, p.mm⟩) :: Y) → k L') : st ⟨p.id, 0, none⟩ [.string v, .bool t] k L :=
  st_pm (n := p.id) (off := 0) (c := #[.string p.k.val, .bool p.k.has, .map (some p.mid)]) (T := 145) (fz := (0, 0)) hL rfl (by simp) (.inl (Nat.le_refl _)) #[.string v, .bool t, .map (some p.mid)] rfl hk
theorem PX.done {m mk : Nat} {es : Array MapEntry} {ck : Nat} {a b : List PN} {p p' : PN} {A L' : HList} {st : PSt} {k : K1} (h : PX m mk es ck (a ++ p :: b) A) (hid : p'.id = p.id) (hk : p'.k.key = p.k.key) (ok : p'.Ok)
    (hst : a.map PN.k ++ p'.k :: b.map PN.k = st) (hL : L'.Perm (p'.o :: ((p'.mid, Obj.map p'.es p'.ck) :: ((m, Obj.cells #[.map (some mk)] 138) :: ((mk, Obj.map es ck) :: (pns a ++ pns b)))))) :
    ∃ A', PH m st A' ∧ L'.Perm A' := by
  refine ⟨_, ⟨mk, es, ck, a ++ p' :: b, h.set hid hk ok rfl, by rw [List.map_append, List.map_cons]; exact hst⟩, ?_⟩
  rw [pns_app, pns_cons]
  exact pc fun z => by have := pcn hL z; simp only [PN.objs, cnt_a, cnt_c, cnt_n] at *; omega
theorem pput_nil (L : HList) (k v : ByteArray) : CallF PP 25 #[.pointer none, .string k, .string v] L fun r L' => r = .tuple #[] ∧ L' = L := by
  refine c25 none k v ?_
  unfold s25
  exact ifT rfl (.of ⟨rfl, rfl⟩)
theorem pput_cl (m : Nat) (st : PSt) (A : HList) (h : PH m st A) (k v : ByteArray) : CallF PP 25 #[.pointer (some ⟨m, 0, none⟩), .string k, .string v] A fun r L' => r = .tuple #[] ∧ PH m (pput st k v) L' := by
  obtain ⟨mk, es, ck, ps, h, rfl⟩ := h
  refine c25 (some ⟨m, 0, none⟩) k v ?_
  unfold s25
  refine ifF rfl (cl_rd (pfindn_rd m mk es ck ps A A h (fun _ hx => hx) k) (nptr (nfind ps k), ()) rfl ?_)
  have hfk := nfind_k ps k
  refine jn_of (fun y L' => ∃ (mk : Nat) (es : Array MapEntry) (ck : Nat) (a b : List PN) (p : PN) (A' : HList), y = (some ⟨p.id, 0, none⟩, ()) ∧ PX m mk es ck (a ++ p :: b) A' ∧ L'.Perm A' ∧ a.map PN.k ++ K1.put v p.k :: b.map PN.k = pput (ps.map PN.k) k v) ?_ ?_
  · rintro _ L1 ⟨mk, es, ck, a, b, p, A', rfl, hx, hp, hst⟩
    have hok := hx.ok p (by simp)
    have hp1 := hp.trans hx.frame
    refine nilc_of rfl (PN.set hp1 v true fun L2 hp2 => ?_)
    refine ld_of (some p.mid) ((PN.lo ⟨⟨p.k.key, true, v, p.k.may⟩, p.id, p.mid, p.es, p.ck, p.mm⟩ (hp2.symm.subset List.mem_cons_self)).one 2 rfl) ?_
    refine update_pm mapM (es := p.es) (clock := p.ck) (Y := PN.o ⟨⟨p.k.key, true, v, p.k.may⟩, p.id, p.mid, p.es, p.ck, p.mm⟩ :: ((m, Obj.cells #[.map (some mk)] 138) :: ((mk, Obj.map es ck) :: (pns a ++ pns b)))) (pc fun z => by have := pcn hp2 z; simp only [cnt_a, cnt_c] at *; omega) hok.mp v (.bool true) fun es2 ck2 L3 hm3 hp3 => ?_
    obtain ⟨A3, hA3, hp4⟩ := hx.done (p' := ⟨K1.put v p.k, p.id, p.mid, es2, ck2, mput p.mm v (.bool true)⟩) (k := p.k) rfl rfl (hok.add v hm3 (K1.put v p.k) fun u => by simp [K1.put, or_comm]) hst (L' := L3) (pc fun z => by have := pcn hp3 z; simp only [PN.o, K1.put, cnt_a, cnt_c] at *; omega)
    exact .drop (A := A3) (J := []) ⟨rfl, hA3⟩ (by simpa using hp4)
  · intro j hj
    cases hf : nfind ps k with
    | some p =>
      obtain ⟨hk, a, b, rfl⟩ := nfind_split hf
      rw [hf] at hfk
      refine ifF rfl (hj _ _ ⟨mk, es, ck, a, b, p, A, rfl, h, List.Perm.refl _, ?_⟩)
      have hnd := h.nd
      rw [List.map_append, List.map_cons] at hnd hfk ⊢
      unfold pput
      rw [← hfk]
      simp only [Option.map_some, Option.isSome_some, if_true]
      rw [← hk]
      exact (pupd_split hnd (K1.put v)).symm
    | none =>
      rw [hf] at hfk
      have hno := pfind_none hfk.symm
      refine ifT rfl (nw_of fun n1 _ => nw_of fun n2 _ => nilc_of rfl ?_)
      have hA := h.eq
      refine ld_of (some mk) (ldB (c := #[.map (some mk)]) (T := 138) (fz := (0, 0)) (by rw [hA]; simp) rfl) ?_
      refine updateB_pm mapP (es := es) (clock := ck) (Y := (n2, Obj.cells #[.string ByteArray.empty, .bool false, .map (some n1)] 145) :: ((n1, Obj.map #[] 0) :: ((m, Obj.cells #[.map (some mk)] 138) :: pns ps))) (pc fun z => by rw [hA]; simp only [cnt_a, cnt_c]; omega) h.mp h.born k (.pointer (some ⟨n2, 0, none⟩)) fun es2 ck2 L2 hm2 hb2 hp2 => ?_
      refine hj _ _ ⟨mk, es2, ck2, ps, [], ⟨⟨k, false, ByteArray.empty, []⟩, n2, n1, #[], 0, []⟩, _, rfl, ⟨rfl, ?_, hb2, fun q hq => ?_, ?_⟩, ?_, ?_⟩
      · rw [mput_new _ _ _ (by
          intro hm
          apply hno
          unfold pmap at hm
          unfold pkeys
          rw [List.map_map] at hm ⊢
          exact hm)] at hm2
        unfold pmap at hm2 ⊢
        rw [List.map_append]
        exact hm2
      · rcases List.mem_append.1 hq with hq | hq
        · exact h.ok q hq
        · rw [List.mem_singleton.1 hq]; exact ⟨rfl, fun v => rfl⟩
      · have hnd := h.nd
        unfold pkeys at hnd hno ⊢
        rw [List.map_append, List.map_append, List.nodup_append]
        refine ⟨hnd, by simp, fun x hx y hy => ?_⟩
        simp at hy
        exact fun e => hno (by rw [← hy, ← e]; exact hx)
      · rw [pns_app, pns_cons]
        exact pc fun z => by have := pcn hp2 z; simp only [PN.objs, PN.o, pns, List.flatMap_nil, cnt_a, cnt_c, cnt_n] at *; omega
      · unfold pput
        rw [← hfk]
        rfl
theorem pdel_cl (m : Nat) (st : PSt) (A : HList) (h : PH m st A) (k : ByteArray) : CallF PP 27 #[.pointer (some ⟨m, 0, none⟩), .string k] A fun r L' => r = .tuple #[] ∧ PH m (pdel st k) L' := by
  obtain ⟨mk, es, ck, ps, h, rfl⟩ := h
  refine c27 (some ⟨m, 0, none⟩) k ?_
  unfold s27
  refine cl_rd (pfindn_rd m mk es ck ps A A h (fun _ hx => hx) k) (nptr (nfind ps k), ()) rfl ?_
  have hfk := nfind_k ps k
  cases hf : nfind ps k with
  | none =>
    rw [hf] at hfk
    exact ifT rfl (.of ⟨rfl, mk, es, ck, ps, h, (pupd_none (pfind_none hfk.symm) _).symm⟩)
  | some p =>
    obtain ⟨hk, a, b, rfl⟩ := nfind_split hf
    have hok := h.ok p (by simp)
    refine ifF rfl (nilc_of rfl (PN.set h.frame ByteArray.empty false fun L2 hp2 => ?_))
    have hnd := h.nd
    rw [List.map_append, List.map_cons] at hnd
    obtain ⟨A3, hA3, hp4⟩ := h.done (p' := ⟨K1.del p.k, p.id, p.mid, p.es, p.ck, p.mm⟩) (st := pdel (List.map PN.k (a ++ p :: b)) k) (k := p.k) rfl rfl ⟨hok.mp, hok.get⟩ (by
      rw [List.map_append, List.map_cons, ← hk]; exact (pupd_split hnd K1.del).symm) (L' := L2) hp2
    exact .drop (A := A3) (J := []) ⟨rfl, hA3⟩ (by simpa using hp4)
theorem eqNw {L : HList} (a c : ByteArray) (b : Bool) {k : ShV (.lf .bool) → HP} (hk : k (b && decide (a = c)) L) :
    smP PP (binOp .eql 143 (.agg #[.string a, .bool b]) (.agg #[.string c, .bool true])) (.lf .bool) k L := by
  refine eqS_of (r := (a.toList == c.toList && ((b == true) && true))) (by kernel_rfl) (by kernel_rfl) ?_
  have e : (a.toList == c.toList && ((b == true) && true)) = (b && decide (a = c)) := by
    rw [ba_toList, ba_toList]
    have h : (a.data.toList == c.data.toList) = decide (a = c) := by
      rw [Bool.eq_iff_iff]
      simp only [beq_iff_eq, decide_eq_true_eq]
      constructor
      · intro h; cases a; cases c; simp only at h; exact congrArg ByteArray.mk (Array.toList_inj.1 h)
      · intro h; rw [h]
    rw [h]
    cases b <;> simp
  rw [e]; exact hk
theorem pmay_nil (L : HList) (k v : ByteArray) (t : Bool) : Reads PP 31 #[.pointer none, .string k, .string v, .bool t] L (.bool (!t)) := by
  unfold Reads
  refine c31 none k v t ?_
  unfold s31
  refine cl_rd (pfindn_nil L k) (none, ()) rfl ?_
  cases t
  · exact ifF rfl (.of ⟨rfl, rfl⟩)
  · exact ifT rfl (ifT rfl (.of ⟨rfl, rfl⟩))
theorem pmay_rd (m : Nat) (st : PSt) (A L : HList) (h : PH m st A) (hs : ∀ x ∈ A, x ∈ L) (k v : ByteArray) (t : Bool) : Reads PP 31 #[.pointer (some ⟨m, 0, none⟩), .string k, .string v, .bool t] L (.bool (pmay st k v t)) := by
  obtain ⟨mk, es, ck, ps, h, rfl⟩ := h
  unfold Reads
  refine c31 (some ⟨m, 0, none⟩) k v t ?_
  unfold s31
  refine cl_rd (pfindn_rd m mk es ck ps A L h hs k) (nptr (nfind ps k), ()) rfl ?_
  have hfk := nfind_k ps k
  cases t with
  | false => exact ifF rfl (.of ⟨rfl, rfl⟩)
  | true =>
    refine ifT rfl ?_
    unfold pmay
    rw [if_pos rfl, ← hfk]
    cases hf : nfind ps k with
    | none => exact ifT rfl (.of ⟨rfl, rfl⟩)
    | some p =>
      obtain ⟨hk, a, b, rfl⟩ := nfind_split hf
      have ho : p.o ∈ L := hs _ (h.frame.symm.subset List.mem_cons_self)
      refine ifF rfl (nilc_of rfl (ld_of (p.k.val, p.k.has, ()) ((PN.lo p ho).pre fun i u hu => ?_) (eqNw _ _ _ (.of ⟨rfl, rfl⟩))))
      cases i with
      | zero => exact hu
      | succ i => cases i with
        | zero => exact hu
        | succ i => exact nomatch (show (none : Option Value) = some u from hu)
theorem pcrash_nil (L : HList) (k v : ByteArray) (t : Bool) : Reads PP 33 #[.pointer none, .string k, .string v, .bool t] L (.bool (!t)) := by
  unfold Reads
  refine c33 none k v t ?_
  unfold s33
  exact cl_rd (pfindn_nil L k) (none, ()) rfl (ifT rfl (.of ⟨rfl, rfl⟩))
theorem pcrash_cl (m : Nat) (st : PSt) (A : HList) (h : PH m st A) (k v : ByteArray) (t : Bool) : CallF PP 33 #[.pointer (some ⟨m, 0, none⟩), .string k, .string v, .bool t] A fun r L' => r = .bool (pcrash st k v t).1 ∧ PH m (pcrash st k v t).2 L' := by
  obtain ⟨mk, es, ck, ps, h, rfl⟩ := h
  refine c33 (some ⟨m, 0, none⟩) k v t ?_
  unfold s33
  refine cl_rd (pfindn_rd m mk es ck ps A A h (fun _ hx => hx) k) (nptr (nfind ps k), ()) rfl ?_
  have hfk := nfind_k ps k
  cases hf : nfind ps k with
  | none =>
    rw [hf] at hfk
    have e : pcrash (ps.map PN.k) k v t = (!t, ps.map PN.k) := by unfold pcrash; rw [← hfk]; rfl
    rw [e]
    exact ifT rfl (.of ⟨rfl, mk, es, ck, ps, h, rfl⟩)
  | some p =>
    obtain ⟨hk, a, b, rfl⟩ := nfind_split hf
    have hok := h.ok p (by simp)
    have hnd := h.nd
    rw [hf] at hfk
    have ho : p.o ∈ A := h.frame.symm.subset List.mem_cons_self
    have hmd : (p.mid, Obj.map p.es p.ck) ∈ A := h.frame.symm.subset (by simp)
    rw [List.map_append, List.map_cons] at hnd
    refine ifF rfl ?_
    cases t with
    | false =>
      have e : pcrash (List.map PN.k (a ++ p :: b)) k v false = (true, pupd (List.map PN.k (a ++ p :: b)) k K1.del) := by unfold pcrash; rw [← hfk]; rfl
      rw [e]
      refine ifF rfl (nilc_of rfl (PN.set h.frame ByteArray.empty false fun L2 hp2 => ?_))
      obtain ⟨A3, hA3, hp4⟩ := h.done (p' := ⟨K1.del p.k, p.id, p.mid, p.es, p.ck, p.mm⟩) (st := pupd (List.map PN.k (a ++ p :: b)) k K1.del) (k := p.k) rfl rfl ⟨hok.mp, hok.get⟩ (by
        rw [List.map_append, List.map_cons, ← hk]; exact (pupd_split hnd K1.del).symm) (L' := L2) hp2
      exact .drop (A := A3) (J := []) ⟨rfl, hA3⟩ (by simpa using hp4)
    | true =>
      refine ifT rfl (nilc_of rfl (ld_of (some p.mid) ((PN.lo p ho).one 2 rfl) ?_))
      have lk := lookup_rd (P := PP) mapM hmd hok.mp v
      rw [hok.get v] at lk
      by_cases hv : v ∈ p.k.may
      · rw [if_pos hv] at lk
        have e : pcrash (List.map PN.k (a ++ p :: b)) k v true = (true, pupd (List.map PN.k (a ++ p :: b)) k (K1.only v)) := by unfold pcrash; rw [← hfk]; simp [hv]
        rw [e]
        refine ⟨(true, ()), lk, ifT rfl (PN.set h.frame v true fun L2 hp2 => ?_)⟩
        refine cl_of (CallF.perm hp2.symm (psettle_cl ⟨⟨p.k.key, true, v, p.k.may⟩, p.id, p.mid, p.es, p.ck, p.mm⟩ ⟨hok.mp, hok.get⟩ ((m, Obj.cells #[.map (some mk)] 138) :: ((mk, Obj.map es ck) :: (pns a ++ pns b))))) ?_
        rintro _ _ - ⟨p', rfl, rfl, ok', hk', hid'⟩
        obtain ⟨A3, hA3, hp4⟩ := h.done (p' := p') (st := pupd (List.map PN.k (a ++ p :: b)) k (K1.only v)) (k := p.k) hid' (by rw [hk']; rfl) ok' (by
          rw [List.map_append, List.map_cons, ← hk, hk']
          exact (pupd_split hnd (K1.only v)).symm) (L' := p'.objs ++ ((m, Obj.cells #[.map (some mk)] 138) :: ((mk, Obj.map es ck) :: (pns a ++ pns b)))) (List.Perm.refl _)
        exact ⟨(), rfl, .drop (A := A3) (J := []) ⟨rfl, hA3⟩ (by simpa using hp4)⟩
      · rw [if_neg hv] at lk
        have e : pcrash (List.map PN.k (a ++ p :: b)) k v true = (false, List.map PN.k (a ++ p :: b)) := by unfold pcrash; rw [← hfk]; simp [hv]
        rw [e]
        exact ⟨(false, ()), lk, ifF rfl (.of ⟨rfl, mk, es, ck, _, h, rfl⟩)⟩
end Go.Proofs.Ytlabcgnegbdlfaa
set_option linter.unusedVariables false
set_option linter.unusedSimpArgs false
namespace Go.Proofs.Ytlabcgnegbdlfaa
open Go.HL

theorem elemS : ElemT PP 67 9 1 16 [.string ⟨#[]⟩] := elemT_of (by kernel_rfl) (by kernel_rfl) rfl (by decide) (by decide)
theorem srcStr : SrcT PP 67 := .inl ⟨9, by kernel_rfl⟩
theorem filt_le {α : Type} : ∀ (l : List α) (p q : α → Bool), (∀ x ∈ l, q x = true → p x = true) → (l.filter q).length ≤ (l.filter p).length
  | [], p, q, _ => by simp
  | x :: r, p, q, h => by
    have ih := filt_le r p q fun y hy => h y (by simp [hy])
    have hx := h x (by simp)
    rw [List.filter_cons, List.filter_cons]
    cases hq : q x
    · cases p x <;> simp <;> omega
    · rw [hx hq]; simp; exact ih
theorem filt_lt {α : Type} : ∀ (l : List α) (p q : α → Bool), (∀ x ∈ l, q x = true → p x = true) → ∀ e ∈ l, p e = true → q e = false → (l.filter q).length < (l.filter p).length
  | [], p, q, _, e, he, _, _ => by simp at he
  | x :: r, p, q, h, e, he, h1, h2 => by
    have hx := h x (by simp)
    have hl := filt_le r p q fun y hy => h y (by simp [hy])
    rw [List.filter_cons, List.filter_cons]
    rcases List.mem_cons.1 he with rfl | he
    · rw [h1, h2]; simp; omega
    · have ih := filt_lt r p q (fun y hy => h y (by simp [hy])) e he h1 h2
      cases hq : q x
      · cases p x <;> simp <;> omega
      · rw [hx hq]; simp; exact ih
theorem nodup_of_map {α β : Type} {f : α → β} {l : List α} (h : (l.map f).Nodup) : l.Nodup := (List.pairwise_map.1 h).imp fun {a b} hab e => hab (congrArg f e)
theorem sub_len {α : Type} : ∀ (a b : List α), a.Nodup → (∀ x ∈ a, x ∈ b) → a.length ≤ b.length
  | [], b, _, _ => by simp
  | x :: a, b, hn, hs => by
    obtain ⟨b1, b2, rfl⟩ := List.append_of_mem (hs x (by simp))
    rw [List.nodup_cons] at hn
    have := sub_len a (b1 ++ b2) hn.2 fun y hy => by
      have h1 := hs y (by simp [hy])
      have h2 : y ≠ x := fun e => hn.1 (e ▸ hy)
      simp only [List.mem_append, List.mem_cons] at h1 ⊢
      rcases h1 with h1 | h1 | h1
      · exact .inl h1
      · exact absurd h1 h2
      · exact .inr h1
    simp only [List.length_append, List.length_cons] at this ⊢
    omega
def unS : Value → Option ByteArray
  | .string s => some s
  | _ => none
theorem unS_map (l : BL) : (l.map Value.string).filterMap unS = l := by
  induction l with
  | nil => rfl
  | cons a r ih => rw [List.map_cons, List.filterMap_cons]; simp only [unS]; rw [ih]
theorem pkeysn_nil (L : HList) : Reads PP 36 #[.pointer none] L (.slice none 0 0) := by
  unfold Reads
  refine c36 none ?_
  unfold s36
  exact ifT rfl (.of ⟨rfl, rfl⟩)
/-- A slice of the keys, in order. -/
def KeysK (ks : BL) (A : HList) (r : Value) (L' : HList) : Prop := ∃ (v : SlV) (l : BL) (seg : HList), r = .slice v.a v.len v.cap ∧ L' = seg ++ A ∧ SO v l seg ∧ l.Perm ks ∧ Srt l 0 l.length
theorem pkeysx_cl (m mk : Nat) (es : Array MapEntry) (ck : Nat) (ps : List PN) (A : HList) (h : PX m mk es ck ps A) (hlen : ps.length ≤ 60000) : CallF PP 36 #[.pointer (some ⟨m, 0, none⟩)] A (KeysK (pkeys (ps.map PN.k)) A) := by
  refine c36 (some ⟨m, 0, none⟩) ?_
  unfold s36
  have hA := h.eq
  have hmk : (mk, Obj.map es ck) ∈ A := by rw [hA]; simp
  refine ifF rfl (nilc_of rfl (ld_of (some mk) (ldB (c := #[.map (some mk)]) (T := 138) (fz := (0, 0)) (by rw [hA]; simp) rfl) ?_))
  refine range_of mapP.und hmk fun n => ?_
  have hkeys : es.toList.map (fun e => e.key) = (pkeys (ps.map PN.k)).map Value.string := by
    have h1 := congrArg (List.map Prod.fst) h.mp
    rw [List.map_map, List.map_map] at h1
    unfold pmap at h1
    rw [List.map_map] at h1
    unfold pkeys
    rw [List.map_map, List.map_map]
    exact h1
  have hesl : es.toList.length = ps.length := by have := congrArg List.length hkeys; simpa [pkeys] using this
  refine lp_of (fun z' z L' => ∃ (vis : List MapEntry) (seen : Array Nat) (v : SlV) (l : BL) (sg : HList), z = (v, ()) ∧ z' = (es.toList.filter fun e => !(seen.toList.contains e.born)).length ∧ (∀ e ∈ vis, e ∈ es.toList) ∧ seen.toList = vis.map (fun e => e.born) ∧ (vis.map (fun e => e.born)).Nodup ∧ vis.map (fun e => e.key) = l.map Value.string ∧
      L'.Perm ((n, Obj.mapIter (some mk) ck seen ck) :: (sg ++ A)) ∧ SO v l sg) _ ⟨[], #[], ⟨none, 0, 0⟩, [], [], rfl, rfl, by simp, rfl, List.nodup_nil, rfl, List.Perm.refl _, own_nil⟩ ?_
  rintro z' z L1 ⟨vis, seen, v, l, sg, rfl, rfl, hv1, hv2, hv3, hv4, hp, o⟩
  dsimp only
  have hvn : vis.Nodup := nodup_of_map hv3
  have hen : es.toList.Nodup := nodup_of_map h.born.nd
  have hvl : vis.length ≤ es.toList.length := sub_len _ _ hvn hv1
  have hll : l.length = vis.length := by have := congrArg List.length hv4; simpa using this.symm
  have hol := o.len
  refine next_of hp (by simp [hmk]) h.born (fun hall => ?_) (fun e L2 he hns hp2 => ?_)
  · -- all were seen
    have hperm : vis.Perm es.toList := by
      refine (List.perm_ext_iff_of_nodup hvn hen).2 fun e => ⟨hv1 e, fun he => ?_⟩
      have h1 := hall e he
      rw [hv2] at h1
      obtain ⟨e', he', hb⟩ := List.mem_map.1 h1
      have : e' = e := by
        obtain ⟨i, hi, rfl⟩ := List.getElem_of_mem (hv1 e' he')
        obtain ⟨j, hj, rfl⟩ := List.getElem_of_mem he
        rcases Nat.lt_trichotomy i j with h2 | rfl | h2
        · have h3 := (List.pairwise_iff_getElem.1 h.born.nd) i j (by simpa using hi) (by simpa using hj) h2
          simp only [List.getElem_map] at h3
          exact absurd hb h3
        · rfl
        · have h3 := (List.pairwise_iff_getElem.1 h.born.nd) j i (by simpa using hj) (by simpa using hi) h2
          simp only [List.getElem_map] at h3
          exact absurd hb.symm h3
      rw [← this]; exact he'
    have hlp : l.Perm (pkeys (ps.map PN.k)) := by
      have h1 := hperm.map fun e : MapEntry => e.key
      rw [hv4, hkeys] at h1
      have h2 := h1.filterMap unS
      rwa [unS_map, unS_map] at h2
    refine cl_of (CallF.perm (show ((sg ++ ((n, Obj.mapIter (some mk) ck seen ck) :: A))).Perm L1 from pc fun z => by have := pcn hp z; simp only [cnt_a, cnt_c] at *; omega) (sort_cl v l sg ((n, Obj.mapIter (some mk) ck seen ck) :: A) o (by omega) (hlp.nodup_iff.2 h.nd))) ?_
    rintro _ _ - ⟨l2, sg2, rfl, o2, hs2, rfl, hsrt⟩
    refine ⟨(), rfl, .drop (A := sg2 ++ A) (J := [(n, Obj.mapIter (some mk) ck seen ck)]) ⟨v, l2, sg2, rfl, rfl, o2, hs2.perm.trans hlp, by rw [hs2.len]; exact hsrt⟩ (pc fun z => by simp only [cnt_a, cnt_c, cnt_n]; omega)⟩
  · have hm2 : (mk, Obj.map es ck) ∈ L2 := hp2.symm.subset (by simp [hmk])
    have hi2 : (n, Obj.mapIter (some mk) ck (seen.push e.born) ck) ∈ L2 := hp2.symm.subset List.mem_cons_self
    have hk : ∃ k, e.key = .string k := by
      have h1 : e.key ∈ es.toList.map (fun e => e.key) := List.mem_map_of_mem he
      rw [hkeys] at h1
      obtain ⟨k, -, h2⟩ := List.mem_map.1 h1
      exact ⟨k, h2.symm⟩
    obtain ⟨k, hk⟩ := hk
    have hent := entry_rd (P := PP) hi2 hm2 h.born he
    rw [hk] at hent
    refine ⟨k, e.val, hent, ?_⟩
    have hlt := filt_lt es.toList (fun x => !(seen.toList.contains x.born)) (fun x => !((seen.push e.born).toList.contains x.born)) (fun x hx h1 => by simp at h1 ⊢; exact h1.1) e he (by simpa using hns) (by simp)
    have hne : e.born ∉ vis.map (fun e => e.born) := by rw [← hv2]; exact hns
    have hvis2 : (vis ++ [e]).length ≤ es.toList.length := sub_len _ _ (nodup_of_map (f := fun e : MapEntry => e.born) (by
      rw [List.map_append, List.nodup_append]
      exact ⟨hv3, by simp, fun x hx y hy => by simp at hy; subst hy; exact fun e => hne (e ▸ hx)⟩)) fun x hx => (List.mem_append.1 hx).elim (hv1 x) fun hx => by rw [List.mem_singleton.1 hx]; exact he
    rw [List.length_append, List.length_singleton] at hvis2
    refine apv_pm elemS srcStr o (Y := (n, Obj.mapIter (some mk) ck (seen.push e.born) ck) :: A) (ws := strE k) (pc fun z => by have := pcn hp2 z; simp only [cnt_a, cnt_c] at *; omega) rfl rfl (by omega) fun v2 sg2 hl2 o2 => ?_
    refine ⟨_, hlt, vis ++ [e], seen.push e.born, v2, l ++ [k], sg2, rfl, rfl, fun x hx => (List.mem_append.1 hx).elim (hv1 x) fun hx => by rw [List.mem_singleton.1 hx]; exact he, by simp [hv2], ?_, by simp [hv4, hk], pc fun z => by simp only [cnt_a, cnt_c]; omega, ?_⟩
    · rw [List.map_append, List.nodup_append]
      exact ⟨hv3, by simp, fun x hx y hy => by simp at hy; subst hy; exact fun e => hne (e ▸ hx)⟩
    · unfold SO
      rw [List.flatMap_append, List.flatMap_singleton]; exact o2
theorem pkeys_cl (m : Nat) (st : PSt) (A : HList) (h : PH m st A) (hlen : st.length ≤ 60000) : CallF PP 36 #[.pointer (some ⟨m, 0, none⟩)] A (KeysK (pkeys st) A) := by
  obtain ⟨mk, es, ck, ps, h, rfl⟩ := h
  exact pkeysx_cl m mk es ck ps A h (by rw [List.length_map] at hlen; exact hlen)
theorem pflush_cl (m : Nat) (st : PSt) (A : HList) (h : PH m st A) (hlen : st.length ≤ 60000) : CallF PP 29 #[.pointer (some ⟨m, 0, none⟩)] A fun r L' => r = .tuple #[] ∧ PH m (pflush st) L' := by
  refine c29 (some ⟨m, 0, none⟩) ?_
  unfold s29
  refine ifF rfl (cl_of (pkeys_cl m st A h hlen) ?_)
  rintro _ _ - ⟨v, l, seg, rfl, rfl, o, hperm, hsrt⟩
  refine ⟨(v, ()), rfl, ?_⟩
  dsimp only
  have hvl := o.len
  have hll : l.length = st.length := by have := hperm.length_eq; simpa [pkeys] using this
  have hnd0 : (pkeys st).Nodup := by obtain ⟨mk, es, ck, ps, h, rfl⟩ := h; exact h.nd
  have hnl : l.Nodup := hperm.nodup_iff.2 hnd0
  refine lp_of (fun z' z L' => ∃ (i : Nat) (A' : HList), i ≤ l.length ∧ z' = l.length - i ∧ z = ((i : Int), ()) ∧ PH m (st.map fun x => if x.key ∈ l.take i then x.settle else x) A' ∧ L'.Perm (seg ++ A')) l.length ⟨0, A, by omega, by omega, rfl, by simpa using h, List.Perm.refl _⟩ ?_
  rintro z' z L1 ⟨i, A', hi, rfl, rfl, hPH, hp⟩
  dsimp only
  refine ifb_of (fun (hlt : (i : Int) < v.len) => ?_) (fun (hge : ¬ (i : Int) < v.len) => ?_)
  · have hi' : i < l.length := by omega
    refine elp_el strE_len (by decide) ((Own.sl o).mono fun x hx => hp.symm.subset (by simp [hx])) rfl hi' fun a ha => ?_
    have hmem : l[i] ∈ pkeys st := hperm.subset (List.getElem_mem hi')
    have htk : l.take (i + 1) = l.take i ++ [l[i]] := List.take_succ_eq_append_getElem hi'
    have hnot : l[i] ∉ l.take i := by
      intro hm
      obtain ⟨j, hj, he⟩ := List.getElem_of_mem hm
      rw [List.length_take] at hj
      rw [List.getElem_take] at he
      exact (List.pairwise_iff_getElem.1 hnl) j i (by omega) hi' (by omega) he
    generalize l[i] = k at ha hmem htk hnot
    refine ld_of k ha (nilc_of rfl ?_)
    obtain ⟨mk, es, ck, ps, hx, hst⟩ := hPH
    have hA := hx.eq
    have hsub : ∀ x ∈ A', x ∈ L1 := fun x hx => hp.symm.subset (by simp [hx])
    refine ld_of (some mk) (ldB (c := #[.map (some mk)]) (T := 138) (fz := (0, 0)) (hsub _ (by rw [hA]; simp)) rfl) ?_
    have lk := lookup_rd (P := PP) mapP (hsub (mk, Obj.map es ck) (by rw [hA]; simp)) hx.mp k
    rw [mget_pmap] at lk
    have hkk : k ∈ pkeys (ps.map PN.k) := by
      rw [hst]
      unfold pkeys at hmem ⊢
      rw [List.map_map]
      obtain ⟨y, hy, rfl⟩ := List.mem_map.1 hmem
      refine List.mem_map.2 ⟨y, hy, ?_⟩
      simp only [Function.comp]
      split <;> rfl
    have hfk := nfind_k ps k
    cases hf : nfind ps k with
    | none =>
      rw [hf] at hfk
      exact absurd hkk (pfind_none hfk.symm)
    | some p =>
      rw [hf] at lk
      refine ⟨(some ⟨p.id, 0, none⟩, ()), lk, ?_⟩
      obtain ⟨hk, a, b, rfl⟩ := nfind_split hf
      have hnd := hx.nd
      rw [List.map_append, List.map_cons] at hnd
      refine cl_of (CallF.perm (show (p.objs ++ (((m, Obj.cells #[.map (some mk)] 138) :: ((mk, Obj.map es ck) :: (pns a ++ pns b))) ++ seg)).Perm L1 from pc fun z => by have := pcn hp z; have := pcn hx.frame z; simp only [PN.objs, cnt_a, cnt_c, cnt_n] at *; omega) (psettle_cl p (hx.ok p (by simp)) _)) ?_
      rintro _ _ - ⟨p', rfl, rfl, ok', hk', hid'⟩
      obtain ⟨A3, hA3, hp4⟩ := hx.done (p' := p') (st := pupd (List.map PN.k (a ++ p :: b)) k K1.settle) (k := p.k) hid' (by rw [hk']; rfl) ok' (by
        rw [List.map_append, List.map_cons, ← hk, hk']
        exact (pupd_split hnd K1.settle).symm) (L' := p'.objs ++ ((m, Obj.cells #[.map (some mk)] 138) :: ((mk, Obj.map es ck) :: (pns a ++ pns b)))) (List.Perm.refl _)
      refine ⟨(), rfl, w64_of (by omega) ⟨l.length - (i + 1), by omega, i + 1, A3, by omega, rfl, rfl, ?_, pc fun z => by have := pcn hp4 z; simp only [cnt_a] at *; omega⟩⟩
      have e : (st.map fun x => if x.key ∈ l.take (i + 1) then x.settle else x) = pupd (List.map PN.k (a ++ p :: b)) k K1.settle := by
        rw [hst]
        unfold pupd
        rw [List.map_map]
        refine List.map_congr_left fun x _ => ?_
        simp only [Function.comp]
        rw [htk]
        by_cases e2 : x.key ∈ l.take i
        · have e3 : ¬ x.settle.key = k := fun e => hnot (e ▸ e2)
          rw [if_pos (by simp [e2]), if_pos e2, if_neg e3]
        · rw [if_neg e2]
          by_cases e1 : x.key = k
          · rw [if_pos (by simp [e1]), if_pos e1]
          · rw [if_neg (by simp [e1, e2]), if_neg e1]
      rw [e]; exact hA3
  · obtain rfl : i = l.length := by omega
    have e : (st.map fun x => if x.key ∈ l.take l.length then x.settle else x) = pflush st := by
      unfold pflush
      refine List.map_congr_left fun x hx => ?_
      rw [List.take_length, if_pos (hperm.symm.subset (List.mem_map_of_mem hx))]
    rw [e] at hPH
    exact .drop (A := A') (J := seg) ⟨rfl, hPH⟩ (hp.trans List.perm_append_comm)
end Go.Proofs.Ytlabcgnegbdlfaa
set_option linter.unusedVariables false
set_option linter.unusedSimpArgs false
namespace Go.Proofs.Ytlabcgnegbdlfaa
open Go.HL

theorem putL_encj {α : Type} {enc : α → List Value} {sz : Nat} (hsz : ∀ x, (enc x).length = sz) (hpos : 0 < sz) {l : List α} {n : Nat} (hn : n < l.length) {j : Nat} {ws : List Value} {x : α} (hj : j + ws.length ≤ sz) (hx : putL (enc l[n]) j ws = enc x) :
    putL (l.flatMap enc) (n * sz + j) ws = (l.set n x).flatMap enc := by
  have hfl := flat_len hsz l
  have hfl2 := flat_len hsz (l.set n x)
  rw [List.length_set] at hfl2
  have h0 : n * sz + sz ≤ l.length * sz := by rw [← Nat.succ_mul]; exact Nat.mul_le_mul_right sz hn
  apply List.ext_getElem?
  intro i
  rw [putL_get _ _ _ (by rw [hfl]; omega)]
  by_cases hi : i < l.length * sz
  · have hq : i / sz < l.length := by rw [Nat.div_lt_iff_lt_mul hpos]; exact hi
    have hr : i % sz < sz := Nat.mod_lt _ hpos
    have hi2 : i = i / sz * sz + i % sz := by rw [Nat.mul_comm]; exact (Nat.div_add_mod i sz).symm
    generalize i / sz = q at hq hi2
    generalize i % sz = r at hr hi2
    subst hi2
    rw [flat_at hsz (l.set n x) q (by simpa using hq) r hr, flat_at hsz l q hq r hr, List.getElem_set]
    by_cases hqn : n = q
    · subst hqn
      rw [if_pos rfl, ← hx, putL_get _ _ _ (by rw [hsz]; exact hj)]
      by_cases hc : j ≤ r ∧ r < j + ws.length
      · rw [if_pos (by omega), if_pos hc]; congr 1; omega
      · rw [if_neg (by omega), if_neg hc]
    · rw [if_neg, if_neg hqn]
      intro hc
      rcases Nat.lt_or_ge n q with h | h
      · have := Nat.mul_le_mul_right sz (show n + 1 ≤ q by omega)
        rw [Nat.succ_mul] at this
        omega
      · have := Nat.mul_le_mul_right sz (show q + 1 ≤ n by omega)
        rw [Nat.succ_mul] at this
        omega
  · rw [if_neg (by omega), List.getElem?_eq_none (by omega), List.getElem?_eq_none (by omega)]
theorem own_addr {v : SlV} {sz : Nat} {T : TypeId} {vs : List Value} {seg : HList} (o : Own v sz T vs seg) {a : Addr} (ha : v.a = some a) (i j : Nat) : Addr.add (Addr.add a i) j = Addr.add a (i + j) := by
  rcases o.row with ⟨h, _, _⟩ | ⟨b, off, c, fz, h, _, _, _, _⟩
  · rw [h] at ha; cases ha
  · rw [h] at ha
    obtain rfl := Option.some.inj ha
    rw [addr_add (ad := ⟨b, off, none⟩) rfl i, addr_add (ad := ⟨b, off + i, none⟩) rfl j, addr_add (ad := ⟨b, off, none⟩) rfl (i + j), Nat.add_assoc]
/-- A store into a field of an element. -/
theorem st_ownj {α : Type} {enc : α → List Value} {sz : Nat} (hsz : ∀ x, (enc x).length = sz) (hpos : 0 < sz) {v : SlV} {T : TypeId} {l : List α} {seg L Y : HList} (own : Own v sz T (l.flatMap enc) seg) {b : Addr} (hb : v.a = some b) {n : Nat} (hn : n < l.length) (j : Nat) {ws : List Value} (x : α) (hj : j + ws.length ≤ sz) (hw : 0 < ws.length)
    (hx : putL (enc l[n]) j ws = enc x) (hL : L.Perm (seg ++ Y)) {k : HP} (hk : ∀ seg' L', L'.Perm (seg' ++ Y) → Own v sz T ((l.set n x).flatMap enc) seg' → k L') : st (Addr.add (Addr.add b (n * sz)) j) ws k L := by
  have h0 : n * sz + sz ≤ l.length * sz := by rw [← Nat.succ_mul]; exact Nat.mul_le_mul_right sz hn
  refine own_st own (p := n * sz + j) (by rw [flat_len hsz]; omega) hw hb (own_addr own hb _ _) hL fun seg' L' hL' o => hk seg' L' hL' ?_
  rw [putL_encj hsz hpos hn hj hx] at o; exact o
theorem split_at' {α : Type} (l : List α) {i : Nat} (hi : i < l.length) : l = l.take i ++ l[i] :: l.drop (i + 1) := by
  rw [← List.drop_eq_getElem_cons hi, List.take_append_drop]
structure RE where
  k : K1
  v : SlV
  seg : HList
def RE.enc (e : RE) : List Value := [.string e.k.key, .bool e.k.has, .string e.k.val, .slice e.v.a e.v.len e.v.cap]
theorem RE.enc_len (e : RE) : e.enc.length = 4 := rfl
def RE.Ok (e : RE) : Prop := SO e.v e.k.may e.seg
def resegs (l : List RE) : HList := l.flatMap RE.seg
theorem resegs_app (a b : List RE) : resegs (a ++ b) = resegs a ++ resegs b := List.flatMap_append
theorem resegs_cons (a : RE) (b : List RE) : resegs (a :: b) = a.seg ++ resegs b := rfl
theorem elemOne : ElemT PP 58 149 4 64 [.string ⟨#[]⟩, .bool false, .string ⟨#[]⟩, .slice none 0 0] := elemT_of (by kernel_rfl) (by kernel_rfl) rfl (by decide) (by decide)
theorem srcOne : SrcT PP 58 := .inl ⟨149, by kernel_rfl⟩
def rO (n : Nat) (sv : SlV) : Nat × Obj := (n, Obj.cells #[.slice sv.a sv.len sv.cap] 60)
structure RX (n : Nat) (sv : SlV) (sg : HList) (es : List RE) (A : HList) : Prop where
  eq : A = rO n sv :: (sg ++ resegs es)
  own : Own sv 4 149 (es.flatMap RE.enc) sg
  ok : ∀ e ∈ es, e.Ok
def RPH (n : Nat) (st : PSt) (A : HList) : Prop := ∃ (sv : SlV) (sg : HList) (es : List RE), RX n sv sg es A ∧ es.map RE.k = st
theorem RX.lv {n : Nat} {sv : SlV} {sg : HList} {es : List RE} {A L : HList} (h : RX n sv sg es A) (hs : ∀ x ∈ A, x ∈ L) : LdAt ⟨n, 0, none⟩ [.slice sv.a sv.len sv.cap] L := ldB (c := #[.slice sv.a sv.len sv.cap]) (T := 60) (fz := (0, 0)) (hs _ (by rw [h.eq]; exact List.mem_cons_self)) rfl
theorem RX.seg {n : Nat} {sv : SlV} {sg : HList} {es : List RE} {A : HList} (h : RX n sv sg es A) : ∀ x ∈ sg, x ∈ A := fun x hx => by rw [h.eq]; simp [hx]
theorem RX.len {n : Nat} {sv : SlV} {sg : HList} {es : List RE} {A : HList} (h : RX n sv sg es A) : sv.len = es.length := (Own.sl h.own).els_len RE.enc_len (by decide)
def isK (es : List RE) (k : ByteArray) (i : Nat) : Prop := ∀ j (hj : j < es.length), j < i → es[j].k.key ≠ k
theorem isK_none {es : List RE} {k : ByteArray} (h : isK es k es.length) : pfind (es.map RE.k) k = none := by
  unfold pfind
  rw [List.find?_eq_none]
  intro x hx
  obtain ⟨e, he, rfl⟩ := List.mem_map.1 hx
  obtain ⟨j, hj, rfl⟩ := List.getElem_of_mem he
  simpa using h j hj hj
theorem isK_some {es : List RE} {k : ByteArray} {i : Nat} (hi : i < es.length) (h : isK es k i) (he : es[i].k.key = k) : pfind (es.map RE.k) k = some es[i].k := by
  have hsp := split_at' es hi
  unfold pfind
  conv => lhs; rw [hsp]
  rw [List.map_append, List.map_cons, List.find?_append]
  have h1 : ((es.take i).map RE.k).find? (fun x => decide (x.key = k)) = none := by
    rw [List.find?_eq_none]
    intro x hx
    obtain ⟨e, he2, rfl⟩ := List.mem_map.1 hx
    obtain ⟨j, hj, rfl⟩ := List.getElem_of_mem he2
    rw [List.length_take] at hj
    rw [List.getElem_take]
    simpa using h j (by omega) (by omega)
  rw [h1, List.find?_cons_of_pos (by simpa using he)]
  rfl
theorem rknown_rd (n : Nat) (sv : SlV) (sg : HList) (es : List RE) (A L : HList) (h : RX n sv sg es A) (hs : ∀ x ∈ A, x ∈ L) (hl : es.length ≤ 1000000) (k : ByteArray) :
    Reads PP 76 #[.pointer (some ⟨n, 0, none⟩), .string k] L (.bool (pfind (es.map RE.k) k).isSome) := by
  unfold Reads
  refine c76 (some ⟨n, 0, none⟩) k ?_
  unfold s76
  have hvl := h.len
  refine lp_of (fun z' z L' => ∃ i : Nat, i ≤ es.length ∧ z' = es.length - i ∧ z = ((i : Int), ()) ∧ isK es k i ∧ L' = L) es.length ⟨0, by omega, by omega, rfl, fun j hj h => by omega, rfl⟩ ?_
  rintro z' z L' ⟨i, hi, rfl, rfl, hk, hL'⟩
  rw [hL']
  dsimp only
  refine nilc_of rfl (ld_of sv (h.lv hs) (ifb_of (fun (hlt : (i : Int) < sv.len) => ?_) (fun (hge : ¬ (i : Int) < sv.len) => ?_)))
  · have hi' : i < es.length := by omega
    refine ld_of sv (h.lv hs) (elp_el RE.enc_len (by decide) ((Own.sl h.own).mono fun x hx => hs x (h.seg x hx)) rfl hi' fun a ha => ?_)
    refine ld_of es[i].k.key ha.hd (ifb_of (fun (he : es[i].k.key = k) => ?_) (fun (he : ¬ es[i].k.key = k) => ?_))
    · rw [isK_some hi' hk he]; exact .of ⟨rfl, rfl⟩
    · refine w64_of (by omega) ⟨es.length - (i + 1), by omega, i + 1, by omega, rfl, rfl, fun j hj h1 => ?_, rfl⟩
      by_cases e : j = i
      · subst e; exact he
      · exact hk j hj (by omega)
  · obtain rfl : i = es.length := by omega
    rw [isK_none hk]; exact .of ⟨rfl, rfl⟩
end Go.Proofs.Ytlabcgnegbdlfaa
set_option linter.unusedVariables false
set_option linter.unusedSimpArgs false
namespace Go.Proofs.Ytlabcgnegbdlfaa
open Go.HL

def pat (st : PSt) (k : ByteArray) : PSt := if (pfind st k).isSome then st else st ++ [⟨k, false, noB, []⟩]
theorem rat_cl (n : Nat) (sv : SlV) (sg : HList) (es : List RE) (A : HList) (h : RX n sv sg es A) (hl : es.length ≤ 1000000) (k : ByteArray) :
    CallF PP 75 #[.pointer (some ⟨n, 0, none⟩), .string k] A fun r L' => ∃ (sv' : SlV) (sg' : HList) (es' : List RE) (i : Nat) (b : Addr) (hi : i < es'.length), r = .pointer (some (Addr.add b (i * 4))) ∧ sv'.a = some b ∧ isK es' k i ∧ es'[i].k.key = k ∧ RX n sv' sg' es' L' ∧ es'.map RE.k = pat (es.map RE.k) k := by
  refine c75 (some ⟨n, 0, none⟩) k ?_
  unfold s75
  have hvl := h.len
  refine lp_of (fun z' z L' => ∃ i : Nat, i ≤ es.length ∧ z' = es.length - i ∧ z = ((i : Int), ()) ∧ isK es k i ∧ L' = A) es.length ⟨0, by omega, by omega, rfl, fun j hj h => by omega, rfl⟩ ?_
  rintro z' z L' ⟨i, hi, rfl, rfl, hk, hL'⟩
  rw [hL']
  dsimp only
  have hs : ∀ x ∈ A, x ∈ A := fun _ hx => hx
  refine nilc_of rfl (ld_of sv (h.lv hs) (ifb_of (fun (hlt : (i : Int) < sv.len) => ?_) (fun (hge : ¬ (i : Int) < sv.len) => ?_)))
  · have hi' : i < es.length := by omega
    refine ld_of sv (h.lv hs) (elp_el RE.enc_len (by decide) ((Own.sl h.own).mono fun x hx => h.seg x hx) rfl hi' fun a ha => ?_)
    refine ld_of es[i].k.key ha.hd (ifb_of (fun (he : es[i].k.key = k) => ?_) (fun (he : ¬ es[i].k.key = k) => ?_))
    · refine ld_of sv (h.lv hs) (elp_own RE.enc_len (by decide) h.own h.seg rfl hi' fun b hb _ => ?_)
      exact .of ⟨sv, sg, es, i, b, hi', rfl, hb, hk, he, h, by unfold pat; rw [isK_some hi' hk he]; rfl⟩
    · refine w64_of (by omega) ⟨es.length - (i + 1), by omega, i + 1, by omega, rfl, rfl, fun j hj h1 => ?_, rfl⟩
      by_cases e : j = i
      · subst e; exact he
      · exact hk j hj (by omega)
  · obtain rfl : i = es.length := by omega
    have hno := isK_none hk
    obtain ⟨e0, he0⟩ : ∃ e0 : RE, e0 = ⟨⟨k, false, noB, []⟩, ⟨none, 0, 0⟩, []⟩ := ⟨_, rfl⟩
    have hpA : A.Perm (sg ++ (rO n sv :: resegs es)) := by rw [h.eq]; exact pc fun z => by simp only [cnt_a, cnt_c]; omega
    refine ld_of sv (h.lv hs) ?_
    refine apv_pm elemOne srcOne h.own (Y := rO n sv :: resegs es) (ws := [.string k, .bool false, .string noB, .slice none 0 0]) hpA rfl rfl (by omega) fun sv2 sg2 hl2 o2 => ?_
    refine st_pm (n := n) (off := 0) (c := #[.slice sv.a sv.len sv.cap]) (T := 60) (fz := (0, 0)) (Y := sg2 ++ resegs es) (pc fun z => by simp only [rO, cnt_a, cnt_c]; omega) rfl (by simp) (.inl (Nat.le_refl _)) #[.slice sv2.a sv2.len sv2.cap] rfl fun L2 hp2 => ?_
    have hx : RX n sv2 sg2 (es ++ [e0]) (rO n sv2 :: (sg2 ++ resegs (es ++ [e0]))) := ⟨rfl, by rw [List.flatMap_append, List.flatMap_singleton, he0]; exact o2, fun e he => by
      rcases List.mem_append.1 he with he | he
      · exact h.ok e he
      · rw [List.mem_singleton.1 he, he0]; exact own_nil⟩
    have hre : resegs (es ++ [e0]) = resegs es := by rw [resegs_app, he0]; simp [resegs]
    have hp3 : L2.Perm (rO n sv2 :: (sg2 ++ resegs (es ++ [e0]))) := by rw [hre]; exact hp2
    have hs2 : ∀ x ∈ (rO n sv2 :: (sg2 ++ resegs (es ++ [e0]))), x ∈ L2 := fun x hx => hp3.symm.subset hx
    refine ld_of sv2 (hx.lv hs2) (ld_of sv2 (hx.lv hs2) (w64_of (by omega) (elp_own RE.enc_len (by decide) hx.own (fun x hx' => hs2 x (hx.seg x hx')) (n := es.length) (by omega) (by simp) fun b hb _ => ?_)))
    have hg : (es ++ [e0])[es.length]'(by simp) = e0 := by simp
    refine .drop (A := rO n sv2 :: (sg2 ++ resegs (es ++ [e0]))) (J := []) ⟨sv2, sg2, es ++ [e0], es.length, b, by simp, rfl, hb, fun j hj h1 => ?_, by rw [hg, he0], hx, ?_⟩ (by simpa using hp3)
    · rw [List.getElem_append_left h1]; exact hk j h1 h1
    · unfold pat
      rw [hno, List.map_append, he0]
      rfl
theorem rat_cl2 (n : Nat) (sv : SlV) (sg : HList) (es : List RE) (A : HList) (h : RX n sv sg es A) (hl : es.length ≤ 1000000) (k : ByteArray) :
    CallF PP 75 #[.pointer (some ⟨n, 0, none⟩), .string k] A fun r L' => ∃ (sv' : SlV) (sg' : HList) (a c : List RE) (e : RE) (b : Addr), r = .pointer (some (Addr.add b (a.length * 4))) ∧ sv'.a = some b ∧ e.k.key = k ∧ RX n sv' sg' (a ++ e :: c) L' ∧ (a ++ e :: c).map RE.k = pat (es.map RE.k) k := by
  refine CallF.mono (rat_cl n sv sg es A h hl k) ?_
  rintro _ L' - ⟨sv', sg', es', i, b, hi, rfl, hb, -, he, hx, hm⟩
  have hsp := split_at' es' hi
  generalize hee : es'[i] = e at hsp he
  have hal : (es'.take i).length = i := by rw [List.length_take]; omega
  refine ⟨sv', sg', es'.take i, es'.drop (i + 1), e, b, by rw [hal], hb, he, by rw [← hsp]; exact hx, by rw [← hsp]; exact hm⟩
theorem set_mid' {α : Type} (p : List α) (x y : α) (q : List α) : (p ++ x :: q).set p.length y = p ++ y :: q := by simp
/-- A store into a field of one. -/
theorem re_st {sv : SlV} {sg L Y : HList} {a c : List RE} {e : RE} (own : Own sv 4 149 ((a ++ e :: c).flatMap RE.enc) sg) {b : Addr} (hb : sv.a = some b) (j : Nat) {ws : List Value} (e' : RE) (hj : j + ws.length ≤ 4) (hw : 0 < ws.length) (hx : putL e.enc j ws = e'.enc) (hL : L.Perm (sg ++ Y)) {k : HP}
    (hk : ∀ sg' L', L'.Perm (sg' ++ Y) → Own sv 4 149 ((a ++ e' :: c).flatMap RE.enc) sg' → k L') : st (Addr.add (Addr.add b (a.length * 4)) j) ws k L := by
  refine st_ownj RE.enc_len (by decide) own hb (n := a.length) (by simp) j e' hj hw (by rw [List.getElem_append_right (Nat.le_refl _)]; simpa using hx) hL fun sg' L' hL' o => hk sg' L' hL' ?_
  rw [set_mid'] at o; exact o
theorem re_ld {sv : SlV} {sg L : HList} {a c : List RE} {e : RE} (own : Own sv 4 149 ((a ++ e :: c).flatMap RE.enc) sg) {b : Addr} (hb : sv.a = some b) (hs : ∀ x ∈ sg, x ∈ L) : LdAt (Addr.add b (a.length * 4)) e.enc L := by
  obtain ⟨a', ha, hl⟩ := (Own.sl own).el RE.enc_len (by decide) (i := a.length) (by simp)
  rw [hb] at ha
  obtain rfl := Option.some.inj ha
  rw [List.getElem_append_right (Nat.le_refl _)] at hl
  simp at hl
  exact hl.mono hs
end Go.Proofs.Ytlabcgnegbdlfaa
set_option linter.unusedVariables false
set_option linter.unusedSimpArgs false
namespace Go.Proofs.Ytlabcgnegbdlfaa
open Go.HL

theorem ba_ext' {a b : ByteArray} (h : a.data.toList = b.data.toList) : a = b := by
  cases a; cases b
  exact congrArg ByteArray.mk (Array.toList_inj.1 h)
theorem RX.pm {n : Nat} {sv : SlV} {sg : HList} {a c : List RE} {e : RE} {A : HList} (h : RX n sv sg (a ++ e :: c) A) : A.Perm (sg ++ (e.seg ++ (rO n sv :: (resegs a ++ resegs c)))) := by
  rw [h.eq, resegs_app, resegs_cons]
  exact pc fun z => by simp only [cnt_a, cnt_c]; omega
theorem RX.fin {n : Nat} {sv : SlV} {sg sg' : HList} {a c : List RE} {e e' : RE} {A L' J : HList} {st : PSt} (h : RX n sv sg (a ++ e :: c) A) (own : Own sv 4 149 ((a ++ e' :: c).flatMap RE.enc) sg') (ok : e'.Ok) (hst : (a ++ e' :: c).map RE.k = st) (hL : L'.Perm (sg' ++ (e'.seg ++ (rO n sv :: (resegs a ++ (resegs c ++ J)))))) :
    ∃ A', RPH n st A' ∧ L'.Perm (A' ++ J) := by
  refine ⟨_, ⟨sv, sg', a ++ e' :: c, ⟨rfl, own, fun q hq => ?_⟩, hst⟩, ?_⟩
  · rcases List.mem_append.1 hq with hq | hq
    · exact h.ok q (by simp [hq])
    · rcases List.mem_cons.1 hq with rfl | hq
      · exact ok
      · exact h.ok q (by simp [hq])
  · rw [resegs_app, resegs_cons]
    exact pc fun z => by have := pcn hL z; simp only [cnt_a, cnt_c] at *; omega
theorem pat_nd {st : PSt} {k : ByteArray} (h : (pkeys st).Nodup) : (pkeys (pat st k)).Nodup := by
  unfold pat
  split
  · exact h
  · rename_i hn
    have hno : k ∉ pkeys st := pfind_none (by cases hf : pfind st k with | none => rfl | some x => rw [hf] at hn; simp at hn)
    unfold pkeys at h hno ⊢
    rw [List.map_append, List.nodup_append]
    refine ⟨h, by simp, fun x hx y hy => ?_⟩
    simp at hy
    exact fun e => hno (by rw [← hy, ← e]; exact hx)
theorem pat_put {st : PSt} {k v : ByteArray} (h : (pkeys st).Nodup) : pupd (pat st k) k (K1.put v) = pput st k v := by
  unfold pat pput
  cases hf : pfind st k with
  | some x => rfl
  | none =>
    have hno := pupd_none (pfind_none hf) (K1.put v)
    simp only [Option.isSome_none, Bool.false_eq_true, if_false]
    unfold pupd at hno ⊢
    rw [List.map_append, hno]
    simp [K1.put]
theorem pat_some {st : PSt} {k : ByteArray} (h : (pfind st k).isSome = true) : pat st k = st := by unfold pat; rw [if_pos h]
theorem rpput_cl (n : Nat) (st : PSt) (A : HList) (h : RPH n st A) (hnd : (pkeys st).Nodup) (hl : st.length ≤ 60000) (hm : ∀ x ∈ st, x.may.length ≤ 60000) (k v : ByteArray) :
    CallF PP 26 #[.pointer (some ⟨n, 0, none⟩), .string k, .string v] A fun r L' => r = .tuple #[] ∧ RPH n (pput st k v) L' := by
  obtain ⟨sv, sg, es, h, rfl⟩ := h
  rw [List.length_map] at hl
  refine c26 (some ⟨n, 0, none⟩) k v ?_
  unfold s26
  refine cl_of (rat_cl2 n sv sg es A h (by omega) k) ?_
  rintro _ A1 - ⟨sv, sg, a, c, e, b, rfl, hb, he, hx, hmp⟩
  refine ⟨(some (Addr.add b (a.length * 4)), ()), rfl, nilc_of rfl ?_⟩
  have hel : e.k.may.length ≤ 60000 := by
    have h1 : e.k ∈ pat (es.map RE.k) k := by rw [← hmp]; simp
    unfold pat at h1
    split at h1
    · exact hm _ h1
    · rcases List.mem_append.1 h1 with h1 | h1
      · exact hm _ h1
      · rw [List.mem_singleton.1 h1]; simp
  have hok : e.Ok := hx.ok e (by simp)
  have hev := SO.len hok
  obtain ⟨e1, he1⟩ : ∃ e1 : RE, e1 = ⟨⟨e.k.key, true, e.k.val, e.k.may⟩, e.v, e.seg⟩ := ⟨_, rfl⟩
  obtain ⟨e2, he2⟩ : ∃ e2 : RE, e2 = ⟨⟨e.k.key, true, v, e.k.may⟩, e.v, e.seg⟩ := ⟨_, rfl⟩
  refine re_st hx.own hb 1 (ws := [.bool true]) e1 (by decide) (by decide) (by rw [he1]; rfl) hx.pm fun sg1 L1 hp1 o1 => ?_
  refine re_st o1 hb 2 (ws := [.string v]) e2 (by simp) (by simp) (by rw [he1, he2]; rfl) hp1 fun sg2 L2 hp2 o2 => ?_
  have hl2 : LdAt (Addr.add b (a.length * 4)) e2.enc L2 := re_ld o2 hb (psub0 hp2)
  refine ld_of e.v (by rw [he2] at hl2; exact hl2.one 3 rfl) ?_
  refine apv_pm elemS srcStr hok (Y := sg2 ++ (rO n sv :: (resegs a ++ resegs c))) (ws := strE v) (pc fun z => by have := pcn hp2 z; simp only [cnt_a, cnt_c] at *; omega) rfl rfl (by omega) fun v3 sg3 hl3 o3 => ?_
  obtain ⟨e4, he4⟩ : ∃ e4 : RE, e4 = ⟨K1.put v e.k, v3, sg3⟩ := ⟨_, rfl⟩
  refine re_st o2 hb 3 (ws := [.slice v3.a v3.len v3.cap]) e4 (by simp) (by simp) (by rw [he2, he4]; rfl) (Y := sg3 ++ (rO n sv :: (resegs a ++ resegs c))) (pc fun z => by simp only [cnt_a, cnt_c]; omega) fun sg4 L4 hp4 o4 => ?_
  obtain ⟨A5, hA5, hp5⟩ := hx.fin (st := pput (es.map RE.k) k v) (J := []) o4 (by rw [he4]; unfold RE.Ok SO K1.put; simp only [List.flatMap_append, List.flatMap_singleton]; exact o3) (by
    have h1 := pat_nd (k := k) hnd
    rw [← hmp, List.map_append, List.map_cons] at h1
    rw [← pat_put hnd, ← hmp, List.map_append, List.map_cons, List.map_append, List.map_cons, he4, ← he]
    exact (pupd_split h1 (K1.put v)).symm) (L' := L4) (pc fun z => by have := pcn hp4 z; rw [he4]; simp only [cnt_a, cnt_c, cnt_n] at *; omega)
  exact .drop (A := A5) (J := []) ⟨rfl, hA5⟩ hp5
theorem rpdel_cl (n : Nat) (st : PSt) (A : HList) (h : RPH n st A) (hnd : (pkeys st).Nodup) (hl : st.length ≤ 60000) (k : ByteArray) :
    CallF PP 28 #[.pointer (some ⟨n, 0, none⟩), .string k] A fun r L' => r = .tuple #[] ∧ RPH n (pdel st k) L' := by
  obtain ⟨sv, sg, es, h, rfl⟩ := h
  rw [List.length_map] at hl
  refine c28 (some ⟨n, 0, none⟩) k ?_
  unfold s28
  refine cl_rd (rknown_rd n sv sg es A A h (fun _ hx => hx) (by omega) k) ((pfind (es.map RE.k) k).isSome, ()) rfl (ifB_of (fun hs => ?_) (fun hs => ?_))
  · refine cl_of (rat_cl2 n sv sg es A h (by omega) k) ?_
    rintro _ A1 - ⟨sv, sg, a, c, e, b, rfl, hb, he, hx, hmp⟩
    rw [pat_some hs] at hmp
    refine ⟨(some (Addr.add b (a.length * 4)), ()), rfl, nilc_of rfl ?_⟩
    obtain ⟨e1, he1⟩ : ∃ e1 : RE, e1 = ⟨⟨e.k.key, false, e.k.val, e.k.may⟩, e.v, e.seg⟩ := ⟨_, rfl⟩
    obtain ⟨e2, he2⟩ : ∃ e2 : RE, e2 = ⟨K1.del e.k, e.v, e.seg⟩ := ⟨_, rfl⟩
    refine re_st hx.own hb 1 (ws := [.bool false]) e1 (by simp) (by simp) (by rw [he1]; rfl) hx.pm fun sg1 L1 hp1 o1 => ?_
    refine re_st o1 hb 2 (ws := [.string noB]) e2 (by simp) (by simp) (by rw [he1, he2]; rfl) hp1 fun sg2 L2 hp2 o2 => ?_
    obtain ⟨A5, hA5, hp5⟩ := hx.fin (st := pdel (es.map RE.k) k) (J := []) o2 (by rw [he2]; exact hx.ok e (by simp)) (by
      rw [← hmp, List.map_append, List.map_cons] at hnd
      unfold pdel
      rw [← hmp, List.map_append, List.map_cons, List.map_append, List.map_cons, he2, ← he]
      exact (pupd_split hnd K1.del).symm) (L' := L2) (pc fun z => by have := pcn hp2 z; rw [he2]; simp only [cnt_a, cnt_c, cnt_n] at *; omega)
    exact .drop (A := A5) (J := []) ⟨rfl, hA5⟩ hp5
  · have hno : pfind (es.map RE.k) k = none := by
      cases hf : pfind (es.map RE.k) k with
      | none => rfl
      | some x => rw [hf] at hs; cases hs
    exact .of ⟨rfl, sv, sg, es, h, (pupd_none (pfind_none hno) _).symm⟩
theorem rpmay_rd (n : Nat) (st : PSt) (A L : HList) (h : RPH n st A) (hs : ∀ x ∈ A, x ∈ L) (hl : st.length ≤ 60000) (k v : ByteArray) (t : Bool) :
    Reads PP 32 #[.pointer (some ⟨n, 0, none⟩), .string k, .string v, .bool t] L (.bool (pmay st k v t)) := by
  obtain ⟨sv, sg, es, h, rfl⟩ := h
  rw [List.length_map] at hl
  unfold Reads
  refine c32 (some ⟨n, 0, none⟩) k v t ?_
  unfold s32
  cases t with
  | false => exact ifF rfl (.of ⟨rfl, rfl⟩)
  | true =>
    refine ifT rfl ?_
    unfold pmay
    rw [if_pos rfl]
    have hvl := h.len
    have hsl := (Own.sl h.own).mono (fun x hx => hs x (h.seg x hx))
    refine lp_of (fun z' z L' => ∃ i : Nat, i ≤ es.length ∧ z' = es.length - i ∧ z = ((i : Int), ()) ∧ isK es k i ∧ L' = L) es.length ⟨0, by omega, by omega, rfl, fun j hj h => by omega, rfl⟩ ?_
    rintro z' z L' ⟨i, hi, rfl, rfl, hk, hL'⟩
    rw [hL']
    dsimp only
    refine nilc_of rfl (ld_of sv (h.lv hs) (ifb_of (fun (hlt : (i : Int) < sv.len) => ?_) (fun (hge : ¬ (i : Int) < sv.len) => ?_)))
    · have hi' : i < es.length := by omega
      refine ld_of sv (h.lv hs) (elp_el RE.enc_len (by decide) hsl rfl hi' fun a ha => ?_)
      refine ld_of es[i].k.key ha.hd (ifb_of (fun (he : es[i].k.key = k) => ?_) (fun (he : ¬ es[i].k.key = k) => ?_))
      · rw [isK_some hi' hk he]
        refine ld_of sv (h.lv hs) (elp_el RE.enc_len (by decide) hsl rfl hi' fun a2 ha2 => ld_of es[i].k.has (ha2.one 1 rfl) (ifB_of (fun hh => ?_) (fun hh => ?_)))
        · refine ld_of sv (h.lv hs) (elp_el RE.enc_len (by decide) hsl rfl hi' fun a3 ha3 => ld_of es[i].k.val (ha3.one 2 rfl) (.of ⟨?_, rfl⟩))
          simp only [hh, Bool.true_and]
          congr 1
          rw [ba_toList, ba_toList, Bool.eq_iff_iff]
          simp only [beq_iff_eq, decide_eq_true_eq]
          exact ⟨ba_ext', fun h => by rw [h]⟩
        · exact .of ⟨by simp [hh], rfl⟩
      · refine w64_of (by omega) ⟨es.length - (i + 1), by omega, i + 1, by omega, rfl, rfl, fun j hj h1 => ?_, rfl⟩
        by_cases e : j = i
        · subst e; exact he
        · exact hk j hj (by omega)
    · obtain rfl : i = es.length := by omega
      rw [isK_none hk]; exact .of ⟨rfl, rfl⟩
end Go.Proofs.Ytlabcgnegbdlfaa
set_option linter.unusedVariables false
set_option linter.unusedSimpArgs false
namespace Go.Proofs.Ytlabcgnegbdlfaa
open Go.HL

theorem find_pat {a c : List RE} {e : RE} (hnd : (pkeys ((a ++ e :: c).map RE.k)).Nodup) : pfind ((a ++ e :: c).map RE.k) e.k.key = some e.k := by
  have h1 : (a ++ e :: c)[a.length]'(by simp) = e := by rw [List.getElem_append_right (Nat.le_refl _)]; simp
  have h2 := isK_some (es := a ++ e :: c) (k := e.k.key) (i := a.length) (by simp) (fun j hj hlt hh => ?_) (by rw [h1])
  · rw [h1] at h2; exact h2
  · rw [List.getElem_append_left hlt] at hh
    unfold pkeys at hnd
    rw [List.map_map, List.map_append, List.map_cons, List.nodup_append] at hnd
    exact hnd.2.2 _ (List.mem_map_of_mem (f := K1.key ∘ RE.k) (List.getElem_mem hlt)) _ (List.mem_cons_self) hh
theorem rpcrash_cl (n : Nat) (st : PSt) (A : HList) (h : RPH n st A) (hnd : (pkeys st).Nodup) (hl : st.length ≤ 60000) (hm : ∀ x ∈ st, x.may.length ≤ 60000) (k v : ByteArray) (t : Bool) :
    CallF PP 34 #[.pointer (some ⟨n, 0, none⟩), .string k, .string v, .bool t] A fun r L' => r = .bool (pcrash st k v t).1 ∧ RPH n (pcrash st k v t).2 L' := by
  obtain ⟨sv, sg, es, h, rfl⟩ := h
  rw [List.length_map] at hl
  refine c34 (some ⟨n, 0, none⟩) k v t ?_
  unfold s34
  refine cl_rd (rknown_rd n sv sg es A A h (fun _ hx => hx) (by omega) k) ((pfind (es.map RE.k) k).isSome, ()) rfl (ifB_of (fun hs => ?_) (fun hs => ?_))
  · refine cl_of (rat_cl2 n sv sg es A h (by omega) k) ?_
    rintro _ A1 - ⟨sv, sg, a, c, e, b, rfl, hb, he, hx, hmp⟩
    rw [pat_some hs] at hmp
    refine ⟨(some (Addr.add b (a.length * 4)), ()), rfl, ?_⟩
    rw [← hmp] at hnd hm ⊢
    have hfk := find_pat hnd
    rw [he] at hfk
    have hnd' := hnd
    rw [List.map_append, List.map_cons] at hnd'
    have hok : e.Ok := hx.ok e (by simp)
    have hev := SO.len hok
    have hel : e.k.may.length ≤ 60000 := hm _ (by simp)
    have hupd : ∀ (f : K1 → K1) (e' : RE), e'.k = f e.k → (a ++ e' :: c).map RE.k = pupd ((a ++ e :: c).map RE.k) k f := fun f e' h1 => by
      rw [List.map_append, List.map_cons, List.map_append, List.map_cons, h1, ← he]
      exact (pupd_split hnd' f).symm
    have lE : ∀ L : HList, (∀ x ∈ A1, x ∈ L) → LdAt (Addr.add b (a.length * 4)) e.enc L := fun L hL => re_ld hx.own hb fun x h1 => hL x (hx.seg x h1)
    cases t with
    | false =>
      have ec : pcrash ((a ++ e :: c).map RE.k) k v false = (true, pupd ((a ++ e :: c).map RE.k) k K1.del) := by unfold pcrash; rw [hfk]; rfl
      rw [ec]
      obtain ⟨e1, he1⟩ : ∃ e1 : RE, e1 = ⟨⟨e.k.key, false, e.k.val, e.k.may⟩, e.v, e.seg⟩ := ⟨_, rfl⟩
      obtain ⟨e2, he2⟩ : ∃ e2 : RE, e2 = ⟨K1.del e.k, e.v, e.seg⟩ := ⟨_, rfl⟩
      refine ifF rfl (nilc_of rfl ?_)
      refine re_st hx.own hb 1 (ws := [.bool false]) e1 (by simp) (by simp) (by rw [he1]; rfl) hx.pm fun sg1 L1 hp1 o1 => ?_
      refine re_st o1 hb 2 (ws := [.string noB]) e2 (by simp) (by simp) (by rw [he1, he2]; rfl) hp1 fun sg2 L2 hp2 o2 => ?_
      obtain ⟨A5, hA5, hp5⟩ := hx.fin (st := pupd ((a ++ e :: c).map RE.k) k K1.del) (J := []) o2 (by rw [he2]; exact hok) (hupd K1.del e2 (by rw [he2])) (L' := L2) (pc fun z => by have := pcn hp2 z; rw [he2]; simp only [cnt_a, cnt_c, cnt_n] at *; omega)
      exact .drop (A := A5) (J := []) ⟨rfl, hA5⟩ hp5
    | true =>
      refine ifT rfl ?_
      refine lp_of (fun z' z L' => ∃ i : Nat, i ≤ e.k.may.length ∧ z' = e.k.may.length - i ∧ z = ((i : Int), ()) ∧ v ∉ e.k.may.take i ∧ L' = A1) e.k.may.length ⟨0, by omega, by omega, rfl, by simp, rfl⟩ ?_
      rintro z' z L' ⟨i, hi, rfl, rfl, hno, hL'⟩
      rw [hL']
      dsimp only
      refine nilc_of rfl (ld_of e.v ((lE A1 fun _ hx => hx).one 3 rfl) (ifb_of (fun (hlt : (i : Int) < e.v.len) => ?_) (fun (hge : ¬ (i : Int) < e.v.len) => ?_)))
      · have hi' : i < e.k.may.length := by omega
        refine ld_of e.v ((lE A1 fun _ hx => hx).one 3 rfl) (elp_el strE_len (by decide) ((Own.sl hok).mono fun x h1 => hx.pm.symm.subset (by simp [h1])) rfl hi' fun a3 ha3 => ?_)
        refine ld_of e.k.may[i] ha3 (ifb_of (fun (hv : e.k.may[i] = v) => ?_) (fun (hv : ¬ e.k.may[i] = v) => ?_))
        · have hvm : v ∈ e.k.may := hv ▸ List.getElem_mem hi'
          have ec : pcrash ((a ++ e :: c).map RE.k) k v true = (true, pupd ((a ++ e :: c).map RE.k) k (K1.only v)) := by unfold pcrash; rw [hfk]; simp [hvm]
          rw [ec]
          refine nw_of fun n1 _ => ?_
          obtain ⟨e1, he1⟩ : ∃ e1 : RE, e1 = ⟨⟨e.k.key, true, e.k.val, e.k.may⟩, e.v, e.seg⟩ := ⟨_, rfl⟩
          obtain ⟨e2, he2⟩ : ∃ e2 : RE, e2 = ⟨⟨e.k.key, true, v, e.k.may⟩, e.v, e.seg⟩ := ⟨_, rfl⟩
          obtain ⟨e3, he3⟩ : ∃ e3 : RE, e3 = ⟨K1.only v e.k, ⟨some ⟨n1, 0, none⟩, 1, 1⟩, [(n1, Obj.cells #[.string v] 9)]⟩ := ⟨_, rfl⟩
          refine re_st hx.own hb 1 (ws := [.bool true]) e1 (by simp) (by simp) (by rw [he1]; rfl) (Y := (n1, Obj.cells #[.string v] 9) :: (e.seg ++ (rO n sv :: (resegs a ++ resegs c)))) (pc fun z => by have := pcn hx.pm z; simp only [cnt_a, cnt_c] at *; omega) fun sg1 L1 hp1 o1 => ?_
          refine re_st o1 hb 2 (ws := [.string v]) e2 (by simp) (by simp) (by rw [he1, he2]; rfl) hp1 fun sg2 L2 hp2 o2 => ?_
          refine re_st o2 hb 3 (ws := [.slice (some ⟨n1, 0, none⟩) 1 1]) e3 (by simp) (by simp) (by rw [he2, he3]; rfl) hp2 fun sg3 L3 hp3 o3 => ?_
          obtain ⟨A5, hA5, hp5⟩ := hx.fin (st := pupd ((a ++ e :: c).map RE.k) k (K1.only v)) (J := e.seg) o3 (by rw [he3]; exact ⟨rfl, Nat.le_refl _, .inr ⟨n1, 0, _, (0, 0), rfl, rfl, by simp, .inl (Nat.le_refl _), fun i u hu => by simpa [strE, K1.only] using hu⟩⟩) (hupd (K1.only v) e3 (by rw [he3])) (L' := L3) (pc fun z => by have := pcn hp3 z; rw [he3]; simp only [cnt_a, cnt_c, cnt_n] at *; omega)
          exact .drop (A := A5) (J := e.seg) ⟨rfl, hA5⟩ hp5
        · refine w64_of (by omega) ⟨e.k.may.length - (i + 1), by omega, i + 1, by omega, rfl, rfl, ?_, rfl⟩
          rw [List.take_succ_eq_append_getElem hi', List.mem_append, List.mem_singleton]
          rintro (h1 | h1)
          · exact hno h1
          · exact hv h1.symm
      · obtain rfl : i = e.k.may.length := by omega
        rw [List.take_length] at hno
        have ec : pcrash ((a ++ e :: c).map RE.k) k v true = (false, (a ++ e :: c).map RE.k) := by unfold pcrash; rw [hfk]; simp [hno]
        rw [ec]
        exact .of ⟨rfl, sv, sg, a ++ e :: c, hx, rfl⟩
  · have hno : pfind (es.map RE.k) k = none := by
      cases hf : pfind (es.map RE.k) k with
      | none => rfl
      | some x => rw [hf] at hs; cases hs
    have ec : pcrash (es.map RE.k) k v t = (!t, es.map RE.k) := by unfold pcrash; rw [hno]
    rw [ec]
    exact .of ⟨rfl, sv, sg, es, h, rfl⟩
end Go.Proofs.Ytlabcgnegbdlfaa
set_option linter.unusedVariables false
set_option linter.unusedSimpArgs false
namespace Go.Proofs.Ytlabcgnegbdlfaa
open Go.HL

theorem rpflush_cl (n : Nat) (st : PSt) (A : HList) (h : RPH n st A) (hl : st.length ≤ 60000) :
    CallF PP 30 #[.pointer (some ⟨n, 0, none⟩)] A fun r L' => r = .tuple #[] ∧ RPH n (pflush st) L' := by
  obtain ⟨sv, sg, es, h, rfl⟩ := h
  rw [List.length_map] at hl
  refine c30 (some ⟨n, 0, none⟩) ?_
  unfold s30
  refine lp_of (fun z' z L' => ∃ (a c : List RE) (sg' J A' : HList), z = ((a.length : Int), ()) ∧ z' = c.length ∧ a.map RE.k ++ (c.map RE.k).map K1.settle = pflush (es.map RE.k) ∧ RX n sv sg' (a ++ c) A' ∧ L'.Perm (A' ++ J)) es.length
    ⟨[], es, sg, [], A, rfl, rfl, rfl, h, by simp⟩ ?_
  rintro z' z L1 ⟨a, c, sg1, J, A1, rfl, rfl, hmp, hx, hp⟩
  dsimp only
  have hvl := hx.len
  have hlen : a.length + c.length = es.length := by have := congrArg List.length hmp; simpa [pflush] using this
  have hs : ∀ x ∈ A1, x ∈ L1 := fun x hx => hp.symm.subset (by simp [hx])
  refine nilc_of rfl (ld_of sv (hx.lv hs) (ifb_of (fun (hlt : (a.length : Int) < sv.len) => ?_) (fun (hge : ¬ (a.length : Int) < sv.len) => ?_)))
  · cases c with
    | nil => simp at hvl; omega
    | cons e c =>
      refine ld_of sv (hx.lv hs) (elp_own RE.enc_len (by decide) hx.own (fun x h1 => hs x (hx.seg x h1)) (n := a.length) rfl (by simp) fun b hb _ => ?_)
      have hok : e.Ok := hx.ok e (by simp)
      obtain ⟨e1, he1⟩ : ∃ e1 : RE, e1 = ⟨⟨e.k.key, e.k.has, e.k.val, []⟩, ⟨none, 0, 0⟩, []⟩ := ⟨_, rfl⟩
      refine re_st hx.own hb 3 (ws := [.slice none 0 0]) e1 (by simp) (by simp) (by rw [he1]; rfl) (Y := e.seg ++ (rO n sv :: (resegs a ++ (resegs c ++ J)))) (pc fun z => by have := pcn hx.pm z; have := pcn hp z; simp only [cnt_a, cnt_c] at *; omega) fun sg2 L2 hp2 o2 => ?_
      have l0 : ∀ L : HList, rO n sv ∈ L → LdAt ⟨n, 0, none⟩ [.slice sv.a sv.len sv.cap] L := fun L hm => ldB (c := #[.slice sv.a sv.len sv.cap]) (T := 60) (fz := (0, 0)) hm rfl
      have m2 : rO n sv ∈ L2 := hp2.symm.subset (by simp)
      have next : ∀ (e3 : RE) (sg3 L3 J3 : HList), e3.Ok → e3.k = e.k.settle → Own sv 4 149 ((a ++ e3 :: c).flatMap RE.enc) sg3 → L3.Perm (sg3 ++ (e3.seg ++ (rO n sv :: (resegs a ++ (resegs c ++ J3))))) →
          ∃ k', k' < (e :: c).length ∧ ∃ (a' c : List RE) (sg' J A' : HList), ((((a.length : Int) + 1 : Int), ()) : RsV [.lf (.int .i64)]) = ((a'.length : Int), ()) ∧ k' = c.length ∧ a'.map RE.k ++ (c.map RE.k).map K1.settle = pflush (es.map RE.k) ∧ RX n sv sg' (a' ++ c) A' ∧ L3.Perm (A' ++ J) := by
        intro e3 sg3 L3 J3 h1 h2 h3 h4
        obtain ⟨A5, ⟨sv5, sg5, es5, hx5, hm5⟩, hp5⟩ : ∃ A', RPH n ((a ++ e3 :: c).map RE.k) A' ∧ L3.Perm (A' ++ J3) := hx.fin h3 h1 rfl h4
        refine ⟨c.length, by simp, a ++ [e3], c, sg3, J3, rO n sv :: (sg3 ++ resegs ((a ++ [e3]) ++ c)), by simp, rfl, ?_, ⟨rfl, by simpa using h3, fun q hq => ?_⟩, ?_⟩
        · rw [← hmp]; simp [h2]
        · simp at hq
          rcases hq with hq | rfl | hq
          · exact hx.ok q (by simp [hq])
          · exact h1
          · exact hx.ok q (by simp [hq])
        · have : (a ++ [e3]) ++ c = a ++ e3 :: c := by simp
          rw [this, resegs_app, resegs_cons]
          exact pc fun z => by have := pcn h4 z; simp only [cnt_a, cnt_c] at *; omega
      refine ld_of sv (l0 L2 m2) (elp_own RE.enc_len (by decide) o2 (psub0 hp2) (n := a.length) rfl (by simp) fun b2 hb2 _ => ?_)
      have g2 := re_ld o2 hb2 (psub0 hp2)
      refine ld_of e.k.has (by rw [he1] at g2; exact g2.one 1 rfl) (ifB_of (fun hh => ?_) (fun hh => ?_))
      · refine ld_of sv (l0 L2 m2) (ld_of sv (l0 L2 m2) (elp_own RE.enc_len (by decide) o2 (psub0 hp2) (n := a.length) rfl (by simp) fun b3 hb3 _ => ?_))
        have g3 := re_ld o2 hb3 (psub0 hp2)
        refine ld_of e.k.val (by rw [he1] at g3; exact g3.one 2 rfl) (nw_of fun n1 _ => ?_)
        obtain ⟨e3, he3⟩ : ∃ e3 : RE, e3 = ⟨e.k.settle, ⟨some ⟨n1, 0, none⟩, 1, 1⟩, [(n1, Obj.cells #[.string e.k.val] 9)]⟩ := ⟨_, rfl⟩
        refine elp_own RE.enc_len (by decide) o2 (fun x h1 => List.mem_cons_of_mem _ (psub0 hp2 x h1)) (n := a.length) rfl (by simp) fun b4 hb4 _ => ?_
        refine re_st o2 hb4 3 (ws := [.slice (some ⟨n1, 0, none⟩) 1 1]) e3 (by simp) (by simp) (by rw [he1, he3]; rfl) (Y := (n1, Obj.cells #[.string e.k.val] 9) :: (e.seg ++ (rO n sv :: (resegs a ++ (resegs c ++ J))))) (pc fun z => by have := pcn hp2 z; simp only [cnt_a, cnt_c] at *; omega) fun sg3 L3 hp3 o3 => ?_
        exact w64_of (by omega) (next e3 sg3 L3 (e.seg ++ J) (by rw [he3]; unfold RE.Ok SO K1.settle; simp only [hh, if_true]; exact ⟨rfl, Nat.le_refl _, .inr ⟨n1, 0, _, (0, 0), rfl, rfl, by simp, .inl (Nat.le_refl _), fun i u hu => by simpa [strE] using hu⟩⟩) (by rw [he3]) o3 (pc fun z => by have := pcn hp3 z; rw [he3]; simp only [cnt_a, cnt_c, cnt_n] at *; omega))
      · exact w64_of (by omega) (next e1 sg2 L2 (e.seg ++ J) (by rw [he1]; exact own_nil) (by rw [he1]; unfold K1.settle; simp [hh]) o2 (pc fun z => by have := pcn hp2 z; rw [he1]; simp only [cnt_a, cnt_c, cnt_n] at *; omega))
  · have hc0 : c = [] := by
      rw [List.length_append] at hvl
      exact List.length_eq_zero_iff.1 (by omega)
    subst hc0
    exact .drop (A := A1) (J := J) ⟨rfl, sv, sg1, a ++ [], hx, by simpa using hmp⟩ hp
end Go.Proofs.Ytlabcgnegbdlfaa
set_option linter.unusedVariables false
set_option linter.unusedSimpArgs false
namespace Go.Proofs.Ytlabcgnegbdlfaa
open Go.HL

theorem bl_drop {x y : List UInt8} {i : Nat} (h : x.take i = y.take i) (hx : i ≤ x.length) (hy : i ≤ y.length) : Op.bytesLess x y = Op.bytesLess (x.drop i) (y.drop i) := by
  induction i generalizing x y with
  | zero => simp
  | succ i ih =>
    cases x with
    | nil => simp at hx
    | cons a x =>
      cases y with
      | nil => simp at hy
      | cons b y =>
        simp only [List.take_succ_cons, List.cons.injEq] at h
        obtain ⟨rfl, h⟩ := h
        have h1 := ih h (by simpa using hx) (by simpa using hy)
        simp only [List.drop_succ_cons]
        rw [← h1]
        conv => lhs; unfold Op.bytesLess
        simp
theorem before_rd (L : HList) (x y : ByteArray) (hx : x.size ≤ 1000000) (hy : y.size ≤ 1000000) : Reads PP 79 #[.string x, .string y] L (.bool (lt x y)) := by
  unfold Reads
  refine c79 x y ?_
  unfold s79
  have sx : x.data.toList.length = x.size := by rw [Array.length_toList]; rfl
  have sy : y.data.toList.length = y.size := by rw [Array.length_toList]; rfl
  refine lp_of (fun z' z L' => ∃ i : Nat, i ≤ x.size ∧ i ≤ y.size ∧ z' = x.size - i ∧ z = ((i : Int), ()) ∧ x.data.toList.take i = y.data.toList.take i ∧ L' = L) x.size ⟨0, by omega, by omega, by omega, rfl, by simp, rfl⟩ ?_
  rintro z' z L' ⟨i, hi, hj, rfl, rfl, ht, hL'⟩
  rw [hL']
  dsimp only
  have hlt : lt x y = Op.bytesLess (x.data.toList.drop i) (y.data.toList.drop i) := bl_drop ht (by omega) (by omega)
  have gx : ∀ (h : i < x.size), byteAt x (i : Int) = ((x.data.toList[i]'(by omega)).toNat : Int) := fun h => by
    unfold byteAt
    rw [Int.toNat_natCast, Array.getD_eq_getD_getElem?]
    have h2 : i < x.data.size := h
    rw [Array.getElem?_eq_getElem h2]
    simp
  have gy : ∀ (h : i < y.size), byteAt y (i : Int) = ((y.data.toList[i]'(by omega)).toNat : Int) := fun h => by
    unfold byteAt
    rw [Int.toNat_natCast, Array.getD_eq_getD_getElem?]
    have h2 : i < y.data.size := h
    rw [Array.getElem?_eq_getElem h2]
    simp
  refine ifb_of (fun (h1 : (i : Int) < x.size) => ?_) (fun (h1 : ¬ (i : Int) < x.size) => ?_)
  · refine ifb_of (fun (h2 : (i : Int) < y.size) => ?_) (fun (h2 : ¬ (i : Int) < y.size) => ?_)
    · have hi' : i < x.size := by omega
      have hj' : i < y.size := by omega
      refine ixn_of (by omega) h1 (ixn_of (by omega) h2 ?_)
      rw [gx hi', gy hj']
      have dx : x.data.toList.drop i = x.data.toList[i]'(by omega) :: x.data.toList.drop (i + 1) := List.drop_eq_getElem_cons (by omega)
      have dy : y.data.toList.drop i = y.data.toList[i]'(by omega) :: y.data.toList.drop (i + 1) := List.drop_eq_getElem_cons (by omega)
      refine ifb_of (fun he => ?_) (fun he => ?_)
      · refine w64_of (by omega) ⟨x.size - (i + 1), by omega, i + 1, by omega, by omega, rfl, rfl, ?_, rfl⟩
        rw [List.take_succ_eq_append_getElem (by omega), List.take_succ_eq_append_getElem (by omega), ht]
        have : x.data.toList[i]'(by omega) = y.data.toList[i]'(by omega) := UInt8.toNat_inj.1 (by omega)
        rw [this]
      · refine ixn_of (by omega) h1 (ixn_of (by omega) h2 (.of ⟨?_, rfl⟩))
        rw [hlt, dx, dy]
        congr 1
        unfold Op.bytesLess
        have hne : x.data.toList[i]'(by omega) ≠ y.data.toList[i]'(by omega) := fun e => he (by rw [e])
        rw [Bool.eq_iff_iff]
        simp only [decide_eq_true_eq, Bool.or_eq_true, Bool.and_eq_true, beq_iff_eq, hne, false_and, or_false, UInt8.lt_iff_toNat_lt]
        omega
    · have : y.data.toList.drop i = [] := List.drop_eq_nil_of_le (by omega)
      refine .of ⟨?_, rfl⟩
      rw [hlt, this]
      congr 1
      unfold Op.bytesLess
      simp; omega
  · have hd : x.data.toList.drop i = [] := List.drop_eq_nil_of_le (by omega)
    refine .of ⟨?_, rfl⟩
    rw [hlt, hd]
    congr 1
    by_cases h2 : i < y.size
    · have dy : y.data.toList.drop i = y.data.toList[i]'(by omega) :: y.data.toList.drop (i + 1) := List.drop_eq_getElem_cons (by omega)
      rw [dy]
      simp [Op.bytesLess]; omega
    · have : y.data.toList.drop i = [] := List.drop_eq_nil_of_le (by omega)
      rw [this]
      simp [Op.bytesLess]; omega
end Go.Proofs.Ytlabcgnegbdlfaa
set_option linter.unusedVariables false
set_option linter.unusedSimpArgs false
namespace Go.Proofs.Ytlabcgnegbdlfaa
open Go.HL

def insAt (l : BL) (a : Nat) (k : ByteArray) : BL := l.take a ++ [k] ++ l.drop a
theorem insAt_perm (l : BL) (a : Nat) (k : ByteArray) : (insAt l a k).Perm (k :: l) := by
  unfold insAt
  have h : (l.take a ++ [k] ++ l.drop a).Perm (k :: (l.take a ++ l.drop a)) := by
    rw [List.append_assoc]; exact List.perm_middle
  rwa [List.take_append_drop] at h
theorem pw_srt {l : BL} (h : l.Pairwise le) : Srt l 0 l.length := by
  intro i j h1 h2 h3
  rw [ga_get (by omega), ga_get h3]
  exact List.pairwise_iff_getElem.1 h i j (by omega) h3 h2
theorem insAt_srt {l : BL} {a : Nat} {k : ByteArray} (h : l.Pairwise le) (ha : a ≤ l.length) (h1 : ∀ j, j < a → lt (ga l j) k = true) (h2 : a < l.length → lt (ga l a) k = false) : (insAt l a k).Pairwise le := by
  have hd : l = l.take a ++ l.drop a := (List.take_append_drop a l).symm
  rw [hd, List.pairwise_append] at h
  have t1 : ∀ x ∈ l.take a, le x k := fun x hx => by
    obtain ⟨j, hj, rfl⟩ := List.getElem_of_mem hx
    rw [List.length_take] at hj
    rw [List.getElem_take]
    have := h1 j (by omega)
    rw [ga_get (by omega)] at this
    exact le_of_lt this
  have t2 : ∀ x ∈ l.drop a, le k x := fun x hx => by
    have hal : a < l.length := by
      rcases Nat.lt_or_ge a l.length with h3 | h3
      · exact h3
      · rw [List.drop_eq_nil_of_le h3] at hx; simp at hx
    have h3 := h2 hal
    have h4 : l.drop a = l[a] :: l.drop (a + 1) := List.drop_eq_getElem_cons hal
    have h5 := h.2.1
    rw [h4, List.pairwise_cons] at h5
    rw [h4] at hx
    rw [ga_get hal] at h3
    rcases List.mem_cons.1 hx with rfl | hx
    · exact h3
    · exact le_trans h3 (h5.1 x hx)
  unfold insAt
  rw [List.append_assoc, List.pairwise_append]
  refine ⟨h.1, ?_, fun x hx y hy => ?_⟩
  · rw [List.singleton_append, List.pairwise_cons]
    exact ⟨t2, h.2.1⟩
  · rcases List.mem_append.1 hy with hy | hy
    · rw [List.mem_singleton.1 hy]; exact t1 x hx
    · exact h.2.2 x hx y hy
theorem rpkeys_cl (n : Nat) (st : PSt) (A : HList) (h : RPH n st A) (hl : st.length ≤ 60000) (hks : ∀ x ∈ st, x.key.size ≤ 1000000) :
    CallF PP 37 #[.pointer (some ⟨n, 0, none⟩)] A (KeysK (pkeys st) A) := by
  obtain ⟨sv, sg, es, h, rfl⟩ := h
  rw [List.length_map] at hl
  refine c37 (some ⟨n, 0, none⟩) ?_
  unfold s37
  have hvl := h.len
  refine lp_of (fun z' z L' => ∃ (i : Nat) (v : SlV) (l : BL) (lg J : HList), z = (v, (i : Int), ()) ∧ z' = es.length - i ∧ i ≤ es.length ∧ l.Perm ((es.take i).map fun e => e.k.key) ∧ l.Pairwise le ∧ L'.Perm (lg ++ (A ++ J)) ∧ SO v l lg) es.length
    ⟨0, ⟨none, 0, 0⟩, [], [], [], rfl, rfl, by omega, List.Perm.refl _, List.Pairwise.nil, by simp, own_nil⟩ ?_
  rintro z' z L1 ⟨i, v, l, lg, J, rfl, rfl, hi, hpm, hsrt, hp, o⟩
  dsimp only
  have hs : ∀ x ∈ A, x ∈ L1 := fun x hx => hp.symm.subset (by simp [hx])
  have hol := o.len
  have hll : l.length = i := by have := hpm.length_eq; rw [List.length_map, List.length_take] at this; omega
  refine nilc_of rfl (ld_of sv (h.lv hs) (ifb_of (fun (hlt : (i : Int) < sv.len) => ?_) (fun (hge : ¬ (i : Int) < sv.len) => ?_)))
  · have hi' : i < es.length := by omega
    have htk : (es.take (i + 1)).map (fun e => e.k.key) = (es.take i).map (fun e => e.k.key) ++ [es[i].k.key] := by rw [List.take_succ_eq_append_getElem hi', List.map_append]; rfl
    have hkz : es[i].k.key.size ≤ 1000000 := hks _ (List.mem_map_of_mem (List.getElem_mem hi'))
    have hlz : ∀ x ∈ l, x.size ≤ 1000000 := fun x hx => by
      have h1 := hpm.subset hx
      obtain ⟨e, he, rfl⟩ := List.mem_map.1 h1
      exact hks _ (List.mem_map_of_mem (List.mem_of_mem_take he))
    have lk : ∀ (L : HList), (∀ x ∈ A, x ∈ L) → ∀ (k : Addr → HP), (∀ a, LdAt a es[i].enc L → k a L) → elp sv.a sv.len (i : Int) 4 k L := fun L hL k hk =>
      elp_el RE.enc_len (by decide) ((Own.sl h.own).mono fun x h1 => hL x (h.seg x h1)) rfl hi' hk
    generalize hkk : es[i].k.key = key at htk hkz
    refine lp_of (fun z' z L' => ∃ a : Nat, a ≤ l.length ∧ z' = l.length - a ∧ z = ((a : Int), ()) ∧ (∀ j, j < a → lt (ga l j) key = true) ∧ L' = L1) l.length ⟨0, by omega, by omega, rfl, fun j h => by omega, rfl⟩ ?_
    rintro z' z L' ⟨a, ha, rfl, rfl, hlo, hL'⟩
    rw [hL']
    dsimp only
    have goal : ∀ (v2 : SlV) (lg2 L2 J2 : HList), SO v2 (insAt l a key) lg2 → L2.Perm (lg2 ++ (A ++ J2)) → (a < l.length → lt (ga l a) key = false) →
        ∃ k', k' < es.length - i ∧ ∃ (i' : Nat) (v' : SlV) (l' : BL) (lg' J' : HList), ((v2, (i : Int) + 1, ()) : RsV [.lf .sl, .lf (.int .i64)]) = (v', (i' : Int), ()) ∧ k' = es.length - i' ∧ i' ≤ es.length ∧ l'.Perm ((es.take i').map fun e => e.k.key) ∧ l'.Pairwise le ∧ L2.Perm (lg' ++ (A ++ J')) ∧ SO v' l' lg' :=
      fun v2 lg2 L2 J2 o2 hp2 hat => ⟨es.length - (i + 1), by omega, i + 1, v2, insAt l a key, lg2, J2, rfl, rfl, by omega, by
        rw [htk]
        refine (insAt_perm l a key).trans ?_
        exact (hpm.cons key).trans (List.perm_append_singleton key _).symm, insAt_srt hsrt ha hlo hat, hp2, o2⟩
    have body : (a < l.length → lt (ga l a) key = false) → ∀ (go : RsV [.lf .sl, .lf (.int .i64)] → HP), (∀ v2 L2, (∃ k', k' < es.length - i ∧ ∃ (i' : Nat) (v' : SlV) (l' : BL) (lg' J' : HList), ((v2, (i : Int) + 1, ()) : RsV [.lf .sl, .lf (.int .i64)]) = (v', (i' : Int), ()) ∧ k' = es.length - i' ∧ i' ≤ es.length ∧ l'.Perm ((es.take i').map fun e => e.k.key) ∧ l'.Pairwise le ∧ L2.Perm (lg' ++ (A ++ J')) ∧ SO v' l' lg') → go (v2, (i : Int) + 1, ()) L2) →
        HL.nw (.cells #[] 9) (fun n1 => HL.slc v 0 (a : Int) v.cap 1 fun s1 => HL.smW PP (Builtin.append_ #[67, 67] 67 #[.slice (some ⟨n1, 0, none⟩) 0 0, .slice s1.a s1.len s1.cap]) [.lf .sl] fun v5 =>
          HL.slc v (a : Int) v.len v.cap 1 fun s2 => HL.ld ⟨n, 0, none⟩ (.lf .sl) fun v6 => HL.elp v6.a v6.len (i : Int) 4 fun a4 => HL.ld a4 (.lf .str) fun v7 => HL.apv PP 67 67 67 9 v5.1 1 [.string v7] fun s3 =>
          HL.smW PP (Builtin.append_ #[67, 67] 67 #[.slice s3.a s3.len s3.cap, .slice s2.a s2.len s2.cap]) [.lf .sl] fun v8 => HL.w64 ((i : Int) + 1) fun i2 => go (v8.1, i2, ())) L1 := by
      intro hat go hgo
      refine nw_of fun n1 _ => ?_
      have hc := o.cap
      have hp1 : ((n1, Obj.cells #[] 9) :: L1).Perm ((n1, Obj.cells #[] 9) :: (lg ++ (A ++ J))) := hp.cons _
      generalize (n1, Obj.cells #[] 9) :: L1 = L2 at hp1
      refine slc_el strE_len (by decide) (A := lg) (Own.sl o) (i' := 0) (j' := a) (m' := v.cap) rfl rfl rfl (by omega) ha (by omega) (Nat.le_refl _) fun s1 hs1 _ hsl1 => ?_
      rw [List.drop_zero, Nat.sub_zero] at hsl1
      refine app_pm elemS srcStr (own_empty (n := n1) (e := 9)) (Y := lg ++ (A ++ J)) (n := s1.len) (ws := (l.take a).flatMap strE) (by simpa using hp1) (.sl (hsl1.mono fun x hx => hp1.symm.subset (by simp [hx]))) (strE_plain _) (by rw [show ({ a := some ⟨n1, 0, none⟩, len := 0, cap := 0 } : SlV).len = 0 from rfl]; omega) fun v5 sg5 hl5 o5 => ?_
      refine slc_el strE_len (by decide) (A := lg) (Own.sl o) (i' := a) (j' := l.length) (m' := v.cap) rfl (by rw [hol]) rfl ha (Nat.le_refl _) (by omega) (Nat.le_refl _) fun s2 hs2 _ hsl2 => ?_
      have hdt : (l.drop a).take (l.length - a) = l.drop a := List.take_of_length_le (by rw [List.length_drop]; exact Nat.le_refl _)
      rw [hdt] at hsl2
      have sub5 : ∀ x ∈ A, x ∈ sg5 ++ (lg ++ (A ++ J)) := fun x hx => by simp [hx]
      refine ld_of sv (h.lv sub5) (lk _ sub5 _ fun a4 ha4 => ?_)
      have h4 := ha4.hd
      rw [hkk] at h4
      refine ld_of key h4 ?_
      refine apv_pm elemS srcStr o5 (List.Perm.refl _) (ws := strE key) rfl rfl (by simp only at hl5; omega) fun s3 sg3 hl3 o3 => ?_
      refine app_pm elemS srcStr o3 (Y := lg ++ (A ++ J)) (n := s2.len) (ws := (l.drop a).flatMap strE) (List.Perm.refl _) (.sl (hsl2.mono fun x hx => by simp [hx])) (strE_plain _) (by simp only at hl5; omega) fun v8 sg8 hl8 o8 => ?_
      refine w64_of (by omega) (hgo _ _ (goal v8 sg8 _ (lg ++ J) ?_ (pc fun z => by simp only [cnt_a]; omega) hat))
      unfold SO insAt
      simp only [List.flatMap_append, List.flatMap_singleton] at o8 ⊢
      simpa using o8
    refine ifb_of (fun (hlt2 : (a : Int) < v.len) => ?_) (fun (hge2 : ¬ (a : Int) < v.len) => ?_)
    · have ha' : a < l.length := by omega
      refine elp_s o (n := a) rfl ha' fun b1 hb1 => ld_of (ga l a) (o.ld (psub0 hp) hb1 ha') (ld_of sv (h.lv hs) (lk _ hs _ fun a3 ha3 => ?_))
      have h3 := ha3.hd
      rw [hkk] at h3
      refine ld_of key h3 (cl_rd (before_rd L1 (ga l a) key (by rw [ga_get ha']; exact hlz _ (List.getElem_mem ha')) hkz) (lt (ga l a) key, ()) rfl (ifB_of (fun hh => ?_) (fun hh => ?_)))
      · refine w64_of (by omega) ⟨l.length - (a + 1), by omega, a + 1, by omega, rfl, rfl, fun j hj => ?_, rfl⟩
        by_cases e : j = a
        · rw [e]; exact hh
        · exact hlo j (by omega)
      · exact body (fun _ => hh) (fun w L => ∃ k', k' < es.length - i ∧ ∃ (i' : Nat) (v' : SlV) (l' : BL) (lg' J' : HList), w = (v', (i' : Int), ()) ∧ k' = es.length - i' ∧ i' ≤ es.length ∧ l'.Perm ((es.take i').map fun e => e.k.key) ∧ l'.Pairwise le ∧ L.Perm (lg' ++ (A ++ J')) ∧ SO v' l' lg') fun _ _ hk => hk
    · exact body (fun h => absurd h (by omega)) (fun w L => ∃ k', k' < es.length - i ∧ ∃ (i' : Nat) (v' : SlV) (l' : BL) (lg' J' : HList), w = (v', (i' : Int), ()) ∧ k' = es.length - i' ∧ i' ≤ es.length ∧ l'.Perm ((es.take i').map fun e => e.k.key) ∧ l'.Pairwise le ∧ L.Perm (lg' ++ (A ++ J')) ∧ SO v' l' lg') fun _ _ hk => hk
  · obtain rfl : i = es.length := by omega
    rw [List.take_length] at hpm
    refine .drop (A := lg ++ A) (J := J) ⟨v, l, lg, rfl, rfl, o, ?_, pw_srt hsrt⟩ (pc fun z => by have := pcn hp z; simp only [cnt_a] at *; omega)
    unfold pkeys
    rw [List.map_map]
    exact hpm
end Go.Proofs.Ytlabcgnegbdlfaa
set_option linter.unusedVariables false
set_option linter.unusedSimpArgs false
namespace Go.Proofs.Ytlabcgnegbdlfaa
open Go.HL

abbrev PA := Int × ByteArray × ByteArray × Bool × Unit
def paEnc (x : PA) : List Value := [.int .i64 x.1, .string x.2.1, .string x.2.2.1, .bool x.2.2.2.1]
theorem pa_len (x : PA) : (paEnc x).length = 4 := rfl
theorem pfew_cl (L : HList) (v : SlV) (l : List PA) (h : Sl L v 4 (l.flatMap paEnc)) (hl : l.length ≤ 9223372036854775807) (most bytes : Int) :
    CallF PP 22 #[.slice v.a v.len v.cap, .int .i64 most, .int .i64 bytes] L fun r L' => L' = L ∧ ∃ b, r = .bool b ∧ (b = true → (l.length : Int) ≤ most ∧ ∀ x ∈ l, (x.2.1.size : Int) ≤ bytes) := by
  refine c22 v most bytes ?_
  unfold s22
  have hlen := h.els_len pa_len (by decide)
  refine lp_of (fun k z L' => L' = L ∧ ∃ i : Nat, i ≤ l.length ∧ k = l.length - i ∧ z = ((i : Int), ()) ∧ ∀ x ∈ l.take i, (x.2.1.size : Int) ≤ bytes) l.length ⟨rfl, 0, by omega, by omega, rfl, by simp⟩ ?_
  rintro k z L ⟨rfl, i, hi, rfl, rfl, hall⟩
  dsimp only
  refine ifb_of (fun (hlt : (i : Int) < v.len) => ?_) (fun (hge : ¬ (i : Int) < v.len) => ?_)
  · have hi' : i < l.length := by omega
    refine ifb_of (fun (hle : (i : Int) ≤ most) => ?_) (fun (hle : ¬ (i : Int) ≤ most) => .of ⟨rfl, _, rfl, fun hb => ?_⟩)
    · refine elp_el pa_len (by decide) h (n := i) rfl hi' fun a ha => ld_of l[i].2.1 (ha.one 1 rfl) ?_
      refine ifb_of (fun (h3 : (l[i].2.1.size : Int) > bytes) => .of ⟨rfl, false, rfl, fun h => by cases h⟩) (fun (h3 : ¬ (l[i].2.1.size : Int) > bytes) => ?_)
      refine ld_of l[i].2.2.1 (ha.one 2 rfl) ?_
      refine ifb_of (fun _ => .of ⟨rfl, false, rfl, fun h => by cases h⟩) (fun _ => ?_)
      refine w64_of (by omega) ⟨l.length - (i + 1), by omega, rfl, i + 1, by omega, rfl, rfl, fun x hx => ?_⟩
      rw [List.take_succ_eq_append_getElem hi'] at hx
      rcases List.mem_append.1 hx with hx | hx
      · exact hall x hx
      · rw [List.mem_singleton.1 hx]; omega
    · have := of_decide_eq_true hb
      omega
  · obtain rfl : i = l.length := by omega
    rw [List.take_length] at hall
    refine .of ⟨rfl, _, rfl, fun hb => ⟨?_, hall⟩⟩
    have := of_decide_eq_true hb
    omega
theorem same6_rd (L : HList) (v w : SlV) (l : BL) (hv : Sl L v 1 (l.flatMap strE)) (hw : Sl L w 1 (l.flatMap strE)) (hl : l.length ≤ 9223372036854775807) : Reads PP 35 #[.slice v.a v.len v.cap, .slice w.a w.len w.cap] L (.bool true) := by
  unfold Reads
  refine c35 v w ?_
  unfold s35
  have hvl := hv.els_len strE_len (by decide)
  have hwl := hw.els_len strE_len (by decide)
  refine ifP (show (v.len : Int) = w.len by omega) ?_
  refine lp_of (fun k z L' => L' = L ∧ ∃ i : Nat, i ≤ l.length ∧ k = l.length - i ∧ z = ((i : Int), ())) l.length ⟨rfl, 0, by omega, by omega, rfl⟩ ?_
  rintro k z L ⟨rfl, i, hi, rfl, rfl⟩
  dsimp only
  refine ifb_of (fun (hlt : (i : Int) < v.len) => ?_) (fun (hge : ¬ (i : Int) < v.len) => .of ⟨rfl, rfl⟩)
  have hi' : i < l.length := by omega
  refine elp_el strE_len (by decide) hv (n := i) rfl hi' fun a ha => elp_el strE_len (by decide) hw (n := i) rfl hi' fun b hb => ?_
  refine ld_of l[i] ha (ld_of l[i] hb (ifP rfl (w64_of (by omega) ⟨l.length - (i + 1), by omega, rfl, i + 1, by omega, rfl, rfl⟩)))
/-- What holds all along. -/
structure GI (st : PSt) (i : Nat) : Prop where
  len : st.length ≤ i
  nd : (pkeys st).Nodup
  all : ∀ x ∈ st, x.may.length ≤ i + 1 ∧ x.key.size ≤ 300
theorem GI.map {st : PSt} {i : Nat} (h : GI st i) (f : K1 → K1) (hf : ∀ x, (f x).key = x.key ∧ (f x).may.length ≤ max (x.may.length + 1) 1) : GI (st.map f) (i + 1) := by
  refine ⟨by have := h.len; rw [List.length_map]; omega, ?_, fun x hx => ?_⟩
  · have := h.nd
    unfold pkeys at this ⊢
    rwa [List.map_map, show (K1.key ∘ f) = K1.key from funext fun x => (hf x).1]
  · obtain ⟨y, hy, rfl⟩ := List.mem_map.1 hx
    have h1 := h.all y hy
    have h2 := hf y
    rw [h2.1]
    exact ⟨by omega, h1.2⟩
theorem GI.upd {st : PSt} {i : Nat} (h : GI st i) (k : ByteArray) (f : K1 → K1) (hf : ∀ x, (f x).key = x.key ∧ (f x).may.length ≤ max (x.may.length + 1) 1) : GI (pupd st k f) (i + 1) := by
  unfold pupd
  refine h.map _ fun x => ?_
  split
  · exact hf x
  · exact ⟨rfl, by omega⟩
theorem GI.le {st : PSt} {i : Nat} (h : GI st i) : GI st (i + 1) := ⟨by have := h.len; omega, h.nd, fun x hx => ⟨by have := (h.all x hx).1; omega, (h.all x hx).2⟩⟩
theorem GI.put {st : PSt} {i : Nat} (h : GI st i) (k v : ByteArray) (hk : k.size ≤ 300) : GI (pput st k v) (i + 1) := by
  unfold pput
  split
  · refine h.upd k _ fun x => ⟨rfl, ?_⟩
    unfold K1.put
    simp only [List.length_append, List.length_cons, List.length_nil]
    omega
  · rename_i hn
    have h1 : pfind st k = none := by
      cases e : pfind st k with
      | none => rfl
      | some x => rw [e] at hn; exact absurd rfl hn
    refine ⟨by have := h.len; simp only [List.length_append, List.length_cons, List.length_nil]; omega, ?_, fun x hx => ?_⟩
    · unfold pkeys
      rw [List.map_append, List.nodup_append]
      refine ⟨h.nd, by simp, fun x hx y hy e => ?_⟩
      simp only [List.map_cons, List.map_nil, List.mem_singleton] at hy
      subst hy; subst e
      exact pfind_none h1 hx
    · rcases List.mem_append.1 hx with hx | hx
      · exact ⟨by have := (h.all x hx).1; omega, (h.all x hx).2⟩
      · rw [List.mem_singleton.1 hx]
        exact ⟨by simp, hk⟩
theorem GI.del {st : PSt} {i : Nat} (h : GI st i) (k : ByteArray) : GI (pdel st k) (i + 1) := h.upd k _ fun x => ⟨rfl, by unfold K1.del; simp only; omega⟩
theorem GI.flush {st : PSt} {i : Nat} (h : GI st i) : GI (pflush st) (i + 1) := h.map _ fun x => ⟨rfl, by unfold K1.settle; simp only; split <;> simp⟩
theorem GI.crash {st : PSt} {i : Nat} (h : GI st i) (k v : ByteArray) (t : Bool) : GI (pcrash st k v t).2 (i + 1) := by
  unfold pcrash
  split
  · exact h.le
  · split
    · split
      · exact h.upd k _ fun x => ⟨rfl, by unfold K1.only; simp only [List.length_cons, List.length_nil]; omega⟩
      · exact h.le
    · exact h.del k
def bA : ByteArray := ByteArray.mk #[97]
def bB : ByteArray := ByteArray.mk #[66]
def b1 : ByteArray := ByteArray.mk #[49]
def b2 : ByteArray := ByteArray.mk #[50]
def bX : ByteArray := ByteArray.mk #[120]
def bE : ByteArray := ByteArray.mk #[]
def ps1 : PSt := pput [] bA b1
def ps2 : PSt := pput ps1 bA b2
def ps3 : PSt := (pcrash ps2 bA b1 true).2
def ps4 : PSt := pput ps3 bA b2
def ps5 : PSt := pflush ps4
def ps6 : PSt := (pcrash ps5 bA b1 true).2
def ps7 : PSt := pput ps6 bB bX
def ps8 : PSt := pdel ps7 bB
def ps9 : PSt := (pcrash ps8 bB bX true).2
theorem keys9 {l : BL} (hp : l.Perm (pkeys ps9)) (hs : Srt l 0 l.length) : l = [bB, bA] := by
  have e : pkeys ps9 = [bA, bB] := by kernel_rfl
  rw [e] at hp
  have h2 : l.Perm [bB, bA] := hp.trans (List.Perm.swap bB bA [])
  refine srt_uniq h2 hs (pw_srt ?_)
  refine List.Pairwise.cons (fun y hy => ?_) (List.pairwise_singleton _ _)
  rw [List.mem_singleton.1 hy]
  show lt bA bB = false
  kernel_rfl
theorem plains_rd (L : HList) : Reads PP 23 #[] L (.bool true) := by
  unfold Reads
  refine c23 ?_
  unfold s23
  refine cl_pm (A := []) (R := L) pnew_cl (List.Perm.refl _) ?_
  rintro _ A1 ⟨m, rfl, h⟩
  refine ⟨_, List.Perm.refl _, (some ⟨m, 0, none⟩, ()), rfl, ?_⟩
  dsimp only
  have sub : ∀ {A X : HList}, ∀ x ∈ A, x ∈ A ++ X := fun x hx => List.mem_append_left _ hx
  refine cl_pm (pput_cl m _ A1 h bA b1) (List.Perm.refl _) ?_
  rintro _ A2 ⟨rfl, h⟩
  refine ⟨_, List.Perm.refl _, (), rfl, ?_⟩
  refine cl_pm (pput_cl m _ A2 h bA b2) (List.Perm.refl _) ?_
  rintro _ A3 ⟨rfl, h⟩
  refine ⟨_, List.Perm.refl _, (), rfl, ?_⟩
  refine cl_rd (pmay_rd m ps2 A3 _ h sub bA b2 true) (true, ()) (congrArg Value.bool (show pmay ps2 bA b2 true = true by kernel_rfl)) ?_
  refine cl_rd (pmay_rd m ps2 A3 _ h sub bA b1 true) (false, ()) (congrArg Value.bool (show pmay ps2 bA b1 true = false by kernel_rfl)) ?_
  refine cl_pm (pcrash_cl m ps2 A3 h bA b1 true) (List.Perm.refl _) ?_
  rintro _ A4 ⟨rfl, h⟩
  refine ⟨_, List.Perm.refl _, (true, ()), congrArg Value.bool (show (pcrash ps2 bA b1 true).1 = true by kernel_rfl), ?_⟩
  refine cl_rd (pmay_rd m ps3 A4 _ h sub bA b1 true) (true, ()) (congrArg Value.bool (show pmay ps3 bA b1 true = true by kernel_rfl)) ?_
  refine cl_pm (pput_cl m ps3 A4 h bA b2) (List.Perm.refl _) ?_
  rintro _ A5 ⟨rfl, h⟩
  refine ⟨_, List.Perm.refl _, (), rfl, ?_⟩
  refine cl_pm (pflush_cl m ps4 A5 h (by decide +kernel)) (List.Perm.refl _) ?_
  rintro _ A6 ⟨rfl, h⟩
  refine ⟨_, List.Perm.refl _, (), rfl, ?_⟩
  refine cl_pm (pcrash_cl m ps5 A6 h bA b1 true) (List.Perm.refl _) ?_
  rintro _ A7 ⟨rfl, h⟩
  refine ⟨_, List.Perm.refl _, (false, ()), congrArg Value.bool (show (pcrash ps5 bA b1 true).1 = false by kernel_rfl), ?_⟩
  refine cl_pm (pput_cl m ps6 A7 h bB bX) (List.Perm.refl _) ?_
  rintro _ A8 ⟨rfl, h⟩
  refine ⟨_, List.Perm.refl _, (), rfl, ?_⟩
  refine cl_pm (pdel_cl m ps7 A8 h bB) (List.Perm.refl _) ?_
  rintro _ A9 ⟨rfl, h⟩
  refine ⟨_, List.Perm.refl _, (), rfl, ?_⟩
  refine cl_of (pput_nil _ bA b1) ?_
  rintro _ L2 - ⟨rfl, rfl⟩
  refine ⟨(), rfl, ifT rfl (ifF rfl (ifT rfl (ifT rfl (ifF rfl ?_))))⟩
  refine cl_rd (pmay_rd m ps8 A9 _ h sub bB bE false) (true, ()) rfl (ifT rfl ?_)
  refine cl_rd (pmay_rd m ps8 A9 _ h sub bB bX true) (false, ()) (congrArg Value.bool (show pmay ps8 bB bX true = false by kernel_rfl)) (ifF rfl ?_)
  refine cl_pm (pcrash_cl m ps8 A9 h bB bX true) (List.Perm.refl _) ?_
  rintro _ A10 ⟨rfl, h⟩
  refine ⟨_, List.Perm.refl _, (true, ()), congrArg Value.bool (show (pcrash ps8 bB bX true).1 = true by kernel_rfl), ifT rfl ?_⟩
  refine cl_pm (pkeys_cl m ps9 A10 h (by decide +kernel)) (List.Perm.refl _) ?_
  rintro _ _ ⟨v, l, seg, rfl, rfl, o, hp, hs⟩
  refine ⟨_, List.Perm.refl _, (v, ()), rfl, ?_⟩
  obtain rfl := keys9 hp hs
  refine nw_of fun n1 _ => ?_
  refine cl_rd (same6_rd _ v ⟨some ⟨n1, 0, none⟩, 2, 2⟩ [bB, bA] ((Own.sl o).mono fun x hx => by simp [hx]) ?_ (by decide)) (true, ()) rfl (ifT rfl ?_)
  · exact ⟨rfl, Nat.le_refl _, .inr ⟨⟨n1, 0, none⟩, rfl, ldB (c := #[.string bB, .string bA]) (T := 9) (fz := (0, 0)) List.mem_cons_self rfl⟩⟩
  refine cl_rd (pmay_nil _ bA bE false) (true, ()) rfl (ifT rfl ?_)
  refine cl_rd (pcrash_nil _ bA b1 true) (false, ()) rfl (ifF rfl ?_)
  refine cl_rd (pkeysn_nil _) (⟨none, 0, 0⟩, ()) rfl ?_
  exact .drop (A := L) (J := (n1, Obj.cells #[.string (ByteArray.mk #[66]), .string (ByteArray.mk #[97])] 9) :: (seg ++ A10)) ⟨rfl, rfl⟩ (pc fun z => by simp only [cnt_a, cnt_c]; omega)
theorem law_PlainDoes (L : HList) (v : SlV) (l : List PA) (h : Sl L v 4 (l.flatMap paEnc)) (hl : l.length ≤ 9223372036854775807) : Reads PP 5 #[.slice v.a v.len v.cap] L (.bool true) := by
  unfold Reads
  refine c5 v ?_
  unfold s5
  have hvl := h.els_len pa_len (by decide)
  refine cl_of (pfew_cl L v l h hl 300 300) ?_
  rintro _ L0 - ⟨hL0, bb, rfl, hb⟩
  rw [hL0]
  refine ⟨(bb, ()), rfl, ifB_of (fun (hbt : bb = true) => ?_) (fun _ => cl_rd (plains_rd L) (true, ()) rfl (.of ⟨rfl, rfl⟩))⟩
  obtain ⟨hlen, hks⟩ := hb hbt
  refine cl_pm (A := []) (R := L) pnew_cl (List.Perm.refl _) ?_
  rintro _ A0 ⟨m, rfl, hp0⟩
  refine ⟨_, List.Perm.refl _, (some ⟨m, 0, none⟩, ()), rfl, nw_of fun n _ => ?_⟩
  have hr0 : RPH n [] [(n, Obj.cells #[.slice none 0 0] 60)] := ⟨⟨none, 0, 0⟩, [], [], ⟨rfl, own_nil, by simp⟩, rfl⟩
  refine lp_of (fun z' z L' => ∃ (i : Nat) (st : PSt) (A B J : HList), z = ((i : Int), ()) ∧ z' = l.length - i ∧ i ≤ l.length ∧ L'.Perm (A ++ (B ++ (L ++ J))) ∧ PH m st A ∧ RPH n st B ∧ GI st i) l.length
    ⟨0, [], A0, _, [], rfl, rfl, by omega, (pc fun z => by simp only [cnt_a, cnt_c, cnt_n]; omega), hp0, hr0, ⟨by simp, List.nodup_nil, by simp⟩⟩ ?_
  rintro z' z L1 ⟨i, st, A, B, J, rfl, rfl, hi, hp, hA, hB, g⟩
  dsimp only
  refine ifb_of (fun (hlt : (i : Int) < v.len) => ?_) (fun (hge : ¬ (i : Int) < v.len) => ?_)
  · have hi' : i < l.length := by omega
    have hLL : ∀ x ∈ L, x ∈ L1 := fun x hx => hp.symm.subset (by simp [hx])
    have hBL : ∀ x ∈ B, x ∈ L1 := fun x hx => hp.symm.subset (by simp [hx])
    have hAL : ∀ x ∈ A, x ∈ L1 := fun x hx => hp.symm.subset (by simp [hx])
    have hkz := hks _ (List.getElem_mem hi')
    refine elp_el pa_len (by decide) (h.mono hLL) (n := i) rfl hi' fun a ha => ?_
    generalize l[i] = x at ha hkz
    refine ld_of (sh := .agg [.int .i64, .str, .str, .bool]) x ha ?_
    have hll : l.length ≤ 300 := by omega
    have g60 : st.length ≤ 60000 := by have := g.len; omega
    have m60 : ∀ x ∈ st, x.may.length ≤ 60000 := fun x hx => by have := (g.all x hx).1; omega
    refine jn_of (fun (y : RsV [.lf .bool, .lf .bool]) L' => ∃ (b : Bool) (st : PSt) (A B J : HList), y = (b, b, ()) ∧ L'.Perm (A ++ (B ++ (L ++ J))) ∧ PH m st A ∧ RPH n st B ∧ GI st (i + 1)) ?_ ?_
    · rintro _ L2 ⟨b, st, A, B, J, rfl, hp, hA, hB, g⟩
      dsimp only
      refine ifF (by simp) ?_
      have g60 : st.length ≤ 60000 := by have := g.len; omega
      refine cl_pm (pkeys_cl m st A hA g60) hp ?_
      rintro _ _ ⟨v1, l1, sg1, rfl, rfl, o1, hp1, hs1⟩
      refine ⟨B ++ (sg1 ++ (A ++ (L ++ J))), pc fun z => by simp only [cnt_a]; omega, (v1, ()), rfl, ?_⟩
      refine cl_pm (rpkeys_cl n st B hB g60 (fun x hx => by have := (g.all x hx).2; omega)) (List.Perm.refl _) ?_
      rintro _ _ ⟨v2, l2, sg2, rfl, rfl, o2, hp2, hs2⟩
      refine ⟨_, List.Perm.refl _, (v2, ()), rfl, ?_⟩
      obtain rfl := srt_uniq (hp1.trans hp2.symm) hs1 hs2
      have hll1 : l1.length = st.length := by rw [hp1.length_eq]; unfold pkeys; rw [List.length_map]
      refine cl_rd (same6_rd _ v1 v2 l1 ((Own.sl o1).mono fun x hx => by simp [hx]) ((Own.sl o2).mono fun x hx => by simp [hx]) (by omega)) (true, ()) rfl (ifT rfl (w64_of (by omega) ?_))
      exact ⟨l.length - (i + 1), by omega, i + 1, st, A, B, sg1 ++ (sg2 ++ J), rfl, rfl, by omega, pc fun z => by simp only [cnt_a]; omega, hA, hB, g⟩
    · intro j hj
      refine ifb_of (fun _ => ?_) (fun _ => ?_)
      · refine cl_pm (pput_cl m st A hA x.2.1 x.2.2.1) hp ?_
        rintro _ A' ⟨rfl, hA'⟩
        refine ⟨B ++ (A' ++ (L ++ J)), pc fun z => by simp only [cnt_a]; omega, (), rfl, ?_⟩
        refine cl_pm (rpput_cl n st B hB g.nd g60 m60 x.2.1 x.2.2.1) (List.Perm.refl _) ?_
        rintro _ B' ⟨rfl, hB'⟩
        exact ⟨_, List.Perm.refl _, (), rfl, hj _ _ ⟨true, _, A', B', J, rfl, pc fun z => by simp only [cnt_a]; omega, hA', hB', g.put _ _ (by omega)⟩⟩
      refine ifb_of (fun _ => ?_) (fun _ => ?_)
      · refine cl_pm (pdel_cl m st A hA x.2.1) hp ?_
        rintro _ A' ⟨rfl, hA'⟩
        refine ⟨B ++ (A' ++ (L ++ J)), pc fun z => by simp only [cnt_a]; omega, (), rfl, ?_⟩
        refine cl_pm (rpdel_cl n st B hB g.nd g60 x.2.1) (List.Perm.refl _) ?_
        rintro _ B' ⟨rfl, hB'⟩
        exact ⟨_, List.Perm.refl _, (), rfl, hj _ _ ⟨true, _, A', B', J, rfl, pc fun z => by simp only [cnt_a]; omega, hA', hB', g.del _⟩⟩
      refine ifb_of (fun _ => ?_) (fun _ => ?_)
      · refine cl_pm (pflush_cl m st A hA g60) hp ?_
        rintro _ A' ⟨rfl, hA'⟩
        refine ⟨B ++ (A' ++ (L ++ J)), pc fun z => by simp only [cnt_a]; omega, (), rfl, ?_⟩
        refine cl_pm (rpflush_cl n st B hB g60) (List.Perm.refl _) ?_
        rintro _ B' ⟨rfl, hB'⟩
        exact ⟨_, List.Perm.refl _, (), rfl, hj _ _ ⟨true, _, A', B', J, rfl, pc fun z => by simp only [cnt_a]; omega, hA', hB', g.flush⟩⟩
      refine ifb_of (fun _ => ?_) (fun _ => ?_)
      · refine cl_rd (pmay_rd m st A L1 hA hAL x.2.1 x.2.2.1 x.2.2.2.1) (pmay st x.2.1 x.2.2.1 x.2.2.2.1, ()) rfl ?_
        refine cl_rd (rpmay_rd n st B L1 hB hBL g60 x.2.1 x.2.2.1 x.2.2.2.1) (pmay st x.2.1 x.2.2.1 x.2.2.2.1, ()) rfl ?_
        exact hj _ _ ⟨_, st, A, B, J, rfl, hp, hA, hB, g.le⟩
      · refine cl_pm (pcrash_cl m st A hA x.2.1 x.2.2.1 x.2.2.2.1) hp ?_
        rintro _ A' ⟨rfl, hA'⟩
        refine ⟨B ++ (A' ++ (L ++ J)), pc fun z => by simp only [cnt_a]; omega, ((pcrash st x.2.1 x.2.2.1 x.2.2.2.1).1, ()), rfl, ?_⟩
        refine cl_pm (rpcrash_cl n st B hB g.nd g60 m60 x.2.1 x.2.2.1 x.2.2.2.1) (List.Perm.refl _) ?_
        rintro _ B' ⟨rfl, hB'⟩
        exact ⟨_, List.Perm.refl _, ((pcrash st x.2.1 x.2.2.1 x.2.2.2.1).1, ()), rfl, hj _ _ ⟨_, _, A', B', J, rfl, pc fun z => by simp only [cnt_a]; omega, hA', hB', g.crash _ _ _⟩⟩
  · refine cl_rd (plains_rd L1) (true, ()) rfl (.drop (A := L) (J := A ++ (B ++ J)) ⟨rfl, rfl⟩ (pc fun z => by have := pcn hp z; simp only [cnt_a] at *; omega))
abbrev paWf (x : PA) : Prop := intWf .i64 x.1 ∧ x.2.1.size ≤ maxLen ∧ x.2.2.1.size ≤ maxLen ∧ True ∧ True
theorem row_PlainDoes (W : World) (a0 : SlV) (l0 : List PA) (w0 : SlOk W paEnc paWf 4 (a0, l0)) :
    Reads PP 5 #[.slice a0.a a0.len a0.cap] (allB W) (.bool true) :=
  law_PlainDoes _ a0 l0 w0.sl (by have h1 := w0.len; have h2 := w0.sl.cap; have h3 := w0.cap; simp only at *; rw [← h1]; exact Nat.le_trans h2 (Nat.le_trans h3 (by decide)))
end Go.Proofs.Ytlabcgnegbdlfaa
