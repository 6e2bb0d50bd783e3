/-
  It is proved what the functions of the layer ghost and of its document's answer compute: set, Drop, Add, Has. There are no further conditions than those that each theorem names.
-/
import Derived.Test.YtnhpojbjkfgeoaaGhost
set_option linter.unusedVariables false
set_option linter.unusedSimpArgs false
namespace Go.Proofs.Ytnhpojbjkfgeoaa
open Go.HL

theorem set_cl (n : Nat) (room : Int) (l0 l : List Int) (o : Obj) (h : GOb room l0 o) (v : SlV) (seg : HList) (hs : ISl seg v .u64 l) (hl : l.length ≤ 64) :
    CallF PP 63 #[.pointer (some ⟨n, 0, none⟩), .slice v.a v.len v.cap] ((n, o) :: seg) fun r L' => r = .tuple #[] ∧ ∃ o', L' = (n, o') :: seg ∧ GOb room l o' := by
  refine CallF.of (args := [.pointer (some ⟨n, 0, none⟩), .slice v.a v.len v.cap]) noNum mixed Try.func63 (e63 (some ⟨n, 0, none⟩) v _) ?_
  unfold t63
  obtain ⟨c, f, rfl, hsz, h0, h65, h66, hf, hl0, hr⟩ := h
  have hlen := hs.len
  refine nilc_of rfl (slc_of (l' := 0) (h' := 64) (m' := 64) rfl rfl rfl (by omega) (by omega) (Nat.le_refl _) ?_)
  have hmin : min v.len 64 = l.length := by omega
  have htk : (ivs .u64 l).take (min v.len 64 * 1) = ivs .u64 l := by rw [hmin]; exact List.take_of_length_le (by rw [ivs_length]; omega)
  refine copy_of (A := []) (B := seg) (b := n) (off := 1) (T := 87) (fz := (0, 0)) (c := c) (v := slcV ⟨some (Addr.add ⟨n, 0, none⟩ 1), 64, 64⟩ (0 : Nat) (64 : Nat) (64 : Nat) 1) (vs := v) (ws := ivs .u64 l) (sz := 1) elemU.und (by kernel_rfl) rfl hs.cons (ivs_plain _ _) ?_ (.inl (Nat.le_refl _)) ?_
  · simp only [slcV, Int.toNat_natCast]; omega
  · have hvl : (slcV ⟨some (Addr.add ⟨n, 0, none⟩ 1), 64, 64⟩ (0 : Nat) (64 : Nat) (64 : Nat) 1).len = 64 := rfl
    rw [hvl, htk, hmin]
    have w1 := wr_get (ivs .u64 l) c 1
    have w1s := wr_size (ivs .u64 l) c 1
    generalize wr c 1 (ivs .u64 l) = c1 at w1 w1s ⊢
    refine nilc_of rfl (st_of (n := n) (off := 65) [] seg rfl rfl (by rw [w1s, hsz]; exact (show 66 ≤ 67 by decide)) (.inl (Nat.le_refl _)) (c1.setIfInBounds 65 (.int .i64 0)) rfl ?_)
    refine nilc_of rfl (st_of (n := n) (off := 66) [] seg rfl rfl (by rw [Array.size_setIfInBounds, w1s, hsz]; exact Nat.le_refl 67) (.inl (Nat.le_refl _)) ((c1.setIfInBounds 65 (.int .i64 0)).setIfInBounds 66 (.int .i64 l.length)) rfl ?_)
    rw [ivs_length] at w1
    refine .of ⟨rfl, _, rfl, _, 0, rfl, by simp [w1s, hsz], ?_, ?_, ?_, by omega, hl, ?_⟩
    · rw [set_get _ _ _ _ (by rw [Array.size_setIfInBounds]; omega), set_get _ _ _ _ (by omega), if_neg (by omega), if_neg (by omega), w1 _ (by omega), if_neg (by omega)]; exact h0
    · rw [set_get _ _ _ _ (by rw [Array.size_setIfInBounds]; omega), set_get _ _ _ _ (by omega), if_neg (by omega), if_pos rfl]; rfl
    · rw [set_get _ _ _ _ (by rw [Array.size_setIfInBounds]; omega), if_pos rfl]
    · intro i x hx
      have hi := (List.getElem?_eq_some_iff.1 hx).1
      have hm : (0 + i) % 64 = i := by omega
      rw [hm, set_get _ _ _ _ (by rw [Array.size_setIfInBounds]; omega), set_get _ _ _ _ (by omega), if_neg (by omega), if_neg (by omega), w1 _ (by omega), if_pos (by omega), show 1 + i - 1 = i by omega]
      rw [List.getElem?_eq_getElem hi] at hx
      rw [ivs_get hi, Option.some.inj hx]

theorem drop_cl (n : Nat) (room : Int) (l : List Int) (o : Obj) (h : GOb room l o) (x : Int) :
    CallF PP 46 #[.pointer (some ⟨n, 0, none⟩), .int .u64 x] [(n, o)] fun r L' => r = .bool (decide (x ∈ l)) ∧ ∃ o', L' = [(n, o')] ∧ GOb room (l.erase x) o' := by
  refine CallF.of (args := [.pointer (some ⟨n, 0, none⟩), .int .u64 x]) noNum mixed Try.func46 (e46 (some ⟨n, 0, none⟩) x _) ?_
  unfold t46
  have hl : l.length ≤ 64 := by obtain ⟨_, _, _, _, _, _, _, _, hl, _⟩ := h; exact hl
  refine ifF rfl ?_
  refine cl_in [] [] (all_cl n room l o h) rfl ?_
  rintro w A' - ⟨s, seg, rfl, rfl, own⟩
  refine ⟨(s, ()), rfl, ?_⟩
  refine cl_in [(n, o)] [] (place_cl seg s l own.sl (by omega) x) (by simp) ?_
  rintro w A' - ⟨rfl, i, rfl, hst⟩
  refine ⟨(i, ()), rfl, ?_⟩
  refine ifD_of (fun (h1 : i < 0) => ?_) (fun (h1 : ¬ i < 0) => ?_)
  · have hx : x ∉ l := fun e => by have := hst.mem.2 e; omega
    refine .drop (A := [(n, o)]) (J := A') ⟨by rw [decide_eq_false hx], o, rfl, by rw [List.erase_of_not_mem hx]; exact h⟩ (by simp)
  · rcases hst with ⟨rfl, _⟩ | ⟨k, rfl, hk, hx, hn⟩
    · omega
    · have hw : IntKind.i64.wrap ((k : Int) + 1) = (k : Int) + 1 := w64_id (by omega) (by omega)
      simp only [hw]
      refine cl_in [(n, o)] [] (del_cl s l A' own (by omega) k hk) (by simp) ?_
      rintro w A2 - ⟨s2, rfl, own2⟩
      rw [← Stands.erase hk hx hn] at own2
      refine ⟨(s2, ()), rfl, ?_⟩
      have hle := erase_len l x
      refine cl_in [] [] (set_cl n room l (l.erase x) o h s2 A2 own2.sl (by omega)) (by simp) ?_
      rintro w A3 - ⟨rfl, o', rfl, ho'⟩
      refine ⟨(), rfl, ?_⟩
      have hxl : x ∈ l := List.mem_of_getElem? hx
      exact .drop (A := [(n, o')]) (J := A2) ⟨by rw [decide_eq_true hxl], o', rfl, ho'⟩ (by simp)
theorem drop_nil (L : HList) (x : Int) : Reads PP 46 #[.pointer none, .int .u64 x] L (.bool false) := by
  refine Reads.of (args := [.pointer none, .int .u64 x]) noNum mixed Try.func46 (e46 none x _) ?_
  unfold t46
  exact ifT rfl (.of ⟨rfl, rfl⟩)
theorem has_cl (n : Nat) (room : Int) (l : List Int) (o : Obj) (h : GOb room l o) (x : Int) :
    Reads PP 51 #[.pointer (some ⟨n, 0, none⟩), .int .u64 x] [(n, o)] (.bool (decide (x ∈ l))) := by
  refine Reads.of (args := [.pointer (some ⟨n, 0, none⟩), .int .u64 x]) noNum mixed Try.func51 (e51 (some ⟨n, 0, none⟩) x _) ?_
  unfold t51
  have hl : l.length ≤ 64 := by obtain ⟨_, _, _, _, _, _, _, _, hl, _⟩ := h; exact hl
  refine ifT rfl ?_
  refine cl_in [] [] (all_cl n room l o h) rfl ?_
  rintro w A' - ⟨s, seg, rfl, rfl, own⟩
  refine ⟨(s, ()), rfl, ?_⟩
  refine cl_in [(n, o)] [] (place_cl seg s l own.sl (by omega) x) (by simp) ?_
  rintro w A' - ⟨rfl, i, rfl, hst⟩
  refine ⟨(i, ()), rfl, .drop (A := [(n, o)]) (J := A') ⟨?_, rfl⟩ (by simp)⟩
  congr 1
  exact decide_eq_decide.2 hst.mem
theorem has_nil (L : HList) (x : Int) : Reads PP 51 #[.pointer none, .int .u64 x] L (.bool false) := by
  refine Reads.of (args := [.pointer none, .int .u64 x]) noNum mixed Try.func51 (e51 none x _) ?_
  unfold t51
  exact ifF rfl (.of ⟨rfl, rfl⟩)
theorem len_rd (n : Nat) (room : Int) (l : List Int) (o : Obj) (h : GOb room l o) : Reads PP 50 #[.pointer (some ⟨n, 0, none⟩)] [(n, o)] (.int .i64 l.length) := by
  refine Reads.of (args := [.pointer (some ⟨n, 0, none⟩)]) noNum mixed Try.func50 (e50 (some ⟨n, 0, none⟩) _) ?_
  unfold t50
  obtain ⟨c, f, rfl, hsz, h0, h65, h66, hf, hl0, hr⟩ := h
  exact ifF rfl (nilc_of rfl (ld_of (l.length : Int) (ldC List.mem_cons_self h66) (.of ⟨rfl, rfl⟩)))
theorem len_nil (L : HList) : Reads PP 50 #[.pointer none] L (.int .i64 0) := by
  refine Reads.of (args := [.pointer none]) noNum mixed Try.func50 (e50 none _) ?_
  unfold t50
  exact ifT rfl (.of ⟨rfl, rfl⟩)
theorem add_nil (L : HList) (x : Int) : Reads PP 48 #[.pointer none, .int .u64 x] L (.tuple #[]) := by
  refine Reads.of (args := [.pointer none, .int .u64 x]) noNum mixed Try.func48 (e48 none x _) ?_
  unfold t48
  exact ifT rfl (.of ⟨rfl, rfl⟩)

/-- The ring with one more behind. -/
theorem ring_push {room : Int} {l : List Int} {c : Array Value} {f : Nat} (hsz : c.size = 67) (h0 : c[0]? = some (.int .i64 room)) (h65 : c[65]? = some (.int .i64 f)) (hf : f < 64) (hl : l.length < 64)
    (hr : ∀ (i : Nat) (x : Int), l[i]? = some x → c[1 + (f + i) % 64]? = some (.int .u64 x)) (x : Int) :
    GOb room (l ++ [x]) (.cells ((c.setIfInBounds (1 + (f + l.length) % 64) (.int .u64 x)).setIfInBounds 66 (.int .i64 ((l.length : Int) + 1))) 87) := by
  have hm : (f + l.length) % 64 < 64 := Nat.mod_lt _ (by omega)
  refine ⟨_, f, rfl, by simp [hsz], ?_, ?_, ?_, hf, by rw [List.length_append]; simp only [List.length_cons, List.length_nil]; omega, ?_⟩
  · rw [set_get _ _ _ _ (by simp [hsz]), set_get _ _ _ _ (by omega), if_neg (by omega), if_neg (by omega)]; exact h0
  · rw [set_get _ _ _ _ (by simp [hsz]), set_get _ _ _ _ (by omega), if_neg (by omega), if_neg (by omega)]; exact h65
  · rw [set_get _ _ _ _ (by simp [hsz]), if_pos rfl, List.length_append]; rfl
  · intro i y hy
    have hmi : (f + i) % 64 < 64 := Nat.mod_lt _ (by omega)
    have hi := (List.getElem?_eq_some_iff.1 hy).1
    rw [List.length_append] at hi
    simp only [List.length_cons, List.length_nil] at hi
    rw [set_get _ _ _ _ (by simp [hsz]), if_neg (by omega), set_get _ _ _ _ (by omega)]
    by_cases he : i = l.length
    · subst he
      rw [if_pos rfl]
      simp at hy
      rw [hy]
    · rw [if_neg (by omega)]
      rw [List.getElem?_append_left (by omega)] at hy
      exact hr i y hy
theorem add_cl (n : Nat) (room : Int) (l : List Int) (o : Obj) (h : GOb room l o) (h1 : (l.length : Int) ≤ room) (h2 : room ≤ 64) (x : Int) :
    CallF PP 48 #[.pointer (some ⟨n, 0, none⟩), .int .u64 x] [(n, o)] fun r L' => r = .tuple #[] ∧ ∃ o', L' = [(n, o')] ∧ GOb room (gAdd room l x) o' := by
  refine CallF.of (args := [.pointer (some ⟨n, 0, none⟩), .int .u64 x]) noNum mixed Try.func48 (e48 (some ⟨n, 0, none⟩) x _) ?_
  unfold t48
  have hroom : LdAt ⟨n, 0, none⟩ [.int .i64 room] [(n, o)] := by
    obtain ⟨c, f, rfl, hsz, h0, _⟩ := h
    exact ldC List.mem_cons_self h0
  refine ifF rfl (nilc_of rfl (ld_of room hroom ?_))
  refine ifE_of (fun (he : room = 0) => ?_) (fun (hne : room ≠ 0) => ?_)
  · have hl : l = [] := List.length_eq_zero_iff.1 (by omega)
    subst hl he
    exact .of ⟨rfl, o, rfl, h⟩
  refine cl_in [] [] (drop_cl n room l o h x) rfl ?_
  rintro w A' - ⟨rfl, o1, rfl, ho1⟩
  refine ⟨(decide (x ∈ l), ()), rfl, ?_⟩
  have hel := erase_len l x
  unfold gAdd
  generalize l.erase x = e at ho1 hel ⊢
  clear hroom h
  have hle : ((e ++ [x]).length : Int) = e.length + 1 := by rw [List.length_append]; rfl
  rw [hle]
  refine jn_of (fun y L' => ∃ (c : Array Value) (f : Nat) (l' : List Int), L' = [(n, Obj.cells c 87)] ∧ c.size = 67 ∧ c[0]? = some (.int .i64 room) ∧ c[65]? = some (.int .i64 f) ∧ c[66]? = some (.int .i64 l'.length) ∧ f < 64 ∧ l'.length < 64 ∧
      (∀ (i : Nat) (x : Int), l'[i]? = some x → c[1 + (f + i) % 64]? = some (.int .u64 x)) ∧ l' ++ [x] = if ((e.length : Int) + 1) > room then (e ++ [x]).drop 1 else e ++ [x]) ?_ ?_
  · rintro y L' ⟨c, f, l', rfl, hsz, h0, h65, h66, hf, hl', hr, he⟩
    have hw : IntKind.i64.wrap ((f : Int) + l'.length) = ((f + l'.length : Nat) : Int) := by rw [w64_id (by omega) (by omega)]; omega
    have hmod : Int.tmod ((f + l'.length : Nat) : Int) 64 = (((f + l'.length) % 64 : Nat) : Int) := by rw [Int.tmod_eq_emod_of_nonneg (by omega)]; omega
    have hm : (f + l'.length) % 64 < 64 := Nat.mod_lt _ (by omega)
    refine nilc_of rfl (nilc_of rfl (nilc_of rfl (ld_of (f : Int) (ldC List.mem_cons_self h65) (ld_of (l'.length : Int) (ldC List.mem_cons_self h66) (req_of (by decide) ?_)))))
    simp only [hw, hmod, Int.toNat_natCast, Nat.mul_one]
    refine ixn_of (by omega) (by omega) (st_of (n := n) (off := 1 + (f + l'.length) % 64) [] [] (by rw [addr_add (ad := ⟨n, 0, none⟩) rfl, addr_add rfl, Nat.zero_add]) rfl (by simp only [List.length_cons, List.length_nil]; omega) (.inl (Nat.le_refl _)) _ rfl ?_)
    have g66 : (c.setIfInBounds (1 + (f + l'.length) % 64) (.int .u64 x))[66]? = some (.int .i64 l'.length) := by
      rw [set_get _ _ _ _ (by omega), if_neg (by omega)]; exact h66
    refine nilc_of rfl (ld_of (l'.length : Int) (ldC List.mem_cons_self g66) (nilc_of rfl (st_of (n := n) (off := 66) [] [] rfl rfl (by simp [hsz, wr_size]) (.inl (Nat.le_refl _)) _ rfl ?_)))
    refine .of ⟨rfl, _, rfl, ?_⟩
    rw [← he]
    have := ring_push hsz h0 h65 hf hl' hr x
    simp only [w64_id (n := (l'.length : Int) + 1) (by omega) (by omega)]
    exact this
  · intro j hj
    obtain ⟨c, f, rfl, hsz, h0, h65, h66, hf, hl', hr⟩ := ho1
    refine nilc_of rfl (nilc_of rfl (ld_of (e.length : Int) (ldC List.mem_cons_self h66) (ld_of room (ldC List.mem_cons_self h0) ?_)))
    refine ifE_of (fun (he : (e.length : Int) = room) => ?_) (fun (he : (e.length : Int) ≠ room) => ?_)
    · have hw : IntKind.i64.wrap ((f : Int) + 1) = ((f + 1 : Nat) : Int) := by rw [w64_id (by omega) (by omega)]; omega
      have hmod : Int.tmod ((f + 1 : Nat) : Int) 64 = (((f + 1) % 64 : Nat) : Int) := by rw [Int.tmod_eq_emod_of_nonneg (by omega)]; omega
      refine nilc_of rfl (ld_of (f : Int) (ldC List.mem_cons_self h65) (req_of (by decide) ?_))
      simp only [hw, hmod]
      refine nilc_of rfl (st_of (n := n) (off := 65) [] [] rfl rfl (by simp [hsz]) (.inl (Nat.le_refl _)) (c.setIfInBounds 65 (.int .i64 (((f + 1) % 64 : Nat) : Int))) rfl ?_)
      have g66 : (c.setIfInBounds 65 (.int .i64 (((f + 1) % 64 : Nat) : Int)))[66]? = some (.int .i64 e.length) := by
        rw [set_get _ _ _ _ (by omega), if_neg (by omega)]; exact h66
      refine nilc_of rfl (ld_of (e.length : Int) (ldC List.mem_cons_self g66) (nilc_of rfl (st_of (n := n) (off := 66) [] [] rfl rfl (by simp [hsz]) (.inl (Nat.le_refl _)) _ rfl (hj _ _ ?_))))
      cases e with
      | nil => simp at he; omega
      | cons a r =>
        have hlr : (((a :: r).length : Nat) : Int) = (r.length : Int) + 1 := by simp
        have hm : (f + 1) % 64 < 64 := Nat.mod_lt _ (by omega)
        simp only [List.length_cons] at hl' hel
        refine ⟨_, (f + 1) % 64, r, rfl, ?_, ?_, ?_, ?_, hm, by omega, ?_, ?_⟩
        · simp [wr_size, hsz]
        · show ((c.setIfInBounds 65 _).setIfInBounds 66 _)[0]? = _
          rw [set_get _ _ _ _ (by simp [hsz]), set_get _ _ _ _ (by omega), if_neg (by omega), if_neg (by omega)]; exact h0
        · show ((c.setIfInBounds 65 _).setIfInBounds 66 _)[65]? = _
          rw [set_get _ _ _ _ (by simp [hsz]), set_get _ _ _ _ (by omega), if_neg (by omega), if_pos rfl]
        · show ((c.setIfInBounds 65 _).setIfInBounds 66 _)[66]? = _
          rw [set_get _ _ _ _ (by simp [hsz]), if_pos rfl, hlr, w64_id (by omega) (by omega)]
          congr 2; omega
        · intro i y hy
          show ((c.setIfInBounds 65 _).setIfInBounds 66 _)[1 + ((f + 1) % 64 + i) % 64]? = _
          have hmi : ((f + 1) % 64 + i) % 64 < 64 := Nat.mod_lt _ (by omega)
          rw [set_get _ _ _ _ (by simp [hsz]), set_get _ _ _ _ (by omega), if_neg (by omega), if_neg (by omega)]
          have := hr (i + 1) y (by simpa using hy)
          rw [← this]
          congr 2
          omega
        · rw [if_pos (by omega)]; rfl
    · refine hj _ _ ⟨c, f, e, rfl, hsz, h0, h65, h66, hf, by omega, hr, ?_⟩
      rw [if_neg (by omega)]
end Go.Proofs.Ytnhpojbjkfgeoaa
