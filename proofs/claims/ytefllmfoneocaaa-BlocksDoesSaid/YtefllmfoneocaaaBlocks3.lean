/-
  It is proved what the program's blocks do: Spread, Oldest, Used, Opened, Erased, Spoilt. There are no further conditions than those that each theorem names.
-/
import Derived.Test.YtefllmfoneocaaaBlocks2
set_option linter.unusedVariables false
set_option linter.unusedSimpArgs false
namespace Go.Proofs.Ytefllmfoneocaaa
open Go.HL

/-- Was there any, the least and the greatest wear. -/
abbrev BSp := Bool × Int × Int
def spStep (s : BSp) (n : Int) (x : BS) : BSp := (true, imin (if s.1 = true then s.2.1 else x.wear) x.wear, imax (if s.1 = true then s.2.2 else x.wear) x.wear)
def bsp (ss : List BS) : BSp := eachF (bgood ss) spStep (false, 0, 0) ss
def bspread (ss : List BS) : Int := (bsp ss).2.2 - (bsp ss).2.1
def spObs (n3 n1 n2 : Nat) (s : BSp) : HList := [(n3, Obj.cells #[.bool s.1] 4), (n1, Obj.cells #[.int .i64 s.2.1] 3), (n2, Obj.cells #[.int .i64 s.2.2] 3)]
theorem spread1_cl (n3 n1 n2 : Nat) (s : BSp) (n : Int) (x : BS) :
    CallF PP 111 #[.int .i64 n, .agg #[.int .i64 x.wear, .bool x.bad, .bool x.dirty], .pointer (some ⟨n3, 0, none⟩), .pointer (some ⟨n1, 0, none⟩), .pointer (some ⟨n2, 0, none⟩)] (spObs n3 n1 n2 s)
    fun r L' => r = .tuple #[] ∧ L' = spObs n3 n1 n2 (spStep s n x) := by
  obtain ⟨any, least, most⟩ := s
  refine CallF.of (args := [.int .i64 n, .agg #[.int .i64 x.wear, .bool x.bad, .bool x.dirty], .pointer (some ⟨n3, 0, none⟩), .pointer (some ⟨n1, 0, none⟩), .pointer (some ⟨n2, 0, none⟩)]) noNum mixed Try.func111 (e111 n (x.wear, x.bad, x.dirty, ()) (some ⟨n3, 0, none⟩) (some ⟨n1, 0, none⟩) (some ⟨n2, 0, none⟩) _) ?_
  unfold t111 spObs
  simp only
  refine nw_of fun n4 _ => ?_
  generalize ho : (n4, Obj.cells #[.int .i64 x.wear, .bool x.bad, .bool x.dirty] eSt) = o4
  have l4 : ∀ {Z : HList}, LdAt ⟨n4, 0, none⟩ [.int .i64 x.wear] (o4 :: Z) := by subst ho; exact ldB List.mem_cons_self rfl
  clear ho
  refine jn_of (fun (_ : RsV []) L' => L' = o4 :: [(n3, Obj.cells #[.bool true] 4), (n1, Obj.cells #[.int .i64 (if any = true then least else x.wear)] 3), (n2, Obj.cells #[.int .i64 (if any = true then most else x.wear)] 3)]) ?_ ?_
  · rintro ⟨⟩ _ rfl
    unfold spStep
    simp only
    generalize (if any = true then least else x.wear) = a
    generalize (if any = true then most else x.wear) = b
    refine nilc_of rfl (ld_of a (ldB (n := n1) (off := 0) (c := #[.int .i64 a]) (T := 3) (fz := (0, 0)) (by simp) rfl) (ld_of x.wear l4 (nilc_of rfl (ld_of b (ldB (n := n2) (off := 0) (c := #[.int .i64 b]) (T := 3) (fz := (0, 0)) (by simp) rfl) (ld_of x.wear l4 (nilc_of rfl ?_))))))
    refine st_of (n := n1) (off := 0) (c := #[.int .i64 a]) (T := 3) (fz := (0, 0)) [o4, (n3, Obj.cells #[.bool true] 4)] [(n2, Obj.cells #[.int .i64 b] 3)] rfl rfl (by simp) (.inl (Nat.le_refl _)) #[.int .i64 (imin a x.wear)] rfl (keep_of l4 (keep_of (ldB (n := n2) (off := 0) (c := #[.int .i64 b]) (T := 3) (fz := (0, 0)) (by simp) rfl) (nilc_of rfl ?_)))
    exact st_of (n := n2) (off := 0) (c := #[.int .i64 b]) (T := 3) (fz := (0, 0)) [o4, (n3, Obj.cells #[.bool true] 4), (n1, Obj.cells #[.int .i64 (imin a x.wear)] 3)] [] rfl rfl (by simp) (.inl (Nat.le_refl _)) #[.int .i64 (imax b x.wear)] rfl (.cons (.of ⟨rfl, rfl⟩))
  intro j hj
  refine nilc_of rfl (ld_of any (ldB (n := n3) (off := 0) (c := #[.bool any]) (T := 4) (fz := (0, 0)) (by simp) rfl) (ifB_of (fun hf => ?_) (fun hf => ?_)))
  · have hf' : any = false := by simpa using hf
    subst hf'
    refine ld_of x.wear l4 (ld_of x.wear l4 (nilc_of rfl ?_))
    refine st_of (n := n1) (off := 0) (c := #[.int .i64 least]) (T := 3) (fz := (0, 0)) [o4, (n3, Obj.cells #[.bool false] 4)] [(n2, Obj.cells #[.int .i64 most] 3)] rfl rfl (by simp) (.inl (Nat.le_refl _)) #[.int .i64 x.wear] rfl (keep_of l4 (nilc_of rfl ?_))
    refine st_of (n := n2) (off := 0) (c := #[.int .i64 most]) (T := 3) (fz := (0, 0)) [o4, (n3, Obj.cells #[.bool false] 4), (n1, Obj.cells #[.int .i64 x.wear] 3)] [] rfl rfl (by simp) (.inl (Nat.le_refl _)) #[.int .i64 x.wear] rfl (nilc_of rfl ?_)
    exact st_of (n := n3) (off := 0) (c := #[.bool false]) (T := 4) (fz := (0, 0)) [o4] [(n1, Obj.cells #[.int .i64 x.wear] 3), (n2, Obj.cells #[.int .i64 x.wear] 3)] rfl rfl (by simp) (.inl (Nat.le_refl _)) #[.bool true] rfl (hj _ _ rfl)
  · have hf' : any = true := by simpa using hf
    subst hf'
    exact hj _ _ rfl
theorem sp_rng {s : BSp} {x : BS} (hs : 0 ≤ s.2.1 ∧ s.2.1 ≤ 1000000000 ∧ 0 ≤ s.2.2 ∧ s.2.2 ≤ 1000000000) (h : 0 ≤ x.wear ∧ x.wear ≤ 1000000000) (n : Int) : 0 ≤ (spStep s n x).2.1 ∧ (spStep s n x).2.1 ≤ 1000000000 ∧ 0 ≤ (spStep s n x).2.2 ∧ (spStep s n x).2.2 ≤ 1000000000 := by
  unfold spStep imin imax
  simp only
  (repeat' split) <;> omega
theorem bspread_rd (m : Nat) (ss : List BS) (us : List Int) (A : HList) (hA : BX m ss us A) : Reads PP 71 #[.pointer (some ⟨m, 0, none⟩)] A (.int .i64 (bspread ss)) := by
  refine Reads.of (args := [.pointer (some ⟨m, 0, none⟩)]) noNum mixed Try.func71 (e71 (some ⟨m, 0, none⟩) _) ?_
  unfold t71
  refine nw_of fun n1 _ => nw_of fun n2 _ => nw_of fun n3 _ => ?_
  refine st_of (n := n1) (off := 0) (c := #[.int .i64 0]) (T := 3) (fz := (0, 0)) [(n3, Obj.cells #[.bool false] 4), (n2, Obj.cells #[.int .i64 0] 3)] A rfl rfl (by simp) (.inl (Nat.le_refl _)) #[.int .i64 0] rfl ?_
  refine st_of (n := n2) (off := 0) (c := #[.int .i64 0]) (T := 3) (fz := (0, 0)) [(n3, Obj.cells #[.bool false] 4)] ((n1, Obj.cells #[.int .i64 0] 3) :: A) rfl rfl (by simp) (.inl (Nat.le_refl _)) #[.int .i64 0] rfl ?_
  refine st_of (n := n3) (off := 0) (c := #[.bool false]) (T := 4) (fz := (0, 0)) [] ((n2, Obj.cells #[.int .i64 0] 3) :: (n1, Obj.cells #[.int .i64 0] 3) :: A) rfl rfl (by simp) (.inl (Nat.le_refl _)) #[.bool false] rfl ?_
  refine cl_pm (R := []) (beach_cl m ss us A hA (bgood ss) spStep (fun _ s => 0 ≤ s.2.1 ∧ s.2.1 ≤ 1000000000 ∧ 0 ≤ s.2.2 ∧ s.2.2 ≤ 1000000000) (fun n s h => h) (spObs n3 n1 n2) 110 111 (by kernel_rfl) (by kernel_rfl) #[.pointer (some ⟨n3, 0, none⟩), .pointer (some ⟨n1, 0, none⟩), .pointer (some ⟨n2, 0, none⟩)]
    (fun L n hs => bgood_rd L m ss us A hA hs n) (fun s n x hn hs a b => CallF.mono (spread1_cl n3 n1 n2 s n x) (by rintro r L' _ ⟨rfl, rfl⟩; exact ⟨rfl, rfl, sp_rng hs ⟨a, b⟩ _⟩)) (false, 0, 0) (by decide)) ?_ ?_
  · rw [List.append_nil]
    unfold spObs
    exact List.Perm.cons _ (List.Perm.swap _ _ _)
  rintro _ _ ⟨rfl, rfl, hok⟩
  refine ⟨_, .refl _, (), rfl, ?_⟩
  show HL.ld _ _ _ (spObs n3 n1 n2 (bsp ss) ++ A ++ [])
  rw [List.append_nil]
  have hok' : 0 ≤ (bsp ss).2.1 ∧ (bsp ss).2.1 ≤ 1000000000 ∧ 0 ≤ (bsp ss).2.2 ∧ (bsp ss).2.2 ≤ 1000000000 := hok
  unfold bspread
  generalize bsp ss = s at hok'
  unfold spObs
  refine ld_of s.2.2 (ldB (n := n2) (off := 0) (c := #[.int .i64 s.2.2]) (T := 3) (fz := (0, 0)) (by simp) rfl) (ld_of s.2.1 (ldB (n := n1) (off := 0) (c := #[.int .i64 s.2.1]) (T := 3) (fz := (0, 0)) (by simp) rfl) ?_)
  rw [w64_id (by omega) (by omega)]
  exact .cons (.cons (.cons (.of ⟨rfl, rfl⟩)))
theorem bspread_nil (L : HList) : Reads PP 71 #[.pointer none] L (.int .i64 0) := by
  refine Reads.of (args := [.pointer none]) noNum mixed Try.func71 (e71 none _) ?_
  unfold t71
  refine nw_of fun n1 _ => nw_of fun n2 _ => nw_of fun n3 _ => ?_
  refine st_of (n := n1) (off := 0) (c := #[.int .i64 0]) (T := 3) (fz := (0, 0)) [(n3, Obj.cells #[.bool false] 4), (n2, Obj.cells #[.int .i64 0] 3)] L rfl rfl (by simp) (.inl (Nat.le_refl _)) #[.int .i64 0] rfl ?_
  refine st_of (n := n2) (off := 0) (c := #[.int .i64 0]) (T := 3) (fz := (0, 0)) [(n3, Obj.cells #[.bool false] 4)] ((n1, Obj.cells #[.int .i64 0] 3) :: L) rfl rfl (by simp) (.inl (Nat.le_refl _)) #[.int .i64 0] rfl ?_
  refine st_of (n := n3) (off := 0) (c := #[.bool false]) (T := 4) (fz := (0, 0)) [] ((n2, Obj.cells #[.int .i64 0] 3) :: (n1, Obj.cells #[.int .i64 0] 3) :: L) rfl rfl (by simp) (.inl (Nat.le_refl _)) #[.bool false] rfl ?_
  refine cl_rd (beach_nil _ ⟨_, _, _⟩ ⟨_, _, _⟩) () rfl (ld_of 0 (ldB (n := n2) (off := 0) (c := #[.int .i64 0]) (T := 3) (fz := (0, 0)) (by simp) rfl) (ld_of 0 (ldB (n := n1) (off := 0) (c := #[.int .i64 0]) (T := 3) (fz := (0, 0)) (by simp) rfl) ?_))
  exact .cons (.cons (.cons (.of ⟨rfl, rfl⟩)))
theorem boldest_rd (m : Nat) (ss : List BS) (us : List Int) (A : HList) (hA : BX m ss us A) : Reads PP 65 #[.pointer (some ⟨m, 0, none⟩)] A (.tuple #[.int .i64 (us.headD 0), .bool (decide (us ≠ []))]) := by
  obtain ⟨sv, sseg, uv, useg, rfl, ok⟩ := hA
  refine Reads.of (args := [.pointer (some ⟨m, 0, none⟩)]) noNum mixed Try.func65 (e65 (some ⟨m, 0, none⟩) _) ?_
  unfold t65
  have hm : bO m sv uv ∈ bO m sv uv :: (sseg ++ useg) := List.mem_cons_self
  have husl : ISl (bO m sv uv :: (sseg ++ useg)) uv .i64 us := ok.uown.sl.right.cons
  have hlen := husl.len
  refine ifF rfl (nilc_of rfl (ld_of uv (b_u hm) (ifE_of (fun h0 => .of ⟨?_, rfl⟩) (fun h0 => ?_))))
  · cases us with
    | nil => rfl
    | cons x r => rw [List.length_cons] at hlen; have h0' : (uv.len : Int) = 0 := h0; omega
  · cases us with
    | nil => exact absurd (show (uv.len : Int) = 0 by simp at hlen; omega) h0
    | cons x r =>
      obtain ⟨a, ha⟩ := husl.some (i := 0) (by simp)
      rw [List.length_cons] at hlen
      exact nilc_of rfl (ld_of uv (b_u hm) (nilc_of ha (ixn_of (by decide) (by omega) (ld_of x (husl.rd (i := 0) (by simp) ha _ rfl) (.of ⟨by simp, rfl⟩)))))
theorem bused_cl (m : Nat) (ss : List BS) (us : List Int) (A : HList) (hA : BX m ss us A) : CallF PP 70 #[.pointer (some ⟨m, 0, none⟩)] A fun r L' => ∃ (s : SlV) (seg : HList), r = .slice s.a s.len s.cap ∧ L' = seg ++ A ∧ Own s 1 eIn (ivs .i64 us) seg := by
  obtain ⟨sv, sseg, uv, useg, rfl, ok⟩ := hA
  refine CallF.of (args := [.pointer (some ⟨m, 0, none⟩)]) noNum mixed Try.func70 (e70 (some ⟨m, 0, none⟩) _) ?_
  unfold t70
  have hfew := ok.few
  refine ifF rfl (nilc_of rfl (ld_of uv (b_u List.mem_cons_self) (cl_in [] [] (inClone_cl (bO m sv uv :: (sseg ++ useg)) uv us ok.uown.sl.right.cons (by omega)) (by simp) ?_)))
  rintro _ _ - ⟨s, seg, rfl, rfl, own⟩
  rw [List.append_nil]
  exact ⟨(s, ()), rfl, .of ⟨s, seg, rfl, rfl, own⟩⟩
def bopens (ss : List BS) (us : List Int) (n : Int) : Bool := bfree ss us n && (match ss[n.toNat]? with | some s => !s.dirty | none => false)
theorem bgood_at {ss : List BS} {n : Int} (h : bgood ss n = true) : 0 ≤ n ∧ ∃ hi : n.toNat < ss.length, ss[n.toNat].bad = false := by
  unfold bgood at h
  rw [Bool.and_eq_true] at h
  obtain ⟨h1, h2⟩ := h
  refine ⟨of_decide_eq_true h1, ?_⟩
  split at h2
  · rename_i s hs
    obtain ⟨hi, he⟩ := List.getElem?_eq_some_iff.1 hs
    exact ⟨hi, by rw [he]; simpa using h2⟩
  · cases h2
theorem bfree_good {ss : List BS} {us : List Int} {n : Int} (h : bfree ss us n = true) : bgood ss n = true ∧ n ∉ us := by
  unfold bfree at h
  rw [Bool.and_eq_true] at h
  exact ⟨h.1, by simpa using h.2⟩
theorem bopened_nil (L : HList) (n : Int) : Reads PP 73 #[.pointer none, .int .i64 n] L (.bool false) := by
  refine Reads.of (args := [.pointer none, .int .i64 n]) noNum mixed Try.func73 (e73 none n _) ?_
  unfold t73
  exact cl_rd (bfree_nil _ n) (false, ()) rfl (ifT rfl (.of ⟨rfl, rfl⟩))
theorem bopened_cl (m : Nat) (ss : List BS) (us : List Int) (A : HList) (hA : BX m ss us A) (hf : us.length < 100000) (n : Int) : CallF PP 73 #[.pointer (some ⟨m, 0, none⟩), .int .i64 n] A
    fun r L' => r = .bool (bopens ss us n) ∧ BX m ss (if bopens ss us n = true then us ++ [n] else us) L' := by
  have hA' := hA
  obtain ⟨sv, sseg, uv, useg, rfl, ok⟩ := hA
  refine CallF.of (args := [.pointer (some ⟨m, 0, none⟩), .int .i64 n]) noNum mixed Try.func73 (e73 (some ⟨m, 0, none⟩) n _) ?_
  unfold t73
  have hm : bO m sv uv ∈ bO m sv uv :: (sseg ++ useg) := List.mem_cons_self
  refine cl_rd (bfree_rd _ m ss us _ hA' (fun x hx => hx) n) (bfree ss us n, ()) rfl ?_
  cases hfr : bfree ss us n with
  | false =>
    have : bopens ss us n = false := by unfold bopens; rw [hfr]; rfl
    rw [this]
    exact ifT rfl (.of ⟨rfl, hA'⟩)
  | true =>
    obtain ⟨h0, hi, hb⟩ := bgood_at (bfree_good hfr).1
    have hsl : Sl (bO m sv uv :: (sseg ++ useg)) sv 3 (ss.flatMap bsEnc) := ok.own.sl.left.cons
    have hlen := hsl.els_len bsEnc_len (by decide)
    obtain ⟨a, ha, hl⟩ := hsl.el bsEnc_len (by decide) hi
    have hop : bopens ss us n = !ss[n.toNat].dirty := by unfold bopens; rw [hfr, List.getElem?_eq_getElem hi]; rfl
    refine ifF rfl (nilc_of rfl (ld_of sv (b_s hm) (nilc_of ha (ixn_of h0 (show n < sv.len by omega) (ld_of ss[n.toNat].dirty (hl.one 2 rfl) ?_)))))
    rw [hop]
    refine ifB_of (fun hd => ?_) (fun hd => ?_)
    · have hd' : ss[n.toNat].dirty = true := hd
      rw [hd']
      exact .of ⟨rfl, hA'⟩
    · have hd' : ss[n.toNat].dirty = false := hd
      rw [hd']
      refine nilc_of rfl (ld_of uv (b_u hm) (nw_of fun n1 _ => ?_))
      have hul := ok.uown.sl.len
      rw [ivs_length] at hul
      have hsrc : ∀ {Z : HList}, Sl ((n1, Obj.cells #[.int .i64 n] eIn) :: Z) ⟨some ⟨n1, 0, none⟩, 1, 1⟩ 1 (ivs .i64 [n]) := fun {Z} => ⟨rfl, Nat.le_refl _, .inr ⟨_, rfl, ldB List.mem_cons_self rfl⟩⟩
      refine append_in elemIn srcIn ((n1, Obj.cells #[.int .i64 n] eIn) :: bO m sv uv :: sseg) [] ok.uown (by simp) (.sl hsrc) (ivs_plain _ _) (by first | omega | (simp only; omega)) fun v2 seg2 hv2 own2 => nilc_of rfl ?_
      rw [← ivs_append] at own2
      refine st_of (n := m) (off := 1) (c := #[.slice sv.a sv.len sv.cap, .slice uv.a uv.len uv.cap]) (T := 165) (fz := (0, 0)) [(n1, Obj.cells #[.int .i64 n] eIn)] (sseg ++ seg2) rfl (by simp [bO]) (by simp) (.inl (Nat.le_refl _)) #[.slice sv.a sv.len sv.cap, .slice v2.a v2.len v2.cap] rfl ?_
      exact .cons (.of ⟨rfl, sv, sseg, v2, seg2, rfl, ok.own, own2, ok.cnt, (by show (us ++ [n]).length ≤ 100000; rw [List.length_append]; simp only [List.length_cons, List.length_nil]; omega), ok.wr⟩)
/-! ### turning -/
def bmod (ss : List BS) (n : Int) (g : BS → BS) : List BS := ss.modify n.toNat g
theorem bmod_at {ss : List BS} {n : Int} (hi : n.toNat < ss.length) (g : BS → BS) : bmod ss n g = ss.take n.toNat ++ g ss[n.toNat] :: ss.drop (n.toNat + 1) := by
  unfold bmod
  rw [List.modify_eq_take_cons_drop hi]
theorem bturn_nil (L : HList) (n : Int) (f : FnV) : Reads PP 112 #[.pointer none, .int .i64 n, .func f.fn f.first f.captured] L (.bool false) := by
  refine Reads.of (args := [.pointer none, .int .i64 n, .func f.fn f.first f.captured]) noNum mixed Try.func112 (e112 none n f _) ?_
  unfold t112
  exact nw_of fun n1 _ => ld_of n (ldB List.mem_cons_self rfl) (cl_rd (bgood_nil _ n) (false, ()) rfl (ifT rfl (.cons (.of ⟨rfl, rfl⟩))))
theorem iwo_len (us : List Int) (n : Int) : (iwo us n).length ≤ us.length := List.length_filter_le ..
theorem bturn_cl (m : Nat) (ss : List BS) (us : List Int) (A : HList) (hA : BX m ss us A) (n : Int) (i : FuncId) (hio : calleeOk PP i = true) (caps : Array Value) (obs : HList) (g : BS → BS) (hg : ∀ s ∈ ss, 0 ≤ (g s).wear ∧ (g s).wear ≤ 1000000000)
    (h : ∀ (v : SlV) (seg : HList) (j : Nat) (a : Addr) (hj : j < ss.length), Own v 3 eSt (ss.flatMap bsEnc) seg → v.a = some a → CallF PP i (#[.pointer (some (Addr.add a (j * 3)))] ++ caps) (obs ++ seg) fun r L' => r = .tuple #[] ∧ ∃ seg', L' = obs ++ seg' ∧ Own v 3 eSt ((ss.take j ++ g ss[j] :: ss.drop (j + 1)).flatMap bsEnc) seg') :
    CallF PP 112 #[.pointer (some ⟨m, 0, none⟩), .int .i64 n, .func (.func i) #[] caps] (obs ++ A)
      fun r L' => r = .bool (bgood ss n) ∧ ∃ A', L' = obs ++ A' ∧ BX m (if bgood ss n = true then bmod ss n g else ss) (if bgood ss n = true then iwo us n else us) A' := by
  have hA' := hA
  obtain ⟨sv, sseg, uv, useg, rfl, ok⟩ := hA
  refine CallF.of (args := [.pointer (some ⟨m, 0, none⟩), .int .i64 n, .func (.func i) #[] caps]) noNum mixed Try.func112 (e112 (some ⟨m, 0, none⟩) n ⟨.func i, #[], caps⟩ _) ?_
  unfold t112
  refine nw_of fun n1 _ => ld_of n (ldB List.mem_cons_self rfl) ?_
  refine cl_rd (bgood_rd _ m ss us _ hA' (fun x hx => by simp at hx ⊢; simp [hx]) n) (bgood ss n, ()) rfl ?_
  cases hgd : bgood ss n with
  | false =>
    refine ifT rfl (.cons (.of ⟨rfl, _, rfl, ?_⟩))
    simpa using hA'
  | true =>
    obtain ⟨h0, hi, hb⟩ := bgood_at hgd
    have hlen := ok.own.sl.els_len bsEnc_len (by decide)
    have hfew := ok.few
    refine ifF rfl (nilc_of rfl (ld_of uv (b_u (sv := sv) (by simp)) ?_))
    refine cl_pm (R := obs ++ (bO m sv uv :: sseg)) (inDel_cl uv us useg ok.uown (by omega) n n1) ?_ ?_
    · classical
      rw [List.perm_iff_count]
      intro x
      simp only [List.append_eq, List.cons_append, List.count_append, List.count_cons, List.count_nil]
      omega
    rintro _ _ ⟨u2, useg2, rfl, rfl, uown2⟩
    generalize ho1 : (n1, Obj.cells #[.int .i64 n] 3) = o1
    have l1 : ∀ {Z : HList}, LdAt ⟨n1, 0, none⟩ [.int .i64 n] (o1 :: Z) := by subst ho1; exact ldB List.mem_cons_self rfl
    refine ⟨(o1 :: obs) ++ bO m sv uv :: (sseg ++ useg2), ?_, (u2, ()), rfl, nilc_of rfl ?_⟩
    · classical
      rw [List.perm_iff_count]
      intro x
      simp only [List.append_eq, List.cons_append, List.count_append, List.count_cons, List.count_nil]
      omega
    refine st_of (n := m) (off := 1) (c := #[.slice sv.a sv.len sv.cap, .slice uv.a uv.len uv.cap]) (T := 165) (fz := (0, 0)) (o1 :: obs) (sseg ++ useg2) rfl (by simp [bO]) (by simp) (.inl (Nat.le_refl _)) #[.slice sv.a sv.len sv.cap, .slice u2.a u2.len u2.cap] rfl ?_
    obtain ⟨a, ha, _⟩ := ok.own.sl.el bsEnc_len (by decide) hi
    refine nilc_of rfl (ld_of sv (b_s (m := m) (uv := u2) (by unfold bO; simp)) (ld_of n l1 (nilc_of ha (ixn_of h0 (show n < sv.len by omega) (clv_of hio ?_)))))
    refine cl_pm (R := o1 :: bO m sv u2 :: useg2) (h sv sseg n.toNat a hi ok.own ha) ?_ ?_
    · unfold bO
      classical
      rw [List.perm_iff_count]
      intro x
      simp only [List.append_eq, List.cons_append, List.count_append, List.count_cons, List.count_nil]
      omega
    rintro _ _ ⟨rfl, sseg2, rfl, own2⟩
    refine ⟨o1 :: (obs ++ (bO m sv u2 :: (sseg2 ++ useg2))), ?_, (), rfl, ?_⟩
    · classical
      rw [List.perm_iff_count]
      intro x
      simp only [List.append_eq, List.cons_append, List.count_append, List.count_cons, List.count_nil]
      omega
    rw [← bmod_at hi] at own2
    refine .cons (.of ⟨rfl, _, rfl, ?_⟩)
    simp only [if_true]
    have hil := iwo_len us n
    refine ⟨sv, sseg2, u2, useg2, rfl, own2, uown2, by unfold bmod; rw [List.length_modify]; exact ok.cnt, by omega, fun s hs => ?_⟩
    rw [bmod_at hi] at hs
    rcases List.mem_append.1 hs with h1 | h1
    · exact ok.wr s (List.mem_of_mem_take h1)
    · rcases List.mem_cons.1 h1 with rfl | h2
      · exact hg _ (List.getElem_mem hi)
      · exact ok.wr s (List.mem_of_mem_drop h2)
theorem enc_put (l : List BS) (j : Nat) (hj : j < l.length) (k : Nat) (hk : k < 3) (w : Value) (x : BS) (hx : (bsEnc l[j]).set k w = bsEnc x) : putL (l.flatMap bsEnc) (j * 3 + k) [w] = (l.take j ++ x :: l.drop (j + 1)).flatMap bsEnc := by
  have hl : l = l.take j ++ l[j] :: l.drop (j + 1) := by rw [← List.drop_eq_getElem_cons hj, List.take_append_drop]
  have hp : ((l.take j).flatMap bsEnc).length = j * 3 := by rw [flat_len bsEnc_len, List.length_take, Nat.min_eq_left (by omega)]
  rw [putL_one (by rw [flat_len bsEnc_len]; omega)]
  conv => lhs; rw [hl]
  rw [List.flatMap_append, List.flatMap_append, List.flatMap_cons, List.flatMap_cons, ← hx, List.set_append_right _ _ (by omega), hp, show j * 3 + k - j * 3 = k by omega, List.set_append_left _ _ (by rw [bsEnc_len]; exact hk)]
theorem addr2 (a : Addr) (i k : Nat) : Addr.add (Addr.add a i) k = Addr.add a (i + k) := by
  unfold Addr.add
  by_cases h1 : i = 0 <;> by_cases h2 : k = 0 <;> simp [h1, h2, Nat.add_assoc]
end Go.Proofs.Ytefllmfoneocaaa
