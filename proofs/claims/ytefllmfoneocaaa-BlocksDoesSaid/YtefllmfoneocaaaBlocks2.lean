/-
  It is proved what the program's blocks do: good, free, each, Pick, Free, Spread, Oldest, Used. There are no further conditions than those that each theorem names.
-/
import Derived.Test.YtefllmfoneocaaaBlocks
set_option linter.unusedVariables false
set_option linter.unusedSimpArgs false
namespace Go.Proofs.Ytefllmfoneocaaa
open Go.HL

def bO (m : Nat) (sv uv : SlV) : Nat × Obj := (m, Obj.cells #[.slice sv.a sv.len sv.cap, .slice uv.a uv.len uv.cap] 165)
structure BOk (sv : SlV) (sseg : HList) (ss : List BS) (uv : SlV) (useg : HList) (us : List Int) : Prop where
  own : Own sv 3 eSt (ss.flatMap bsEnc) sseg
  uown : Own uv 1 eIn (ivs .i64 us) useg
  cnt : 1 ≤ ss.length ∧ ss.length ≤ 16
  few : us.length ≤ 100000
  wr : ∀ s ∈ ss, 0 ≤ s.wear ∧ s.wear ≤ 1000000000
/-- The objects of blocks of these states, and which are used. -/
def BX (m : Nat) (ss : List BS) (us : List Int) (A : HList) : Prop := ∃ sv sseg uv useg, A = bO m sv uv :: (sseg ++ useg) ∧ BOk sv sseg ss uv useg us
section
variable {L : HList} {m : Nat} {sv uv : SlV}
theorem b_s (h : bO m sv uv ∈ L) : LdAt ⟨m, 0, none⟩ [.slice sv.a sv.len sv.cap] L := ldB (by unfold bO at h; exact h) rfl
theorem b_u (h : bO m sv uv ∈ L) : LdAt ⟨m, 1, none⟩ [.slice uv.a uv.len uv.cap] L := ldB (by unfold bO at h; exact h) rfl
end
def bgood (ss : List BS) (n : Int) : Bool := decide (0 ≤ n) && (match ss[n.toNat]? with | some s => !s.bad | none => false)
def bfree (ss : List BS) (us : List Int) (n : Int) : Bool := bgood ss n && !decide (n ∈ us)
theorem bgood_nil (L : HList) (n : Int) : Reads PP 110 #[.pointer none, .int .i64 n] L (.bool false) := by
  refine Reads.of (args := [.pointer none, .int .i64 n]) noNum mixed Try.func110 (e110 none n _) ?_
  unfold t110
  exact ifF rfl (.of ⟨rfl, rfl⟩)
theorem bgood_rd (L : HList) (m : Nat) (ss : List BS) (us : List Int) (A : HList) (hA : BX m ss us A) (hs : ∀ x ∈ A, x ∈ L) (n : Int) : Reads PP 110 #[.pointer (some ⟨m, 0, none⟩), .int .i64 n] L (.bool (bgood ss n)) := by
  obtain ⟨sv, sseg, uv, useg, rfl, ok⟩ := hA
  refine Reads.of (args := [.pointer (some ⟨m, 0, none⟩), .int .i64 n]) noNum mixed Try.func110 (e110 (some ⟨m, 0, none⟩) n _) ?_
  unfold t110
  have hm : bO m sv uv ∈ L := hs _ List.mem_cons_self
  have hsl : Sl L sv 3 (ss.flatMap bsEnc) := ok.own.sl.mono fun x hx => hs x (by simp [hx])
  have hlen := hsl.els_len bsEnc_len (by decide)
  refine ifT rfl (ifD_of (fun (h0 : n ≥ 0) => nilc_of rfl (ld_of sv (b_s hm) (ifD_of (fun (h1 : n < sv.len) => ?_) (fun (h1 : ¬ n < sv.len) => .of ⟨?_, rfl⟩)))) (fun (h0 : ¬ n ≥ 0) => .of ⟨?_, rfl⟩))
  · have hi : n.toNat < ss.length := by omega
    obtain ⟨a, ha, hl⟩ := hsl.el bsEnc_len (by decide) hi
    refine nilc_of rfl (ld_of sv (b_s hm) (nilc_of ha (ixn_of h0 h1 (ld_of ss[n.toNat].bad (hl.one 1 rfl) (.of ⟨?_, rfl⟩)))))
    unfold bgood
    rw [List.getElem?_eq_getElem hi, decide_eq_true (show 0 ≤ n by omega)]
    rfl
  · unfold bgood
    rw [List.getElem?_eq_none (by omega)]
    simp
  · unfold bgood
    rw [decide_eq_false (by omega)]; rfl
theorem bfree_nil (L : HList) (n : Int) : Reads PP 101 #[.pointer none, .int .i64 n] L (.bool false) := by
  refine Reads.of (args := [.pointer none, .int .i64 n]) noNum mixed Try.func101 (e101 none n _) ?_
  unfold t101
  exact cl_rd (bgood_nil _ n) (false, ()) rfl (ifF rfl (.of ⟨rfl, rfl⟩))
theorem bfree_rd (L : HList) (m : Nat) (ss : List BS) (us : List Int) (A : HList) (hA : BX m ss us A) (hs : ∀ x ∈ A, x ∈ L) (n : Int) : Reads PP 101 #[.pointer (some ⟨m, 0, none⟩), .int .i64 n] L (.bool (bfree ss us n)) := by
  refine Reads.of (args := [.pointer (some ⟨m, 0, none⟩), .int .i64 n]) noNum mixed Try.func101 (e101 (some ⟨m, 0, none⟩) n _) ?_
  unfold t101
  refine cl_rd (bgood_rd _ m ss us A hA hs n) (bgood ss n, ()) rfl ?_
  obtain ⟨sv, sseg, uv, useg, rfl, ok⟩ := hA
  have hm : bO m sv uv ∈ L := hs _ List.mem_cons_self
  have husl : ISl L uv .i64 us := ok.uown.sl.mono fun x hx => hs x (by simp [hx])
  refine ifB_of (fun hg => ?_) (fun hg => .of ⟨?_, rfl⟩)
  · have hg' : bgood ss n = true := hg
    have hfew := ok.few
    refine nilc_of rfl (ld_of uv (b_u hm) (cl_rd (inHas_rd _ uv us husl (by omega) n) (decide (n ∈ us), ()) rfl (.of ⟨?_, rfl⟩)))
    unfold bfree
    rw [hg']; rfl
  · have hg' : bgood ss n = false := hg
    unfold bfree
    rw [hg']; rfl
/-- What comes of handing all that are so to a function. -/
def eachF {σ : Type} (q : Int → Bool) (step : σ → Int → BS → σ) (s0 : σ) (ss : List BS) : σ := ss.zipIdx.foldl (fun s p => if q p.2 then step s p.2 p.1 else s) s0
theorem eachF_snoc {σ : Type} (q : Int → Bool) (step : σ → Int → BS → σ) (s0 : σ) (ss : List BS) (x : BS) : eachF q step s0 (ss ++ [x]) = if q ss.length then step (eachF q step s0 ss) ss.length x else eachF q step s0 ss := by
  unfold eachF
  rw [List.zipIdx_append, List.foldl_append]
  simp
theorem beach_nil (L : HList) (f1 f2 : FnV) : Reads PP 103 #[.pointer none, .func f1.fn f1.first f1.captured, .func f2.fn f2.first f2.captured] L (.tuple #[]) := by
  refine Reads.of (args := [.pointer none, .func f1.fn f1.first f1.captured, .func f2.fn f2.first f2.captured]) noNum mixed Try.func103 (e103 none f1 f2 _) ?_
  unfold t103
  exact ifT rfl (.of ⟨rfl, rfl⟩)
theorem beach_cl {σ : Type} (m : Nat) (ss : List BS) (us : List Int) (A : HList) (hA : BX m ss us A) (q : Int → Bool) (step : σ → Int → BS → σ) (ok : Nat → σ → Prop) (hskip : ∀ n s, ok n s → ok (n + 1) s) (obs : σ → HList) (i1 i2 : FuncId) (ho1 : calleeOk PP i1 = true) (ho2 : calleeOk PP i2 = true) (caps : Array Value)
    (h1 : ∀ (L : HList) (n : Int), (∀ x ∈ A, x ∈ L) → Reads PP i1 #[.pointer (some ⟨m, 0, none⟩), .int .i64 n] L (.bool (q n)))
    (h2 : ∀ (s : σ) (n : Nat) (x : BS), n < 16 → ok n s → 0 ≤ x.wear → x.wear ≤ 1000000000 → CallF PP i2 (#[.int .i64 n, .agg #[.int .i64 x.wear, .bool x.bad, .bool x.dirty]] ++ caps) (obs s) fun r L' => r = .tuple #[] ∧ L' = obs (step s n x) ∧ ok (n + 1) (step s n x)) (s0 : σ) (hs0 : ok 0 s0) :
    CallF PP 103 #[.pointer (some ⟨m, 0, none⟩), .func (.func i1) #[.pointer (some ⟨m, 0, none⟩)] #[], .func (.func i2) #[] caps] (obs s0 ++ A) fun r L' => r = .tuple #[] ∧ L' = obs (eachF q step s0 ss) ++ A ∧ ok ss.length (eachF q step s0 ss) := by
  have hA' := hA
  obtain ⟨sv, sseg, uv, useg, hAe, bok⟩ := hA
  refine CallF.of (args := [.pointer (some ⟨m, 0, none⟩), .func (.func i1) #[.pointer (some ⟨m, 0, none⟩)] #[], .func (.func i2) #[] caps]) noNum mixed Try.func103 (e103 (some ⟨m, 0, none⟩) ⟨.func i1, #[.pointer (some ⟨m, 0, none⟩)], #[]⟩ ⟨.func i2, #[], caps⟩ _) ?_
  unfold t103
  have hm : ∀ {X : HList}, bO m sv uv ∈ X ++ A := fun {X} => by subst hAe; simp
  have hsl : ∀ {X : HList}, Sl (X ++ A) sv 3 (ss.flatMap bsEnc) := fun {X} => bok.own.sl.mono fun x hx => by subst hAe; simp [hx]
  have hlen := (hsl (X := [])).els_len bsEnc_len (by decide)
  have hcnt := bok.cnt
  refine ifF rfl (nilc_of rfl (ld_of sv (b_s hm) ?_))
  refine lp_of (fun k z L' => ∃ i : Nat, i ≤ ss.length ∧ k = ss.length - i ∧ z = ((i : Int), ()) ∧ L' = obs (eachF q step s0 (ss.take i)) ++ A ∧ ok i (eachF q step s0 (ss.take i))) ss.length ⟨0, by omega, by omega, rfl, by simp [eachF], by simpa [eachF] using hs0⟩ ?_
  rintro k z L ⟨i, hi, rfl, rfl, rfl, hok⟩
  refine ifD_of (fun (hlt : (i : Int) < sv.len) => ?_) (fun (hge : ¬ (i : Int) < sv.len) => ?_)
  · have hi' : i < ss.length := by omega
    have hsn := eachF_snoc q step s0 (ss.take i) ss[i]
    rw [← List.take_succ_eq_append_getElem hi', List.length_take, Nat.min_eq_left hi] at hsn
    have hwr := bok.wr ss[i] (List.getElem_mem hi')
    obtain ⟨a, ha, hl⟩ := (hsl (X := obs (eachF q step s0 (ss.take i)))).el bsEnc_len (by decide) hi'
    have hw : IntKind.i64.wrap ((i : Int) + 1) = ((i + 1 : Nat) : Int) := by rw [w64_id (by omega) (by omega)]; omega
    refine clv_of ho1 (cl_rd (h1 _ (i : Int) (fun x hx => List.mem_append_right _ hx)) (q i, ()) rfl ?_)
    refine ifB_of (fun hq => ?_) (fun hq => ?_)
    · have hq' : q (i : Int) = true := hq
      rw [if_pos hq'] at hsn
      refine nilc_of rfl (ld_of sv (b_s hm) (nilc_of ha (ixn_of (show (0 : Int) ≤ (i : Int) by omega) hlt (ld_of (ss[i].wear, ss[i].bad, ss[i].dirty, ()) (by rw [Int.toNat_natCast]; exact hl) (clv_of ho2 ?_)))))
      refine cl_in [] A (h2 _ i ss[i] (by omega) hok hwr.1 hwr.2) rfl ?_
      rintro _ _ - ⟨rfl, rfl, hok'⟩
      refine ⟨(), rfl, ss.length - (i + 1), by omega, i + 1, by omega, rfl, ?_, by rw [hsn]; rfl, by rw [hsn]; exact hok'⟩
      rw [hw]
    · have hq' : ¬ q (i : Int) = true := by rw [show q (i : Int) = false from hq]; decide
      rw [if_neg hq'] at hsn
      refine ⟨ss.length - (i + 1), by omega, i + 1, by omega, rfl, ?_, by rw [hsn], by rw [hsn]; exact hskip _ _ hok⟩
      rw [hw]
  · obtain rfl : i = ss.length := by omega
    rw [List.take_length] at hok ⊢
    exact .of ⟨rfl, rfl, hok⟩
/-! ### counting -/
def bfreeN (ss : List BS) (us : List Int) : Int := eachF (bfree ss us) (fun (k : Int) _ _ => k + 1) 0 ss
theorem free1_cl (n1 : Nat) (k : Int) (hk : 0 ≤ k ∧ k ≤ 1000000) (n : Int) (x : BS) : CallF PP 108 #[.int .i64 n, .agg #[.int .i64 x.wear, .bool x.bad, .bool x.dirty], .pointer (some ⟨n1, 0, none⟩)] [(n1, Obj.cells #[.int .i64 k] 3)]
    fun r L' => r = .tuple #[] ∧ L' = [(n1, Obj.cells #[.int .i64 (k + 1)] 3)] := by
  refine CallF.of (args := [.int .i64 n, .agg #[.int .i64 x.wear, .bool x.bad, .bool x.dirty], .pointer (some ⟨n1, 0, none⟩)]) noNum mixed Try.func108 (e108 n (x.wear, x.bad, x.dirty, ()) (some ⟨n1, 0, none⟩) _) ?_
  unfold t108
  refine nw_of fun n2 _ => nilc_of rfl (ld_of k (ldB (n := n1) (c := #[.int .i64 k]) (T := 3) (fz := (0, 0)) (by simp) rfl) (nilc_of rfl ?_))
  rw [w64_id (by omega) (by omega)]
  exact st_of (n := n1) (off := 0) (c := #[.int .i64 k]) (T := 3) (fz := (0, 0)) [_] [] rfl rfl (by simp) (.inl (Nat.le_refl _)) #[.int .i64 (k + 1)] rfl (.cons (.of ⟨rfl, rfl⟩))
theorem eachF_ind {σ : Type} (q : Int → Bool) (step : σ → Int → BS → σ) (s0 : σ) (ss : List BS) (P : Nat → σ → Prop) (h0 : P 0 s0) (h : ∀ (i : Nat) (hi : i < ss.length) (s : σ), P i s → P (i + 1) (if q i then step s i ss[i] else s)) : P ss.length (eachF q step s0 ss) := by
  have key : ∀ k, k ≤ ss.length → P k (eachF q step s0 (ss.take k)) := by
    intro k
    induction k with
    | zero => intro _; simpa [eachF] using h0
    | succ k ih =>
      intro hk
      have hsn := eachF_snoc q step s0 (ss.take k) (ss[k]'(by omega))
      rw [← List.take_succ_eq_append_getElem (by omega), List.length_take, Nat.min_eq_left (by omega)] at hsn
      rw [hsn]
      exact h k (by omega) _ (ih (by omega))
  have := key ss.length (Nat.le_refl _)
  rwa [List.take_length] at this
theorem bfreeN_cl (m : Nat) (ss : List BS) (us : List Int) (A : HList) (hA : BX m ss us A) : Reads PP 67 #[.pointer (some ⟨m, 0, none⟩)] A (.int .i64 (bfreeN ss us)) := by
  refine Reads.of (args := [.pointer (some ⟨m, 0, none⟩)]) noNum mixed Try.func67 (e67 (some ⟨m, 0, none⟩) _) ?_
  unfold t67
  refine nw_of fun n1 _ => st_of [] _ rfl rfl (by simp) (.inl (Nat.le_refl _)) #[.int .i64 0] rfl ?_
  refine cl_in [] [] (beach_cl m ss us A hA (bfree ss us) (fun (k : Int) _ _ => k + 1) (fun n k => 0 ≤ k ∧ k ≤ n) (fun n s h => by omega) (fun k => [(n1, Obj.cells #[.int .i64 k] 3)]) 101 108 (by kernel_rfl) (by kernel_rfl) #[.pointer (some ⟨n1, 0, none⟩)]
    (fun L n hs => bfree_rd L m ss us A hA hs n) (fun s n x hn hs _ _ => CallF.mono (free1_cl n1 s (by omega) n x) (by rintro r L' _ ⟨rfl, rfl⟩; exact ⟨rfl, rfl, by omega⟩)) 0 (by omega)) (by simp) ?_
  rintro _ _ - ⟨rfl, rfl, hok⟩
  rw [List.append_nil, List.nil_append]
  exact ⟨(), rfl, ld_of (bfreeN ss us) (ldB List.mem_cons_self rfl) (.cons (.of ⟨rfl, rfl⟩))⟩
theorem bfreeN_nil (L : HList) : Reads PP 67 #[.pointer none] L (.int .i64 0) := by
  refine Reads.of (args := [.pointer none]) noNum mixed Try.func67 (e67 none _) ?_
  unfold t67
  exact nw_of fun n1 _ => st_of [] _ rfl rfl (by simp) (.inl (Nat.le_refl _)) #[.int .i64 0] rfl (cl_rd (beach_nil _ ⟨_, _, _⟩ ⟨_, _, _⟩) () rfl (ld_of 0 (ldB List.mem_cons_self rfl) (.cons (.of ⟨rfl, rfl⟩))))
/-! ### picking -/
def bcost (s : BS) : Int := if s.dirty then s.wear + 1 else s.wear
theorem bcost_rd (L : HList) (s : BS) (h : 0 ≤ s.wear ∧ s.wear ≤ 1000000000) : Reads PP 105 #[.agg #[.int .i64 s.wear, .bool s.bad, .bool s.dirty]] L (.int .i64 (bcost s)) := by
  refine Reads.of (args := [.agg #[.int .i64 s.wear, .bool s.bad, .bool s.dirty]]) noNum mixed Try.func105 (e105 (s.wear, s.bad, s.dirty, ()) _) ?_
  unfold t105
  refine nw_of fun n1 _ => ld_of s.dirty (ldB List.mem_cons_self rfl) (ifB_of (fun hd => ld_of s.wear (ldB List.mem_cons_self rfl) (.cons (.of ⟨?_, rfl⟩))) (fun hd => ld_of s.wear (ldB List.mem_cons_self rfl) (.cons (.of ⟨?_, rfl⟩))))
  · unfold bcost; rw [if_pos hd, w64_id (by omega) (by omega)]
  · unfold bcost; rw [if_neg (by rw [hd]; decide)]
/-- What was picked so far: was any found, its state, its number. -/
abbrev BPk := Bool × BS × Int
def pickStep (s : BPk) (n : Int) (x : BS) : BPk := if s.1 = false ∨ bcost x < bcost s.2.1 then (true, x, n) else s
def bpick (ss : List BS) (us : List Int) : BPk := eachF (bfree ss us) pickStep (false, bs0, 0) ss
def pickObs (n3 n1 n2 : Nat) (s : BPk) : HList := [(n3, Obj.cells #[.bool s.1] 4), (n1, Obj.cells #[.int .i64 s.2.1.wear, .bool s.2.1.bad, .bool s.2.1.dirty] eSt), (n2, Obj.cells #[.int .i64 s.2.2] 3)]
theorem pick1_cl (n3 n1 n2 : Nat) (s : BPk) (hs : 0 ≤ s.2.1.wear ∧ s.2.1.wear ≤ 1000000000) (n : Int) (x : BS) (hx : 0 ≤ x.wear ∧ x.wear ≤ 1000000000) :
    CallF PP 104 #[.int .i64 n, .agg #[.int .i64 x.wear, .bool x.bad, .bool x.dirty], .pointer (some ⟨n3, 0, none⟩), .pointer (some ⟨n1, 0, none⟩), .pointer (some ⟨n2, 0, none⟩)] (pickObs n3 n1 n2 s)
    fun r L' => r = .tuple #[] ∧ L' = pickObs n3 n1 n2 (pickStep s n x) := by
  obtain ⟨fd, best, at'⟩ := s
  refine CallF.of (args := [.int .i64 n, .agg #[.int .i64 x.wear, .bool x.bad, .bool x.dirty], .pointer (some ⟨n3, 0, none⟩), .pointer (some ⟨n1, 0, none⟩), .pointer (some ⟨n2, 0, none⟩)]) noNum mixed Try.func104 (e104 n (x.wear, x.bad, x.dirty, ()) (some ⟨n3, 0, none⟩) (some ⟨n1, 0, none⟩) (some ⟨n2, 0, none⟩) _) ?_
  unfold t104 pickObs
  simp only at hs ⊢
  refine nw_of fun n4 _ => ?_
  generalize ho : (n4, Obj.cells #[.int .i64 x.wear, .bool x.bad, .bool x.dirty] eSt) = o4
  have l4 : ∀ {Z : HList}, LdAt ⟨n4, 0, none⟩ (bsEnc x) (o4 :: Z) := by subst ho; exact ldB List.mem_cons_self rfl
  clear ho
  have take : pickStep (fd, best, at') n x = (true, x, n) →
      (st ⟨n2, 0, none⟩ [.int .i64 n] <| keep (LdAt ⟨n4, 0, none⟩ [.int .i64 x.wear, .bool x.bad, .bool x.dirty]) <| nilc (some ⟨n1, 0, none⟩) fun a3 => st a3 [.int .i64 x.wear, .bool x.bad, .bool x.dirty] <| nilc (some ⟨n3, 0, none⟩) fun a4 => st a4 [.bool true] <|
        HL.Ends (fun r L' => r = Value.tuple #[] ∧ L' = [(n3, Obj.cells #[.bool (pickStep (fd, best, at') n x).1] 4), (n1, Obj.cells #[.int .i64 (pickStep (fd, best, at') n x).2.1.wear, .bool (pickStep (fd, best, at') n x).2.1.bad, .bool (pickStep (fd, best, at') n x).2.1.dirty] eSt), (n2, Obj.cells #[.int .i64 (pickStep (fd, best, at') n x).2.2] 3)]) (.tuple #[]))
        (o4 :: [(n3, Obj.cells #[.bool fd] 4), (n1, Obj.cells #[.int .i64 best.wear, .bool best.bad, .bool best.dirty] eSt), (n2, Obj.cells #[.int .i64 at'] 3)]) := by
    intro e
    rw [e]
    refine st_of (n := n2) (off := 0) (c := #[.int .i64 at']) (T := 3) (fz := (0, 0)) [o4, (n3, Obj.cells #[.bool fd] 4), (n1, Obj.cells #[.int .i64 best.wear, .bool best.bad, .bool best.dirty] eSt)] [] rfl rfl (by simp) (.inl (Nat.le_refl _)) #[.int .i64 n] rfl (keep_of l4 (nilc_of rfl ?_))
    refine st_of (n := n1) (off := 0) (c := #[.int .i64 best.wear, .bool best.bad, .bool best.dirty]) (T := eSt) (fz := (0, 0)) [o4, (n3, Obj.cells #[.bool fd] 4)] [(n2, Obj.cells #[.int .i64 n] 3)] rfl rfl (by simp) (.inl (Nat.le_refl _)) #[.int .i64 x.wear, .bool x.bad, .bool x.dirty] rfl (nilc_of rfl ?_)
    exact st_of (n := n3) (off := 0) (c := #[.bool fd]) (T := 4) (fz := (0, 0)) [o4] [(n1, Obj.cells #[.int .i64 x.wear, .bool x.bad, .bool x.dirty] eSt), (n2, Obj.cells #[.int .i64 n] 3)] rfl rfl (by simp) (.inl (Nat.le_refl _)) #[.bool true] rfl (.cons (.of ⟨rfl, rfl⟩))
  refine nilc_of rfl (ld_of fd (ldB (n := n3) (off := 0) (c := #[.bool fd]) (T := 4) (fz := (0, 0)) (by simp) rfl) (ifB_of (fun hf => ?_) (fun hf => ?_)))
  · have hf' : fd = false := by simpa using hf
    refine ld_of (x.wear, x.bad, x.dirty, ()) l4 (nilc_of rfl (take ?_))
    unfold pickStep
    rw [if_pos (.inl hf')]
  · have hf' : fd = true := by simpa using hf
    have lb : LdAt ⟨n1, 0, none⟩ [.int .i64 best.wear, .bool best.bad, .bool best.dirty] (o4 :: [(n3, Obj.cells #[.bool fd] 4), (n1, Obj.cells #[.int .i64 best.wear, .bool best.bad, .bool best.dirty] eSt), (n2, Obj.cells #[.int .i64 at'] 3)]) := ldB (n := n1) (off := 0) (c := #[.int .i64 best.wear, .bool best.bad, .bool best.dirty]) (T := eSt) (fz := (0, 0)) (by simp) rfl
    refine ld_of (x.wear, x.bad, x.dirty, ()) l4 (nilc_of rfl (ld_of (best.wear, best.bad, best.dirty, ()) lb (cl_rd (bcost_rd _ x hx) (bcost x, ()) rfl (keep_of lb (cl_rd (bcost_rd _ best hs) (bcost best, ()) rfl ?_)))))
    refine ifD_of (fun (hc : bcost x < bcost best) => ?_) (fun (hc : ¬ bcost x < bcost best) => .cons (.of ⟨rfl, ?_⟩))
    · refine ld_of (x.wear, x.bad, x.dirty, ()) l4 (nilc_of rfl (take ?_))
      unfold pickStep
      rw [if_pos (.inr hc)]
    · have : pickStep (fd, best, at') n x = (fd, best, at') := by
        unfold pickStep
        rw [if_neg]
        rintro (c | c)
        · rw [hf'] at c; cases c
        · exact hc c
      rw [this]
theorem bpick_cl (m : Nat) (ss : List BS) (us : List Int) (A : HList) (hA : BX m ss us A) : Reads PP 63 #[.pointer (some ⟨m, 0, none⟩)] A (.tuple #[.int .i64 (bpick ss us).2.2, .bool (bpick ss us).2.1.dirty, .bool (bpick ss us).1]) := by
  refine Reads.of (args := [.pointer (some ⟨m, 0, none⟩)]) noNum mixed Try.func63 (e63 (some ⟨m, 0, none⟩) _) ?_
  unfold t63
  refine nw_of fun n1 _ => nw_of fun n2 _ => nw_of fun n3 _ => ?_
  refine st_of (n := n2) (off := 0) (c := #[.int .i64 0]) (T := 3) (fz := (0, 0)) [(n3, Obj.cells #[.bool false] 4)] ((n1, Obj.cells #[.int .i64 0, .bool false, .bool false] eSt) :: A) rfl rfl (by simp) (.inl (Nat.le_refl _)) #[.int .i64 0] rfl ?_
  refine st_of (n := n3) (off := 0) (c := #[.bool false]) (T := 4) (fz := (0, 0)) [] ((n2, Obj.cells #[.int .i64 0] 3) :: (n1, Obj.cells #[.int .i64 0, .bool false, .bool false] eSt) :: A) rfl rfl (by simp) (.inl (Nat.le_refl _)) #[.bool false] rfl ?_
  refine cl_pm (R := []) (beach_cl m ss us A hA (bfree ss us) pickStep (fun _ s => 0 ≤ s.2.1.wear ∧ s.2.1.wear ≤ 1000000000) (fun n s h => h) (pickObs n3 n1 n2) 101 104 (by kernel_rfl) (by kernel_rfl) #[.pointer (some ⟨n3, 0, none⟩), .pointer (some ⟨n1, 0, none⟩), .pointer (some ⟨n2, 0, none⟩)]
    (fun L n hs => bfree_rd L m ss us A hA hs n) (fun s n x hn hs a b => CallF.mono (pick1_cl n3 n1 n2 s hs n x ⟨a, b⟩) ?_) (false, bs0, 0) (by decide)) ?_ ?_
  · rintro r L' _ ⟨rfl, rfl⟩
    refine ⟨rfl, rfl, ?_⟩
    unfold pickStep
    split
    · exact ⟨a, b⟩
    · exact hs
  · rw [List.append_nil]
    unfold pickObs bs0
    exact List.Perm.cons _ (List.Perm.swap _ _ _)
  rintro _ _ ⟨rfl, rfl, hok⟩
  refine ⟨_, .refl _, (), rfl, ?_⟩
  show HL.ld _ _ _ (pickObs n3 n1 n2 (bpick ss us) ++ A ++ [])
  rw [List.append_nil]
  generalize bpick ss us = s
  unfold pickObs
  refine ld_of s.2.2 (ldB (n := n2) (off := 0) (c := #[.int .i64 s.2.2]) (T := 3) (fz := (0, 0)) (by simp) rfl) (ld_of s.2.1.dirty (ldB (n := n1) (off := 2) (c := #[.int .i64 s.2.1.wear, .bool s.2.1.bad, .bool s.2.1.dirty]) (T := eSt) (fz := (0, 0)) (by simp) rfl) (ld_of s.1 (ldB (n := n3) (off := 0) (c := #[.bool s.1]) (T := 4) (fz := (0, 0)) (by simp) rfl) ?_))
  exact .cons (.cons (.cons (.of ⟨rfl, rfl⟩)))
end Go.Proofs.Ytefllmfoneocaaa
