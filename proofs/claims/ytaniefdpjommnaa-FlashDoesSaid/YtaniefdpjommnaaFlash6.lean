/-
  It is proved what an act of a device leaves, and what the laws' own functions of the layer flash compute. There are no further conditions than those that each theorem names.
-/
import Derived.Test.YtaniefdpjommnaaFlash5
set_option linter.unusedVariables false
set_option linter.unusedSimpArgs false
namespace Go.Proofs.Ytaniefdpjommnaa
open Go.HL

structure BkOk (c : Cfg) (k : Blk) : Prop where
  pg : k.pages.length = c.P ∧ ∀ l ∈ k.pages, l.length = c.S
  nx : k.next ≤ c.P ∧ k.wear ≤ c.W ∧ k.bad = decide (k.wear = c.W)
theorem DvOk.bk {d : Dev} (h : DvOk d) {k : Blk} (hk : k ∈ d.bs) : BkOk d.c k := ⟨h.pg k hk, h.nx k hk⟩
theorem DvOk.set {d e : Dev} (h : DvOk d) (hc : e.c = d.c) (i : Nat) (k : Blk) (hk : BkOk d.c k) (hb : e.bs = d.bs.set i k) (ha : (e.after : Int) ≤ 9223372036854775807) (ht : ∀ t ∈ e.torn, t.meant.length = d.c.S ∧ t.image.length = d.c.S) : DvOk e := by
  have hm : ∀ x ∈ e.bs, BkOk d.c x := by
    intro x hx
    rw [hb] at hx
    rcases List.mem_or_eq_of_mem_set hx with h1 | rfl
    · exact h.bk h1
    · exact hk
  refine ⟨hc ▸ h.c, ?_, ?_, ?_, ha, ?_⟩
  · rw [hb, List.length_set, hc]; exact h.len
  · intro x hx; rw [hc]; exact (hm x hx).pg
  · intro x hx; rw [hc]; exact (hm x hx).nx
  · rw [hc]; exact ht
theorem tear_after (d : Dev) : (tear d).2.after ≤ d.after := by
  unfold tear
  split
  · exact Nat.le_refl _
  · exact Nat.sub_le _ _
theorem tear_counted (d : Dev) : (tear (counted d)).2.c = d.c ∧ (tear (counted d)).2.bs = d.bs ∧ (tear (counted d)).2.torn = d.torn ∧ (tear (counted d)).2.after ≤ d.after := by
  obtain ⟨h1, h2, h3, h4, h5⟩ := tear_c (counted d)
  exact ⟨h1, h2, h5, tear_after (counted d)⟩
theorem put_ok {c : Cfg} {k : Blk} (hk : BkOk c k) {p : Nat} (hp : p < c.P) {l : List UInt8} (hl : l.length = c.S) : BkOk c (k.put p l) := by
  refine ⟨⟨?_, fun x hx => ?_⟩, ?_, hk.nx.2⟩
  · show (k.pages.set p l).length = c.P
    rw [List.length_set]; exact hk.pg.1
  · rcases List.mem_or_eq_of_mem_set hx with h1 | rfl
    · exact hk.pg.2 x h1
    · exact hl
  · show p + 1 ≤ c.P
    exact hp
theorem tornImg_len {d : Dev} {data : List UInt8} (h : data.length = d.c.S) : (tornImg d data).length = d.c.S := by
  unfold tornImg blk keptN
  rw [List.length_append, List.length_take, List.length_replicate]; omega
theorem progK_ok {d : Dev} (ok : DvOk d) {i p : Nat} {k : Blk} (hk : BkOk d.c k) (hp : p < d.c.P) {data : List UInt8} (hl : data.length = d.c.S) : DvOk (progK d i p k data).2 := by
  obtain ⟨h1, h2, h3, h4⟩ := tear_counted d
  have ha := ok.after
  unfold progK
  split
  · refine ok.set h1 i (k.put p (tornImg d data)) (put_ok hk hp (tornImg_len hl)) rfl (by show ((tear (counted d)).2.after : Int) ≤ _; omega) ?_
    intro t ht
    rcases List.mem_append.1 ht with h | h
    · exact ok.torn t h
    · rw [List.mem_singleton.1 h]; exact ⟨hl, tornImg_len hl⟩
  · refine ok.set h1 i (k.put p data) (put_ok hk hp hl) rfl (by show ((tear (counted d)).2.after : Int) ≤ _; omega) ?_
    intro t ht
    exact ok.torn t (by rw [← h3]; exact ht)
theorem prog_ok {d : Dev} (ok : DvOk d) (b p : Int) (data : List UInt8) : DvOk (prog d b p data).2 := by
  unfold prog
  split
  · exact ok
  · rename_i he
    have he' : findE d b p = 0 := by simpa using he
    obtain ⟨_, _, _, hp0, hp1⟩ := findE_0 he'
    split
    · exact ok
    · rename_i hl
      split
      · exact ok
      · rename_i k hk
        split
        · exact ok
        · split
          · exact ok
          · exact progK_ok ok (ok.bk (List.mem_of_getElem? hk)) (by omega) (by omega)
theorem eraseK_ok {d : Dev} (ok : DvOk d) {i : Nat} {k : Blk} (hk : BkOk d.c k) (hb : k.bad = false) : DvOk (eraseK d i k).2 := by
  obtain ⟨h1, h2, h3, h4, h5⟩ := tear_c d
  have h6 := tear_after d
  have ha := ok.after
  have hkp : keptN d.keep d.c.P ≤ d.c.P := by unfold keptN; omega
  unfold eraseK
  split
  · refine ok.set h1 i (k.torn d.c (keptN d.keep d.c.P)) ⟨⟨?_, fun l hl => ?_⟩, Nat.le_refl _, hk.nx.2⟩ rfl (by show ((tear d).2.after : Int) ≤ _; omega) (by intro t ht; exact ok.torn t (by rw [← h5]; exact ht))
    · show (List.replicate _ _ ++ _).length = _
      rw [List.length_append, List.length_replicate, List.length_drop, hk.pg.1]; omega
    · rcases List.mem_append.1 hl with h | h
      · rw [List.eq_of_mem_replicate h]; simp [blk]
      · exact hk.pg.2 l (List.mem_of_mem_drop h)
  · have hw : k.wear + 1 ≤ d.c.W := by
      have h7 := hk.nx.2
      rw [hb] at h7
      have := of_decide_eq_false h7.2.symm
      omega
    refine ok.set h1 i (k.fresh d.c) ⟨⟨?_, fun l hl => ?_⟩, Nat.zero_le _, hw, rfl⟩ rfl (by show ((tear d).2.after : Int) ≤ _; omega) (by intro t ht; exact ok.torn t (by rw [← h5]; exact ht))
    · show (List.replicate _ _).length = _
      rw [List.length_replicate]
    · rw [List.eq_of_mem_replicate hl]; simp [blk]
theorem erase_ok {d : Dev} (ok : DvOk d) (b : Int) : DvOk (eraseR d b).2 := by
  unfold eraseR
  split
  · exact ok
  · split
    · exact ok
    · rename_i k hk
      split
      · exact ok
      · rename_i hb
        exact eraseK_ok ok (ok.bk (List.mem_of_getElem? hk)) (by simpa using hb)
theorem arm_ok {d : Dev} (ok : DvOk d) {n k : Int} (hn : n ≤ 9223372036854775807) : DvOk (arm d n k) := by
  unfold arm
  split
  · exact ok
  · exact ⟨ok.c, ok.len, ok.pg, ok.nx, by show ((n.toNat : Nat) : Int) ≤ _; omega, ok.torn⟩
theorem restart_ok {d : Dev} (ok : DvOk d) : DvOk (restart d) := ⟨ok.c, ok.len, ok.pg, ok.nx, by show ((0 : Nat) : Int) ≤ _; omega, ok.torn⟩
theorem progK_torn (d : Dev) (i p : Nat) (k : Blk) (data : List UInt8) : (progK d i p k data).2.torn.length ≤ d.torn.length + 1 := by
  obtain ⟨h1, h2, h3, h4⟩ := tear_counted d
  unfold progK
  split
  · show (d.torn ++ [_]).length ≤ _
    rw [List.length_append]; exact Nat.le_refl _
  · show (tear (counted d)).2.torn.length ≤ _
    rw [h3]; omega
theorem prog_torn (d : Dev) (b p : Int) (data : List UInt8) : (prog d b p data).2.torn.length ≤ d.torn.length + 1 := by
  unfold prog
  split
  · exact Nat.le_succ _
  · split
    · exact Nat.le_succ _
    · split
      · exact Nat.le_succ _
      · split
        · exact Nat.le_succ _
        · split
          · exact Nat.le_succ _
          · exact progK_torn _ _ _ _ _
theorem erase_torn (d : Dev) (b : Int) : (eraseR d b).2.torn = d.torn := by
  obtain ⟨h1, h2, h3, h4, h5⟩ := tear_c d
  unfold eraseR
  split
  · rfl
  · split
    · rfl
    · split
      · rfl
      · unfold eraseK
        split
        · exact h5
        · exact h5

/-! ### acts -/
abbrev FA := Int × Int × Int × (SlV × List UInt8) × Int × Int × Unit
def faEnc (x : FA) : List Value := [.int .i64 x.1, .int .i64 x.2.1, .int .i64 x.2.2.1, .slice x.2.2.2.1.1.a x.2.2.2.1.1.len x.2.2.2.1.1.cap, .int .i64 x.2.2.2.2.1, .int .i64 x.2.2.2.2.2.1]
theorem fa_len (x : FA) : (faEnc x).length = 6 := rfl
def faV (x : FA) : Value := .agg #[.int .i64 x.1, .int .i64 x.2.1, .int .i64 x.2.2.1, .slice x.2.2.2.1.1.a x.2.2.2.1.1.len x.2.2.2.1.1.cap, .int .i64 x.2.2.2.2.1, .int .i64 x.2.2.2.2.2.1]
def act (d : Dev) (x : FA) : Dev :=
  if x.1 = 0 then (prog d x.2.1 x.2.2.1 x.2.2.2.1.2).2 else if x.1 = 1 then d else if x.1 = 2 then (eraseR d x.2.1).2 else if x.1 = 3 then arm d x.2.2.2.2.1 x.2.2.2.2.2.1 else restart d
theorem act_ok {d : Dev} (ok : DvOk d) (x : FA) (hn : x.2.2.2.2.1 ≤ 9223372036854775807) : DvOk (act d x) := by
  unfold act
  split
  · exact prog_ok ok _ _ _
  · split
    · exact ok
    · split
      · exact erase_ok ok _
      · split
        · exact arm_ok ok hn
        · exact restart_ok ok
theorem arm_torn (d : Dev) (n k : Int) : (arm d n k).torn = d.torn := by unfold arm; split <;> rfl
theorem act_torn (d : Dev) (x : FA) : (act d x).torn.length ≤ d.torn.length + 1 := by
  unfold act
  split
  · exact prog_torn _ _ _ _
  · split
    · exact Nat.le_succ _
    · split
      · rw [erase_torn]; exact Nat.le_succ _
      · split
        · rw [arm_torn]; exact Nat.le_succ _
        · exact Nat.le_succ _
/-- A list of acts that came in. -/
structure FActs (L : HList) (v : SlV) (l : List FA) : Prop where
  sl : Sl L v 6 (l.flatMap faEnc)
  val : ∀ x ∈ l, BSl L x.2.2.2.1.1 x.2.2.2.1.2
  rng : ∀ x ∈ l, x.2.2.2.2.1 ≤ 9223372036854775807
theorem FActs.right {L R : HList} {v : SlV} {l : List FA} (h : FActs L v l) : FActs (R ++ L) v l := ⟨h.sl.right, fun x hx => (h.val x hx).right, h.rng⟩
theorem FActs.mono {L R : HList} {v : SlV} {l : List FA} (h : FActs L v l) (hs : ∀ p ∈ L, p ∈ R) : FActs R v l := ⟨h.sl.mono hs, fun x hx => Sl.mono (h.val x hx) hs, h.rng⟩
theorem FActs.len {L : HList} {v : SlV} {l : List FA} (h : FActs L v l) : v.len = l.length := h.sl.els_len fa_len (by decide)
theorem FActs.at' {L : HList} {v : SlV} {l : List FA} (h : FActs L v l) {i : Nat} (hi : i < l.length) : ∃ a, v.a = some a ∧ LdAt (Addr.add a ((i : Int).toNat * 6)) (faEnc l[i]) L := by
  obtain ⟨a, ha, hl⟩ := h.sl.el fa_len (by decide) hi
  rw [Int.toNat_natCast]
  exact ⟨a, ha, hl⟩
theorem small_cl (L : HList) (v : SlV) (l : List FA) (h : FActs L v l) (hl : l.length ≤ 9223372036854775807) :
    CallF PP 23 #[.slice v.a v.len v.cap] L fun r L' => L' = L ∧ ∃ b, r = .bool b ∧ (b = true → (l.length : Int) ≤ 200 ∧ ∀ x ∈ l, (x.2.2.2.1.2.length : Int) ≤ 600) := by
  refine CallF.of (args := [.slice v.a v.len v.cap]) noNum mixed Try.func23 (e23 v _) ?_
  unfold t23
  have hlen := h.len
  refine lp_of (fun k z L' => L' = L ∧ ∃ i : Nat, i ≤ l.length ∧ k = l.length - i ∧ z = ((i : Int), ()) ∧ ∀ x ∈ l.take i, (x.2.2.2.1.2.length : Int) ≤ 600) l.length ⟨rfl, 0, by omega, by omega, rfl, by simp⟩ ?_
  rintro k z L ⟨rfl, i, hi, rfl, rfl, hall⟩
  refine ifD_of (fun (hlt : (i : Int) < v.len) => ?_) (fun (hge : ¬ (i : Int) < v.len) => ?_)
  · have hi' : i < l.length := by omega
    refine ifD_of (fun (hle : (i : Int) ≤ 200) => ?_) (fun (hle : ¬ (i : Int) ≤ 200) => .of ⟨rfl, _, rfl, fun hb => ?_⟩)
    · obtain ⟨a, ha, l1⟩ := h.at' hi'
      have hb := (h.val l[i] (List.getElem_mem hi')).len
      refine nilc_of ha (ixn_of (show (0 : Int) ≤ (i : Int) by omega) hlt (ld_of l[i].2.2.2.1.1 (l1.one 3 rfl) ?_))
      refine ifD_of (fun (h4 : (l[i].2.2.2.1.1.len : Int) > 600) => .of ⟨rfl, false, rfl, fun h => by cases h⟩) (fun (h4 : ¬ (l[i].2.2.2.1.1.len : Int) > 600) => ?_)
      refine ⟨l.length - (i + 1), by omega, rfl, i + 1, by omega, rfl, ?_, fun x hx => ?_⟩
      · rw [w64_id (by first | omega | (simp only; omega)) (by first | omega | (simp only; omega))]
        rfl
      · rw [List.take_succ_eq_append_getElem hi'] at hx
        rcases List.mem_append.1 hx with hx | hx
        · exact hall x hx
        · rw [List.mem_singleton.1 hx]; omega
    · have := of_decide_eq_true hb
      omega
  · obtain rfl : i = l.length := by omega
    rw [List.take_length] at hall
    refine .of ⟨rfl, _, rfl, fun hb => ⟨?_, hall⟩⟩
    have := of_decide_eq_true hb
    omega
theorem device_rd (L : HList) : Reads PP 40 #[] L (.agg #[.int .i64 2, .int .i64 4, .int .i64 64, .int .i64 3]) := by
  refine Reads.of (args := []) noNum mixed Try.func40 (e40 _) ?_
  unfold t40
  refine nw_of fun n1 _ => st_of [] L rfl rfl (by simp) (.inl (Nat.le_refl _)) #[.int .i64 2, .int .i64 4, .int .i64 64, .int .i64 3] rfl ?_
  exact ld_of (2, 4, 64, 3, ()) (ldB List.mem_cons_self rfl) (.cons (.of ⟨rfl, rfl⟩))
theorem undDv : isStr PP 44 = true := by kernel_rfl
theorem eqDv {L : HList} (a b c d a' b' c' d' : Int) {k : ShV (.lf .bool) → HP} (hk : k (decide ((a, b, c, d) = (a', b', c', d'))) L) :
    smP PP (binOp .eql 44 (.agg #[.int .i64 a, .int .i64 b, .int .i64 c, .int .i64 d]) (.agg #[.int .i64 a', .int .i64 b', .int .i64 c', .int .i64 d'])) (.lf .bool) k L := by
  refine eqS_of (r := (a == a' && (b == b' && (c == c' && (d == d' && true))))) undDv (by kernel_rfl) ?_
  have e : decide ((a, b, c, d) = (a', b', c', d')) = (a == a' && (b == b' && (c == c' && (d == d' && true)))) := by
    rw [Bool.eq_iff_iff]; simp
  rw [e] at hk; exact hk
theorem do1_cl (m : Nat) (d : Dev) (A R : HList) (h : FH m d A) (ok : DvOk d) (hf : d.torn.length ≤ 1048576) (x : FA) (hu : BSl R x.2.2.2.1.1 x.2.2.2.1.2) :
    CallF PP 39 #[.pointer (some ⟨m, 0, none⟩), faV x] (A ++ R) fun r L' => r = .tuple #[] ∧ ∃ A', L' = A' ++ R ∧ FH m (act d x) A' := by
  obtain ⟨kd, b, p, ⟨u, data⟩, n, kp, ⟨⟩⟩ := x
  refine CallF.of (args := [.pointer (some ⟨m, 0, none⟩), faV (kd, b, p, (u, data), n, kp, ())]) noNum mixed Try.func39 (e39 (some ⟨m, 0, none⟩) (kd, b, p, u, n, kp, ()) _) ?_
  unfold t39 act
  refine nw_of fun n1 _ => ?_
  generalize ho : ((n1, Obj.cells #[.int .i64 kd, .int .i64 b, .int .i64 p, .slice u.a u.len u.cap, .int .i64 n, .int .i64 kp] 55) : Nat × Obj) = o1
  have lo : ∀ L : HList, o1 ∈ L → LdAt ⟨n1, 0, none⟩ [.int .i64 kd, .int .i64 b, .int .i64 p, .slice u.a u.len u.cap, .int .i64 n, .int .i64 kp] L := fun L hm => ldB (by rw [← ho] at hm; exact hm) rfl
  clear ho
  refine ld_of kd ((lo _ List.mem_cons_self).pre fun i u hu => by cases i with | zero => exact hu | succ i => exact absurd (show (none : Option Value) = some u from hu) (by simp)) ?_
  refine ifE_of (fun (hk : kd = 0) => ?_) (fun (hk : kd ≠ 0) => ?_)
  · rw [if_pos hk]
    refine ld_of b ((lo _ List.mem_cons_self).one 1 rfl) (ld_of p ((lo _ List.mem_cons_self).one 2 rfl) (ld_of u ((lo _ List.mem_cons_self).one 3 rfl) ?_))
    refine cl_in [o1] [] (program_cl m d A R h ok hf b p u data hu) (by simp) ?_
    rintro _ _ - ⟨A', rfl, rfl, h'⟩
    exact ⟨(_, ()), rfl, by rw [List.append_nil]; exact .cons (.of ⟨rfl, A', rfl, h'⟩)⟩
  · rw [if_neg hk]
    refine ifE_of (fun (hk : kd = 1) => ?_) (fun (hk : kd ≠ 1) => ?_)
    · rw [if_pos hk]
      refine ld_of b ((lo _ List.mem_cons_self).one 1 rfl) (ld_of p ((lo _ List.mem_cons_self).one 2 rfl) ?_)
      refine cl_in [o1] R (read_cl m d A h ok b p) (by simp) ?_
      rintro _ _ - ⟨g, rfl, rfl, -, -⟩
      exact ⟨(g.v, _, ()), rfl, by rw [List.append_assoc, List.append_assoc]; exact .cons (.app (.app (.of ⟨rfl, A, rfl, h⟩)))⟩
    · rw [if_neg hk]
      refine ifE_of (fun (hk : kd = 2) => ?_) (fun (hk : kd ≠ 2) => ?_)
      · rw [if_pos hk]
        refine ld_of b ((lo _ List.mem_cons_self).one 1 rfl) ?_
        refine cl_in [o1] R (erase_cl m d A h ok b) (by simp) ?_
        rintro _ A' - ⟨rfl, h'⟩
        exact ⟨(_, ()), rfl, by rw [List.append_assoc]; exact .cons (.of ⟨rfl, A', rfl, h'⟩)⟩
      · rw [if_neg hk]
        refine ifE_of (fun (hk : kd = 3) => ?_) (fun (hk : kd ≠ 3) => ?_)
        · rw [if_pos hk]
          refine ld_of n ((lo _ List.mem_cons_self).one 4 rfl) (ld_of kp ((lo _ List.mem_cons_self).one 5 rfl) ?_)
          refine cl_in [o1] R (arm_cl m d A h n kp) (by simp) ?_
          rintro _ A' - ⟨rfl, h'⟩
          exact ⟨(), rfl, by rw [List.append_assoc]; exact .cons (.of ⟨rfl, A', rfl, h'⟩)⟩
        · rw [if_neg hk]
          refine cl_in [o1] R (restart_cl m d A h) (by simp) ?_
          rintro _ A' - ⟨rfl, h'⟩
          exact ⟨(), rfl, by rw [List.append_assoc]; exact .cons (.of ⟨rfl, A', rfl, h'⟩)⟩
end Go.Proofs.Ytaniefdpjommnaa
