/-
  It is proved what the functions that the law RebuildOnce reaches compute, part 3. There are no further conditions than those that each theorem names.
-/
import Derived.Test.YtlabcgnegbdlfaaDoorMRebuildOnce2
set_option linter.unusedVariables false
set_option linter.unusedSimpArgs false
namespace Go.Proofs.YtlabcgnegbdlfaaDoor
open Go.HL

def Blk.torn (k : Blk) (c : Cfg) (n : Nat) : Blk := { k with pages := List.replicate n (blk c.S) ++ k.pages.drop n, next := c.P }
def Blk.fresh (k : Blk) (c : Cfg) : Blk := ⟨List.replicate c.P (blk c.S), 0, k.wear + 1, decide (k.wear + 1 = c.W)⟩
def eraseK (d : Dev) (i : Nat) (k : Blk) : Int × Dev :=
  if (tear d).1 then (11, { (tear d).2 with bs := d.bs.set i (k.torn d.c (keptN d.keep d.c.P)) })
  else (if k.wear + 1 = d.c.W then 10 else 0, { (tear d).2 with bs := d.bs.set i (k.fresh d.c) })
def eraseR (d : Dev) (b : Int) : Int × Dev :=
  if findE d b 0 ≠ 0 then (findE d b 0, d) else
  match d.bs[b.toNat]? with
  | none => (2, d)
  | some k => if k.bad then (10, d) else eraseK d b.toNat k
theorem erase_cl (m : Nat) (d : Dev) (A : HList) (h : FH m d A) (ok : DvOk d) (b : Int) :
    CallF PP 13 #[.pointer (some ⟨m, 0, none⟩), .int .i64 b] A fun r L' => r = .int .i64 (eraseR d b).1 ∧ FH m (eraseR d b).2 L' := by
  have hA := h
  obtain ⟨bv, bseg, bs, tv, tseg, ts, rfl, h⟩ := h
  refine CallF.of (args := [.pointer (some ⟨m, 0, none⟩), .int .i64 b]) noNum mixed Tryd.func13 (e13 (some ⟨m, 0, none⟩) b _) ?_
  unfold t13
  have hfew := h.few ok
  have hP := ok.c.p
  have hS := ok.c.s
  have hW := ok.c.w
  refine cl_rd (find_rd _ m d bv tv fL_o bs h.sl (by omega) h.hb (by omega) b 0) (if findE d b 0 = 0 then ptAt bs b else none, findE d b 0, ()) rfl ?_
  refine ifNe_of (fun (he : findE d b 0 ≠ 0) => ?_) (fun (he : findE d b 0 = 0) => ?_)
  · have hr : eraseR d b = (findE d b 0, d) := by unfold eraseR; rw [if_pos he]
    rw [hr]
    exact .of ⟨rfl, hA⟩
  obtain ⟨hdn, hb0, hb1, hp0, hp1⟩ := findE_0 he
  obtain ⟨i, rfl⟩ : ∃ i : Nat, b = i := ⟨b.toNat, by omega⟩
  have hbl : d.bs.length = bs.length := by rw [← h.hb, List.length_map]
  have hi : i < bs.length := by omega
  obtain ⟨pre, x, post, rfl, rfl⟩ : ∃ pre x post, bs = pre ++ x :: post ∧ pre.length = i := ⟨bs.take i, bs[i], bs.drop (i + 1), by rw [← List.drop_eq_getElem_cons hi, List.take_append_drop], by rw [List.length_take]; omega⟩
  have hk : d.bs[pre.length]? = some x.blk := by rw [← h.hb, List.getElem?_map]; simp
  have hset : ∀ y : PB, (pre ++ y :: post).map PB.blk = d.bs.set pre.length y.blk := fun y => by rw [← h.hb]; simp
  have hmk : x.blk ∈ d.bs := List.mem_of_getElem? hk
  have hpr : eraseR d (pre.length : Int) = if x.bad then (10, d) else eraseK d pre.length x.blk := by
    unfold eraseR
    rw [if_neg (by simpa using he), Int.toNat_natCast, hk]
    rfl
  have hxm : x.obj ∈ fL m d bv bseg (pre ++ x :: post) tv tseg ts := (List.mem_cons_of_mem _ (List.mem_append_right _ (List.mem_append_left _ (by rw [bobjs_append, bobjs_cons]; exact List.mem_append_right _ (List.mem_append_left _ List.mem_cons_self)))))
  rw [if_pos he, ptAt_mid]
  refine nilc_of rfl (ld_of x.bad (b_bad hxm) ?_)
  refine ifB_of (fun (hbad : x.bad = true) => ?_) (fun (hbad : x.bad = false) => ?_)
  · rw [hpr, if_pos hbad]
    exact .of ⟨rfl, hA⟩
  rw [hpr, if_neg (by rw [hbad]; decide)]
  clear hpr hA hxm
  have hok := h.okb x (by simp)
  have hpl := (ok.pg _ hmk).1
  have hpl' : x.ps.length = d.c.P := by rw [← hpl]; simp [PB.blk]
  have hxw : x.wear ≤ d.c.W := (ok.nx _ hmk).2.1
  have hL : fL m d bv bseg (pre ++ x :: post) tv tseg ts = fO m d bv tv :: (bseg ++ (bobjs pre ++ (x.objs ++ (bobjs post ++ (tseg ++ tsegs ts))))) := by
    unfold fL
    rw [bobjs_append, bobjs_cons]
    simp
  rw [hL]
  clear hL
  have hokb : ∀ y : PB, y.Ok → ∀ z ∈ pre ++ y :: post, z.Ok := by
    intro y hy z hz
    have hz' : z ∈ pre ∨ z = y ∨ z ∈ post := by simpa using hz
    rcases hz' with h1 | rfl | h1
    · exact h.okb z (by simp [h1])
    · exact hy
    · exact h.okb z (by simp [h1])
  have hobp : ∀ y : PB, y.id = x.id → Own bv 1 ePb ((pre ++ y :: post).map pbp) bseg := by
    intro y hy
    have : (pre ++ y :: post).map pbp = (pre ++ x :: post).map pbp := by simp [pbp, hy]
    rw [this]; exact h.ob
  refine nilc_of rfl ?_
  refine cl_in [] (bseg ++ (bobjs pre ++ (x.objs ++ (bobjs post ++ (tseg ++ tsegs ts))))) (tears_cl m d bv tv ok.after) rfl ?_
  rintro _ _ - ⟨rfl, rfl⟩
  refine ⟨((tear d).1, ()), rfl, ?_⟩
  unfold eraseK
  obtain ⟨hc2, hb2, hk2, hy2, ht2⟩ := tear_c d
  generalize hd2 : tear d = tt at hc2 hb2 hk2 hy2 ht2 ⊢
  obtain ⟨t, d2⟩ := tt
  simp only at hc2 hb2 hk2 hy2 ht2 ⊢
  rw [List.nil_append]
  have hLs : [fO m d2 bv tv] ++ (bseg ++ (bobjs pre ++ (x.objs ++ (bobjs post ++ (tseg ++ tsegs ts))))) = (fO m d2 bv tv :: (bseg ++ bobjs pre)) ++ x.objs ++ (bobjs post ++ (tseg ++ tsegs ts)) := by simp
  rw [hLs]
  cases t with
  | true =>
    refine ifT rfl (nilc_of rfl (nilc_of rfl (nilc_of rfl ?_)))
    refine ld_of (d.c.P : Int) (by have := f_P (m := m) (d := d2) (bv := bv) (tv := tv) (L := (fO m d2 bv tv :: (bseg ++ bobjs pre)) ++ x.objs ++ (bobjs post ++ (tseg ++ tsegs ts))) (by simp); rw [hc2] at this; exact this) ?_
    have hls : LdAt ⟨m, 5, none⟩ [.int .i64 d.c.S] ((fO m d2 bv tv :: (bseg ++ bobjs pre)) ++ x.objs ++ (bobjs post ++ (tseg ++ tsegs ts))) := by have := f_S (m := m) (d := d2) (bv := bv) (tv := tv) (L := (fO m d2 bv tv :: (bseg ++ bobjs pre)) ++ x.objs ++ (bobjs post ++ (tseg ++ tsegs ts))) (by simp); rw [hc2] at this; exact this
    refine ld_of (d.c.S : Int) hls ?_
    refine cl_rd (kept_rd _ m d2 bv tv (by simp) d.c.P) ((keptN d2.keep d.c.P : Int), ()) rfl (keep_of hls ?_)
    rw [show keptN d2.keep d.c.P = keptN d.keep d.c.P by rw [hk2]]
    have hkp : keptN d.keep d.c.P ≤ d.c.P := by unfold keptN; omega
    refine cl_in (fO m d2 bv tv :: (bseg ++ bobjs pre)) (bobjs post ++ (tseg ++ tsegs ts)) (wipe_cl x hok (keptN d.keep d.c.P) d.c.S (by omega) (by omega) (by omega)) rfl ?_
    rintro _ _ - ⟨rfl, seg', ps', rfl, hok', hps'⟩
    refine ⟨(), rfl, nilc_of rfl (ld_of (d.c.P : Int) (by have := f_P (m := m) (d := d2) (bv := bv) (tv := tv) (L := (fO m d2 bv tv :: (bseg ++ bobjs pre)) ++ ({ x with seg := seg', ps := ps' } : PB).objs ++ (bobjs post ++ (tseg ++ tsegs ts))) (by simp); rw [hc2] at this; exact this) (nilc_of rfl ?_))⟩
    refine st_of (n := x.id) (off := 1) (c := #[.slice x.v.a x.v.len x.v.cap, .int .i64 x.next, .int .i64 x.wear, .bool x.bad]) (T := tBk) (fz := (0, 0)) (fO m d2 bv tv :: (bseg ++ bobjs pre)) (seg' ++ (pgs ps' ++ (bobjs post ++ (tseg ++ tsegs ts)))) rfl (by simp [PB.obj, PB.objs]) (by simp) (.inl (Nat.le_refl _))
      #[.slice x.v.a x.v.len x.v.cap, .int .i64 d.c.P, .int .i64 x.wear, .bool x.bad] rfl ?_
    refine .of ⟨rfl, bv, bseg, pre ++ ({ x with seg := seg', ps := ps', next := d.c.P } : PB) :: post, tv, tseg, ts, ?_, hobp _ rfl, hokb _ ⟨hok'.own, hok'.ps⟩, ?_, h.ot, h.okt, ?_⟩
    · unfold fL
      rw [bobjs_append, bobjs_cons]
      unfold PB.objs PB.obj
      simp [fO]
    · rw [hset]
      congr 1
      unfold PB.blk Blk.torn
      simp only
      rw [hps']
    · rw [if_pos rfl]; show _ = d2.torn; rw [ht2]; exact h.ht
  | false =>
    refine ifF rfl (nilc_of rfl (nilc_of rfl ?_))
    refine ld_of (d.c.P : Int) (by have := f_P (m := m) (d := d2) (bv := bv) (tv := tv) (L := (fO m d2 bv tv :: (bseg ++ bobjs pre)) ++ x.objs ++ (bobjs post ++ (tseg ++ tsegs ts))) (by simp); rw [hc2] at this; exact this) ?_
    have hls : LdAt ⟨m, 5, none⟩ [.int .i64 d.c.S] ((fO m d2 bv tv :: (bseg ++ bobjs pre)) ++ x.objs ++ (bobjs post ++ (tseg ++ tsegs ts))) := by have := f_S (m := m) (d := d2) (bv := bv) (tv := tv) (L := (fO m d2 bv tv :: (bseg ++ bobjs pre)) ++ x.objs ++ (bobjs post ++ (tseg ++ tsegs ts))) (by simp); rw [hc2] at this; exact this
    refine ld_of (d.c.S : Int) hls ?_
    refine cl_in (fO m d2 bv tv :: (bseg ++ bobjs pre)) (bobjs post ++ (tseg ++ tsegs ts)) (wipe_cl x hok d.c.P d.c.S (by omega) (by omega) (by omega)) rfl ?_
    rintro _ _ - ⟨rfl, seg', ps', rfl, hok', hps'⟩
    refine ⟨(), rfl, nilc_of rfl (ld_of (d.c.W : Int) (by have := f_W (m := m) (d := d2) (bv := bv) (tv := tv) (L := (fO m d2 bv tv :: (bseg ++ bobjs pre)) ++ ({ x with seg := seg', ps := ps' } : PB).objs ++ (bobjs post ++ (tseg ++ tsegs ts))) (by simp); rw [hc2] at this; exact this) ?_)⟩
    refine cl_in (fO m d2 bv tv :: (bseg ++ bobjs pre)) (seg' ++ (pgs ps' ++ (bobjs post ++ (tseg ++ tsegs ts)))) (worn_cl ({ x with seg := seg', ps := ps' } : PB) d.c.W (by show x.wear ≤ 1048576; omega)) (by simp [PB.objs]) ?_
    rintro _ _ - ⟨rfl, rfl⟩
    have hwd : decide ((((({ x with seg := seg', ps := ps' } : PB).wear + 1 : Nat)) : Int) = (d.c.W : Int)) = decide (x.wear + 1 = d.c.W) := by
      show decide (((x.wear + 1 : Nat) : Int) = (d.c.W : Int)) = _
      by_cases hw1 : x.wear + 1 = d.c.W
      · rw [decide_eq_true hw1, decide_eq_true (by omega)]
      · rw [decide_eq_false hw1, decide_eq_false (by omega)]
    rw [hwd]
    refine ⟨(decide (x.wear + 1 = d.c.W), ()), rfl, ?_⟩
    rw [if_neg (by decide)]
    have hend : FH m { d2 with bs := d.bs.set pre.length (x.blk.fresh d.c) } ((fO m d2 bv tv :: (bseg ++ bobjs pre)) ++ [({ x with seg := seg', ps := ps', next := 0, wear := x.wear + 1, bad := decide (x.wear + 1 = d.c.W) } : PB).obj] ++ (seg' ++ (pgs ps' ++ (bobjs post ++ (tseg ++ tsegs ts))))) := by
      refine ⟨bv, bseg, pre ++ ({ x with seg := seg', ps := ps', next := 0, wear := x.wear + 1, bad := decide (x.wear + 1 = d.c.W) } : PB) :: post, tv, tseg, ts, ?_, hobp _ rfl, hokb _ ⟨hok'.own, hok'.ps⟩, ?_, h.ot, h.okt, ?_⟩
      · unfold fL
        rw [bobjs_append, bobjs_cons]
        unfold PB.objs PB.obj
        simp [fO]
      · rw [hset]
        congr 1
        unfold PB.blk Blk.fresh
        simp only
        rw [hps', List.drop_of_length_le (by rw [List.length_map]; omega), List.append_nil]
      · show _ = d2.torn; rw [ht2]; exact h.ht
    refine ifD_of (fun (hw1 : x.wear + 1 = d.c.W) => .of ⟨?_, hend⟩) (fun (hw1 : ¬ x.wear + 1 = d.c.W) => .of ⟨?_, hend⟩)
    · show Value.int .i64 10 = .int .i64 (if x.wear + 1 = d.c.W then 10 else 0)
      rw [if_pos hw1]
    · show Value.int .i64 0 = .int .i64 (if x.wear + 1 = d.c.W then 10 else 0)
      rw [if_neg hw1]
def right (c : Int × Int × Int × Int × Unit) : Prop := 2 ≤ c.1 ∧ c.1 ≤ 16 ∧ 4 ≤ c.2.1 ∧ c.2.1 ≤ 16 ∧ 64 ≤ c.2.2.1 ∧ c.2.2.1 ≤ 512 ∧ 1 ≤ c.2.2.2.1 ∧ c.2.2.2.1 ≤ 1048576
def cfg (c : Int × Int × Int × Int × Unit) : Cfg := ⟨c.1.toNat, c.2.1.toNat, c.2.2.1.toNat, c.2.2.2.1.toNat⟩
def blk0 (c : Cfg) : Blk := ⟨List.replicate c.P (blk c.S), 0, 0, false⟩
def fresh (c : Cfg) : Dev := ⟨c, 0, 0, false, List.replicate c.B (blk0 c), 0, []⟩
theorem cfg_ok {c : Int × Int × Int × Int × Unit} (h : right c) : CfgOk (cfg c) := by
  unfold right at h
  refine ⟨?_, ?_, ?_, ?_⟩ <;> simp only [cfg] <;> omega
theorem fresh_ok {c : Cfg} (h : CfgOk c) : DvOk (fresh c) := by
  refine ⟨h, by simp [fresh], ?_, ?_, by simp [fresh], by simp [fresh]⟩
  · intro k hk
    rw [List.eq_of_mem_replicate hk]
    refine ⟨by simp [blk0, fresh], fun l hl => ?_⟩
    rw [List.eq_of_mem_replicate hl]; simp [blk, fresh]
  · intro k hk
    rw [List.eq_of_mem_replicate hk]
    have := h.w
    refine ⟨Nat.zero_le _, Nat.zero_le _, ?_⟩
    show false = decide (0 = c.W)
    rw [decide_eq_false (by omega)]
theorem zeros_pg (n : Nat) : zeros [.slice none 0 0] n = (List.replicate n pg0).map PG.val := by
  unfold zeros
  rw [List.map_replicate]
  induction n with
  | zero => rfl
  | succ n ih => rw [List.replicate_succ, List.replicate_succ, List.flatten_cons, ih]; rfl
theorem pgs_nil (n : Nat) : pgs (List.replicate n pg0) = [] := by
  induction n with
  | zero => rfl
  | succ n ih => rw [List.replicate_succ, pgs_cons, ih]; rfl
theorem new_cl (c : Int × Int × Int × Int × Unit) :
    CallF PP 9 #[.agg #[.int .i64 c.1, .int .i64 c.2.1, .int .i64 c.2.2.1, .int .i64 c.2.2.2.1]] [] fun r L' => (¬ right c ∧ r = .tuple #[.pointer none, .int .i64 30] ∧ L' = []) ∨ (right c ∧ ∃ m, r = .tuple #[.pointer (some ⟨m, 0, none⟩), .int .i64 0] ∧ FH m (fresh (cfg c)) L') := by
  refine CallF.of (args := [.agg #[.int .i64 c.1, .int .i64 c.2.1, .int .i64 c.2.2.1, .int .i64 c.2.2.2.1]]) noNum mixed Tryd.func9 (e9 c _) ?_
  unfold t9
  refine nw_of fun n1 _ => ?_
  generalize ho : (n1, Obj.cells #[.int .i64 c.1, .int .i64 c.2.1, .int .i64 c.2.2.1, .int .i64 c.2.2.2.1] 23) = o1
  have lc : ∀ L : HList, o1 ∈ L → LdAt ⟨n1, 0, none⟩ [.int .i64 c.1, .int .i64 c.2.1, .int .i64 c.2.2.1, .int .i64 c.2.2.2.1] L := fun L hm => ldB (by rw [← ho] at hm; exact hm) rfl
  clear ho
  have lB : ∀ L : HList, o1 ∈ L → LdAt ⟨n1, 0, none⟩ [.int .i64 c.1] L := fun L hm => (lc L hm).pre fun i u hu => by cases i with | zero => exact hu | succ i => exact absurd (show (none : Option Value) = some u from hu) (by simp)
  refine ld_of c.1 (lB _ List.mem_cons_self) ?_
  refine cl_rd (within_rd _ c.1 2 16) (decide (2 ≤ c.1 ∧ c.1 ≤ 16), ()) rfl ?_
  refine ifD_of (fun (h1 : 2 ≤ c.1 ∧ c.1 ≤ 16) => ?_) (fun (h1 : ¬ (2 ≤ c.1 ∧ c.1 ≤ 16)) => .cons (.of (.inl ⟨by unfold right; omega, rfl, rfl⟩)))
  refine ld_of c.2.1 ((lc _ List.mem_cons_self).one 1 rfl) ?_
  refine cl_rd (within_rd _ c.2.1 4 16) (decide (4 ≤ c.2.1 ∧ c.2.1 ≤ 16), ()) rfl ?_
  by_cases h2 : 4 ≤ c.2.1 ∧ c.2.1 ≤ 16
  case neg => rw [decide_eq_false h2]; exact ifT rfl (.cons (.of (.inl ⟨by unfold right; omega, rfl, rfl⟩)))
  rw [decide_eq_true h2]
  refine ifF rfl (ld_of c.2.2.1 ((lc _ List.mem_cons_self).one 2 rfl) ?_)
  refine cl_rd (within_rd _ c.2.2.1 64 512) (decide (64 ≤ c.2.2.1 ∧ c.2.2.1 ≤ 512), ()) rfl ?_
  by_cases h3 : 64 ≤ c.2.2.1 ∧ c.2.2.1 ≤ 512
  case neg => rw [decide_eq_false h3]; exact ifT rfl (.cons (.of (.inl ⟨by unfold right; omega, rfl, rfl⟩)))
  rw [decide_eq_true h3]
  refine ifF rfl (ld_of c.2.2.2.1 ((lc _ List.mem_cons_self).one 3 rfl) ?_)
  refine cl_rd (within_rd _ c.2.2.2.1 1 1048576) (decide (1 ≤ c.2.2.2.1 ∧ c.2.2.2.1 ≤ 1048576), ()) rfl ?_
  by_cases h4 : 1 ≤ c.2.2.2.1 ∧ c.2.2.2.1 ≤ 1048576
  case neg => rw [decide_eq_false h4]; exact ifT rfl (.cons (.of (.inl ⟨by unfold right; omega, rfl, rfl⟩)))
  rw [decide_eq_true h4]
  refine ifF rfl ?_
  have hr : right c := by unfold right; omega
  have hck := cfg_ok hr
  obtain ⟨cB, cP, cS, cW, u⟩ := c
  obtain ⟨B, rfl⟩ : ∃ B : Nat, cB = B := ⟨cB.toNat, by simp only at h1; omega⟩
  obtain ⟨Pn, rfl⟩ : ∃ B : Nat, cP = B := ⟨cP.toNat, by simp only at h2; omega⟩
  obtain ⟨S, rfl⟩ : ∃ B : Nat, cS = B := ⟨cS.toNat, by simp only at h3; omega⟩
  obtain ⟨W, rfl⟩ : ∃ B : Nat, cW = B := ⟨cW.toNat, by simp only at h4; omega⟩
  simp only at h1 h2 h3 h4
  have hcf : cfg ((B : Int), (Pn : Int), (S : Int), (W : Int), u) = ⟨B, Pn, S, W⟩ := by simp [cfg]
  rw [hcf] at hck ⊢
  refine ld_of ((B : Int), (Pn : Int), (S : Int), (W : Int), ()) (lc _ List.mem_cons_self) (nw_of fun m _ => ?_)
  have hm0 : ((m, Obj.cells #[.int .i64 0, .int .i64 0, .bool false, .int .i64 B, .int .i64 Pn, .int .i64 S, .int .i64 W, .slice none 0 0, .int .i64 0, .slice none 0 0] tFl) : Nat × Obj) = fO m { fresh ⟨B, Pn, S, W⟩ with bs := [] } ⟨none, 0, 0⟩ ⟨none, 0, 0⟩ := rfl
  refine ld_of (B : Int) (lB _ (by simp)) ?_
  refine lp_of (fun z' z L' => ∃ (i : Nat) (bv : SlV) (bseg : HList) (bs : List PB) (J X Y : HList), i ≤ B ∧ z' = B - i ∧ z = ((i : Int), ()) ∧ L' = X ++ fO m (fresh ⟨B, Pn, S, W⟩) bv ⟨none, 0, 0⟩ :: (bseg ++ Y) ∧ (X ++ Y).Perm (bobjs bs ++ (o1 :: J)) ∧ Own bv 1 ePb (bs.map pbp) bseg ∧ (∀ b ∈ bs, b.Ok) ∧ bs.map PB.blk = List.replicate i (blk0 ⟨B, Pn, S, W⟩)) B
    ⟨0, ⟨none, 0, 0⟩, [], [], [], [], [o1], by omega, by omega, rfl, rfl, List.Perm.refl _, own_nil, by simp, rfl⟩ ?_
  rintro z' z L ⟨i, bv, bseg, bs, J, X, Y, hi, rfl, rfl, rfl, hp, own, hokb, hbs⟩
  have ho1 : o1 ∈ X ++ fO m (fresh ⟨B, Pn, S, W⟩) bv ⟨none, 0, 0⟩ :: (bseg ++ Y) := by
    have h5 : o1 ∈ X ++ Y := (hp.mem_iff (a := o1)).2 (by simp)
    have h6 : o1 ∈ X ∨ o1 ∈ Y := by simpa using h5
    rcases h6 with h6 | h6 <;> simp [h6]
  have hbl : bs.length = i := by have := congrArg List.length hbs; rwa [List.length_map, List.length_replicate] at this
  refine ifD_of (fun (hlt : (i : Int) < (B : Int)) => ?_) (fun (hge : ¬ (i : Int) < (B : Int)) => ?_)
  · refine ld_of (Pn : Int) ((lc _ ho1).one 1 rfl) ?_
    refine make_of elemPs (l := Pn) (c := Pn) (Nat.le_refl _) (by omega) fun q ob ownq _ _ => ?_
    rw [zeros_pg] at ownq
    refine nw_of fun n3 _ => ?_
    refine ld_of (Pn : Int) ((lc _ (List.mem_cons_of_mem _ (List.mem_cons_of_mem _ ho1))).one 1 rfl) (ld_of (S : Int) ((lc _ (List.mem_cons_of_mem _ (List.mem_cons_of_mem _ ho1))).one 2 rfl) ?_)
    have hx0 : ({ id := n3, v := ⟨some ⟨q, 0, none⟩, Pn, Pn⟩, seg := [(q, ob)], ps := List.replicate Pn pg0, next := 0, wear := 0, bad := false } : PB).Ok := ⟨ownq, fun g hg => by rw [List.eq_of_mem_replicate hg]; exact pg0_ok⟩
    refine cl_in [] (X ++ fO m (fresh ⟨B, Pn, S, W⟩) bv ⟨none, 0, 0⟩ :: (bseg ++ Y)) (wipe_cl _ hx0 Pn S (by simp) (by omega) (by omega)) (by simp [PB.objs, PB.obj, pgs_nil]) ?_
    rintro _ _ - ⟨rfl, seg', ps', rfl, hok', hps'⟩
    refine ⟨(), rfl, ?_⟩
    rw [List.nil_append]
    generalize hx : ({ id := n3, v := ⟨some ⟨q, 0, none⟩, Pn, Pn⟩, seg := seg', ps := ps', next := 0, wear := 0, bad := false } : PB) = x at hok' ⊢
    have hxi : x.id = n3 := by rw [← hx]
    have hxb : x.blk = blk0 ⟨B, Pn, S, W⟩ := by
      rw [← hx]
      unfold PB.blk blk0
      simp only
      rw [hps', List.drop_of_length_le (by simp), List.append_nil]
    refine ld_of bv (f_bs (m := m) (d := fresh ⟨B, Pn, S, W⟩) (tv := ⟨none, 0, 0⟩) (by simp)) (nw_of fun n4 _ => ?_)
    have hbvl := own.len
    rw [List.length_map] at hbvl
    refine append_in elemPb srcPb ((n4, Obj.cells #[.pointer (some ⟨n3, 0, none⟩)] 93) :: (x.objs ++ (X ++ [fO m (fresh ⟨B, Pn, S, W⟩) bv ⟨none, 0, 0⟩]))) Y own (by simp)
      (n := 1) (ws := [pbp x]) (x := .slice (some ⟨n4, 0, none⟩) 1 1) (Src.sl (v := ⟨some ⟨n4, 0, none⟩, 1, 1⟩) ⟨rfl, Nat.le_refl _, .inr ⟨_, rfl, ldB (n := n4) (off := 0) (T := 93) (fz := (0, 0)) (c := #[.pointer (some ⟨n3, 0, none⟩)]) List.mem_cons_self (by unfold pbp; rw [hxi]; rfl)⟩⟩) rfl (by omega) fun v8 seg8 hv8 own8 => ?_
    refine st_of (n := m) (off := 7) (c := #[.int .i64 0, .int .i64 0, .bool false, .int .i64 B, .int .i64 Pn, .int .i64 S, .int .i64 W, .slice bv.a bv.len bv.cap, .int .i64 0, .slice none 0 0]) (T := tFl) (fz := (0, 0)) ((n4, Obj.cells #[.pointer (some ⟨n3, 0, none⟩)] 93) :: (x.objs ++ X)) (seg8 ++ Y) rfl (by simp [fO, fresh]) (by simp) (.inl (Nat.le_refl _))
      #[.int .i64 0, .int .i64 0, .bool false, .int .i64 B, .int .i64 Pn, .int .i64 S, .int .i64 W, .slice v8.a v8.len v8.cap, .int .i64 0, .slice none 0 0] rfl ?_
    refine ⟨B - (i + 1), by omega, i + 1, v8, seg8, bs ++ [x], (n4, Obj.cells #[.pointer (some ⟨n3, 0, none⟩)] 93) :: J, (n4, Obj.cells #[.pointer (some ⟨n3, 0, none⟩)] 93) :: (x.objs ++ X), Y, by omega, rfl, ?_, rfl, ?_, ?_, ?_, ?_⟩
    · rw [w64_id (by first | omega | (simp only; omega)) (by first | omega | (simp only; omega))]
      rfl
    · generalize (n4, Obj.cells #[.pointer (some ⟨n3, 0, none⟩)] 93) = o4
      have hbo : bobjs (bs ++ [x]) = bobjs bs ++ x.objs := by rw [bobjs_append, bobjs_cons]; simp [bobjs]
      rw [hbo]
      classical
      rw [List.perm_iff_count] at hp ⊢
      intro z
      have := hp z
      simp only [List.append_eq, List.cons_append, List.count_append, List.count_cons, List.count_nil] at this ⊢
      omega
    · rw [List.map_append]; exact own8
    · intro z hz
      rcases List.mem_append.1 hz with h5 | h5
      · exact hokb z h5
      · rw [List.mem_singleton.1 h5]; exact hok'
    · rw [List.map_append, hbs, List.replicate_succ', List.map_singleton, hxb]
  · obtain rfl : i = B := by omega
    refine .drop (A := fL m (fresh ⟨i, Pn, S, W⟩) bv bseg bs ⟨none, 0, 0⟩ [] []) (J := o1 :: J) (.inr ⟨hr, m, rfl, bv, bseg, bs, ⟨none, 0, 0⟩, [], [], rfl, own, hokb, hbs, own_nil, by simp, rfl⟩) ?_
    unfold fL
    have : tsegs [] = [] := rfl
    rw [this]
    classical
    rw [List.perm_iff_count] at hp ⊢
    intro z
    have := hp z
    simp only [List.append_eq, List.cons_append, List.count_append, List.count_cons, List.count_nil] at this ⊢
    omega
end Go.Proofs.YtlabcgnegbdlfaaDoor
set_option linter.unusedVariables false
set_option linter.unusedSimpArgs false
namespace Go.Proofs.YtlabcgnegbdlfaaDoor
open Go.HL

structure BkOk (c : Cfg) (k : Blk) : Prop where
  pg : k.pages.length = c.P ∧ ∀ l ∈ k.pages, l.length = c.S
  nx : k.next ≤ c.P ∧ k.wear ≤ c.W ∧ k.bad = decide (k.wear = c.W)
theorem DvOk.bk {d : Dev} (h : DvOk d) {k : Blk} (hk : k ∈ d.bs) : BkOk d.c k := ⟨h.pg k hk, h.nx k hk⟩
theorem DvOk.set {d e : Dev} (h : DvOk d) (hc : e.c = d.c) (i : Nat) (k : Blk) (hk : BkOk d.c k) (hb : e.bs = d.bs.set i k) (ha : (e.after : Int) ≤ 9223372036854775807) (ht : ∀ t ∈ e.torn, t.meant.length = d.c.S ∧ t.image.length = d.c.S) : DvOk e := by
  have hm : ∀ x ∈ e.bs, BkOk d.c x := by
    intro x hx
    rw [hb] at hx
    rcases List.mem_or_eq_of_mem_set hx with h1 | rfl
    · exact h.bk h1
    · exact hk
  refine ⟨hc ▸ h.c, ?_, ?_, ?_, ha, ?_⟩
  · rw [hb, List.length_set, hc]; exact h.len
  · intro x hx; rw [hc]; exact (hm x hx).pg
  · intro x hx; rw [hc]; exact (hm x hx).nx
  · rw [hc]; exact ht
theorem tear_after (d : Dev) : (tear d).2.after ≤ d.after := by
  unfold tear
  split
  · exact Nat.le_refl _
  · exact Nat.sub_le _ _
theorem tear_counted (d : Dev) : (tear (counted d)).2.c = d.c ∧ (tear (counted d)).2.bs = d.bs ∧ (tear (counted d)).2.torn = d.torn ∧ (tear (counted d)).2.after ≤ d.after := by
  obtain ⟨h1, h2, h3, h4, h5⟩ := tear_c (counted d)
  exact ⟨h1, h2, h5, tear_after (counted d)⟩
theorem put_ok {c : Cfg} {k : Blk} (hk : BkOk c k) {p : Nat} (hp : p < c.P) {l : List UInt8} (hl : l.length = c.S) : BkOk c (k.put p l) := by
  refine ⟨⟨?_, fun x hx => ?_⟩, ?_, hk.nx.2⟩
  · show (k.pages.set p l).length = c.P
    rw [List.length_set]; exact hk.pg.1
  · rcases List.mem_or_eq_of_mem_set hx with h1 | rfl
    · exact hk.pg.2 x h1
    · exact hl
  · show p + 1 ≤ c.P
    exact hp
theorem tornImg_len {d : Dev} {data : List UInt8} (h : data.length = d.c.S) : (tornImg d data).length = d.c.S := by
  unfold tornImg blk keptN
  rw [List.length_append, List.length_take, List.length_replicate]; omega
theorem progK_ok {d : Dev} (ok : DvOk d) {i p : Nat} {k : Blk} (hk : BkOk d.c k) (hp : p < d.c.P) {data : List UInt8} (hl : data.length = d.c.S) : DvOk (progK d i p k data).2 := by
  obtain ⟨h1, h2, h3, h4⟩ := tear_counted d
  have ha := ok.after
  unfold progK
  split
  · refine ok.set h1 i (k.put p (tornImg d data)) (put_ok hk hp (tornImg_len hl)) rfl (by show ((tear (counted d)).2.after : Int) ≤ _; omega) ?_
    intro t ht
    rcases List.mem_append.1 ht with h | h
    · exact ok.torn t h
    · rw [List.mem_singleton.1 h]; exact ⟨hl, tornImg_len hl⟩
  · refine ok.set h1 i (k.put p data) (put_ok hk hp hl) rfl (by show ((tear (counted d)).2.after : Int) ≤ _; omega) ?_
    intro t ht
    exact ok.torn t (by rw [← h3]; exact ht)
theorem prog_ok {d : Dev} (ok : DvOk d) (b p : Int) (data : List UInt8) : DvOk (prog d b p data).2 := by
  unfold prog
  split
  · exact ok
  · rename_i he
    have he' : findE d b p = 0 := by simpa using he
    obtain ⟨_, _, _, hp0, hp1⟩ := findE_0 he'
    split
    · exact ok
    · rename_i hl
      split
      · exact ok
      · rename_i k hk
        split
        · exact ok
        · split
          · exact ok
          · exact progK_ok ok (ok.bk (List.mem_of_getElem? hk)) (by omega) (by omega)
theorem eraseK_ok {d : Dev} (ok : DvOk d) {i : Nat} {k : Blk} (hk : BkOk d.c k) (hb : k.bad = false) : DvOk (eraseK d i k).2 := by
  obtain ⟨h1, h2, h3, h4, h5⟩ := tear_c d
  have h6 := tear_after d
  have ha := ok.after
  have hkp : keptN d.keep d.c.P ≤ d.c.P := by unfold keptN; omega
  unfold eraseK
  split
  · refine ok.set h1 i (k.torn d.c (keptN d.keep d.c.P)) ⟨⟨?_, fun l hl => ?_⟩, Nat.le_refl _, hk.nx.2⟩ rfl (by show ((tear d).2.after : Int) ≤ _; omega) (by intro t ht; exact ok.torn t (by rw [← h5]; exact ht))
    · show (List.replicate _ _ ++ _).length = _
      rw [List.length_append, List.length_replicate, List.length_drop, hk.pg.1]; omega
    · rcases List.mem_append.1 hl with h | h
      · rw [List.eq_of_mem_replicate h]; simp [blk]
      · exact hk.pg.2 l (List.mem_of_mem_drop h)
  · have hw : k.wear + 1 ≤ d.c.W := by
      have h7 := hk.nx.2
      rw [hb] at h7
      have := of_decide_eq_false h7.2.symm
      omega
    refine ok.set h1 i (k.fresh d.c) ⟨⟨?_, fun l hl => ?_⟩, Nat.zero_le _, hw, rfl⟩ rfl (by show ((tear d).2.after : Int) ≤ _; omega) (by intro t ht; exact ok.torn t (by rw [← h5]; exact ht))
    · show (List.replicate _ _).length = _
      rw [List.length_replicate]
    · rw [List.eq_of_mem_replicate hl]; simp [blk]
theorem erase_ok {d : Dev} (ok : DvOk d) (b : Int) : DvOk (eraseR d b).2 := by
  unfold eraseR
  split
  · exact ok
  · split
    · exact ok
    · rename_i k hk
      split
      · exact ok
      · rename_i hb
        exact eraseK_ok ok (ok.bk (List.mem_of_getElem? hk)) (by simpa using hb)
theorem arm_ok {d : Dev} (ok : DvOk d) {n k : Int} (hn : n ≤ 9223372036854775807) : DvOk (arm d n k) := by
  unfold arm
  split
  · exact ok
  · exact ⟨ok.c, ok.len, ok.pg, ok.nx, by show ((n.toNat : Nat) : Int) ≤ _; omega, ok.torn⟩
theorem restart_ok {d : Dev} (ok : DvOk d) : DvOk (restart d) := ⟨ok.c, ok.len, ok.pg, ok.nx, by show ((0 : Nat) : Int) ≤ _; omega, ok.torn⟩
theorem progK_torn (d : Dev) (i p : Nat) (k : Blk) (data : List UInt8) : (progK d i p k data).2.torn.length ≤ d.torn.length + 1 := by
  obtain ⟨h1, h2, h3, h4⟩ := tear_counted d
  unfold progK
  split
  · show (d.torn ++ [_]).length ≤ _
    rw [List.length_append]; exact Nat.le_refl _
  · show (tear (counted d)).2.torn.length ≤ _
    rw [h3]; omega
theorem prog_torn (d : Dev) (b p : Int) (data : List UInt8) : (prog d b p data).2.torn.length ≤ d.torn.length + 1 := by
  unfold prog
  split
  · exact Nat.le_succ _
  · split
    · exact Nat.le_succ _
    · split
      · exact Nat.le_succ _
      · split
        · exact Nat.le_succ _
        · split
          · exact Nat.le_succ _
          · exact progK_torn _ _ _ _ _
theorem erase_torn (d : Dev) (b : Int) : (eraseR d b).2.torn = d.torn := by
  obtain ⟨h1, h2, h3, h4, h5⟩ := tear_c d
  unfold eraseR
  split
  · rfl
  · split
    · rfl
    · split
      · rfl
      · unfold eraseK
        split
        · exact h5
        · exact h5

end Go.Proofs.YtlabcgnegbdlfaaDoor
set_option linter.unusedVariables false
set_option linter.unusedSimpArgs false
namespace Go.Proofs.YtlabcgnegbdlfaaDoor
open Go.HL

abbrev tSs : TypeId := 97
abbrev tSt : TypeId := 102
abbrev eSg : TypeId := 9
abbrev tIn : TypeId := 98
abbrev eIn : TypeId := 3
abbrev tBo : TypeId := 99
abbrev eBo : TypeId := 4
abbrev tRf : TypeId := 101
theorem elemSs : ElemT PP tSs tSt 1 24 [.slice none 0 0] := elemT_of (by kernel_rfl) (by kernel_rfl) rfl (by decide) (by decide)
theorem srcSs : SrcT PP tSs := .inl ⟨tSt, by kernel_rfl⟩
theorem elemSt : ElemT PP tSt eSg 1 16 [.string ByteArray.empty] := elemT_of (by kernel_rfl) (by kernel_rfl) rfl (by decide) (by decide)
theorem srcSt : SrcT PP tSt := .inl ⟨eSg, by kernel_rfl⟩
theorem elemIn : ElemT PP tIn eIn 1 8 [.int .i64 0] := elemT_of (by kernel_rfl) (by kernel_rfl) rfl (by decide) (by decide)
theorem srcIn : SrcT PP tIn := .inl ⟨eIn, by kernel_rfl⟩
theorem elemBo : ElemT PP tBo eBo 1 1 [.bool false] := elemT_of (by kernel_rfl) (by kernel_rfl) rfl (by decide) (by decide)
theorem srcBo : SrcT PP tBo := .inl ⟨eBo, by kernel_rfl⟩
def strV (l : List UInt8) : Value := .string ⟨l.toArray⟩
structure RK where
  v : SlV
  seg : HList
  l : List (List UInt8)
def RK.Ok (g : RK) : Prop := Own g.v 1 eSg (g.l.map strV) g.seg
def RK.val (g : RK) : Value := .slice g.v.a g.v.len g.v.cap
def rsegs (l : List RK) : HList := l.flatMap RK.seg
theorem rsegs_append (a b : List RK) : rsegs (a ++ b) = rsegs a ++ rsegs b := List.flatMap_append
theorem rsegs_cons (a : RK) (b : List RK) : rsegs (a :: b) = a.seg ++ rsegs b := rfl
def bos (l : List Bool) : List Value := l.map Value.bool
def nexts (d : Dev) : List Int := d.bs.map fun k => (k.next : Int)
def wears (d : Dev) : List Int := d.bs.map fun k => (k.wear : Int)
def bads (d : Dev) : List Bool := d.bs.map fun k => k.bad
def rO (m : Nat) (d : Dev) (pv nv wv bv tv : SlV) : Nat × Obj :=
  (m, .cells #[.int .i64 d.c.B, .int .i64 d.c.P, .int .i64 d.c.S, .int .i64 d.c.W, .slice pv.a pv.len pv.cap, .slice nv.a nv.len nv.cap, .slice wv.a wv.len wv.cap, .slice bv.a bv.len bv.cap, .int .i64 d.bytes, .bool d.down, .int .i64 d.after, .int .i64 d.keep, .slice tv.a tv.len tv.cap] tRf)
structure RHs (d : Dev) (pv : SlV) (pseg : HList) (rs : List RK) (nv : SlV) (nseg : HList) (wv : SlV) (wseg : HList) (bv : SlV) (bseg : HList) (tv : SlV) (tseg : HList) (ts : List PT) : Prop where
  op : Own pv 1 tSt (rs.map RK.val) pseg
  okp : ∀ r ∈ rs, r.Ok
  hp : rs.map RK.l = d.bs.map Blk.pages
  on : Own nv 1 eIn (ivs .i64 (nexts d)) nseg
  ow : Own wv 1 eIn (ivs .i64 (wears d)) wseg
  ob : Own bv 1 eBo (bos (bads d)) bseg
  ot : Own tv 4 eT (ts.flatMap PT.enc) tseg
  okt : ∀ t ∈ ts, t.m.Ok ∧ t.i.Ok
  ht : ts.map PT.tn = d.torn
def rL (m : Nat) (d : Dev) (pv : SlV) (pseg : HList) (rs : List RK) (nv : SlV) (nseg : HList) (wv : SlV) (wseg : HList) (bv : SlV) (bseg : HList) (tv : SlV) (tseg : HList) (ts : List PT) : HList :=
  rO m d pv nv wv bv tv :: (pseg ++ (rsegs rs ++ (nseg ++ (wseg ++ (bseg ++ (tseg ++ tsegs ts))))))
def RH (m : Nat) (d : Dev) (A : HList) : Prop := ∃ pv pseg rs nv nseg wv wseg bv bseg tv tseg ts, A = rL m d pv pseg rs nv nseg wv wseg bv bseg tv tseg ts ∧ RHs d pv pseg rs nv nseg wv wseg bv bseg tv tseg ts
section
variable {L : HList} {m : Nat} {d : Dev} {pv nv wv bv tv : SlV}
theorem r_B (h : rO m d pv nv wv bv tv ∈ L) : LdAt ⟨m, 0, none⟩ [.int .i64 d.c.B] L := ldB (by unfold rO at h; exact h) rfl
theorem r_P (h : rO m d pv nv wv bv tv ∈ L) : LdAt ⟨m, 1, none⟩ [.int .i64 d.c.P] L := ldB (by unfold rO at h; exact h) rfl
theorem r_S (h : rO m d pv nv wv bv tv ∈ L) : LdAt ⟨m, 2, none⟩ [.int .i64 d.c.S] L := ldB (by unfold rO at h; exact h) rfl
theorem r_W (h : rO m d pv nv wv bv tv ∈ L) : LdAt ⟨m, 3, none⟩ [.int .i64 d.c.W] L := ldB (by unfold rO at h; exact h) rfl
theorem r_pg (h : rO m d pv nv wv bv tv ∈ L) : LdAt ⟨m, 4, none⟩ [.slice pv.a pv.len pv.cap] L := ldB (by unfold rO at h; exact h) rfl
theorem r_nx (h : rO m d pv nv wv bv tv ∈ L) : LdAt ⟨m, 5, none⟩ [.slice nv.a nv.len nv.cap] L := ldB (by unfold rO at h; exact h) rfl
theorem r_wr (h : rO m d pv nv wv bv tv ∈ L) : LdAt ⟨m, 6, none⟩ [.slice wv.a wv.len wv.cap] L := ldB (by unfold rO at h; exact h) rfl
theorem r_bd (h : rO m d pv nv wv bv tv ∈ L) : LdAt ⟨m, 7, none⟩ [.slice bv.a bv.len bv.cap] L := ldB (by unfold rO at h; exact h) rfl
theorem r_by (h : rO m d pv nv wv bv tv ∈ L) : LdAt ⟨m, 8, none⟩ [.int .i64 d.bytes] L := ldB (by unfold rO at h; exact h) rfl
theorem r_dn (h : rO m d pv nv wv bv tv ∈ L) : LdAt ⟨m, 9, none⟩ [.bool d.down] L := ldB (by unfold rO at h; exact h) rfl
theorem r_af (h : rO m d pv nv wv bv tv ∈ L) : LdAt ⟨m, 10, none⟩ [.int .i64 d.after] L := ldB (by unfold rO at h; exact h) rfl
theorem r_kp (h : rO m d pv nv wv bv tv ∈ L) : LdAt ⟨m, 11, none⟩ [.int .i64 d.keep] L := ldB (by unfold rO at h; exact h) rfl
theorem r_tn (h : rO m d pv nv wv bv tv ∈ L) : LdAt ⟨m, 12, none⟩ [.slice tv.a tv.len tv.cap] L := ldB (by unfold rO at h; exact h) rfl
end
instance (c : Int × Int × Int × Int × Unit) : Decidable (right c) := by unfold right; infer_instance
theorem right_rd (L : HList) (c : Int × Int × Int × Int × Unit) : Reads PP 35 #[.agg #[.int .i64 c.1, .int .i64 c.2.1, .int .i64 c.2.2.1, .int .i64 c.2.2.2.1]] L (.bool (decide (right c))) := by
  refine Reads.of (args := [.agg #[.int .i64 c.1, .int .i64 c.2.1, .int .i64 c.2.2.1, .int .i64 c.2.2.2.1]]) noNum mixed Tryd.func35 (e35 c _) ?_
  unfold t35
  refine nw_of fun n1 _ => ?_
  generalize ho : (n1, Obj.cells #[.int .i64 c.1, .int .i64 c.2.1, .int .i64 c.2.2.1, .int .i64 c.2.2.2.1] 23) = o1
  have lc : LdAt ⟨n1, 0, none⟩ [.int .i64 c.1, .int .i64 c.2.1, .int .i64 c.2.2.1, .int .i64 c.2.2.2.1] (o1 :: L) := ldB (by rw [← ho]; exact List.mem_cons_self) rfl
  clear ho
  have lB : LdAt ⟨n1, 0, none⟩ [.int .i64 c.1] (o1 :: L) := lc.pre fun i u hu => by cases i with | zero => exact hu | succ i => exact absurd (show (none : Option Value) = some u from hu) (by simp)
  have hno : ¬ right c → HL.Ends (fun v' L' => v' = Value.bool (decide (right c)) ∧ L' = L) (.bool false) (o1 :: L) := fun h => .cons (.of ⟨by rw [decide_eq_false h], rfl⟩)
  refine ld_of c.1 lB (ifD_of (fun (h1 : c.1 ≥ 2) => ?_) (fun (h1 : ¬ c.1 ≥ 2) => hno (by unfold right; omega)))
  refine ld_of c.1 lB (ifD_of (fun (h2 : c.1 ≤ 16) => ?_) (fun (h2 : ¬ c.1 ≤ 16) => hno (by unfold right; omega)))
  refine ld_of c.2.1 (lc.one 1 rfl) (ifD_of (fun (h3 : c.2.1 ≥ 4) => ?_) (fun (h3 : ¬ c.2.1 ≥ 4) => hno (by unfold right; omega)))
  refine ld_of c.2.1 (lc.one 1 rfl) (ifD_of (fun (h4 : c.2.1 ≤ 16) => ?_) (fun (h4 : ¬ c.2.1 ≤ 16) => hno (by unfold right; omega)))
  refine ld_of c.2.2.1 (lc.one 2 rfl) (ifD_of (fun (h5 : c.2.2.1 ≥ 64) => ?_) (fun (h5 : ¬ c.2.2.1 ≥ 64) => hno (by unfold right; omega)))
  refine ld_of c.2.2.1 (lc.one 2 rfl) (ifD_of (fun (h6 : c.2.2.1 ≤ 512) => ?_) (fun (h6 : ¬ c.2.2.1 ≤ 512) => hno (by unfold right; omega)))
  refine ld_of c.2.2.2.1 (lc.one 3 rfl) (ifD_of (fun (h7 : c.2.2.2.1 ≥ 1) => ?_) (fun (h7 : ¬ c.2.2.2.1 ≥ 1) => hno (by unfold right; omega)))
  refine ld_of c.2.2.2.1 (lc.one 3 rfl) (.cons (.of ⟨?_, rfl⟩))
  congr 1
  by_cases h8 : c.2.2.2.1 ≤ 1048576
  · rw [decide_eq_true h8, decide_eq_true (by unfold right; omega)]
  · rw [decide_eq_false h8, decide_eq_false (by unfold right; omega)]
theorem rblank_s (L : HList) (n : Nat) (hn : n ≤ 1048576) : Reads PP 36 #[.int .i64 n] L (strV (blk n)) := by
  refine Reads.of (args := [.int .i64 n]) noNum mixed Tryd.func36 (e36 n _) ?_
  unfold t36
  refine make_of elemB (l := n) (c := n) (Nat.le_refl _) (by omega) fun q ob own _ _ => ?_
  rw [zeros_bvs] at own
  refine lp_of (fun z' z L' => ∃ (i : Nat) (seg : HList), i ≤ n ∧ z' = n - i ∧ z = ((i : Int), ()) ∧ L' = seg ++ L ∧ Own ⟨some ⟨q, 0, none⟩, n, n⟩ 1 eB (bvs (List.replicate i 255 ++ List.replicate (n - i) 0)) seg) n ⟨0, [(q, ob)], by omega, by omega, rfl, rfl, by simpa using own⟩ ?_
  rintro z' z _ ⟨i, seg, hi, rfl, rfl, rfl, own⟩
  refine ifD_of (fun (hlt : (i : Int) < (n : Nat)) => ?_) (fun (hge : ¬ (i : Int) < (n : Nat)) => ?_)
  · refine nilc_of rfl (ixn_of (show (0 : Int) ≤ i by omega) hlt ?_)
    refine own.st (p := i) [] L (by rw [bvs_length, List.length_append, List.length_replicate, List.length_replicate, List.length_singleton]; omega) (by simp) rfl (by rw [Int.toNat_natCast, Nat.mul_one]) rfl fun seg' own' => ?_
    rw [putL_one (by rw [bvs_length, List.length_append, List.length_replicate, List.length_replicate]; omega)] at own'
    refine ⟨n - (i + 1), by omega, i + 1, seg', by omega, rfl, ?_, by simp, ?_⟩
    · rw [w64_id (by first | omega | (simp only; omega)) (by first | omega | (simp only; omega))]
      rfl
    · have : (bvs (List.replicate i 255 ++ List.replicate (n - i) 0)).set i (.int .u8 255) = bvs (List.replicate (i + 1) 255 ++ List.replicate (n - (i + 1)) 0) := by
        have h1 := bvs_set (List.replicate i 255 ++ List.replicate (n - i) 0) i 255
        rw [show ((255 : UInt8).toNat : Int) = 255 by decide] at h1
        rw [h1]
        congr 1
        rw [List.set_append, if_neg (by simp), List.length_replicate, Nat.sub_self, show n - i = (n - (i + 1)) + 1 by omega, List.replicate_succ, List.set_cons_zero, List.replicate_succ', List.append_assoc]
        rfl
      rw [this] at own'
      exact own'
  · obtain rfl : i = n := by omega
    rw [Nat.sub_self, List.replicate_zero, List.append_nil] at own
    exact b2s_of own.sl.left (.app (.of ⟨rfl, rfl⟩))
theorem there_rd (L : HList) (m : Nat) (d : Dev) (pv nv wv bv tv : SlV) (h : rO m d pv nv wv bv tv ∈ L) (b p : Int) : Reads PP 41 #[.pointer (some ⟨m, 0, none⟩), .int .i64 b, .int .i64 p] L (.bool (decide (0 ≤ b ∧ b < d.c.B ∧ 0 ≤ p ∧ p < d.c.P))) := by
  refine Reads.of (args := [.pointer (some ⟨m, 0, none⟩), .int .i64 b, .int .i64 p]) noNum mixed Tryd.func41 (e41 (some ⟨m, 0, none⟩) b p _) ?_
  unfold t41
  refine ifD_of (fun (h1 : b ≥ 0) => ?_) (fun (h1 : ¬ b ≥ 0) => .of ⟨by rw [decide_eq_false (by omega)], rfl⟩)
  refine nilc_of rfl (ld_of (d.c.B : Int) (r_B h) ?_)
  refine ifD_of (fun (h2 : b < (d.c.B : Int)) => ?_) (fun (h2 : ¬ b < (d.c.B : Int)) => .of ⟨by rw [decide_eq_false (by omega)], rfl⟩)
  refine ifD_of (fun (h3 : p ≥ 0) => ?_) (fun (h3 : ¬ p ≥ 0) => .of ⟨by rw [decide_eq_false (by omega)], rfl⟩)
  refine nilc_of rfl (ld_of (d.c.P : Int) (r_P h) (.of ⟨?_, rfl⟩))
  congr 1
  by_cases h4 : p < (d.c.P : Int)
  · rw [decide_eq_true h4, decide_eq_true (by omega)]
  · rw [decide_eq_false h4, decide_eq_false (by omega)]
theorem rtears_cl (m : Nat) (d : Dev) (pv nv wv bv tv : SlV) (ha : (d.after : Int) ≤ 9223372036854775807) :
    CallF PP 42 #[.pointer (some ⟨m, 0, none⟩)] [rO m d pv nv wv bv tv] fun r L' => r = .bool (tear d).1 ∧ L' = [rO m (tear d).2 pv nv wv bv tv] := by
  refine CallF.of (args := [.pointer (some ⟨m, 0, none⟩)]) noNum mixed Tryd.func42 (e42 (some ⟨m, 0, none⟩) _) ?_
  unfold t42
  refine nilc_of rfl (ld_of (d.after : Int) (r_af List.mem_cons_self) ?_)
  refine ifD_of (fun (h : (d.after : Int) < 1) => ?_) (fun (h : ¬ (d.after : Int) < 1) => ?_)
  · have h0 : d.after = 0 := by omega
    unfold tear
    rw [if_pos h0]
    exact .of ⟨rfl, rfl⟩
  · have h0 : d.after ≠ 0 := by omega
    have hww : IntKind.i64.wrap ((d.after : Int) - 1) = ((d.after - 1 : Nat) : Int) := by rw [w64_id (by omega) (by omega)]; omega
    have hdd : (((d.after - 1 : Nat) : Int) == 0) = decide (d.after = 1) := by
      by_cases h1 : d.after = 1
      · rw [h1]; rfl
      · rw [decide_eq_false h1, beq_eq_false_iff_ne]; omega
    unfold tear
    rw [if_neg h0]
    refine nilc_of rfl (ld_of (d.after : Int) (r_af List.mem_cons_self) (nilc_of rfl ?_))
    simp only [hww]
    refine st_of (n := m) (off := 10) (c := #[.int .i64 d.c.B, .int .i64 d.c.P, .int .i64 d.c.S, .int .i64 d.c.W, .slice pv.a pv.len pv.cap, .slice nv.a nv.len nv.cap, .slice wv.a wv.len wv.cap, .slice bv.a bv.len bv.cap, .int .i64 d.bytes, .bool d.down, .int .i64 d.after, .int .i64 d.keep, .slice tv.a tv.len tv.cap]) (T := tRf) (fz := (0, 0)) [] [] rfl rfl (by simp) (.inl (Nat.le_refl _))
      #[.int .i64 d.c.B, .int .i64 d.c.P, .int .i64 d.c.S, .int .i64 d.c.W, .slice pv.a pv.len pv.cap, .slice nv.a nv.len nv.cap, .slice wv.a wv.len wv.cap, .slice bv.a bv.len bv.cap, .int .i64 d.bytes, .bool d.down, .int .i64 ((d.after - 1 : Nat) : Int), .int .i64 d.keep, .slice tv.a tv.len tv.cap] rfl ?_
    refine nilc_of rfl (ld_of ((d.after - 1 : Nat) : Int) (ldB List.mem_cons_self rfl) (nilc_of rfl ?_))
    simp only [hdd]
    refine st_of (n := m) (off := 9) (T := tRf) (fz := (0, 0)) [] [] rfl rfl (by simp) (.inl (Nat.le_refl _))
      #[.int .i64 d.c.B, .int .i64 d.c.P, .int .i64 d.c.S, .int .i64 d.c.W, .slice pv.a pv.len pv.cap, .slice nv.a nv.len nv.cap, .slice wv.a wv.len wv.cap, .slice bv.a bv.len bv.cap, .int .i64 d.bytes, .bool (decide (d.after = 1)), .int .i64 ((d.after - 1 : Nat) : Int), .int .i64 d.keep, .slice tv.a tv.len tv.cap] rfl ?_
    refine nilc_of rfl (ld_of (decide (d.after = 1)) (ldB List.mem_cons_self rfl) ?_)
    exact .of ⟨rfl, rfl⟩
theorem rarm_cl (m : Nat) (d : Dev) (A : HList) (h : RH m d A) (n k : Int) : CallF PP 16 #[.pointer (some ⟨m, 0, none⟩), .int .i64 n, .int .i64 k] A fun r L' => r = .tuple #[] ∧ RH m (arm d n k) L' := by
  obtain ⟨pv, pseg, rs, nv, nseg, wv, wseg, bv, bseg, tv, tseg, ts, rfl, h⟩ := h
  refine CallF.of (args := [.pointer (some ⟨m, 0, none⟩), .int .i64 n, .int .i64 k]) noNum mixed Tryd.func16 (e16 (some ⟨m, 0, none⟩) n k _) ?_
  unfold t16 arm
  refine nilc_of rfl (ld_of d.down (r_dn List.mem_cons_self) ?_)
  rcases Bool.eq_false_or_eq_true d.down with hd | hd
  · rw [if_pos hd]
    exact ifF (by simp only [hd]; rfl) (.of ⟨rfl, pv, pseg, rs, nv, nseg, wv, wseg, bv, bseg, tv, tseg, ts, rfl, h⟩)
  · rw [if_neg (by rw [hd]; decide)]
    have hn : imax n 0 = (n.toNat : Int) := by unfold imax; omega
    refine ifT (by simp only [hd]; rfl) (nilc_of rfl ?_)
    rw [hn]
    refine st_of (n := m) (off := 10) (c := #[.int .i64 d.c.B, .int .i64 d.c.P, .int .i64 d.c.S, .int .i64 d.c.W, .slice pv.a pv.len pv.cap, .slice nv.a nv.len nv.cap, .slice wv.a wv.len wv.cap, .slice bv.a bv.len bv.cap, .int .i64 d.bytes, .bool d.down, .int .i64 d.after, .int .i64 d.keep, .slice tv.a tv.len tv.cap]) (T := tRf) (fz := (0, 0)) [] _ rfl rfl (by simp) (.inl (Nat.le_refl _))
      #[.int .i64 d.c.B, .int .i64 d.c.P, .int .i64 d.c.S, .int .i64 d.c.W, .slice pv.a pv.len pv.cap, .slice nv.a nv.len nv.cap, .slice wv.a wv.len wv.cap, .slice bv.a bv.len bv.cap, .int .i64 d.bytes, .bool d.down, .int .i64 (n.toNat : Int), .int .i64 d.keep, .slice tv.a tv.len tv.cap] rfl (nilc_of rfl ?_)
    refine st_of (n := m) (off := 11) (T := tRf) (fz := (0, 0)) [] _ rfl rfl (by simp) (.inl (Nat.le_refl _))
      #[.int .i64 d.c.B, .int .i64 d.c.P, .int .i64 d.c.S, .int .i64 d.c.W, .slice pv.a pv.len pv.cap, .slice nv.a nv.len nv.cap, .slice wv.a wv.len wv.cap, .slice bv.a bv.len bv.cap, .int .i64 d.bytes, .bool d.down, .int .i64 (n.toNat : Int), .int .i64 k, .slice tv.a tv.len tv.cap] rfl ?_
    exact .of ⟨rfl, pv, pseg, rs, nv, nseg, wv, wseg, bv, bseg, tv, tseg, ts, rfl, ⟨h.op, h.okp, h.hp, h.on, h.ow, h.ob, h.ot, h.okt, h.ht⟩⟩
theorem rrestart_cl (m : Nat) (d : Dev) (A : HList) (h : RH m d A) : CallF PP 18 #[.pointer (some ⟨m, 0, none⟩)] A fun r L' => r = .tuple #[] ∧ RH m (restart d) L' := by
  obtain ⟨pv, pseg, rs, nv, nseg, wv, wseg, bv, bseg, tv, tseg, ts, rfl, h⟩ := h
  refine CallF.of (args := [.pointer (some ⟨m, 0, none⟩)]) noNum mixed Tryd.func18 (e18 (some ⟨m, 0, none⟩) _) ?_
  unfold t18 restart
  refine nilc_of rfl ?_
  refine st_of (n := m) (off := 9) (c := #[.int .i64 d.c.B, .int .i64 d.c.P, .int .i64 d.c.S, .int .i64 d.c.W, .slice pv.a pv.len pv.cap, .slice nv.a nv.len nv.cap, .slice wv.a wv.len wv.cap, .slice bv.a bv.len bv.cap, .int .i64 d.bytes, .bool d.down, .int .i64 d.after, .int .i64 d.keep, .slice tv.a tv.len tv.cap]) (T := tRf) (fz := (0, 0)) [] _ rfl rfl (by simp) (.inl (Nat.le_refl _))
    #[.int .i64 d.c.B, .int .i64 d.c.P, .int .i64 d.c.S, .int .i64 d.c.W, .slice pv.a pv.len pv.cap, .slice nv.a nv.len nv.cap, .slice wv.a wv.len wv.cap, .slice bv.a bv.len bv.cap, .int .i64 d.bytes, .bool false, .int .i64 d.after, .int .i64 d.keep, .slice tv.a tv.len tv.cap] rfl (nilc_of rfl ?_)
  refine st_of (n := m) (off := 10) (T := tRf) (fz := (0, 0)) [] _ rfl rfl (by simp) (.inl (Nat.le_refl _))
    #[.int .i64 d.c.B, .int .i64 d.c.P, .int .i64 d.c.S, .int .i64 d.c.W, .slice pv.a pv.len pv.cap, .slice nv.a nv.len nv.cap, .slice wv.a wv.len wv.cap, .slice bv.a bv.len bv.cap, .int .i64 d.bytes, .bool false, .int .i64 0, .int .i64 d.keep, .slice tv.a tv.len tv.cap] rfl ?_
  exact .of ⟨rfl, pv, pseg, rs, nv, nseg, wv, wseg, bv, bseg, tv, tseg, ts, rfl, ⟨h.op, h.okp, h.hp, h.on, h.ow, h.ob, h.ot, h.okt, h.ht⟩⟩
section
variable {m : Nat} {d : Dev} {pv : SlV} {pseg : HList} {rs : List RK} {nv : SlV} {nseg : HList} {wv : SlV} {wseg : HList} {bv : SlV} {bseg : HList} {tv : SlV} {tseg : HList} {ts : List PT}
theorem rL_o : rO m d pv nv wv bv tv ∈ rL m d pv pseg rs nv nseg wv wseg bv bseg tv tseg ts := List.mem_cons_self
theorem RHs.nsl (h : RHs d pv pseg rs nv nseg wv wseg bv bseg tv tseg ts) : ISl (rL m d pv pseg rs nv nseg wv wseg bv bseg tv tseg ts) nv .i64 (nexts d) := h.on.sl.left.right.right.cons
theorem RHs.bsl (h : RHs d pv pseg rs nv nseg wv wseg bv bseg tv tseg ts) : Sl (rL m d pv pseg rs nv nseg wv wseg bv bseg tv tseg ts) bv 1 (bos (bads d)) := h.ob.sl.left.right.right.right.right.cons
theorem RHs.rlen (h : RHs d pv pseg rs nv nseg wv wseg bv bseg tv tseg ts) : rs.length = d.bs.length := by
  have := congrArg List.length h.hp
  rwa [List.length_map, List.length_map] at this
theorem RHs.rl (h : RHs d pv pseg rs nv nseg wv wseg bv bseg tv tseg ts) {i : Nat} (hi : i < rs.length) : rs[i].l = (d.bs[i]'(by rw [← h.rlen]; exact hi)).pages := by
  have h1 : (rs.map RK.l)[i]? = (d.bs.map Blk.pages)[i]? := by rw [h.hp]
  rw [List.getElem?_map, List.getElem?_map, List.getElem?_eq_getElem hi, List.getElem?_eq_getElem (by rw [← h.rlen]; exact hi)] at h1
  exact Option.some.inj h1
end
/-- An element of a list of values. -/
theorem el_at {L : HList} {v : SlV} {vs : List Value} (h : Sl L v 1 vs) {i : Nat} (hi : i < vs.length) : v.len = vs.length ∧ ∃ a, v.a = some a ∧ LdAt (Addr.add a ((i : Int).toNat * 1)) [vs[i]] L := by
  have hl := h.len
  obtain ⟨a, ha, hld⟩ := h.at' (i := i) (by omega) (by decide)
  refine ⟨by omega, a, ha, ?_⟩
  rw [Int.toNat_natCast, Nat.mul_one]
  exact hld.one i (List.getElem?_eq_getElem hi)
theorem findE_there {d : Dev} (ok : DvOk d) (hd : d.down = false) (b p : Int) : (findE d b p = 0 ↔ (0 ≤ b ∧ b < d.c.B ∧ 0 ≤ p ∧ p < d.c.P)) ∧ (findE d b p ≠ 0 → findE d b p = 2) := by
  have hl := ok.len
  unfold findE
  rw [hd, if_neg (by decide)]
  by_cases h1 : 0 ≤ b ∧ b < d.bs.length
  · rw [if_neg (by simpa using h1)]
    by_cases h2 : 0 ≤ p ∧ p < d.c.P
    · rw [if_neg (by simpa using h2)]
      exact ⟨⟨fun _ => by omega, fun _ => rfl⟩, fun h => absurd rfl h⟩
    · rw [if_pos h2]
      exact ⟨⟨fun h => absurd h (by decide), fun h => by omega⟩, fun _ => rfl⟩
  · rw [if_pos h1]
    exact ⟨⟨fun h => absurd h (by decide), fun h => by omega⟩, fun _ => rfl⟩
end Go.Proofs.YtlabcgnegbdlfaaDoor
set_option linter.unusedVariables false
set_option linter.unusedSimpArgs false
namespace Go.Proofs.YtlabcgnegbdlfaaDoor
open Go.HL

theorem ivs_at {L : HList} {v : SlV} {l : List Int} (h : ISl L v .i64 l) {i : Nat} (hi : i < l.length) : v.len = l.length ∧ ∃ a, v.a = some a ∧ LdAt (Addr.add a ((i : Int).toNat * 1)) [.int .i64 l[i]] L := by
  obtain ⟨a, ha⟩ := h.some hi
  exact ⟨h.len, a, ha, h.rd hi ha _ (by rw [Int.toNat_natCast])⟩
theorem nexts_set (d : Dev) (i : Nat) (k : Blk) (e : Dev) (he : e.bs = d.bs.set i k) : nexts e = (nexts d).set i (k.next : Int) := by unfold nexts; rw [he, List.map_set]
theorem wears_set (d : Dev) (i : Nat) (k : Blk) (e : Dev) (he : e.bs = d.bs.set i k) : wears e = (wears d).set i (k.wear : Int) := by unfold wears; rw [he, List.map_set]
theorem bads_set (d : Dev) (i : Nat) (k : Blk) (e : Dev) (he : e.bs = d.bs.set i k) : bads e = (bads d).set i k.bad := by unfold bads; rw [he, List.map_set]
theorem set_same {α β : Type} (l : List α) (f : α → β) (i : Nat) (hi : i < l.length) : (l.map f).set i (f l[i]) = l.map f := by
  apply List.ext_getElem?
  intro j
  rw [List.getElem?_set]
  by_cases h : i = j
  · subst h
    rw [if_pos rfl, if_pos (by rw [List.length_map]; exact hi), List.getElem?_map, List.getElem?_eq_getElem hi]; rfl
  · rw [if_neg h]
/-- What holds of the objects after one block's pages were changed. -/
theorem RHs.put {d e : Dev} {pv : SlV} {pseg : HList} {pre post : List RK} {r : RK} {nv : SlV} {nseg : HList} {wv : SlV} {wseg : HList} {bv : SlV} {bseg : HList} {tv : SlV} {tseg : HList} {ts : List PT}
    (h : RHs d pv pseg (pre ++ r :: post) nv nseg wv wseg bv bseg tv tseg ts) {k : Blk} (he : e.bs = d.bs.set pre.length k) {rseg : HList} (hr : Own r.v 1 eSg (k.pages.map strV) rseg) {nseg' wseg' bseg' : HList}
    (on : Own nv 1 eIn (ivs .i64 (nexts e)) nseg') (ow : Own wv 1 eIn (ivs .i64 (wears e)) wseg') (ob : Own bv 1 eBo (bos (bads e)) bseg') {tv' : SlV} {tseg' : HList} {ts' : List PT}
    (ot : Own tv' 4 eT (ts'.flatMap PT.enc) tseg') (okt : ∀ t ∈ ts', t.m.Ok ∧ t.i.Ok) (ht : ts'.map PT.tn = e.torn) :
    RHs e pv pseg (pre ++ ⟨r.v, rseg, k.pages⟩ :: post) nv nseg' wv wseg' bv bseg' tv' tseg' ts' := by
  refine ⟨?_, ?_, ?_, on, ow, ob, ot, okt, ht⟩
  · have : (pre ++ (⟨r.v, rseg, k.pages⟩ : RK) :: post).map RK.val = (pre ++ r :: post).map RK.val := by simp [RK.val]
    rw [this]; exact h.op
  · intro z hz
    have hz' : z ∈ pre ∨ z = ⟨r.v, rseg, k.pages⟩ ∨ z ∈ post := by simpa using hz
    rcases hz' with h1 | rfl | h1
    · exact h.okp z (by simp [h1])
    · exact hr
    · exact h.okp z (by simp [h1])
  · rw [he, List.map_set, ← h.hp]; simp
theorem rprogram_cl (m : Nat) (d : Dev) (A R : HList) (h : RH m d A) (ok : DvOk d) (hf : d.torn.length ≤ 1048576) (b p : Int) (u : SlV) (data : List UInt8) (hu : BSl R u data) :
    CallF PP 12 #[.pointer (some ⟨m, 0, none⟩), .int .i64 b, .int .i64 p, .slice u.a u.len u.cap] (A ++ R) fun r L' => ∃ A', L' = A' ++ R ∧ r = .int .i64 (prog d b p data).1 ∧ RH m (prog d b p data).2 A' := by
  have hA := h
  obtain ⟨pv, pseg, rs, nv, nseg, wv, wseg, bv, bseg, tv, tseg, ts, rfl, h⟩ := h
  refine CallF.of (args := [.pointer (some ⟨m, 0, none⟩), .int .i64 b, .int .i64 p, .slice u.a u.len u.cap]) noNum mixed Tryd.func12 (e12 (some ⟨m, 0, none⟩) b p u _) ?_
  unfold t12
  have hP := ok.c.p
  have hS := ok.c.s
  have hul := hu.len
  have hcap := hu.cap
  have hmO : rO m d pv nv wv bv tv ∈ rL m d pv pseg rs nv nseg wv wseg bv bseg tv tseg ts ++ R := List.mem_append_left _ rL_o
  refine nilc_of rfl (ld_of d.down (r_dn hmO) ?_)
  refine ifB_of (fun (hd : d.down = true) => ?_) (fun (hd : d.down = false) => ?_)
  · have hr : prog d b p data = (11, d) := by
      have he : findE d b p = 11 := by unfold findE; rw [if_pos hd]
      unfold prog; rw [he, if_pos (by decide)]
    rw [hr]
    exact .of ⟨_, rfl, rfl, hA⟩
  obtain ⟨hf1, hf2⟩ := findE_there ok hd b p
  refine cl_rd (there_rd _ m d pv nv wv bv tv hmO b p) (decide (0 ≤ b ∧ b < d.c.B ∧ 0 ≤ p ∧ p < d.c.P), ()) rfl ?_
  by_cases hth : 0 ≤ b ∧ b < d.c.B ∧ 0 ≤ p ∧ p < d.c.P
  case neg =>
    rw [decide_eq_false hth]
    have he : findE d b p = 2 := hf2 fun h => hth (hf1.1 h)
    have hr : prog d b p data = (2, d) := by unfold prog; rw [he, if_pos (by decide)]
    rw [hr]
    exact ifT rfl (.of ⟨_, rfl, rfl, hA⟩)
  rw [decide_eq_true hth]
  have he := hf1.2 hth
  obtain ⟨hb0, hb1, hp0, hp1⟩ := hth
  refine ifF rfl (nilc_of rfl (ld_of (d.c.S : Int) (r_S hmO) ?_))
  refine ifNe_of (fun (hs : (u.len : Int) ≠ (d.c.S : Int)) => ?_) (fun (hs : (u.len : Int) = (d.c.S : Int)) => ?_)
  · have hr : prog d b p data = (2, d) := by unfold prog; rw [he, if_neg (by decide), if_pos (by omega)]
    rw [hr]
    exact .of ⟨_, rfl, rfl, hA⟩
  have hdl : data.length = d.c.S := by omega
  obtain ⟨i, rfl⟩ : ∃ i : Nat, b = i := ⟨b.toNat, by omega⟩
  obtain ⟨q, rfl⟩ : ∃ q : Nat, p = q := ⟨p.toNat, by omega⟩
  have hbl := ok.len
  have hi : i < d.bs.length := by omega
  have hir : i < rs.length := by rw [h.rlen]; exact hi
  have hk : d.bs[i]? = some d.bs[i] := List.getElem?_eq_getElem hi
  have hbk := ok.bk (List.getElem_mem hi)
  have hbl1 : (bos (bads d)).length = d.bs.length := by simp [bos, bads]
  have hnl1 : (nexts d).length = d.bs.length := by simp [nexts]
  obtain ⟨e1, ba, hba, lba⟩ := el_at ((h.bsl (m := m)).left (R := R)) (i := i) (by rw [hbl1]; exact hi)
  have hbv : (bos (bads d))[i]'(by rw [hbl1]; exact hi) = .bool d.bs[i].bad := by simp [bos, bads]
  rw [hbv] at lba
  obtain ⟨e2, na, hna, lna⟩ := ivs_at (Sl.left (R := R) (h.nsl (m := m))) (i := i) (by rw [hnl1]; exact hi)
  have hnv : (nexts d)[i]'(by rw [hnl1]; exact hi) = (d.bs[i].next : Int) := by simp [nexts]
  rw [hnv] at lna
  have h0i : (0 : Int) ≤ (i : Int) := by omega
  have h0q : (0 : Int) ≤ (q : Int) := by omega
  have hpr : prog d (i : Int) (q : Int) data = if d.bs[i].bad then (10, d) else if (d.bs[i].next : Int) ≠ (q : Int) then (9, d) else progK d i q d.bs[i] data := by
    unfold prog
    rw [he, if_neg (by decide), if_neg (by omega), Int.toNat_natCast, Int.toNat_natCast, hk]
  refine nilc_of rfl (ld_of bv (r_bd hmO) (nilc_of hba (ixn_of h0i (show (i : Int) < bv.len by omega) (ld_of d.bs[i].bad lba ?_))))
  refine ifB_of (fun (hbad : d.bs[i].bad = true) => ?_) (fun (hbad : d.bs[i].bad = false) => ?_)
  · rw [hpr, if_pos hbad]
    exact .of ⟨_, rfl, rfl, hA⟩
  refine nilc_of rfl (ld_of nv (r_nx hmO) (nilc_of hna (ixn_of h0i (show (i : Int) < nv.len by omega) (ld_of (d.bs[i].next : Int) lna ?_))))
  refine ifNe_of (fun (hn : (d.bs[i].next : Int) ≠ (q : Int)) => ?_) (fun (hn : (d.bs[i].next : Int) = (q : Int)) => ?_)
  · rw [hpr, if_neg (by rw [hbad]; decide), if_pos hn]
    exact .of ⟨_, rfl, rfl, hA⟩
  rw [hpr, if_neg (by rw [hbad]; decide), if_neg (by omega)]
  refine nilc_of rfl (ld_of nv (r_nx hmO) ?_)
  clear hpr hA lna lba hmO
  have hrl := h.rl hir
  obtain ⟨pre, r, post, rfl, rfl⟩ : ∃ pre r post, rs = pre ++ r :: post ∧ pre.length = i := ⟨rs.take i, rs[i], rs.drop (i + 1), by rw [← List.drop_eq_getElem_cons hir, List.take_append_drop], by rw [List.length_take]; omega⟩
  have hrl' : r.l = d.bs[pre.length].pages := by rw [← hrl]; simp
  generalize hkk : d.bs[pre.length] = k at hk hbk hbad hn hrl' ⊢
  have hpl := hbk.pg.1
  have hrll : r.l.length = d.c.P := by rw [hrl']; exact hpl
  have hq : q < k.pages.length := by omega
  have hok := h.okp r (by simp)
  unfold RK.Ok at hok
  rw [hrl'] at hok
  have hwx : IntKind.i64.wrap ((q : Int) + 1) = ((q + 1 : Nat) : Int) := by rw [w64_id (by omega) (by omega)]; omega
  have hL : rL m d pv pseg (pre ++ r :: post) nv nseg wv wseg bv bseg tv tseg ts ++ R = rO m d pv nv wv bv tv :: (pseg ++ (rsegs pre ++ (r.seg ++ (rsegs post ++ (nseg ++ (wseg ++ (bseg ++ (tseg ++ (tsegs ts ++ R))))))))) := by
    unfold rL
    rw [rsegs_append, rsegs_cons]
    simp
  rw [hL]
  clear hL
  have hpm : pv.len = (pre ++ r :: post).length ∧ ∃ a, pv.a = some a ∧ ∀ Z : HList, (∀ x ∈ pseg, x ∈ Z) → LdAt (Addr.add a ((pre.length : Int).toNat * 1)) [.slice r.v.a r.v.len r.v.cap] Z := by
    obtain ⟨e, a, ha, l⟩ := el_at h.op.sl (i := pre.length) (by simp)
    rw [List.length_map] at e
    refine ⟨e, a, ha, fun Z hz => ?_⟩
    have : ((pre ++ r :: post).map RK.val)[pre.length]'(by simp) = RK.val r := by simp
    rw [this] at l
    exact l.mono hz
  obtain ⟨e3, pa, hpa, lpa⟩ := hpm
  simp only [hwx]
  refine nilc_of hna (ixn_of h0i (show (pre.length : Int) < nv.len by omega) ?_)
  refine h.on.st (p := pre.length) (ws := [.int .i64 ((q + 1 : Nat) : Int)]) (rO m d pv nv wv bv tv :: (pseg ++ (rsegs pre ++ (r.seg ++ rsegs post)))) (wseg ++ (bseg ++ (tseg ++ (tsegs ts ++ R)))) (by rw [ivs_length, hnl1, List.length_singleton]; omega) (by simp) hna (by rw [Int.toNat_natCast, Nat.mul_one]) (by simp) fun nseg' own_n => ?_
  rw [putL_one (by rw [ivs_length]; omega), ivs_set] at own_n
  refine nilc_of rfl (nilc_of rfl (ld_of d.bytes (r_by (m := m) (pv := pv) (nv := nv) (wv := wv) (bv := bv) (tv := tv) (by simp)) (ld_of (d.c.S : Int) (r_S (m := m) (pv := pv) (nv := nv) (wv := wv) (bv := bv) (tv := tv) (by simp)) (nilc_of rfl ?_))))
  refine st_of (n := m) (off := 8) (c := #[.int .i64 d.c.B, .int .i64 d.c.P, .int .i64 d.c.S, .int .i64 d.c.W, .slice pv.a pv.len pv.cap, .slice nv.a nv.len nv.cap, .slice wv.a wv.len wv.cap, .slice bv.a bv.len bv.cap, .int .i64 d.bytes, .bool d.down, .int .i64 d.after, .int .i64 d.keep, .slice tv.a tv.len tv.cap]) (T := tRf) (fz := (0, 0)) [] (pseg ++ (rsegs pre ++ (r.seg ++ (rsegs post ++ (nseg' ++ (wseg ++ (bseg ++ (tseg ++ (tsegs ts ++ R))))))))) rfl (by simp [rO]) (by simp) (.inl (Nat.le_refl _))
    #[.int .i64 d.c.B, .int .i64 d.c.P, .int .i64 d.c.S, .int .i64 d.c.W, .slice pv.a pv.len pv.cap, .slice nv.a nv.len nv.cap, .slice wv.a wv.len wv.cap, .slice bv.a bv.len bv.cap, .int .i64 (IntKind.i64.wrap (d.bytes + d.c.S)), .bool d.down, .int .i64 d.after, .int .i64 d.keep, .slice tv.a tv.len tv.cap] rfl ?_
  rw [List.nil_append]
  have hcO : ((m, Obj.cells #[.int .i64 d.c.B, .int .i64 d.c.P, .int .i64 d.c.S, .int .i64 d.c.W, .slice pv.a pv.len pv.cap, .slice nv.a nv.len nv.cap, .slice wv.a wv.len wv.cap, .slice bv.a bv.len bv.cap, .int .i64 (IntKind.i64.wrap (d.bytes + d.c.S)), .bool d.down, .int .i64 d.after, .int .i64 d.keep, .slice tv.a tv.len tv.cap] tRf) : Nat × Obj) = rO m (counted d) pv nv wv bv tv := rfl
  rw [hcO]
  refine nilc_of rfl (ld_of pv (r_pg (m := m) (d := counted d) (nv := nv) (wv := wv) (bv := bv) (tv := tv) (by simp)) (nilc_of hpa (ixn_of h0i (show (pre.length : Int) < pv.len by omega) (ld_of r.v (lpa _ (by intro x hx; simp [hx])) ?_))))
  have hus : ∀ X : HList, BSl (X ++ R) u data := fun X => hu.right
  refine b2s_of (v := u) (l := data) (by have := hus (rO m (counted d) pv nv wv bv tv :: (pseg ++ (rsegs pre ++ (r.seg ++ (rsegs post ++ (nseg' ++ (wseg ++ (bseg ++ (tseg ++ tsegs ts))))))))); simpa using this) ?_
  obtain ⟨e4, ra, hra, -⟩ := el_at hok.sl (i := q) (by rw [List.length_map]; omega)
  rw [List.length_map] at e4
  refine nilc_of hra (ixn_of h0q (show (q : Int) < r.v.len by omega) ?_)
  refine hok.st (p := q) (ws := [strV data]) (rO m (counted d) pv nv wv bv tv :: (pseg ++ rsegs pre)) (rsegs post ++ (nseg' ++ (wseg ++ (bseg ++ (tseg ++ (tsegs ts ++ R)))))) (by rw [List.length_map, List.length_singleton]; omega) (by simp) hra (by rw [Int.toNat_natCast, Nat.mul_one]) (by simp) fun rs1 own1 => ?_
  rw [putL_one (by rw [List.length_map]; omega), ← List.map_set] at own1
  refine cl_in [] (pseg ++ (rsegs pre ++ (rs1 ++ (rsegs post ++ (nseg' ++ (wseg ++ (bseg ++ (tseg ++ (tsegs ts ++ R))))))))) (rtears_cl m (counted d) pv nv wv bv tv ok.after) (by simp) ?_
  rintro _ _ - ⟨rfl, rfl⟩
  refine ⟨((tear (counted d)).1, ()), rfl, ?_⟩
  unfold progK
  obtain ⟨hc2, hb2, hk2, hy2, ht2⟩ := tear_c (counted d)
  generalize hd2 : tear (counted d) = tt at hc2 hb2 hk2 hy2 ht2 ⊢
  obtain ⟨t, d2⟩ := tt
  simp only at hc2 hb2 hk2 hy2 ht2 ⊢
  have hcS : d2.c.S = d.c.S := by rw [hc2]; rfl
  have ht2' : d2.torn = d.torn := ht2
  have hseq : ∀ (k' : Blk) (e : Dev), e.bs = d.bs.set pre.length k' → k'.wear = k.wear → k'.bad = k.bad → wears e = wears d ∧ bads e = bads d := by
    intro k' e he2 hw hb
    rw [wears_set d pre.length k' e he2, bads_set d pre.length k' e he2, hw, hb, ← hkk]
    exact ⟨set_same d.bs (fun k => (k.wear : Int)) pre.length hi, set_same d.bs (fun k => k.bad) pre.length hi⟩
  have hnseq : ∀ (k' : Blk) (e : Dev), e.bs = d.bs.set pre.length k' → k'.next = q + 1 → nexts e = (nexts d).set pre.length ((q + 1 : Nat) : Int) := by
    intro k' e he2 hn2
    rw [nexts_set d pre.length k' e he2, hn2]
  cases t with
  | false =>
    refine ifT rfl ?_
    rw [if_neg (by decide)]
    obtain ⟨s1, s2⟩ := hseq (k.put q data) { d2 with bs := d.bs.set pre.length (k.put q data) } rfl rfl rfl
    have s3 := hnseq (k.put q data) { d2 with bs := d.bs.set pre.length (k.put q data) } rfl rfl
    refine .of ⟨rL m { d2 with bs := d.bs.set pre.length (k.put q data) } pv pseg (pre ++ ⟨r.v, rs1, (k.put q data).pages⟩ :: post) nv nseg' wv wseg bv bseg tv tseg ts, ?_, rfl, pv, pseg, _, nv, nseg', wv, wseg, bv, bseg, tv, tseg, ts, rfl,
      h.put (k := k.put q data) rfl own1 (by rw [s3]; exact own_n) (by rw [s1]; exact h.ow) (by rw [s2]; exact h.ob) h.ot h.okt (by show _ = d2.torn; rw [ht2']; exact h.ht)⟩
    unfold rL
    rw [rsegs_append, rsegs_cons]
    simp [rO]
  | true =>
    rw [if_pos rfl]
    have hd2k : d2.keep = d.keep := hk2
    have hm2 : ∀ {Z : HList}, rO m d2 pv nv wv bv tv ∈ Z → rO m d2 pv nv wv bv tv ∈ Z := fun h => h
    refine ifF rfl (nilc_of rfl (nilc_of rfl ?_))
    rw [List.nil_append]
    refine ld_of d2.keep (r_kp (m := m) (d := d2) (pv := pv) (nv := nv) (wv := wv) (bv := bv) (tv := tv) (by simp)) (ld_of (d2.c.S : Int) (r_S (m := m) (d := d2) (pv := pv) (nv := nv) (wv := wv) (bv := bv) (tv := tv) (by simp)) (nilc_of rfl ?_))
    rw [hcS]
    simp only [imin_kept]
    rw [show keptN d2.keep d.c.S = keptN d.keep d.c.S by rw [hd2k]]
    have hkp : keptN d.keep d.c.S ≤ d.c.S := by unfold keptN; omega
    refine slc_of (l' := 0) (h' := keptN d.keep d.c.S) (m' := u.cap) rfl rfl rfl (by omega) (by omega) (Nat.le_refl _) ?_
    have hss : ∀ X : HList, Sl (X ++ R) (slcV u (0 : Nat) (keptN d.keep d.c.S : Nat) (u.cap : Nat) 1) 1 (bvs (data.take (keptN d.keep d.c.S))) := by
      intro X
      have := (hus X).slc (l := 0) (h' := keptN d.keep d.c.S) (m := u.cap) (by decide) (by omega) (by omega) (by omega)
      rw [bvs_slc, List.drop_zero, Nat.sub_zero] at this
      exact this
    generalize slcV u (0 : Nat) (keptN d.keep d.c.S : Nat) (u.cap : Nat) 1 = us at hss ⊢
    have hLs : [rO m d2 pv nv wv bv tv] ++ (pseg ++ (rsegs pre ++ (rs1 ++ (rsegs post ++ (nseg' ++ (wseg ++ (bseg ++ (tseg ++ (tsegs ts ++ R))))))))) = (rO m d2 pv nv wv bv tv :: (pseg ++ rsegs pre)) ++ rs1 ++ (rsegs post ++ (nseg' ++ (wseg ++ (bseg ++ (tseg ++ (tsegs ts ++ R)))))) := by simp
    rw [hLs]
    clear hLs
    have mem1 : ∀ s : HList, rO m d2 pv nv wv bv tv ∈ (rO m d2 pv nv wv bv tv :: (pseg ++ rsegs pre)) ++ s ++ (rsegs post ++ (nseg' ++ (wseg ++ (bseg ++ (tseg ++ (tsegs ts ++ R)))))) := fun s => by simp
    have lp1 : ∀ s : HList, LdAt (Addr.add pa ((pre.length : Int).toNat * 1)) [.slice r.v.a r.v.len r.v.cap] ((rO m d2 pv nv wv bv tv :: (pseg ++ rsegs pre)) ++ s ++ (rsegs post ++ (nseg' ++ (wseg ++ (bseg ++ (tseg ++ (tsegs ts ++ R))))))) := fun s => lpa _ (by intro x hx; simp [hx])
    have hbs1 : BSl ((rO m d2 pv nv wv bv tv :: (pseg ++ rsegs pre)) ++ rs1 ++ (rsegs post ++ (nseg' ++ (wseg ++ (bseg ++ (tseg ++ (tsegs ts ++ R))))))) us (data.take (keptN d.keep d.c.S)) := by
      have := hss ((rO m d2 pv nv wv bv tv :: (pseg ++ rsegs pre)) ++ rs1 ++ (rsegs post ++ (nseg' ++ (wseg ++ (bseg ++ (tseg ++ tsegs ts))))))
      simpa using this
    have g2 : (pre.length : Int) < pv.len := by omega
    refine nilc_of rfl (ld_of pv (r_pg (mem1 rs1)) (nilc_of hpa (ixn_of h0i g2 (ld_of r.v (lp1 rs1) (b2s_of hbs1 (ld_of (d2.c.S : Int) (r_S (mem1 rs1)) ?_))))))
    rw [hcS]
    have hwk : IntKind.i64.wrap ((d.c.S : Int) - (keptN d.keep d.c.S : Int)) = ((d.c.S - keptN d.keep d.c.S : Nat) : Int) := by rw [w64_id (by omega) (by omega)]; omega
    simp only [hwk]
    refine cl_rd (rblank_s _ (d.c.S - keptN d.keep d.c.S) (by omega)) ((⟨(blk (d.c.S - keptN d.keep d.c.S)).toArray⟩ : ByteArray), ()) rfl ?_
    refine keep_of (b2s_rd hbs1) (keep_of (lp1 rs1) (keep_of (r_pg (mem1 rs1)) ?_))
    have hsz1 : (ByteArray.mk (data.take (keptN d.keep d.c.S)).toArray).size = keptN d.keep d.c.S := by
      show (data.take (keptN d.keep d.c.S)).toArray.size = _
      rw [List.size_toArray, List.length_take]; omega
    have hsz2 : (ByteArray.mk (blk (d.c.S - keptN d.keep d.c.S)).toArray).size = d.c.S - keptN d.keep d.c.S := by
      show (blk (d.c.S - keptN d.keep d.c.S)).toArray.size = _
      rw [List.size_toArray, blk, List.length_replicate]
    refine req_of ?_ ?_
    · show (((ByteArray.mk (data.take (keptN d.keep d.c.S)).toArray).size + (ByteArray.mk (blk (d.c.S - keptN d.keep d.c.S)).toArray).size : Nat) : Int) ≤ 9223372036854775807
      rw [hsz1, hsz2]; omega
    have hcat : (ByteArray.mk (data.take (keptN d.keep d.c.S)).toArray) ++ (ByteArray.mk (blk (d.c.S - keptN d.keep d.c.S)).toArray) = ⟨(tornImg d data).toArray⟩ := by
      apply ByteArray.ext
      rw [ByteArray.data_append]
      unfold tornImg
      simp
    simp only [hcat]
    refine nilc_of hra (ixn_of h0q (show (q : Int) < r.v.len by omega) ?_)
    refine own1.st (p := q) (ws := [strV (tornImg d data)]) (rO m d2 pv nv wv bv tv :: (pseg ++ rsegs pre)) (rsegs post ++ (nseg' ++ (wseg ++ (bseg ++ (tseg ++ (tsegs ts ++ R)))))) (by rw [List.length_map, List.length_set, List.length_singleton]; omega) (by simp) hra (by rw [Int.toNat_natCast, Nat.mul_one]) rfl fun rs2 own2 => ?_
    rw [putL_one (by rw [List.length_map, List.length_set]; omega), ← List.map_set, List.set_set] at own2
    have himl := tornImg_len hdl
    obtain ⟨e5, ra2, hra2, lra⟩ := el_at own2.sl (i := q) (by rw [List.length_map, List.length_set]; omega)
    have hrv : ((k.pages.set q (tornImg d data)).map strV)[q]'(by rw [List.length_map, List.length_set]; omega) = .string ⟨(tornImg d data).toArray⟩ := by
      rw [List.getElem_map, List.getElem_set_self]; rfl
    rw [hrv] at lra
    have lr1 : LdAt (Addr.add ra2 ((q : Int).toNat * 1)) [.string ⟨(tornImg d data).toArray⟩] ((rO m d2 pv nv wv bv tv :: (pseg ++ rsegs pre)) ++ rs2 ++ (rsegs post ++ (nseg' ++ (wseg ++ (bseg ++ (tseg ++ (tsegs ts ++ R))))))) := lra.mono fun x hx => List.mem_append_left _ (List.mem_append_right _ hx)
    refine nilc_of rfl (nilc_of rfl (ld_of tv (r_tn (mem1 rs2)) (ld_of pv (r_pg (mem1 rs2)) (nilc_of hpa (ixn_of h0i g2 (ld_of r.v (lp1 rs2) (nilc_of hra2 (ixn_of h0q (show (q : Int) < r.v.len by omega) (ld_of (⟨(tornImg d data).toArray⟩ : ByteArray) lr1 (nw_of fun n1 _ => ?_))))))))))
    have husL : BSl ((rO m d2 pv nv wv bv tv :: (pseg ++ rsegs pre)) ++ rs2 ++ (rsegs post ++ (nseg' ++ (wseg ++ (bseg ++ (tseg ++ (tsegs ts ++ R))))))) u data := by
      have := hus ((rO m d2 pv nv wv bv tv :: (pseg ++ rsegs pre)) ++ rs2 ++ (rsegs post ++ (nseg' ++ (wseg ++ (bseg ++ (tseg ++ tsegs ts))))))
      simpa using this
    have k1 := r_tn (mem1 rs2)
    have k2 := r_pg (mem1 rs2)
    have k3 := lp1 rs2
    generalize hLL : (rO m d2 pv nv wv bv tv :: (pseg ++ rsegs pre)) ++ rs2 ++ (rsegs post ++ (nseg' ++ (wseg ++ (bseg ++ (tseg ++ (tsegs ts ++ R)))))) = LL at husL lr1 k1 k2 k3 ⊢
    refine append_in elemB srcB [] LL own_empty rfl (.sl husL.cons) (bvs_plain _) (by simp only; omega) fun v5 seg5 hv5 own5 => ?_
    rw [List.nil_append] at own5 ⊢
    have hup : ∀ z ∈ LL, z ∈ seg5 ++ LL := fun z hz => List.mem_append_right _ hz
    refine keep_of (lr1.mono hup) (keep_of (k3.mono hup) (keep_of (k2.mono hup) (keep_of (k1.mono hup) ?_)))
    refine s2b_of fun n3 ob3 v6 hv6 own6 _ => nw_of fun n4 _ => ?_
    subst hLL
    have htl : ts.length = d.torn.length := by rw [← h.ht, List.length_map]
    have htvl := h.ot.sl.els_len PT.enc_len (by decide)
    have own6' : Own v6 1 eB (bvs (tornImg d data)) [(n3, ob3)] := own6
    refine append_in elemTs srcTs ((n4, Obj.cells #[.int .i64 pre.length, .int .i64 q, .slice v5.a v5.len v5.cap, .slice v6.a v6.len v6.cap] eT) :: (n3, ob3) :: (seg5 ++ (rO m d2 pv nv wv bv tv :: (pseg ++ (rsegs pre ++ (rs2 ++ (rsegs post ++ (nseg' ++ (wseg ++ bseg))))))))) (tsegs ts ++ R) h.ot (by simp)
      (n := 1) (ws := PT.enc ⟨pre.length, q, ⟨v5, seg5, data⟩, ⟨v6, [(n3, ob3)], tornImg d data⟩⟩) (x := .slice (some ⟨n4, 0, none⟩) 1 1) (Src.sl (v := ⟨some ⟨n4, 0, none⟩, 1, 1⟩) ⟨rfl, Nat.le_refl _, .inr ⟨_, rfl, ldB List.mem_cons_self rfl⟩⟩) rfl (by omega) fun v8 seg8 hv8 own8 => ?_
    refine nilc_of rfl ?_
    refine st_of (n := m) (off := 12) (c := #[.int .i64 d2.c.B, .int .i64 d2.c.P, .int .i64 d2.c.S, .int .i64 d2.c.W, .slice pv.a pv.len pv.cap, .slice nv.a nv.len nv.cap, .slice wv.a wv.len wv.cap, .slice bv.a bv.len bv.cap, .int .i64 d2.bytes, .bool d2.down, .int .i64 d2.after, .int .i64 d2.keep, .slice tv.a tv.len tv.cap]) (T := tRf) (fz := (0, 0)) ((n4, Obj.cells #[.int .i64 pre.length, .int .i64 q, .slice v5.a v5.len v5.cap, .slice v6.a v6.len v6.cap] eT) :: (n3, ob3) :: seg5) (pseg ++ (rsegs pre ++ (rs2 ++ (rsegs post ++ (nseg' ++ (wseg ++ (bseg ++ (seg8 ++ (tsegs ts ++ R))))))))) rfl (by simp [rO]) (by simp) (.inl (Nat.le_refl _))
      #[.int .i64 d2.c.B, .int .i64 d2.c.P, .int .i64 d2.c.S, .int .i64 d2.c.W, .slice pv.a pv.len pv.cap, .slice nv.a nv.len nv.cap, .slice wv.a wv.len wv.cap, .slice bv.a bv.len bv.cap, .int .i64 d2.bytes, .bool d2.down, .int .i64 d2.after, .int .i64 d2.keep, .slice v8.a v8.len v8.cap] rfl ?_
    obtain ⟨s1, s2⟩ := hseq (k.put q (tornImg d data)) { d2 with bs := d.bs.set pre.length (k.put q (tornImg d data)), torn := d.torn ++ [⟨pre.length, q, data, tornImg d data⟩] } rfl rfl rfl
    have s3 := hnseq (k.put q (tornImg d data)) { d2 with bs := d.bs.set pre.length (k.put q (tornImg d data)), torn := d.torn ++ [⟨pre.length, q, data, tornImg d data⟩] } rfl rfl
    refine .drop (A := rL m { d2 with bs := d.bs.set pre.length (k.put q (tornImg d data)), torn := d.torn ++ [⟨pre.length, q, data, tornImg d data⟩] } pv pseg (pre ++ ⟨r.v, rs2, (k.put q (tornImg d data)).pages⟩ :: post) nv nseg' wv wseg bv bseg v8 seg8 (ts ++ [⟨pre.length, q, ⟨v5, seg5, data⟩, ⟨v6, [(n3, ob3)], tornImg d data⟩⟩]) ++ R) (J := [(n4, Obj.cells #[.int .i64 pre.length, .int .i64 q, .slice v5.a v5.len v5.cap, .slice v6.a v6.len v6.cap] eT)])
      ⟨_, rfl, rfl, pv, pseg, _, nv, nseg', wv, wseg, bv, bseg, v8, seg8, _, rfl, h.put (k := k.put q (tornImg d data)) rfl own2 (by rw [s3]; exact own_n) (by rw [s1]; exact h.ow) (by rw [s2]; exact h.ob) (by rw [List.flatMap_append, List.flatMap_singleton]; exact own8) ?_ ?_⟩ ?_
    · intro z hz
      rcases List.mem_append.1 hz with h1 | h1
      · exact h.okt z h1
      · rw [List.mem_singleton.1 h1]; exact ⟨own5, own6'⟩
    · rw [List.map_append, h.ht]; rfl
    · unfold rL
      rw [rsegs_append, rsegs_cons, tsegs_append, tsegs_one]
      have ho2 : rO m { d2 with bs := d.bs.set pre.length (k.put q (tornImg d data)), torn := d.torn ++ [⟨pre.length, q, data, tornImg d data⟩] } pv nv wv bv v8 = (m, Obj.cells #[.int .i64 d2.c.B, .int .i64 d2.c.P, .int .i64 d2.c.S, .int .i64 d2.c.W, .slice pv.a pv.len pv.cap, .slice nv.a nv.len nv.cap, .slice wv.a wv.len wv.cap, .slice bv.a bv.len bv.cap, .int .i64 d2.bytes, .bool d2.down, .int .i64 d2.after, .int .i64 d2.keep, .slice v8.a v8.len v8.cap] tRf) := rfl
      rw [ho2]
      simp only
      generalize (m, Obj.cells #[.int .i64 d2.c.B, .int .i64 d2.c.P, .int .i64 d2.c.S, .int .i64 d2.c.W, .slice pv.a pv.len pv.cap, .slice nv.a nv.len nv.cap, .slice wv.a wv.len wv.cap, .slice bv.a bv.len bv.cap, .int .i64 d2.bytes, .bool d2.down, .int .i64 d2.after, .int .i64 d2.keep, .slice v8.a v8.len v8.cap] tRf) = of
      generalize (n4, Obj.cells #[.int .i64 pre.length, .int .i64 q, .slice v5.a v5.len v5.cap, .slice v6.a v6.len v6.cap] eT) = o4
      generalize (n3, ob3) = o3
      classical
      rw [List.perm_iff_count]
      intro z
      simp only [List.append_eq, List.cons_append, List.count_append, List.count_cons, List.count_nil]
      omega
end Go.Proofs.YtlabcgnegbdlfaaDoor
set_option linter.unusedVariables false
set_option linter.unusedSimpArgs false
namespace Go.Proofs.YtlabcgnegbdlfaaDoor
open Go.HL

theorem bos_set (l : List Bool) (i : Nat) (x : Bool) : (bos l).set i (.bool x) = bos (l.set i x) := by unfold bos; rw [List.map_set]
theorem rerase_cl (m : Nat) (d : Dev) (A : HList) (h : RH m d A) (ok : DvOk d) (b : Int) :
    CallF PP 14 #[.pointer (some ⟨m, 0, none⟩), .int .i64 b] A fun r L' => r = .int .i64 (eraseR d b).1 ∧ RH m (eraseR d b).2 L' := by
  have hA := h
  obtain ⟨pv, pseg, rs, nv, nseg, wv, wseg, bv, bseg, tv, tseg, ts, rfl, h⟩ := h
  refine CallF.of (args := [.pointer (some ⟨m, 0, none⟩), .int .i64 b]) noNum mixed Tryd.func14 (e14 (some ⟨m, 0, none⟩) b _) ?_
  unfold t14
  have hP := ok.c.p
  have hS := ok.c.s
  have hW := ok.c.w
  have hmO : rO m d pv nv wv bv tv ∈ rL m d pv pseg rs nv nseg wv wseg bv bseg tv tseg ts := rL_o
  refine nilc_of rfl (ld_of d.down (r_dn hmO) ?_)
  refine ifB_of (fun (hd : d.down = true) => ?_) (fun (hd : d.down = false) => ?_)
  · have hr : eraseR d b = (11, d) := by
      have he : findE d b 0 = 11 := by unfold findE; rw [if_pos hd]
      unfold eraseR; rw [he, if_pos (by decide)]
    rw [hr]
    exact .of ⟨rfl, hA⟩
  obtain ⟨hf1, hf2⟩ := findE_there ok hd b 0
  refine cl_rd (there_rd _ m d pv nv wv bv tv hmO b 0) (decide (0 ≤ b ∧ b < d.c.B ∧ 0 ≤ (0 : Int) ∧ (0 : Int) < d.c.P), ()) rfl ?_
  by_cases hth : 0 ≤ b ∧ b < d.c.B ∧ 0 ≤ (0 : Int) ∧ (0 : Int) < d.c.P
  case neg =>
    rw [decide_eq_false hth]
    have he : findE d b 0 = 2 := hf2 fun h => hth (hf1.1 h)
    have hr : eraseR d b = (2, d) := by unfold eraseR; rw [he, if_pos (by decide)]
    rw [hr]
    exact ifT rfl (.of ⟨rfl, hA⟩)
  rw [decide_eq_true hth]
  have he := hf1.2 hth
  obtain ⟨hb0, hb1, -, -⟩ := hth
  obtain ⟨i, rfl⟩ : ∃ i : Nat, b = i := ⟨b.toNat, by omega⟩
  have hbl := ok.len
  have hi : i < d.bs.length := by omega
  have hir : i < rs.length := by rw [h.rlen]; exact hi
  have hk : d.bs[i]? = some d.bs[i] := List.getElem?_eq_getElem hi
  have hbk := ok.bk (List.getElem_mem hi)
  have hbl1 : (bos (bads d)).length = d.bs.length := by simp [bos, bads]
  have hnl1 : (nexts d).length = d.bs.length := by simp [nexts]
  have hwl1 : (wears d).length = d.bs.length := by simp [wears]
  obtain ⟨e1, ba, hba, lba⟩ := el_at (h.bsl (m := m)) (i := i) (by rw [hbl1]; exact hi)
  have hbv : (bos (bads d))[i]'(by rw [hbl1]; exact hi) = .bool d.bs[i].bad := by simp [bos, bads]
  rw [hbv] at lba
  have h0i : (0 : Int) ≤ (i : Int) := by omega
  have hpr : eraseR d (i : Int) = if d.bs[i].bad then (10, d) else eraseK d i d.bs[i] := by
    unfold eraseR
    rw [he, if_neg (by decide), Int.toNat_natCast, hk]
  refine ifF rfl (nilc_of rfl (ld_of bv (r_bd hmO) (nilc_of hba (ixn_of h0i (show (i : Int) < bv.len by omega) (ld_of d.bs[i].bad lba ?_)))))
  refine ifB_of (fun (hbad : d.bs[i].bad = true) => ?_) (fun (hbad : d.bs[i].bad = false) => ?_)
  · rw [hpr, if_pos hbad]
    exact .of ⟨rfl, hA⟩
  rw [hpr, if_neg (by rw [hbad]; decide)]
  clear hpr hA lba hmO
  have hrl := h.rl hir
  obtain ⟨pre, r, post, rfl, rfl⟩ : ∃ pre r post, rs = pre ++ r :: post ∧ pre.length = i := ⟨rs.take i, rs[i], rs.drop (i + 1), by rw [← List.drop_eq_getElem_cons hir, List.take_append_drop], by rw [List.length_take]; omega⟩
  have hrl' : r.l = d.bs[pre.length].pages := by rw [← hrl]; simp
  have hnv : (nexts d)[pre.length]'(by rw [hnl1]; exact hi) = (d.bs[pre.length].next : Int) := by simp [nexts]
  have hwv : (wears d)[pre.length]'(by rw [hwl1]; exact hi) = (d.bs[pre.length].wear : Int) := by simp [wears]
  generalize hkk : d.bs[pre.length] = k at hk hbk hbad hrl' hnv hwv ⊢
  have hpl := hbk.pg.1
  have hkw : k.wear ≤ d.c.W := hbk.nx.2.1
  have hok := h.okp r (by simp)
  unfold RK.Ok at hok
  rw [hrl'] at hok
  have hL : rL m d pv pseg (pre ++ r :: post) nv nseg wv wseg bv bseg tv tseg ts = rO m d pv nv wv bv tv :: (pseg ++ (rsegs pre ++ (r.seg ++ (rsegs post ++ (nseg ++ (wseg ++ (bseg ++ (tseg ++ tsegs ts)))))))) := by
    unfold rL
    rw [rsegs_append, rsegs_cons]
    simp
  rw [hL]
  clear hL
  have hpm : pv.len = (pre ++ r :: post).length ∧ ∃ a, pv.a = some a ∧ ∀ Z : HList, (∀ x ∈ pseg, x ∈ Z) → LdAt (Addr.add a ((pre.length : Int).toNat * 1)) [.slice r.v.a r.v.len r.v.cap] Z := by
    obtain ⟨e, a, ha, l⟩ := el_at h.op.sl (i := pre.length) (by simp)
    rw [List.length_map] at e
    refine ⟨e, a, ha, fun Z hz => ?_⟩
    have : ((pre ++ r :: post).map RK.val)[pre.length]'(by simp) = RK.val r := by simp
    rw [this] at l
    exact l.mono hz
  obtain ⟨e3, pa, hpa, lpa⟩ := hpm
  have g2 : (pre.length : Int) < pv.len := by omega
  refine cl_in [] (pseg ++ (rsegs pre ++ (r.seg ++ (rsegs post ++ (nseg ++ (wseg ++ (bseg ++ (tseg ++ tsegs ts)))))))) (rtears_cl m d pv nv wv bv tv ok.after) rfl ?_
  rintro _ _ - ⟨rfl, rfl⟩
  refine ⟨((tear d).1, ()), rfl, ?_⟩
  unfold eraseK
  obtain ⟨hc2, hb2, hk2, hy2, ht2⟩ := tear_c d
  generalize hd2 : tear d = tt at hc2 hb2 hk2 hy2 ht2 ⊢
  obtain ⟨t, d2⟩ := tt
  simp only at hc2 hb2 hk2 hy2 ht2 ⊢
  have hLs : [] ++ [rO m d2 pv nv wv bv tv] ++ (pseg ++ (rsegs pre ++ (r.seg ++ (rsegs post ++ (nseg ++ (wseg ++ (bseg ++ (tseg ++ tsegs ts)))))))) = (rO m d2 pv nv wv bv tv :: (pseg ++ rsegs pre)) ++ r.seg ++ (rsegs post ++ (nseg ++ (wseg ++ (bseg ++ (tseg ++ tsegs ts))))) := by simp
  rw [hLs]
  clear hLs
  have mem1 : ∀ s : HList, rO m d2 pv nv wv bv tv ∈ (rO m d2 pv nv wv bv tv :: (pseg ++ rsegs pre)) ++ s ++ (rsegs post ++ (nseg ++ (wseg ++ (bseg ++ (tseg ++ tsegs ts))))) := fun s => by simp
  have lp1 : ∀ s : HList, LdAt (Addr.add pa ((pre.length : Int).toNat * 1)) [.slice r.v.a r.v.len r.v.cap] ((rO m d2 pv nv wv bv tv :: (pseg ++ rsegs pre)) ++ s ++ (rsegs post ++ (nseg ++ (wseg ++ (bseg ++ (tseg ++ tsegs ts)))))) := fun s => lpa _ (by intro x hx; simp [hx])
  have hcP : (d2.c.P : Int) = d.c.P := by rw [hc2]
  have hcS : (d2.c.S : Int) = d.c.S := by rw [hc2]
  refine nilc_of rfl (ld_of (d2.c.P : Int) (r_P (mem1 r.seg)) ?_)
  rw [hcP]
  generalize hnn : (if t then keptN d.keep d.c.P else d.c.P) = n
  have hn : n ≤ d.c.P := by rw [← hnn]; unfold keptN; split <;> omega
  refine jn_of (fun y L' => y = ((n : Int), ()) ∧ L' = (rO m d2 pv nv wv bv tv :: (pseg ++ rsegs pre)) ++ r.seg ++ (rsegs post ++ (nseg ++ (wseg ++ (bseg ++ (tseg ++ tsegs ts)))))) ?_ ?_
  case refine_2 =>
    intro j hj
    cases t with
    | true =>
      refine ifT rfl (nilc_of rfl (ld_of d2.keep (r_kp (mem1 r.seg)) ?_))
      simp only [imin_kept]
      rw [show keptN d2.keep d.c.P = keptN d.keep d.c.P by rw [hk2]]
      exact hj _ _ ⟨by rw [← hnn]; rfl, rfl⟩
    | false => exact ifF rfl (hj _ _ ⟨by rw [← hnn]; rfl, rfl⟩)
  rintro _ _ ⟨rfl, rfl⟩
  refine lp_of (fun z' z L' => ∃ (j : Nat) (sg : HList), j ≤ n ∧ z' = n - j ∧ z = ((j : Int), ()) ∧ L' = (rO m d2 pv nv wv bv tv :: (pseg ++ rsegs pre)) ++ sg ++ (rsegs post ++ (nseg ++ (wseg ++ (bseg ++ (tseg ++ tsegs ts))))) ∧ Own r.v 1 eSg ((List.replicate j (blk d.c.S) ++ k.pages.drop j).map strV) sg) n
    ⟨0, r.seg, by omega, by omega, rfl, rfl, by simpa using hok⟩ ?_
  rintro z' z _ ⟨j, sg, hj, rfl, rfl, rfl, own⟩
  have hll : ((List.replicate j (blk d.c.S) ++ k.pages.drop j).map strV).length = d.c.P := by
    rw [List.length_map, List.length_append, List.length_replicate, List.length_drop]; omega
  have hvl := own.len
  rw [hll] at hvl
  refine ifD_of (fun (hlt : (j : Int) < (n : Int)) => ?_) (fun (hge : ¬ (j : Int) < (n : Int)) => ?_)
  · obtain ⟨e4, ra, hra, -⟩ := el_at own.sl (i := j) (by rw [hll]; omega)
    refine nilc_of rfl (nilc_of rfl (ld_of pv (r_pg (mem1 sg)) (nilc_of hpa (ixn_of h0i g2 (ld_of r.v (lp1 sg) (ld_of (d2.c.S : Int) (r_S (mem1 sg)) ?_))))))
    rw [hcS]
    refine cl_rd (rblank_s _ d.c.S (by omega)) ((⟨(blk d.c.S).toArray⟩ : ByteArray), ()) rfl (keep_of (lp1 sg) (keep_of (r_pg (mem1 sg)) ?_))
    refine nilc_of hra (ixn_of (show (0 : Int) ≤ (j : Int) by omega) (show (j : Int) < r.v.len by omega) ?_)
    refine own.st (p := j) (ws := [strV (blk d.c.S)]) (rO m d2 pv nv wv bv tv :: (pseg ++ rsegs pre)) (rsegs post ++ (nseg ++ (wseg ++ (bseg ++ (tseg ++ tsegs ts))))) (by rw [hll, List.length_singleton]; omega) (by simp) hra (by rw [Int.toNat_natCast, Nat.mul_one]) rfl fun sg' own' => ?_
    rw [putL_one (by rw [hll]; omega), ← List.map_set] at own'
    refine ⟨n - (j + 1), by omega, j + 1, sg', by omega, rfl, ?_, rfl, ?_⟩
    · rw [w64_id (by first | omega | (simp only; omega)) (by first | omega | (simp only; omega))]
      rfl
    · have : (List.replicate j (blk d.c.S) ++ k.pages.drop j).set j (blk d.c.S) = List.replicate (j + 1) (blk d.c.S) ++ k.pages.drop (j + 1) := by
        rw [List.set_append, if_neg (by simp), List.length_replicate, Nat.sub_self, List.drop_eq_getElem_cons (by omega), List.set_cons_zero, List.replicate_succ', List.append_assoc]
        rfl
      rw [this] at own'
      exact own'
  · obtain rfl : j = n := by omega
    cases t with
    | true =>
      rw [if_pos rfl] at hnn ⊢
      subst hnn
      obtain ⟨e2, na, hna, -⟩ := ivs_at (L := nseg) h.on.sl (i := pre.length) (by rw [hnl1]; exact hi)
      refine ifT rfl (nilc_of rfl (nilc_of rfl (ld_of nv (r_nx (mem1 sg)) (ld_of (d2.c.P : Int) (r_P (mem1 sg)) ?_))))
      rw [hcP]
      refine nilc_of hna (ixn_of h0i (show (pre.length : Int) < nv.len by omega) ?_)
      refine h.on.st (p := pre.length) (ws := [.int .i64 (d.c.P : Int)]) (rO m d2 pv nv wv bv tv :: (pseg ++ (rsegs pre ++ (sg ++ rsegs post)))) (wseg ++ (bseg ++ (tseg ++ tsegs ts))) (by rw [ivs_length, hnl1, List.length_singleton]; omega) (by simp) hna (by rw [Int.toNat_natCast, Nat.mul_one]) (by simp) fun nseg' own_n => ?_
      rw [putL_one (by rw [ivs_length]; omega), ivs_set] at own_n
      have s1 : wears { d2 with bs := d.bs.set pre.length (k.torn d.c (keptN d.keep d.c.P)) } = wears d := by
        rw [wears_set d pre.length (k.torn d.c (keptN d.keep d.c.P)) _ rfl]
        show (wears d).set pre.length (k.wear : Int) = _
        rw [← hkk]
        exact set_same d.bs (fun k => (k.wear : Int)) pre.length hi
      have s2 : bads { d2 with bs := d.bs.set pre.length (k.torn d.c (keptN d.keep d.c.P)) } = bads d := by
        rw [bads_set d pre.length (k.torn d.c (keptN d.keep d.c.P)) _ rfl]
        show (bads d).set pre.length k.bad = _
        rw [← hkk]
        exact set_same d.bs (fun k => k.bad) pre.length hi
      refine .of ⟨rfl, pv, pseg, pre ++ ⟨r.v, sg, (k.torn d.c (keptN d.keep d.c.P)).pages⟩ :: post, nv, nseg', wv, wseg, bv, bseg, tv, tseg, ts, ?_,
        h.put (k := k.torn d.c (keptN d.keep d.c.P)) rfl own (by rw [nexts_set d pre.length (k.torn d.c (keptN d.keep d.c.P)) _ rfl]; exact own_n) (by rw [s1]; exact h.ow) (by rw [s2]; exact h.ob) h.ot h.okt (by show _ = d2.torn; rw [ht2]; exact h.ht)⟩
      unfold rL
      rw [rsegs_append, rsegs_cons]
      simp [rO]
    | false =>
      rw [if_neg (by decide)] at hnn ⊢
      subst hnn
      obtain ⟨e2, na, hna, -⟩ := ivs_at (L := nseg) h.on.sl (i := pre.length) (by rw [hnl1]; exact hi)
      obtain ⟨e5, wa, hwa, lwa⟩ := ivs_at (L := wseg) h.ow.sl (i := pre.length) (by rw [hwl1]; exact hi)
      rw [hwv] at lwa
      obtain ⟨e6, ba2, hba2, -⟩ := el_at h.ob.sl (i := pre.length) (by rw [hbl1]; exact hi)
      have hrw : (k.fresh d.c).pages = List.replicate d.c.P (blk d.c.S) ++ k.pages.drop d.c.P := by
        unfold Blk.fresh
        rw [List.drop_of_length_le (by omega), List.append_nil]
      rw [← hrw] at own
      refine ifF rfl (nilc_of rfl (ld_of nv (r_nx (mem1 sg)) ?_))
      refine nilc_of hna (ixn_of h0i (show (pre.length : Int) < nv.len by omega) ?_)
      refine h.on.st (p := pre.length) (ws := [.int .i64 0]) (rO m d2 pv nv wv bv tv :: (pseg ++ (rsegs pre ++ (sg ++ rsegs post)))) (wseg ++ (bseg ++ (tseg ++ tsegs ts))) (by rw [ivs_length, hnl1, List.length_singleton]; omega) (by simp) hna (by rw [Int.toNat_natCast, Nat.mul_one]) (by simp) fun nseg' own_n => ?_
      rw [putL_one (by rw [ivs_length]; omega), ivs_set] at own_n
      have mem2 : ∀ w b : HList, rO m d2 pv nv wv bv tv ∈ (rO m d2 pv nv wv bv tv :: (pseg ++ (rsegs pre ++ (sg ++ (rsegs post ++ nseg'))))) ++ w ++ (b ++ (tseg ++ tsegs ts)) := fun w b => by simp
      have hLs : (rO m d2 pv nv wv bv tv :: (pseg ++ (rsegs pre ++ (sg ++ rsegs post)))) ++ nseg' ++ (wseg ++ (bseg ++ (tseg ++ tsegs ts))) = (rO m d2 pv nv wv bv tv :: (pseg ++ (rsegs pre ++ (sg ++ (rsegs post ++ nseg'))))) ++ wseg ++ (bseg ++ (tseg ++ tsegs ts)) := by simp
      rw [hLs]
      clear hLs
      have hww : IntKind.i64.wrap ((k.wear : Int) + 1) = ((k.wear + 1 : Nat) : Int) := by rw [w64_id (by omega) (by omega)]; omega
      refine nilc_of rfl (nilc_of rfl (ld_of wv (r_wr (mem2 wseg bseg)) (ld_of wv (r_wr (mem2 wseg bseg)) (nilc_of hwa (ixn_of h0i (show (pre.length : Int) < wv.len by omega) (ld_of (k.wear : Int) (lwa.mono fun x hx => List.mem_append_left _ (List.mem_append_right _ hx)) ?_))))))
      simp only [hww]
      refine nilc_of hwa (ixn_of h0i (show (pre.length : Int) < wv.len by omega) ?_)
      refine h.ow.st (p := pre.length) (ws := [.int .i64 ((k.wear + 1 : Nat) : Int)]) (rO m d2 pv nv wv bv tv :: (pseg ++ (rsegs pre ++ (sg ++ (rsegs post ++ nseg'))))) (bseg ++ (tseg ++ tsegs ts)) (by rw [ivs_length, hwl1, List.length_singleton]; omega) (by simp) hwa (by rw [Int.toNat_natCast, Nat.mul_one]) rfl fun wseg' own_w => ?_
      rw [putL_one (by rw [ivs_length]; omega), ivs_set] at own_w
      obtain ⟨-, wa', hwa', lwa'⟩ := ivs_at (L := wseg') own_w.sl (i := pre.length) (by rw [List.length_set, hwl1]; exact hi)
      rw [List.getElem_set_self] at lwa'
      have hwd : (((k.wear + 1 : Nat) : Int) == (d.c.W : Int)) = decide (k.wear + 1 = d.c.W) := by
        by_cases hw1 : k.wear + 1 = d.c.W
        · rw [decide_eq_true hw1, beq_iff_eq]; omega
        · rw [decide_eq_false hw1, beq_eq_false_iff_ne]; omega
      refine nilc_of rfl (nilc_of rfl (nilc_of rfl (ld_of bv (r_bd (mem2 wseg' bseg)) (ld_of wv (r_wr (mem2 wseg' bseg)) (nilc_of hwa' (ixn_of h0i (show (pre.length : Int) < wv.len by omega) (ld_of ((k.wear + 1 : Nat) : Int) (lwa'.mono fun x hx => List.mem_append_left _ (List.mem_append_right _ hx)) (ld_of (d2.c.W : Int) (r_W (mem2 wseg' bseg)) ?_))))))))
      rw [show (d2.c.W : Int) = d.c.W by rw [hc2]]
      simp only [hwd]
      refine nilc_of hba2 (ixn_of h0i (show (pre.length : Int) < bv.len by omega) ?_)
      refine h.ob.st (p := pre.length) (ws := [.bool (decide (k.wear + 1 = d.c.W))]) (rO m d2 pv nv wv bv tv :: (pseg ++ (rsegs pre ++ (sg ++ (rsegs post ++ (nseg' ++ wseg')))))) (tseg ++ tsegs ts) (by rw [hbl1, List.length_singleton]; omega) (by simp) hba2 (by rw [Int.toNat_natCast, Nat.mul_one]) (by simp) fun bseg' own_b => ?_
      rw [putL_one (by rw [hbl1]; omega), bos_set] at own_b
      obtain ⟨-, ba3, hba3, lba3⟩ := el_at own_b.sl (i := pre.length) (by rw [← bos_set, List.length_set, hbl1]; exact hi)
      have hbv3 : (bos ((bads d).set pre.length (decide (k.wear + 1 = d.c.W))))[pre.length]'(by rw [← bos_set, List.length_set, hbl1]; exact hi) = .bool (decide (k.wear + 1 = d.c.W)) := by
        unfold bos
        rw [List.getElem_map, List.getElem_set_self]
      rw [hbv3] at lba3
      have hend : RH m { d2 with bs := d.bs.set pre.length (k.fresh d.c) } ((rO m d2 pv nv wv bv tv :: (pseg ++ (rsegs pre ++ (sg ++ (rsegs post ++ (nseg' ++ wseg')))))) ++ bseg' ++ (tseg ++ tsegs ts)) := by
        refine ⟨pv, pseg, pre ++ ⟨r.v, sg, (k.fresh d.c).pages⟩ :: post, nv, nseg', wv, wseg', bv, bseg', tv, tseg, ts, ?_,
          h.put (k := k.fresh d.c) rfl own (by rw [nexts_set d pre.length (k.fresh d.c) _ rfl]; exact own_n) (by rw [wears_set d pre.length (k.fresh d.c) _ rfl]; exact own_w) (by rw [bads_set d pre.length (k.fresh d.c) _ rfl]; exact own_b) h.ot h.okt (by show _ = d2.torn; rw [ht2]; exact h.ht)⟩
        unfold rL
        rw [rsegs_append, rsegs_cons]
        simp [rO]
      refine nilc_of rfl (ld_of bv (r_bd (m := m) (d := d2) (pv := pv) (nv := nv) (wv := wv) (tv := tv) (by simp)) (nilc_of hba3 (ixn_of h0i (show (pre.length : Int) < bv.len by omega) (ld_of (decide (k.wear + 1 = d.c.W)) (lba3.mono fun x hx => List.mem_append_left _ (List.mem_append_right _ hx)) ?_))))
      refine ifD_of (fun (hw1 : k.wear + 1 = d.c.W) => .of ⟨?_, hend⟩) (fun (hw1 : ¬ k.wear + 1 = d.c.W) => .of ⟨?_, hend⟩)
      · show Value.int .i64 10 = .int .i64 (if k.wear + 1 = d.c.W then 10 else 0)
        rw [if_pos hw1]
      · show Value.int .i64 0 = .int .i64 (if k.wear + 1 = d.c.W then 10 else 0)
        rw [if_neg hw1]
end Go.Proofs.YtlabcgnegbdlfaaDoor
set_option linter.unusedVariables false
set_option linter.unusedSimpArgs false
namespace Go.Proofs.YtlabcgnegbdlfaaDoor
open Go.HL

theorem rnew_cl (c : Int × Int × Int × Int × Unit) :
    CallF PP 10 #[.agg #[.int .i64 c.1, .int .i64 c.2.1, .int .i64 c.2.2.1, .int .i64 c.2.2.2.1]] [] fun r L' => (¬ right c ∧ r = .tuple #[.pointer none, .int .i64 30] ∧ L' = []) ∨ (right c ∧ ∃ m, r = .tuple #[.pointer (some ⟨m, 0, none⟩), .int .i64 0] ∧ RH m (fresh (cfg c)) L') := by
  refine CallF.of (args := [.agg #[.int .i64 c.1, .int .i64 c.2.1, .int .i64 c.2.2.1, .int .i64 c.2.2.2.1]]) noNum mixed Tryd.func10 (e10 c _) ?_
  unfold t10
  refine nw_of fun n1 _ => ?_
  generalize ho : (n1, Obj.cells #[.int .i64 c.1, .int .i64 c.2.1, .int .i64 c.2.2.1, .int .i64 c.2.2.2.1] 23) = o1
  have lc : ∀ L : HList, o1 ∈ L → LdAt ⟨n1, 0, none⟩ [.int .i64 c.1, .int .i64 c.2.1, .int .i64 c.2.2.1, .int .i64 c.2.2.2.1] L := fun L hm => ldB (by rw [← ho] at hm; exact hm) rfl
  clear ho
  have lB : ∀ L : HList, o1 ∈ L → LdAt ⟨n1, 0, none⟩ [.int .i64 c.1] L := fun L hm => (lc L hm).pre fun i u hu => by cases i with | zero => exact hu | succ i => exact absurd (show (none : Option Value) = some u from hu) (by simp)
  refine ld_of c (lc _ List.mem_cons_self) (cl_rd (right_rd _ c) (decide (right c), ()) rfl ?_)
  by_cases hr : right c
  case neg => rw [decide_eq_false hr]; exact ifT rfl (.cons (.of (.inl ⟨hr, rfl, rfl⟩)))
  rw [decide_eq_true hr]
  refine ifF rfl ?_
  have hck := cfg_ok hr
  have hr' := hr
  unfold right at hr'
  obtain ⟨cB, cP, cS, cW, u⟩ := c
  simp only at hr'
  obtain ⟨B, rfl⟩ : ∃ B : Nat, cB = B := ⟨cB.toNat, by omega⟩
  obtain ⟨Pn, rfl⟩ : ∃ B : Nat, cP = B := ⟨cP.toNat, by omega⟩
  obtain ⟨S, rfl⟩ : ∃ B : Nat, cS = B := ⟨cS.toNat, by omega⟩
  obtain ⟨W, rfl⟩ : ∃ B : Nat, cW = B := ⟨cW.toNat, by omega⟩
  have hcf : cfg ((B : Int), (Pn : Int), (S : Int), (W : Int), u) = ⟨B, Pn, S, W⟩ := by simp [cfg]
  rw [hcf] at hck ⊢
  refine ld_of ((B : Int), (Pn : Int), (S : Int), (W : Int), ()) (lc _ List.mem_cons_self) (nw_of fun m _ => ?_)
  refine lp_of (fun z' z L' => ∃ (i : Nat) (pv : SlV) (pseg : HList) (rs : List RK) (nv : SlV) (nseg : HList) (wv : SlV) (wseg : HList) (bv : SlV) (bseg : HList) (J X Z : HList), i ≤ B ∧ z' = B - i ∧ z = ((i : Int), ()) ∧
      L' = X ++ rO m (fresh ⟨B, Pn, S, W⟩) pv nv wv bv ⟨none, 0, 0⟩ :: (pseg ++ (nseg ++ (wseg ++ (bseg ++ Z)))) ∧ (X ++ Z).Perm (rsegs rs ++ (o1 :: J)) ∧
      Own pv 1 tSt (rs.map RK.val) pseg ∧ (∀ r ∈ rs, r.Ok) ∧ rs.map RK.l = List.replicate i (List.replicate Pn (blk S)) ∧ Own nv 1 eIn (ivs .i64 (List.replicate i 0)) nseg ∧ Own wv 1 eIn (ivs .i64 (List.replicate i 0)) wseg ∧ Own bv 1 eBo (bos (List.replicate i false)) bseg) B
    ⟨0, ⟨none, 0, 0⟩, [], [], ⟨none, 0, 0⟩, [], ⟨none, 0, 0⟩, [], ⟨none, 0, 0⟩, [], [], [], [o1], by omega, by omega, rfl, rfl, List.Perm.refl _, own_nil, by simp, rfl, own_nil, own_nil, own_nil⟩ ?_
  rintro z' z L ⟨i, pv, pseg, rs, nv, nseg, wv, wseg, bv, bseg, J, X, Z, hi, rfl, rfl, rfl, hp, ownp, hokr, hrs, ownn, ownw, ownb⟩
  have ho1 : o1 ∈ X ++ rO m (fresh ⟨B, Pn, S, W⟩) pv nv wv bv ⟨none, 0, 0⟩ :: (pseg ++ (nseg ++ (wseg ++ (bseg ++ Z)))) := by
    have h5 : o1 ∈ X ++ Z := (hp.mem_iff (a := o1)).2 (by simp)
    have h6 : o1 ∈ X ∨ o1 ∈ Z := by simpa using h5
    rcases h6 with h6 | h6 <;> simp [h6]
  have hrl : rs.length = i := by have := congrArg List.length hrs; rwa [List.length_map, List.length_replicate] at this
  have hpvl := ownp.len
  rw [List.length_map] at hpvl
  have hnvl := ownn.len
  rw [ivs_length, List.length_replicate] at hnvl
  have hwvl := ownw.len
  rw [ivs_length, List.length_replicate] at hwvl
  have hbvl := ownb.len
  rw [bos, List.length_map, List.length_replicate] at hbvl
  refine ld_of (B : Int) (lB _ ho1) ?_
  refine ifD_of (fun (hlt : (i : Int) < (B : Int)) => ?_) (fun (hge : ¬ (i : Int) < (B : Int)) => ?_)
  · generalize hLL : X ++ rO m (fresh ⟨B, Pn, S, W⟩) pv nv wv bv ⟨none, 0, 0⟩ :: (pseg ++ (nseg ++ (wseg ++ (bseg ++ Z)))) = LL at ho1
    refine lp_of (fun z' z L' => ∃ (j : Nat) (v : SlV) (sg G : HList), j ≤ Pn ∧ z' = Pn - j ∧ z = (v, (j : Int), ()) ∧ L' = G ++ sg ++ LL ∧ Own v 1 eSg ((List.replicate j (blk S)).map strV) sg) Pn ⟨0, ⟨none, 0, 0⟩, [], [], by omega, by omega, rfl, by simp, own_nil⟩ ?_
    rintro z' z _ ⟨j, v, sg, G, hj, rfl, rfl, rfl, own⟩
    have hvl := own.len
    rw [List.length_map, List.length_replicate] at hvl
    refine ld_of (Pn : Int) ((lc _ (List.mem_append_right _ ho1)).one 1 rfl) ?_
    refine ifD_of (fun (hlt2 : (j : Int) < (Pn : Int)) => ?_) (fun (hge2 : ¬ (j : Int) < (Pn : Int)) => ?_)
    · refine ld_of (S : Int) ((lc _ (List.mem_append_right _ ho1)).one 2 rfl) ?_
      refine cl_rd (rblank_s _ S (by omega)) ((⟨(blk S).toArray⟩ : ByteArray), ()) rfl (nw_of fun n3 _ => ?_)
      refine append_in elemSt srcSt ((n3, Obj.cells #[.string ⟨(blk S).toArray⟩] 9) :: G) LL own (by simp) (n := 1) (ws := [strV (blk S)]) (x := .slice (some ⟨n3, 0, none⟩) 1 1) (Src.sl (v := ⟨some ⟨n3, 0, none⟩, 1, 1⟩) ⟨rfl, Nat.le_refl _, .inr ⟨_, rfl, ldB List.mem_cons_self rfl⟩⟩) rfl (by omega) fun v' sg' hv' own' => ?_
      refine ⟨Pn - (j + 1), by omega, j + 1, v', sg', _, by omega, rfl, ?_, rfl, ?_⟩
      · rw [w64_id (by first | omega | (simp only; omega)) (by first | omega | (simp only; omega))]
        rfl
      · rw [List.replicate_succ', List.map_append]; exact own'
    · obtain rfl : j = Pn := by omega
      subst hLL
      have hd : ∀ (pv nv wv bv : SlV) (n o : Nat), True := fun _ _ _ _ _ _ => trivial
      have hLs : G ++ sg ++ (X ++ rO m (fresh ⟨B, j, S, W⟩) pv nv wv bv ⟨none, 0, 0⟩ :: (pseg ++ (nseg ++ (wseg ++ (bseg ++ Z))))) = (G ++ sg ++ X) ++ rO m (fresh ⟨B, j, S, W⟩) pv nv wv bv ⟨none, 0, 0⟩ :: (pseg ++ (nseg ++ (wseg ++ (bseg ++ Z)))) := by simp
      rw [hLs]
      clear hLs ho1
      have hGX : (G ++ sg ++ X ++ Z).Perm (rsegs (rs ++ [⟨v, sg, List.replicate j (blk S)⟩]) ++ (o1 :: (G ++ J))) := by
        rw [rsegs_append]
        have : rsegs [(⟨v, sg, List.replicate j (blk S)⟩ : RK)] = sg := by simp [rsegs]
        rw [this]
        classical
        rw [List.perm_iff_count] at hp ⊢
        intro z
        have := hp z
        simp only [List.append_eq, List.cons_append, List.count_append, List.count_cons, List.count_nil] at this ⊢
        omega
      generalize G ++ sg ++ X = Y at hGX
      refine ld_of pv (r_pg (m := m) (d := fresh ⟨B, j, S, W⟩) (nv := nv) (wv := wv) (bv := bv) (tv := ⟨none, 0, 0⟩) (by simp)) (nw_of fun n4 _ => ?_)
      refine append_in elemSs srcSs ((n4, Obj.cells #[.slice v.a v.len v.cap] 102) :: (Y ++ [rO m (fresh ⟨B, j, S, W⟩) pv nv wv bv ⟨none, 0, 0⟩])) (nseg ++ (wseg ++ (bseg ++ Z))) ownp (by simp) (n := 1) (ws := [RK.val ⟨v, sg, List.replicate j (blk S)⟩]) (x := .slice (some ⟨n4, 0, none⟩) 1 1) (Src.sl (v := ⟨some ⟨n4, 0, none⟩, 1, 1⟩) ⟨rfl, Nat.le_refl _, .inr ⟨_, rfl, ldB List.mem_cons_self rfl⟩⟩) rfl (by omega) fun pv' pseg' hv1 ownp' => ?_
      refine st_of (n := m) (off := 4) (c := #[.int .i64 B, .int .i64 j, .int .i64 S, .int .i64 W, .slice pv.a pv.len pv.cap, .slice nv.a nv.len nv.cap, .slice wv.a wv.len wv.cap, .slice bv.a bv.len bv.cap, .int .i64 0, .bool false, .int .i64 0, .int .i64 0, .slice none 0 0]) (T := tRf) (fz := (0, 0)) ((n4, Obj.cells #[.slice v.a v.len v.cap] 102) :: Y) (pseg' ++ (nseg ++ (wseg ++ (bseg ++ Z)))) rfl (by simp [rO, fresh]) (by simp) (.inl (Nat.le_refl _))
        #[.int .i64 B, .int .i64 j, .int .i64 S, .int .i64 W, .slice pv'.a pv'.len pv'.cap, .slice nv.a nv.len nv.cap, .slice wv.a wv.len wv.cap, .slice bv.a bv.len bv.cap, .int .i64 0, .bool false, .int .i64 0, .int .i64 0, .slice none 0 0] rfl ?_
      refine ld_of nv (ldB (n := m) (off := 5) (T := tRf) (fz := (0, 0)) (c := #[.int .i64 B, .int .i64 j, .int .i64 S, .int .i64 W, .slice pv'.a pv'.len pv'.cap, .slice nv.a nv.len nv.cap, .slice wv.a wv.len wv.cap, .slice bv.a bv.len bv.cap, .int .i64 0, .bool false, .int .i64 0, .int .i64 0, .slice none 0 0]) (by simp) rfl) (nw_of fun n5 _ => ?_)
      generalize (n4, Obj.cells #[.slice v.a v.len v.cap] 102) = o4
      refine append_in elemIn srcIn ((n5, Obj.cells #[.int .i64 0] 3) :: o4 :: (Y ++ ((m, Obj.cells #[.int .i64 B, .int .i64 j, .int .i64 S, .int .i64 W, .slice pv'.a pv'.len pv'.cap, .slice nv.a nv.len nv.cap, .slice wv.a wv.len wv.cap, .slice bv.a bv.len bv.cap, .int .i64 0, .bool false, .int .i64 0, .int .i64 0, .slice none 0 0] tRf) :: pseg'))) (wseg ++ (bseg ++ Z)) ownn (by simp) (n := 1) (ws := [.int .i64 0]) (x := .slice (some ⟨n5, 0, none⟩) 1 1) (Src.sl (v := ⟨some ⟨n5, 0, none⟩, 1, 1⟩) ⟨rfl, Nat.le_refl _, .inr ⟨_, rfl, ldB List.mem_cons_self rfl⟩⟩) rfl (by omega) fun nv' nseg' hv2 ownn' => ?_
      refine st_of (n := m) (off := 5) (c := #[.int .i64 B, .int .i64 j, .int .i64 S, .int .i64 W, .slice pv'.a pv'.len pv'.cap, .slice nv.a nv.len nv.cap, .slice wv.a wv.len wv.cap, .slice bv.a bv.len bv.cap, .int .i64 0, .bool false, .int .i64 0, .int .i64 0, .slice none 0 0]) (T := tRf) (fz := (0, 0)) ((n5, Obj.cells #[.int .i64 0] 3) :: o4 :: Y) (pseg' ++ (nseg' ++ (wseg ++ (bseg ++ Z)))) rfl (by simp) (by simp) (.inl (Nat.le_refl _))
        #[.int .i64 B, .int .i64 j, .int .i64 S, .int .i64 W, .slice pv'.a pv'.len pv'.cap, .slice nv'.a nv'.len nv'.cap, .slice wv.a wv.len wv.cap, .slice bv.a bv.len bv.cap, .int .i64 0, .bool false, .int .i64 0, .int .i64 0, .slice none 0 0] rfl ?_
      refine ld_of wv (ldB (n := m) (off := 6) (T := tRf) (fz := (0, 0)) (c := #[.int .i64 B, .int .i64 j, .int .i64 S, .int .i64 W, .slice pv'.a pv'.len pv'.cap, .slice nv'.a nv'.len nv'.cap, .slice wv.a wv.len wv.cap, .slice bv.a bv.len bv.cap, .int .i64 0, .bool false, .int .i64 0, .int .i64 0, .slice none 0 0]) (by simp) rfl) (nw_of fun n6 _ => ?_)
      generalize (n5, Obj.cells #[.int .i64 0] 3) = o5
      refine append_in elemIn srcIn ((n6, Obj.cells #[.int .i64 0] 3) :: o5 :: o4 :: (Y ++ ((m, Obj.cells #[.int .i64 B, .int .i64 j, .int .i64 S, .int .i64 W, .slice pv'.a pv'.len pv'.cap, .slice nv'.a nv'.len nv'.cap, .slice wv.a wv.len wv.cap, .slice bv.a bv.len bv.cap, .int .i64 0, .bool false, .int .i64 0, .int .i64 0, .slice none 0 0] tRf) :: (pseg' ++ nseg')))) (bseg ++ Z) ownw (by simp) (n := 1) (ws := [.int .i64 0]) (x := .slice (some ⟨n6, 0, none⟩) 1 1) (Src.sl (v := ⟨some ⟨n6, 0, none⟩, 1, 1⟩) ⟨rfl, Nat.le_refl _, .inr ⟨_, rfl, ldB List.mem_cons_self rfl⟩⟩) rfl (by omega) fun wv' wseg' hv3 ownw' => ?_
      refine st_of (n := m) (off := 6) (c := #[.int .i64 B, .int .i64 j, .int .i64 S, .int .i64 W, .slice pv'.a pv'.len pv'.cap, .slice nv'.a nv'.len nv'.cap, .slice wv.a wv.len wv.cap, .slice bv.a bv.len bv.cap, .int .i64 0, .bool false, .int .i64 0, .int .i64 0, .slice none 0 0]) (T := tRf) (fz := (0, 0)) ((n6, Obj.cells #[.int .i64 0] 3) :: o5 :: o4 :: Y) (pseg' ++ (nseg' ++ (wseg' ++ (bseg ++ Z)))) rfl (by simp) (by simp) (.inl (Nat.le_refl _))
        #[.int .i64 B, .int .i64 j, .int .i64 S, .int .i64 W, .slice pv'.a pv'.len pv'.cap, .slice nv'.a nv'.len nv'.cap, .slice wv'.a wv'.len wv'.cap, .slice bv.a bv.len bv.cap, .int .i64 0, .bool false, .int .i64 0, .int .i64 0, .slice none 0 0] rfl ?_
      refine ld_of bv (ldB (n := m) (off := 7) (T := tRf) (fz := (0, 0)) (c := #[.int .i64 B, .int .i64 j, .int .i64 S, .int .i64 W, .slice pv'.a pv'.len pv'.cap, .slice nv'.a nv'.len nv'.cap, .slice wv'.a wv'.len wv'.cap, .slice bv.a bv.len bv.cap, .int .i64 0, .bool false, .int .i64 0, .int .i64 0, .slice none 0 0]) (by simp) rfl) (nw_of fun n7 _ => ?_)
      generalize (n6, Obj.cells #[.int .i64 0] 3) = o6
      refine append_in elemBo srcBo ((n7, Obj.cells #[.bool false] 4) :: o6 :: o5 :: o4 :: (Y ++ ((m, Obj.cells #[.int .i64 B, .int .i64 j, .int .i64 S, .int .i64 W, .slice pv'.a pv'.len pv'.cap, .slice nv'.a nv'.len nv'.cap, .slice wv'.a wv'.len wv'.cap, .slice bv.a bv.len bv.cap, .int .i64 0, .bool false, .int .i64 0, .int .i64 0, .slice none 0 0] tRf) :: (pseg' ++ (nseg' ++ wseg'))))) Z ownb (by simp) (n := 1) (ws := [.bool false]) (x := .slice (some ⟨n7, 0, none⟩) 1 1) (Src.sl (v := ⟨some ⟨n7, 0, none⟩, 1, 1⟩) ⟨rfl, Nat.le_refl _, .inr ⟨_, rfl, ldB List.mem_cons_self rfl⟩⟩) rfl (by omega) fun bv' bseg' hv4 ownb' => ?_
      refine st_of (n := m) (off := 7) (c := #[.int .i64 B, .int .i64 j, .int .i64 S, .int .i64 W, .slice pv'.a pv'.len pv'.cap, .slice nv'.a nv'.len nv'.cap, .slice wv'.a wv'.len wv'.cap, .slice bv.a bv.len bv.cap, .int .i64 0, .bool false, .int .i64 0, .int .i64 0, .slice none 0 0]) (T := tRf) (fz := (0, 0)) ((n7, Obj.cells #[.bool false] 4) :: o6 :: o5 :: o4 :: Y) (pseg' ++ (nseg' ++ (wseg' ++ (bseg' ++ Z)))) rfl (by simp) (by simp) (.inl (Nat.le_refl _))
        #[.int .i64 B, .int .i64 j, .int .i64 S, .int .i64 W, .slice pv'.a pv'.len pv'.cap, .slice nv'.a nv'.len nv'.cap, .slice wv'.a wv'.len wv'.cap, .slice bv'.a bv'.len bv'.cap, .int .i64 0, .bool false, .int .i64 0, .int .i64 0, .slice none 0 0] rfl ?_
      generalize (n7, Obj.cells #[.bool false] 4) = o7
      refine ⟨B - (i + 1), by omega, i + 1, pv', pseg', rs ++ [⟨v, sg, List.replicate j (blk S)⟩], nv', nseg', wv', wseg', bv', bseg', o7 :: o6 :: o5 :: o4 :: (G ++ J), o7 :: o6 :: o5 :: o4 :: Y, Z, by omega, rfl, ?_, rfl, ?_, ?_, ?_, ?_, ?_, ?_, ?_⟩
      · rw [w64_id (by first | omega | (simp only; omega)) (by first | omega | (simp only; omega))]
        rfl
      · classical
        rw [List.perm_iff_count] at hGX ⊢
        intro z
        have := hGX z
        simp only [List.append_eq, List.cons_append, List.count_append, List.count_cons, List.count_nil] at this ⊢
        omega
      · rw [List.map_append]; exact ownp'
      · intro z hz
        rcases List.mem_append.1 hz with h5 | h5
        · exact hokr z h5
        · rw [List.mem_singleton.1 h5]; exact own
      · rw [List.map_append, hrs, List.replicate_succ' (n := i), List.map_singleton]
      · rw [List.replicate_succ', ivs_append]; exact ownn'
      · rw [List.replicate_succ', ivs_append]; exact ownw'
      · rw [List.replicate_succ', bos, List.map_append]; exact ownb'
  · obtain rfl : i = B := by omega
    have hpg : (fresh ⟨i, Pn, S, W⟩).bs.map Blk.pages = List.replicate i (List.replicate Pn (blk S)) := by simp [fresh, blk0]
    have hnx : nexts (fresh ⟨i, Pn, S, W⟩) = List.replicate i 0 := by simp [nexts, fresh, blk0]
    have hwr : wears (fresh ⟨i, Pn, S, W⟩) = List.replicate i 0 := by simp [wears, fresh, blk0]
    have hbd : bads (fresh ⟨i, Pn, S, W⟩) = List.replicate i false := by simp [bads, fresh, blk0]
    refine .drop (A := rL m (fresh ⟨i, Pn, S, W⟩) pv pseg rs nv nseg wv wseg bv bseg ⟨none, 0, 0⟩ [] []) (J := o1 :: J) (.inr ⟨hr, m, rfl, pv, pseg, rs, nv, nseg, wv, wseg, bv, bseg, ⟨none, 0, 0⟩, [], [], rfl, ownp, hokr, by rw [hrs, hpg], by rw [hnx]; exact ownn, by rw [hwr]; exact ownw, by rw [hbd]; exact ownb, own_nil, by simp, rfl⟩) ?_
    unfold rL
    have : tsegs [] = [] := rfl
    rw [this]
    classical
    rw [List.perm_iff_count] at hp ⊢
    intro z
    have := hp z
    simp only [List.append_eq, List.cons_append, List.count_append, List.count_cons, List.count_nil] at this ⊢
    omega
end Go.Proofs.YtlabcgnegbdlfaaDoor
set_option linter.unusedVariables false
set_option linter.unusedSimpArgs false
namespace Go.Proofs.YtlabcgnegbdlfaaDoor
open Go.HL

structure DG (d : Dev) (n : Nat) : Prop where
  ok : DvOk d
  few : d.torn.length + n ≤ 1048576
def progI (d : Dev) (b : Int) (h : Hd) (p : List UInt8) : Int × Dev := if (imgR h p d.c.S).2 ≠ 0 then ((imgR h p d.c.S).2, d) else prog d b h.2.2.2.2.1 (imgR h p d.c.S).1
def openR (d : Dev) (b ep : Int) : Int × Dev := progI d b (1, 0, 1, ep, 0, ()) []
def appG (b ep at' kind n : Int) : Dev → Nat → List (List UInt8) → Int × Dev
  | d, _, [] => (0, d)
  | d, i, p :: r => if (progI d b (kind, i, n, ep, at' + i, ()) p).1 = 0 then appG b ep at' kind n (progI d b (kind, i, n, ep, at' + i, ()) p).2 (i + 1) r else progI d b (kind, i, n, ep, at' + i, ()) p
def appR (d : Dev) (b ep at' kind : Int) (l : List (List UInt8)) : Int × Dev := if l = [] then (2, d) else appG b ep at' kind l.length d 0 l
instance (l : List Int) : Decidable (inB l) := by unfold inB; infer_instance
def loadR (d : Dev) (b : Int) : List (List UInt8) × Int := if findE d b 0 ≠ 0 then ([], findE d b 0) else ((List.range d.c.P).map fun (p : Nat) => (readR d b (p : Int)).1, 0)
theorem imgR_0 {h : Hd} {p : List UInt8} {size : Int} (e : (imgR h p size).2 = 0) : hErr h = 0 := by
  unfold imgR at e
  split at e
  · simp at e
  · split at e
    · rename_i h2; exact absurd e h2
    · rename_i h2; exact Classical.not_not.1 h2
theorem progI_0 {d : Dev} {b : Int} {h : Hd} {p : List UInt8} (e : (progI d b h p).1 = 0) : hErr h = 0 := by
  unfold progI at e
  split at e
  · rename_i h2; exact absurd e h2
  · rename_i h2; exact imgR_0 (Classical.not_not.1 h2)
theorem progI_g {d : Dev} {n : Nat} (g : DG d (n + 1)) (b : Int) (h : Hd) (p : List UInt8) : DG (progI d b h p).2 n := by
  unfold progI
  split
  · exact ⟨g.ok, by have := g.few; show d.torn.length + n ≤ _; omega⟩
  · refine ⟨prog_ok g.ok _ _ _, ?_⟩
    have h1 := prog_torn d b h.2.2.2.2.1 (imgR h p d.c.S).1
    have := g.few
    omega
theorem DG.le {d : Dev} {n m : Nat} (g : DG d n) (h : m ≤ n) : DG d m := ⟨g.ok, by have := g.few; omega⟩
theorem appG_g {b ep at' kind n : Int} : ∀ (l : List (List UInt8)) {d : Dev} {i m : Nat}, DG d (l.length + m) → DG (appG b ep at' kind n d i l).2 m
  | [], d, i, m, g => g.le (by simp)
  | p :: r, d, i, m, g => by
    have g1 : DG d (r.length + m + 1) := g.le (by simp; omega)
    unfold appG
    split
    · exact appG_g r (progI_g g1 _ _ _)
    · exact (progI_g g1 _ _ _).le (by omega)
theorem appR_g {d : Dev} {l : List (List UInt8)} {m : Nat} (g : DG d (l.length + m)) (b ep at' kind : Int) : DG (appR d b ep at' kind l).2 m := by
  unfold appR
  split
  · exact g.le (by omega)
  · exact appG_g l g
theorem p3 {A B C : HList} : (A ++ (B ++ C)).Perm (B ++ (A ++ C)) := List.perm_append_comm_assoc A B C
/-- A call that changes a device and reads the rest. -/
def DevK (H : Nat → Dev → HList → Prop) (m : Nat) (q : Int × Dev) (R : HList) (r : Value) (L' : HList) : Prop := ∃ A', L' = A' ++ R ∧ r = .int .i64 q.1 ∧ H m q.2 A'
theorem prog1_cl (m : Nat) (d : Dev) (A R : HList) (h : FH m d A) (g : DG d 1) (b : Int) (hd : Hd) (u : SlV) (p : List UInt8) (hu : BSl R u p) :
    CallF PP 44 #[.pointer (some ⟨m, 0, none⟩), .int .i64 b, .agg #[.int .i64 hd.1, .int .i64 hd.2.1, .int .i64 hd.2.2.1, .int .i64 hd.2.2.2.1, .int .i64 hd.2.2.2.2.1], .slice u.a u.len u.cap] (A ++ R) (DevK FH m (progI d b hd p) R) := by
  refine c44 (some ⟨m, 0, none⟩) b hd u ?_
  unfold s44
  have hc := g.ok.c.s
  refine cl_rd (Reads.in (X := []) (Y := R) (config_rd m d A h)) ((d.c.B, d.c.P, d.c.S, d.c.W, ()), ()) rfl ?_
  refine cl_of (pimage_cl (A ++ R) hd u p hu.right (d.c.S : Int) (by omega)) ?_
  rintro _ _ - ⟨s, sg, rfl, rfl, own⟩
  refine ⟨(s, (imgR hd p d.c.S).2, ()), rfl, ifb_of (fun (h0 : (imgR hd p d.c.S).2 = 0) => ?_) (fun (h0 : ¬ (imgR hd p d.c.S).2 = 0) => ?_)⟩
  · refine cl_of (CallF.perm p3 (program_cl m d A (sg ++ R) h g.ok (by have := g.few; omega) b hd.2.2.2.2.1 s (imgR hd p d.c.S).1 own.sl.left)) ?_
    rintro _ _ - ⟨A', rfl, rfl, h'⟩
    have e : progI d b hd p = prog d b hd.2.2.2.2.1 (imgR hd p d.c.S).1 := by unfold progI; rw [if_neg (by simpa using h0)]
    refine ⟨((prog d b hd.2.2.2.2.1 (imgR hd p d.c.S).1).1, ()), rfl, .drop (A := A' ++ R) (J := sg) ⟨A', rfl, by rw [e], by rw [e]; exact h'⟩ ?_⟩
    exact (p3.trans List.perm_append_comm)
  · have e : progI d b hd p = ((imgR hd p d.c.S).2, d) := by unfold progI; rw [if_pos h0]
    exact .app (.of ⟨A, rfl, by rw [e], by rw [e]; exact h⟩)
theorem open_cl (m : Nat) (d : Dev) (A R : HList) (h : FH m d A) (g : DG d 1) (b ep : Int) : CallF PP 20 #[.pointer (some ⟨m, 0, none⟩), .int .i64 b, .int .i64 ep] (A ++ R) (DevK FH m (openR d b ep) R) := by
  refine c20 (some ⟨m, 0, none⟩) b ep ?_
  unfold s20
  refine cl_of (prog1_cl m d A R h g b (1, 0, 1, ep, 0, ()) ⟨none, 0, 0⟩ [] (Sl.nil 1)) ?_
  rintro _ _ - ⟨A', rfl, rfl, h'⟩
  exact ⟨((openR d b ep).1, ()), rfl, .of ⟨A', rfl, rfl, h'⟩⟩
theorem append_cl (m : Nat) (d : Dev) (A R : HList) (h : FH m d A) (u : SlV) (l : List PV) (hu : Parts R u l) (hl : l.length ≤ 1000000) (g : DG d l.length) (b ep at' kind : Int) (hat : intWf .i64 at') :
    CallF PP 23 #[.pointer (some ⟨m, 0, none⟩), .int .i64 b, .int .i64 ep, .int .i64 at', .int .i64 kind, .slice u.a u.len u.cap] (A ++ R) (DevK FH m (appR d b ep at' kind (l.map Prod.snd)) R) := by
  refine c23 (some ⟨m, 0, none⟩) b ep at' kind u ?_
  unfold s23
  have hul := hu.len
  have hat' := wf_i64 hat
  refine ifb_of (fun (h0 : (u.len : Int) = 0) => ?_) (fun (h0 : ¬ (u.len : Int) = 0) => ?_)
  · have e : l.map Prod.snd = [] := by rw [List.map_eq_nil_iff]; exact List.length_eq_zero_iff.1 (by omega)
    exact .of ⟨A, rfl, by unfold appR; rw [if_pos e], by unfold appR; rw [if_pos e]; exact h⟩
  have hne : l.map Prod.snd ≠ [] := fun e => h0 (by have := congrArg List.length e; rw [List.length_map, List.length_nil] at this; omega)
  have hA : appR d b ep at' kind (l.map Prod.snd) = appG b ep at' kind l.length d 0 (l.map Prod.snd) := by unfold appR; rw [if_neg hne, List.length_map]
  rw [hA]
  refine lp_of (fun z' z L' => ∃ (i : Nat) (x : Int) (d' : Dev) (A' : HList), i ≤ l.length ∧ z' = l.length - i ∧ z = ((i : Int), kind, x, (l.length : Int), ep, at' + i, ()) ∧ L' = A' ++ R ∧ FH m d' A' ∧ DG d' (l.length - i) ∧ (0 < i → at' ≤ 15) ∧ appG b ep at' kind l.length d 0 (l.map Prod.snd) = appG b ep at' kind l.length d' i ((l.drop i).map Prod.snd)) l.length
    ⟨0, 0, d, A, by omega, by omega, by rw [hul]; simp, rfl, h, g, by omega, by simp⟩ ?_
  rintro z' z _ ⟨i, x, d', A', hi, rfl, rfl, rfl, h', g', h15, hst⟩
  dsimp only
  refine ifb_of (fun (hlt : (i : Int) < u.len) => ?_) (fun (hge : ¬ (i : Int) < u.len) => ?_)
  · have hi' : i < l.length := by omega
    refine elp_1 (hu.sl.mono mem_r) rfl (by rw [List.length_map]; exact hi') fun a ha => ?_
    rw [List.getElem_map] at ha
    refine ld_of l[i].1 ha (cl_of (prog1_cl m d' A' R h' (g'.le (by omega)) b (kind, (i : Int), (l.length : Int), ep, at' + i, ()) l[i].1 l[i].2 (hu.val _ (List.getElem_mem hi'))) ?_)
    rintro _ _ - ⟨A2, rfl, rfl, h2⟩
    rw [List.drop_eq_getElem_cons hi', List.map_cons, appG] at hst
    refine ⟨((progI d' b (kind, (i : Int), (l.length : Int), ep, at' + i, ()) l[i].2).1, ()), rfl, ifb_of (fun (h0 : (progI d' b (kind, (i : Int), (l.length : Int), ep, at' + i, ()) l[i].2).1 = 0) => ?_) (fun (h0 : ¬ (progI d' b (kind, (i : Int), (l.length : Int), ep, at' + i, ()) l[i].2).1 = 0) => ?_)⟩
    · have hk := hErr_ok (progI_0 h0)
      simp only at hk
      rw [if_pos h0] at hst
      refine w64_of (by omega) (w64_of (by omega) ⟨l.length - (i + 1), by omega, i + 1, i, _, A2, by omega, rfl, ?_, rfl, h2, progI_g (n := l.length - (i + 1)) (g'.le (by omega)) _ _ _, fun _ => by omega, hst⟩)
      rw [show at' + (i : Int) + 1 = at' + ((i + 1 : Nat) : Int) by omega]
      rfl
    · rw [if_neg h0] at hst
      exact .of ⟨A2, rfl, by rw [hst], by rw [hst]; exact h2⟩
  · obtain rfl : i = l.length := by omega
    rw [List.drop_length, List.map_nil, appG] at hst
    exact .of ⟨A', rfl, by rw [hst], by rw [hst]; exact h'⟩
def LoadK (q : List (List UInt8) × Int) (A : HList) (r : Value) (L' : HList) : Prop := ∃ (v : SlV) (gs : List PG) (seg : HList), r = .tuple #[.slice v.a v.len v.cap, .int .i64 q.2] ∧ L' = seg ++ (pgs gs ++ A) ∧ Own v 1 tB (gs.map PG.val) seg ∧ (∀ g ∈ gs, g.Ok) ∧ gs.map PG.l = q.1
theorem findE_p {d : Dev} {b : Int} {p : Nat} (hp : p < d.c.P) : findE d b p = findE d b 0 := by
  unfold findE
  have h1 : (0 ≤ (p : Int) ∧ (p : Int) < d.c.P) := by omega
  have h2 : (0 ≤ (0 : Int) ∧ (0 : Int) < d.c.P) := by omega
  simp only [h1, h2, and_self, not_true_eq_false, if_false]
theorem readR_err {d : Dev} (ok : DvOk d) (b p : Int) : (readR d b p).2 = findE d b p := by
  unfold readR
  split
  · rfl
  · rename_i h
    have h0 : findE d b p = 0 := Classical.not_not.1 h
    have := findE_0 h0
    split
    · rename_i hn
      have hlt : b.toNat < d.bs.length := by omega
      rw [List.getElem?_eq_getElem hlt] at hn; cases hn
    · split <;> exact h0.symm
theorem DG.pb {d : Dev} (ok : DvOk d) : 4 ≤ d.c.P ∧ d.c.P ≤ 16 := ok.c.p
/-- What loading pages one by one has come to. -/
def LInv (d : Dev) (b : Int) (A : HList) (i : Nat) (s : SlV) (L' : HList) : Prop := ∃ (gs : List PG) (sg J : HList), L'.Perm (sg ++ (pgs gs ++ (J ++ A))) ∧ Own s 1 tB (gs.map PG.val) sg ∧ (∀ g ∈ gs, g.Ok) ∧ gs.map PG.l = (List.range i).map fun (p : Nat) => (readR d b (p : Int)).1
theorem LInv.nil (d : Dev) (b : Int) (A : HList) : LInv d b A 0 ⟨none, 0, 0⟩ A := ⟨[], [], [], List.Perm.refl _, own_nil, by simp, rfl⟩
theorem LInv.p {d : Dev} {b : Int} {A : HList} {i : Nat} {s : SlV} {L' : HList} (h : LInv d b A i s L') : ∃ G : HList, L'.Perm (A ++ G) := by
  obtain ⟨gs, sg, J, hp, -⟩ := h
  exact ⟨sg ++ (pgs gs ++ J), pc fun z => by have := pcn hp z; simp only [cnt_a] at this ⊢; omega⟩
theorem LInv.fin {d : Dev} {b : Int} {A : HList} {s : SlV} {L' : HList} (h : LInv d b A d.c.P s L') (h0 : findE d b 0 = 0) : HL.Ends (LoadK (loadR d b) A) (.tuple #[.slice s.a s.len s.cap, .int .i64 0]) L' := by
  obtain ⟨gs, sg, J, hp, own, hok, hg⟩ := h
  have e : loadR d b = ((List.range d.c.P).map fun (p : Nat) => (readR d b (p : Int)).1, 0) := by unfold loadR; rw [if_neg (by simpa using h0)]
  exact .drop (A := sg ++ (pgs gs ++ A)) (J := J) ⟨s, gs, sg, by rw [e], rfl, own, hok, by rw [e]; exact hg⟩ (pc fun z => by have := pcn hp z; simp only [cnt_a] at this ⊢; omega)
theorem LInv.snoc {d : Dev} {b : Int} {A : HList} {i : Nat} {s : SlV} {L' : HList} (h : LInv d b A i s L') (hi : i ≤ 16) (g : PG) (hg : g.Ok) (hl : g.l = (readR d b i).1) {L2 : HList} (hp2 : L2.Perm (g.seg ++ L')) {k : SlV → HP} (hk : ∀ s' L', LInv d b A (i + 1) s' L' → k s' L') :
    apv PP tPs tPs tPs tB s 1 [g.val] k L2 := by
  obtain ⟨gs, sg, J, hp, own, hok, hgl⟩ := h
  have hln := congrArg List.length hgl
  rw [List.length_map, List.length_map, List.length_range] at hln
  have hsl := own.len
  rw [List.length_map] at hsl
  refine apv_pm elemPs srcPs (Y := g.seg ++ (pgs gs ++ (J ++ A))) own (pc fun z => by have := pcn hp z; have := pcn hp2 z; simp only [cnt_a] at *; omega) rfl rfl (by omega) fun s2 sg2 _ own2 => hk _ _ ⟨gs ++ [g], sg2, J, ?_, ?_, ?_, ?_⟩
  · rw [pgs_append, pgs_one]
    exact pc fun z => by simp only [cnt_a]; omega
  · rw [List.map_append]; exact own2
  · intro g' hg'
    rcases List.mem_append.1 hg' with h1 | h1
    · exact hok g' h1
    · rw [List.mem_singleton.1 h1]; exact hg
  · rw [List.range_succ, List.map_append, List.map_append, hgl, List.map_singleton, List.map_singleton, hl]
theorem LInv.err {d : Dev} {b : Int} {A : HList} {i : Nat} {s : SlV} {L' J L2 : HList} (h : LInv d b A i s L') (hi : i < d.c.P) {z : Int} (hz : z = findE d b i) (hne : z ≠ 0) (hp : L2.Perm (J ++ L')) : HL.Ends (LoadK (loadR d b) A) (.tuple #[.slice none 0 0, .int .i64 z]) L2 := by
  obtain ⟨G, hG⟩ := h.p
  have e : loadR d b = ([], z) := by rw [findE_p hi] at hz; unfold loadR; rw [← hz, if_pos hne]
  exact .drop (A := A) (J := J ++ G) ⟨⟨none, 0, 0⟩, [], [], by rw [e], rfl, own_nil, by simp, by rw [e]; rfl⟩ (pc fun z => by have := pcn hG z; have := pcn hp z; simp only [cnt_a] at *; omega)
theorem load_cl (m : Nat) (d : Dev) (A : HList) (h : FH m d A) (ok : DvOk d) (b : Int) : CallF PP 51 #[.pointer (some ⟨m, 0, none⟩), .int .i64 b] A (LoadK (loadR d b) A) := by
  refine c51 (some ⟨m, 0, none⟩) b ?_
  unfold s51
  have hP := DG.pb ok
  refine ifF rfl (cl_rd (config_rd m d A h) ((d.c.B, d.c.P, d.c.S, d.c.W, ()), ()) rfl ?_)
  refine lp_of (fun z' z L' => ∃ (i : Nat) (s : SlV), i ≤ d.c.P ∧ z' = d.c.P - i ∧ z = (s, (i : Int), ()) ∧ LInv d b A i s L' ∧ (0 < i → findE d b 0 = 0)) d.c.P ⟨0, ⟨none, 0, 0⟩, by omega, by omega, rfl, LInv.nil d b A, by omega⟩ ?_
  rintro z' z L1 ⟨i, s, hi, rfl, rfl, hI, h0⟩
  dsimp only
  obtain ⟨G, hG⟩ := hI.p
  refine ifb_of (fun (hlt : (i : Int) < d.c.P) => ?_) (fun (hge : ¬ (i : Int) < d.c.P) => ?_)
  · have hi' : i < d.c.P := by omega
    refine cl_pm (read_cl m d A h ok b i) hG ?_
    rintro _ _ ⟨g, rfl, rfl, hg, hgl⟩
    have hre := readR_err ok b (i : Int)
    have hpp : ((g.seg ++ A) ++ G).Perm (g.seg ++ L1) := pc fun z => by have := pcn hG z; simp only [cnt_a] at *; omega
    refine ⟨_, List.Perm.refl _, (g.v, (readR d b (i : Int)).2, ()), rfl, ifb_of (fun (he : (readR d b (i : Int)).2 = 0) => ?_) (fun (he : ¬ (readR d b (i : Int)).2 = 0) => hI.err hi' hre he hpp)⟩
    exact hI.snoc (by omega) g hg hgl hpp fun s' L' hI' => w64_of (by omega) ⟨d.c.P - (i + 1), by omega, i + 1, s', by omega, rfl, rfl, hI', fun _ => by rw [← findE_p hi', ← hre]; exact he⟩
  · obtain rfl : i = d.c.P := by omega
    exact hI.fin (h0 (by omega))
end Go.Proofs.YtlabcgnegbdlfaaDoor
set_option linter.unusedVariables false
set_option linter.unusedSimpArgs false
namespace Go.Proofs.YtlabcgnegbdlfaaDoor
open Go.HL

theorem loadR_len {d : Dev} (ok : DvOk d) (b : Int) : (loadR d b).1.length ≤ 16 ∧ ∀ x ∈ (loadR d b).1, x.length ≤ 512 := by
  have hP := ok.c.p
  have hS := ok.c.s
  unfold loadR
  split
  · exact ⟨by simp, by simp⟩
  · refine ⟨by simp; omega, fun x hx => ?_⟩
    simp only [List.mem_map] at hx
    obtain ⟨p, hp, rfl⟩ := hx
    have hp2 : p < d.c.P := List.mem_range.1 hp
    unfold readR
    split
    · simp
    · split
      · simp
      · rename_i k hk
        have hm : k ∈ d.bs := List.mem_of_getElem? hk
        have h1 := ok.pg k hm
        split
        · simp [blk]; omega
        · rw [Int.toNat_natCast, List.getD_eq_getElem?_getD, List.getElem?_eq_getElem (by omega), Option.getD_some, h1.2 _ (List.getElem_mem _)]; omega
theorem parts_l {L : HList} {v : SlV} {gs : List PG} {seg Y : HList} (own : Own v 1 tB (gs.map PG.val) seg) (hg : ∀ g ∈ gs, g.Ok) (hp : L.Perm (seg ++ (pgs gs ++ Y))) : Parts L v (pvs gs) :=
  parts_of own hg (fun x hx => hp.symm.subset (by simp [hx])) (fun x hx => hp.symm.subset (by simp [hx]))
theorem pvs_snd (gs : List PG) : (pvs gs).map Prod.snd = gs.map PG.l := by unfold pvs; rw [List.map_map]; rfl
theorem load_bnd {d : Dev} (ok : DvOk d) {b : Int} {gs : List PG} (hl : gs.map PG.l = (loadR d b).1) : (pvs gs).length ≤ 16 ∧ ∀ x ∈ pvs gs, x.2.length ≤ 512 := by
  have h := loadR_len ok b
  rw [← hl, ← pvs_snd, List.length_map] at h
  exact ⟨h.1, fun x hx => h.2 _ (List.mem_map_of_mem hx)⟩
theorem DG.arm {d : Dev} {n : Nat} (g : DG d n) {a k : Int} (ha : a ≤ 9223372036854775807) : DG (Go.Proofs.YtlabcgnegbdlfaaDoor.arm d a k) n := by
  refine ⟨arm_ok g.ok ha, ?_⟩
  have : (Go.Proofs.YtlabcgnegbdlfaaDoor.arm d a k).torn = d.torn := by unfold Go.Proofs.YtlabcgnegbdlfaaDoor.arm; split <;> rfl
  rw [this]; exact g.few
theorem DG.restart {d : Dev} {n : Nat} (g : DG d n) : DG (restart d) n := ⟨restart_ok g.ok, g.few⟩
theorem DG.erase {d : Dev} {n : Nat} (g : DG d n) (b : Int) : DG (eraseR d b).2 n := ⟨erase_ok g.ok b, by rw [erase_torn]; exact g.few⟩
def itRng (x : It) : Prop := 1 ≤ x.2.1 ∧ x.2.1 ≤ 255 ∧ 1 ≤ x.2.2.1 ∧ x.2.2.1 ≤ 255
theorem sealG_ord {p : List UInt8} : ∀ {n i : Nat} {nx : Int} {y : List It × Int}, 1 ≤ nx → sealG p n i nx = some y → (∀ x ∈ y.1, nx ≤ x.2.1 ∧ itRng x) ∧ y.1.Pairwise (fun a b => a.2.1 < b.2.1)
  | 0, i, nx, y, _, h => by obtain rfl := Option.some.inj h; simp
  | n + 1, i, nx, y, h1, h => by
    rw [sealG] at h
    split at h
    · rename_i hc
      rw [Option.map_eq_some_iff] at h
      obtain ⟨y2, h2, rfl⟩ := h
      have hb : ∀ k, (p.getD k 0).toNat ≤ 255 := fun k => by have := (p.getD k 0).toNat_lt; omega
      have e1 : (sItem p i).2.1 = ((p.getD (i * 3 + 1) 0).toNat : Int) := rfl
      have e2 : (sItem p i).2.2.1 = ((p.getD (i * 3 + 2) 0).toNat : Int) := rfl
      have h3 := hb (i * 3 + 1)
      have h4 := hb (i * 3 + 2)
      have hpos : 1 ≤ (sItem p i).2.2.1 := by have := hc.2.1; omega
      obtain ⟨i1, i2⟩ := sealG_ord (by omega) h2
      refine ⟨fun x hx => ?_, ?_⟩
      · rcases List.mem_cons.1 hx with rfl | hx
        · exact ⟨by omega, by omega, by omega, hpos, by omega⟩
        · have := i1 x hx
          exact ⟨by omega, this.2⟩
      · rw [List.pairwise_cons]
        exact ⟨fun x hx => by have := (i1 x hx).1; omega, i2⟩
    · cases h
theorem found_at {ps : List (List UInt8)} {ep : Int} {q : Nat} {x : It} (h : foundR ps ep q = some x) : x.2.1 = q := by
  unfold foundR at h
  split at h
  · split at h
    · split at h
      · obtain rfl := Option.some.inj h; rfl
      · cases h
    · cases h
  · cases h
theorem eachR_ord {ps : List (List UInt8)} {ep : Int} {last : Nat} (hl : last ≤ 15) : ∀ {k p : Nat}, 1 ≤ p → (∀ x ∈ eachR (foundR ps ep) last k p, (p : Int) ≤ x.2.1 ∧ itRng x) ∧ (eachR (foundR ps ep) last k p).Pairwise (fun a b => a.2.1 < b.2.1)
  | 0, p, _ => by simp [eachR]
  | k + 1, p, h1 => by
    rw [eachR]
    split
    · rename_i hp
      cases hf : foundR ps ep p with
      | none =>
        obtain ⟨i1, i2⟩ := eachR_ord (ps := ps) (ep := ep) hl (k := k) (p := p + 1) (by omega)
        exact ⟨fun x hx => by have := i1 x hx; exact ⟨by omega, this.2⟩, i2⟩
      | some x0 =>
        have h2 := found_at hf
        have h3 := found_rng hf
        obtain ⟨i1, i2⟩ := eachR_ord (ps := ps) (ep := ep) hl (k := k) (p := p + x0.2.2.1.toNat) (by omega)
        refine ⟨fun x hx => ?_, ?_⟩
        · rcases List.mem_cons.1 hx with rfl | hx
          · exact ⟨by omega, by omega, by omega, by omega, by omega⟩
          · have := i1 x hx
            exact ⟨by omega, this.2⟩
        · rw [List.pairwise_cons]
          exact ⟨fun x hx => by have := (i1 x hx).1; omega, i2⟩
    · simp
theorem sealR_ord {p : List UInt8} {last : Nat} {l : List It} (h : sealR p last = some l) : (∀ x ∈ l, itRng x) ∧ l.Pairwise (fun a b => a.2.1 < b.2.1) := by
  unfold sealR at h
  split at h
  · cases h
  · split at h
    · rename_i y hy
      split at h
      · obtain rfl := Option.some.inj h
        obtain ⟨h1, h2⟩ := sealG_ord (by omega) hy
        exact ⟨fun x hx => (h1 x hx).2, h2⟩
      · cases h
    · cases h
theorem scanR_ord (ps : List (List UInt8)) : (∀ x ∈ (scanR ps).1.2.2, itRng x) ∧ (scanR ps).1.2.2.Pairwise (fun a b => a.2.1 < b.2.1) := by
  unfold scanR
  split
  · simp
  · split
    · split
      · rename_i l hl
        split at hl
        · unfold sealS at hl
          rw [Option.bind_eq_some_iff] at hl
          obtain ⟨p, -, hp⟩ := hl
          exact sealR_ord hp
        · cases hl
      · have hla : lastR ps ≤ 15 := by have := lastD_le ps (min ps.length 16 - 1); unfold lastR; omega
        obtain ⟨h1, h2⟩ := eachR_ord (ps := ps) (ep := epR ps) hla (k := 17) (p := 1) (by omega)
        exact ⟨fun x hx => (h1 x hx).2, h2⟩
    · simp
theorem scanR_ep (ps : List (List UInt8)) : 0 ≤ (scanR ps).1.1 ∧ (scanR ps).1.1 ≤ 1073741824 := by
  have h : ∀ l, saysR ps 0 (1, 0, 1, epR ps, 0, ()) = some l → 0 ≤ epR ps ∧ epR ps ≤ 1073741824 := by
    intro l hl
    unfold saysR at hl
    split at hl
    · split at hl
      · split at hl
        · rename_i b hb hc
          have h1 := hErr_ok (par_ok hc.1)
          rw [hc.2] at h1
          simp only at h1
          omega
        · cases hl
      · cases hl
    · cases hl
  unfold scanR
  split
  · simp
  · split
    · rename_i hs
      have := h _ hs
      split
      · exact this
      · exact this
    · simp
end Go.Proofs.YtlabcgnegbdlfaaDoor
set_option linter.unusedVariables false
set_option linter.unusedSimpArgs false
namespace Go.Proofs.YtlabcgnegbdlfaaDoor
open Go.HL

def wtxt (b : List UInt8) (s : ByteArray) : List UInt8 × Int := if 65536 < s.size then ([], 4) else (b ++ digs s.size 4 ++ s.data.toList, 0)
def TxtK (b : List UInt8) (s : ByteArray) (A : HList) (v : Value) (L' : HList) : Prop := ∃ (u : SlV) (seg : HList), v = .tuple #[.slice u.a u.len u.cap, .int .i64 (wtxt b s).2] ∧ L' = seg ++ A ∧ Own u 1 eB (bvs (wtxt b s).1) seg
theorem size_list (s : ByteArray) : s.data.toList.length = s.size := by rw [Array.length_toList]; rfl
theorem wput4 (b : List UInt8) (n : Nat) (h : n ≤ 65536) : wput b n 4 = (b ++ digs n 4, 0) := by
  have := wput_ok (b := b) (n := n) (w := 4) (by omega) (by omega) (by simp; omega)
  simpa using this
theorem str_bvs (s : ByteArray) : (s.data.toList.map fun b => Value.int .u8 b.toNat) = bvs s.data.toList := rfl
theorem wtxt_cl (A : HList) (v : SlV) (b : List UInt8) (hb : BSl A v b) (hl : b.length ≤ 1000000) (s : ByteArray) (hs : s.size ≤ maxLen) :
    CallF PP 71 #[.slice v.a v.len v.cap, .string s] A (TxtK b s A) := by
  refine CallF.of (args := [.slice v.a v.len v.cap, .string s]) noNum mixed Tryd.func71 (e71 v s _) ?_
  unfold t71
  refine ifD_of (fun (h1 : (s.size : Int) > 65536) => .of ?_) (fun (h1 : ¬ (s.size : Int) > 65536) => ?_)
  · have e : wtxt b s = ([], 4) := by unfold wtxt; rw [if_pos (by omega)]
    exact ⟨⟨none, 0, 0⟩, [], by rw [e], rfl, by rw [e]; exact own_nil⟩
  · have e : wtxt b s = (b ++ digs s.size 4 ++ s.data.toList, 0) := by unfold wtxt; rw [if_neg (by omega)]
    refine cl_in [] [] (wput_cl A v b hb hl s.size 4 (by omega)) (by simp) ?_
    rintro w A' - ⟨u, seg, rfl, rfl, own⟩
    rw [wput4 b s.size (by omega)] at own ⊢
    refine ⟨(u, 0, ()), rfl, ?_⟩
    have hul := own.sl.len
    rw [bvs_length, List.length_append, digs_len] at hul
    refine append_in elemB srcS [] A own (by simp) (.str s) (bvs_plain _) (by first | omega | (simp only; omega)) fun u' seg' hu' own' => ?_
    rw [str_bvs, ← bvs_append] at own'
    exact .of ⟨u', seg', by rw [e], rfl, by rw [e]; exact own'⟩
end Go.Proofs.YtlabcgnegbdlfaaDoor
set_option linter.unusedVariables false
set_option linter.unusedSimpArgs false
namespace Go.Proofs.YtlabcgnegbdlfaaDoor
open Go.HL

def RD (m : Nat) (b : List UInt8) (at' : Nat) (A : HList) : Prop := ∃ (s : SlV) (seg : HList), A = (m, Obj.cells #[.slice s.a s.len s.cap, .int .i64 at'] 161) :: seg ∧ Own s 1 eB (bvs b) seg ∧ at' ≤ b.length ∧ b.length ≤ 1000000
theorem rdnew_cl (A : HList) (v : SlV) (b : List UInt8) (hb : BSl A v b) (hl : b.length ≤ 1000000) :
    CallF PP 63 #[.slice v.a v.len v.cap] A fun r L' => ∃ m R, r = .pointer (some ⟨m, 0, none⟩) ∧ L' = R ++ A ∧ RD m b 0 R := by
  refine CallF.of (args := [.slice v.a v.len v.cap]) noNum mixed Tryd.func63 (e63 v _) ?_
  unfold t63
  have hlen := hb.len
  refine nw_of fun q _ => append_in elemB srcB [] A own_empty (by simp) (.sl hb.cons) (bvs_plain _) (by first | omega | (simp only; omega)) fun s seg hs own => ?_
  rw [List.nil_append] at own
  exact nw_of fun m _ => .of ⟨m, _ :: seg, rfl, by simp, s, seg, rfl, own, by omega, hl⟩
/-- What Num tells, and where the Reader is then. -/
def rdNext (b : List UInt8) (a : Nat) (w : Int) : Nat := if (wget b a w).2 = 0 then a + w.toNat else a
theorem rdNext_le {b : List UInt8} {a : Nat} {w : Int} (h : a ≤ b.length) : rdNext b a w ≤ b.length := by
  unfold rdNext
  split
  · rename_i h1
    have := (wget_rng b a w).2.2.2 h1
    omega
  · exact h
theorem num_cl (m : Nat) (b : List UInt8) (a : Nat) (A : HList) (h : RD m b a A) (w : Int) :
    CallF PP 66 #[.pointer (some ⟨m, 0, none⟩), .int .i64 w] A fun r L' => r = .tuple #[.int .i64 (wget b a w).1, .int .i64 (wget b a w).2] ∧ RD m b (rdNext b a w) L' := by
  obtain ⟨s, seg, rfl, own, ha, hl⟩ := h
  refine CallF.of (args := [.pointer (some ⟨m, 0, none⟩), .int .i64 w]) noNum mixed Tryd.func66 (e66 (some ⟨m, 0, none⟩) w _) ?_
  unfold t66
  have hsl : BSl ((m, Obj.cells #[.slice s.a s.len s.cap, .int .i64 a] 161) :: seg) s b := own.sl.cons
  refine ifF rfl (nilc_of rfl (nilc_of rfl (ld_of s (ldB List.mem_cons_self rfl) (ld_of (a : Int) (ldB List.mem_cons_self rfl) ?_))))
  have hr := wget_rng b a w
  have hn := rdNext_le (w := w) ha
  unfold rdNext at hn ⊢
  refine cl_rd (wget_rd _ s b hsl (by omega) a w) ((wget b a w).1, (wget b a w).2, ()) rfl ?_
  generalize wget b a w = g at hr hn ⊢
  refine ifE_of (fun (he : g.2 = 0) => ?_) (fun (he : g.2 ≠ 0) => .of ⟨rfl, by rw [if_neg he]; exact ⟨s, seg, rfl, own, ha, hl⟩⟩)
  obtain ⟨u, rfl⟩ : ∃ u : Nat, w = u := ⟨w.toNat, by have := hr.2.2.2 he; omega⟩
  have h7 := hr.2.2.2 he
  have hw : IntKind.i64.wrap ((a : Int) + u) = ((a + u : Nat) : Int) := by rw [w64_id (by omega) (by omega)]; omega
  refine nilc_of rfl (ld_of (a : Int) (ldB List.mem_cons_self rfl) (nilc_of rfl (st_of [] seg rfl rfl (by simp) (.inl (Nat.le_refl _)) #[.slice s.a s.len s.cap, .int .i64 ((a + u : Nat) : Int)] (by rw [hw]; rfl) (.of ⟨rfl, ?_⟩))))
  rw [if_pos he, Int.toNat_natCast] at hn ⊢
  exact ⟨s, seg, rfl, own, hn, hl⟩
theorem left_rd (m : Nat) (b : List UInt8) (a : Nat) (A : HList) (h : RD m b a A) : Reads PP 65 #[.pointer (some ⟨m, 0, none⟩)] A (.int .i64 ((b.length : Int) - a)) := by
  obtain ⟨s, seg, rfl, own, ha, hl⟩ := h
  refine Reads.of (args := [.pointer (some ⟨m, 0, none⟩)]) noNum mixed Tryd.func65 (e65 (some ⟨m, 0, none⟩) _) ?_
  unfold t65
  have hlen := own.sl.len
  rw [bvs_length, Nat.mul_one] at hlen
  refine ifF rfl (nilc_of rfl (nilc_of rfl (ld_of s (ldB List.mem_cons_self rfl) (ld_of (a : Int) (ldB List.mem_cons_self rfl) (.of ⟨?_, rfl⟩)))))
  rw [hlen, w64_id (by omega) (by omega)]
/-- What Text tells: the text, where the Reader is then, why not. -/
def wtext (b : List UInt8) (a : Nat) : List UInt8 × Nat × Int :=
  if (wget b a 4).2 ≠ 0 then ([], a, (wget b a 4).2) else if 65536 < (wget b a 4).1 then ([], a, 4) else if (b.length : Int) < a + 4 + (wget b a 4).1 then ([], a, 6)
  else ((b.drop (a + 4)).take (wget b a 4).1.toNat, a + 4 + (wget b a 4).1.toNat, 0)
def strOf (l : List UInt8) : Value := .string ⟨l.toArray⟩
theorem cut_sl {L : HList} {s : SlV} {b : List UInt8} (h : BSl L s b) {i j : Nat} (h1 : i ≤ j) (h2 : j ≤ b.length) : BSl L (slcV s i j s.cap 1) ((b.drop i).take (j - i)) := by
  have hl := h.len
  have hc := h.cap
  have := Sl.slc (m := s.cap) h (by omega) h1 (by omega) (by omega)
  rwa [bvs_slc] at this
theorem text_cl (m : Nat) (b : List UInt8) (a : Nat) (A : HList) (h : RD m b a A) :
    CallF PP 64 #[.pointer (some ⟨m, 0, none⟩)] A fun r L' => r = .tuple #[strOf (wtext b a).1, .int .i64 (wtext b a).2.2] ∧ RD m b (wtext b a).2.1 L' := by
  obtain ⟨s, seg, rfl, own, ha, hl⟩ := h
  refine CallF.of (args := [.pointer (some ⟨m, 0, none⟩)]) noNum mixed Tryd.func64 (e64 (some ⟨m, 0, none⟩) _) ?_
  unfold t64
  have hsl : ∀ {o : Obj}, BSl ((m, o) :: seg) s b := own.sl.cons
  have hlen := own.sl.len
  rw [bvs_length, Nat.mul_one] at hlen
  have hcap := own.cap
  refine ifF rfl (nilc_of rfl (nilc_of rfl (ld_of s (ldB List.mem_cons_self rfl) (ld_of (a : Int) (ldB List.mem_cons_self rfl) ?_))))
  have hr := wget_rng b a 4
  unfold wtext
  refine cl_rd (wget_rd _ s b hsl (by omega) a 4) ((wget b a 4).1, (wget b a 4).2, ()) rfl ?_
  generalize wget b a 4 = g at hr ⊢
  refine ifNe_of (fun (he : g.2 ≠ 0) => .of ?_) (fun (he : g.2 = 0) => ?_)
  · rw [if_pos he]; exact ⟨rfl, s, seg, rfl, own, ha, hl⟩
  have h4 := hr.2.2.2 he
  have hw : IntKind.i64.wrap ((a : Int) + 4) = ((a + 4 : Nat) : Int) := by rw [w64_id (by omega) (by omega)]; omega
  rw [if_neg (by omega)]
  refine nilc_of rfl (ld_of (a : Int) (ldB List.mem_cons_self rfl) ?_)
  simp only [hw]
  refine ifD_of (fun (h5 : g.1 > 65536) => .of ?_) (fun (h5 : ¬ g.1 > 65536) => ?_)
  · rw [if_pos h5]; exact ⟨rfl, s, seg, rfl, own, ha, hl⟩
  rw [if_neg h5]
  refine nilc_of rfl (ld_of s (ldB List.mem_cons_self rfl) ?_)
  rw [w64_id (n := (s.len : Int) - ((a + 4 : Nat) : Int)) (by omega) (by omega)]
  refine ifD_of (fun (h6 : g.1 > (s.len : Int) - ((a + 4 : Nat) : Int)) => .of ?_) (fun (h6 : ¬ g.1 > (s.len : Int) - ((a + 4 : Nat) : Int)) => ?_)
  · rw [if_pos (by omega)]; exact ⟨rfl, s, seg, rfl, own, ha, hl⟩
  rw [if_neg (by omega)]
  obtain ⟨u, hu⟩ : ∃ u : Nat, g.1 = u := ⟨g.1.toNat, by omega⟩
  have hw2 : IntKind.i64.wrap (((a + 4 : Nat) : Int) + g.1) = ((a + 4 + u : Nat) : Int) := by rw [hu, w64_id (by omega) (by omega)]; omega
  rw [hw2, hu, Int.toNat_natCast]
  refine nilc_of rfl (st_of [] seg rfl rfl (by simp) (.inl (Nat.le_refl _)) #[.slice s.a s.len s.cap, .int .i64 ((a + 4 + u : Nat) : Int)] rfl ?_)
  refine nilc_of rfl (nilc_of rfl (ld_of s (ldB List.mem_cons_self rfl) (ld_of ((a + 4 + u : Nat) : Int) (ldB List.mem_cons_self rfl) ?_)))
  refine slc_of (l' := a + 4) (h' := a + 4 + u) (m' := s.cap) rfl rfl rfl (by omega) (by omega) (Nat.le_refl _) ?_
  have hc := cut_sl (hsl (o := Obj.cells #[.slice s.a s.len s.cap, .int .i64 ((a + 4 + u : Nat) : Int)] 161)) (i := a + 4) (j := a + 4 + u) (by omega) (by omega)
  rw [show a + 4 + u - (a + 4) = u by omega] at hc
  exact b2s_of hc (.of ⟨rfl, s, seg, rfl, own, (show a + 4 + u ≤ b.length by omega), hl⟩)
end Go.Proofs.YtlabcgnegbdlfaaDoor
set_option linter.unusedVariables false
set_option linter.unusedSimpArgs false
namespace Go.Proofs.YtlabcgnegbdlfaaDoor
open Go.HL

end Go.Proofs.YtlabcgnegbdlfaaDoor
set_option linter.unusedVariables false
set_option linter.unusedSimpArgs false
namespace Go.Proofs.YtlabcgnegbdlfaaDoor
open Go.HL

end Go.Proofs.YtlabcgnegbdlfaaDoor
set_option linter.unusedVariables false
set_option linter.unusedSimpArgs false
namespace Go.Proofs.YtlabcgnegbdlfaaDoor
open Go.HL

/-- The table of classes lies where the program's text lays it. -/
abbrev Tab (L : HList) : Prop := LdAt ⟨0, 0, none⟩ [.int .i64 1, .int .i64 2, .int .i64 4, .int .i64 8] L
theorem Tab.mono {A L : HList} (h : Tab A) (hs : ∀ p ∈ A, p ∈ L) : Tab L := LdAt.mono h hs
theorem Tab.cons {L : HList} {p : Nat × Obj} (h : Tab L) : Tab (p :: L) := LdAt.mono h fun _ hp => List.mem_cons_of_mem _ hp
theorem Tab.right {L R : HList} (h : Tab L) : Tab (R ++ L) := LdAt.mono h fun _ hp => List.mem_append_right _ hp
theorem Tab.left {L R : HList} (h : Tab L) : Tab (L ++ R) := LdAt.mono h fun _ hp => List.mem_append_left _ hp
def clsL : List Int → Int → Int → Int
  | [], _, _ => 0
  | k :: r, n, p => if k ≥ n ∧ k ≤ p - 2 then k else clsL r n p
def cls (n p : Int) : Int := if n < 1 ∨ p < 2 then 0 else clsL [1, 2, 4, 8] n p
theorem class_rd (L : HList) (hT : Tab L) (n p : Int) (hp : p ≤ 9223372036854775807) : Reads PP 82 #[.int .i64 n, .int .i64 p] L (.int .i64 (cls n p)) := by
  refine Reads.of (args := [.int .i64 n, .int .i64 p]) noNum mixed Tryd.func82 (e82 n p _) ?_
  unfold t82 cls
  refine ifD_of (fun (h1 : n < 1) => .of ⟨by rw [if_pos (.inl h1)], rfl⟩) (fun (h1 : ¬ n < 1) => ?_)
  refine ifD_of (fun (h2 : p < 2) => .of ⟨by rw [if_pos (.inr h2)], rfl⟩) (fun (h2 : ¬ p < 2) => ?_)
  rw [if_neg (by omega)]
  refine ld_of (1, 2, 4, 8, ()) hT ?_
  refine lp_of (fun z' z L' => L' = L ∧ ∃ i : Nat, i ≤ 4 ∧ z' = 4 - i ∧ z = ((i : Int), ()) ∧ clsL (([1, 2, 4, 8] : List Int).drop i) n p = clsL [1, 2, 4, 8] n p) 4 ⟨rfl, 0, by omega, by omega, rfl, rfl⟩ ?_
  rintro z' z L1 ⟨hL1, i, hi, rfl, rfl, hc⟩
  rw [hL1]
  have hw : IntKind.i64.wrap (p - 2) = p - 2 := w64_id (by omega) (by omega)
  refine ifD_of (fun (hlt : (i : Int) < 4) => ?_) (fun (hge : ¬ (i : Int) < 4) => ?_)
  · obtain ⟨k, r, hdr, hrun, hdr2⟩ : ∃ (k : Int) (r : List Int), ([1, 2, 4, 8] : List Int).drop i = k :: r ∧ (∀ w, (Instr.index 172 (.agg #[.int .i64 1, .int .i64 2, .int .i64 4, .int .i64 8]) (.int .i64 (i : Int))).run PP w = .ok (.int .i64 k) w) ∧ ([1, 2, 4, 8] : List Int).drop (i + 1) = r := by
      have h4 : i = 0 ∨ i = 1 ∨ i = 2 ∨ i = 3 := by omega
      rcases h4 with rfl | rfl | rfl | rfl
      · exact ⟨1, [2, 4, 8], rfl, fun w => by kernel_rfl, rfl⟩
      · exact ⟨2, [4, 8], rfl, fun w => by kernel_rfl, rfl⟩
      · exact ⟨4, [8], rfl, fun w => by kernel_rfl, rfl⟩
      · exact ⟨8, [], rfl, fun w => by kernel_rfl, rfl⟩
    rw [hdr, show clsL (k :: r) n p = (if k ≥ n ∧ k ≤ p - 2 then k else clsL r n p) from rfl] at hc
    have hnext : ¬ (k ≥ n ∧ k ≤ p - 2) → ∃ k', k' < 4 - i ∧ L = L ∧ ∃ j : Nat, j ≤ 4 ∧ k' = 4 - j ∧ ((IntKind.i64.wrap ((i : Int) + 1), ()) : Int × Unit) = ((j : Int), ()) ∧ clsL (([1, 2, 4, 8] : List Int).drop j) n p = clsL [1, 2, 4, 8] n p := by
      intro hn
      refine ⟨4 - (i + 1), by omega, rfl, i + 1, by omega, rfl, ?_, ?_⟩
      · rw [w64_id (by first | omega | (simp only; omega)) (by first | omega | (simp only; omega))]
        rfl
      · rw [hdr2]
        rw [if_neg hn] at hc
        exact hc
    refine ⟨k, hrun, ?_⟩
    simp only [hw]
    refine ifD_of (fun (h3 : k ≥ n) => ?_) (fun (h3 : ¬ k ≥ n) => hnext fun h => h3 h.1)
    refine ifD_of (fun (h4 : k ≤ p - 2) => .of ⟨?_, rfl⟩) (fun (h4 : ¬ k ≤ p - 2) => hnext fun h => h4 h.2)
    rw [if_pos ⟨h3, h4⟩] at hc
    rw [hc]
  · obtain rfl : i = 4 := by omega
    refine .of ⟨?_, rfl⟩
    rw [← hc]; rfl
theorem cls_rng (n p : Int) : 0 ≤ cls n p ∧ cls n p ≤ 8 := by
  unfold cls
  split
  · exact ⟨by decide, by decide⟩
  · simp only [clsL]
    repeat' split
    all_goals omega
theorem cls_ge {n p : Int} (h : cls n p ≠ 0) : n ≤ cls n p ∧ cls n p ≤ p - 2 ∧ 1 ≤ cls n p ∧ cls (cls n p) p = cls n p := by
  unfold cls at h
  split at h
  · exact absurd rfl h
  · rename_i h0
    have hc : cls n p = clsL [1, 2, 4, 8] n p := by unfold cls; rw [if_neg h0]
    rw [hc]
    simp only [clsL] at h ⊢
    split at h
    · rename_i h1
      rw [if_pos h1]
      exact ⟨h1.1, h1.2, by decide, by unfold cls; rw [if_neg (by omega)]; simp only [clsL]; rw [if_pos (by omega)]⟩
    · rename_i h1
      rw [if_neg h1]
      split at h
      · rename_i h2
        rw [if_pos h2]
        exact ⟨h2.1, h2.2, by decide, by unfold cls; rw [if_neg (by omega)]; simp only [clsL]; rw [if_neg (by omega), if_pos (by omega)]⟩
      · rename_i h2
        rw [if_neg h2]
        split at h
        · rename_i h3
          rw [if_pos h3]
          exact ⟨h3.1, h3.2, by decide, by unfold cls; rw [if_neg (by omega)]; simp only [clsL]; rw [if_neg (by omega), if_neg (by omega), if_pos (by omega)]⟩
        · rename_i h3
          rw [if_neg h3]
          split at h
          · rename_i h4
            rw [if_pos h4]
            exact ⟨h4.1, h4.2, by decide, by unfold cls; rw [if_neg (by omega)]; simp only [clsL]; rw [if_neg (by omega), if_neg (by omega), if_neg (by omega), if_pos (by omega)]⟩
          · exact absurd rfl h
theorem keyed_rd (L : HList) (n : Int) : Reads PP 67 #[.int .i64 n] L (.bool (decide (1 ≤ n ∧ n ≤ 255))) := by
  refine Reads.of (args := [.int .i64 n]) noNum mixed Tryd.func67 (e67 n _) ?_
  unfold t67
  refine ifD_of (fun (h : n ≥ 1) => .of ⟨?_, rfl⟩) (fun (h : ¬ n ≥ 1) => .of ⟨by rw [decide_eq_false (by omega)], rfl⟩)
  congr 1
  rw [decide_eq_decide]
  omega
abbrev Cf := Int × Int × Int × Int × Unit
/-- How many pages a key and a value have. -/
def pagesOf (key value : Int) (c : Cf) : Int :=
  if key < 1 ∨ key > 255 ∨ value < 0 ∨ value > 65536 ∨ roomOf c.2.2.1 = 0 then 0 else cls ((key + value + 12 + roomOf c.2.2.1 - 1) / roomOf c.2.2.1) c.2.1
theorem roomOf_rng {n : Int} (h : roomOf n ≠ 0) : 48 ≤ roomOf n ∧ roomOf n ≤ 496 := by
  unfold roomOf at h ⊢
  split at h
  · rename_i h1; rw [if_pos h1]; omega
  · exact absurd rfl h
theorem pages_rd (L : HList) (hT : Tab L) (key value : Int) (c : Cf) (hc : c.2.1 ≤ 9223372036854775807) : Reads PP 70 #[.int .i64 key, .int .i64 value, .agg #[.int .i64 c.1, .int .i64 c.2.1, .int .i64 c.2.2.1, .int .i64 c.2.2.2.1]] L (.int .i64 (pagesOf key value c)) := by
  refine Reads.of (args := [.int .i64 key, .int .i64 value, .agg #[.int .i64 c.1, .int .i64 c.2.1, .int .i64 c.2.2.1, .int .i64 c.2.2.2.1]]) noNum mixed Tryd.func70 (e70 key value c _) ?_
  unfold t70
  refine nw_of fun n1 _ => ?_
  generalize ho : (n1, Obj.cells #[.int .i64 c.1, .int .i64 c.2.1, .int .i64 c.2.2.1, .int .i64 c.2.2.2.1] 23) = o1
  have lc : LdAt ⟨n1, 0, none⟩ [.int .i64 c.1, .int .i64 c.2.1, .int .i64 c.2.2.1, .int .i64 c.2.2.2.1] (o1 :: L) := ldB (by rw [← ho]; exact List.mem_cons_self) rfl
  clear ho
  refine ld_of c.2.2.1 (lc.one 2 rfl) (cl_rd (proom_rd _ c.2.2.1) (roomOf c.2.2.1, ()) rfl (cl_rd (keyed_rd _ key) (decide (1 ≤ key ∧ key ≤ 255), ()) rfl ?_))
  have hno : (key < 1 ∨ key > 255 ∨ value < 0 ∨ value > 65536 ∨ roomOf c.2.2.1 = 0) → HL.Ends (fun v' L' => v' = Value.int .i64 (pagesOf key value c) ∧ L' = L) (.int .i64 0) (o1 :: L) := fun h => .cons (.of ⟨by unfold pagesOf; rw [if_pos h], rfl⟩)
  by_cases hk : 1 ≤ key ∧ key ≤ 255
  case neg => rw [decide_eq_false hk]; exact ifT rfl (hno (by omega))
  rw [decide_eq_true hk]
  refine ifF rfl (ifD_of (fun (h1 : value < 0) => hno (by omega)) (fun (h1 : ¬ value < 0) => ifD_of (fun (h2 : value > 65536) => hno (by omega)) (fun (h2 : ¬ value > 65536) => ?_)))
  refine ifE_of (fun (h3 : roomOf c.2.2.1 = 0) => hno (by omega)) (fun (h3 : roomOf c.2.2.1 ≠ 0) => req_of h3 ?_)
  have hr := roomOf_rng h3
  have hp : pagesOf key value c = cls ((key + value + 12 + roomOf c.2.2.1 - 1) / roomOf c.2.2.1) c.2.1 := by unfold pagesOf; rw [if_neg (by omega)]
  have e1 : IntKind.i64.wrap (key + value) = key + value := w64_id (by omega) (by omega)
  have e2 : IntKind.i64.wrap (key + value + 12) = key + value + 12 := w64_id (by omega) (by omega)
  have e3 : IntKind.i64.wrap (key + value + 12 + roomOf c.2.2.1) = key + value + 12 + roomOf c.2.2.1 := w64_id (by omega) (by omega)
  have e4 : IntKind.i64.wrap (key + value + 12 + roomOf c.2.2.1 - 1) = key + value + 12 + roomOf c.2.2.1 - 1 := w64_id (by omega) (by omega)
  have e5 : Int.tdiv (key + value + 12 + roomOf c.2.2.1 - 1) (roomOf c.2.2.1) = (key + value + 12 + roomOf c.2.2.1 - 1) / roomOf c.2.2.1 := Int.tdiv_eq_ediv_of_nonneg (by omega)
  have e6 : IntKind.i64.wrap ((key + value + 12 + roomOf c.2.2.1 - 1) / roomOf c.2.2.1) = (key + value + 12 + roomOf c.2.2.1 - 1) / roomOf c.2.2.1 := by
    have h1 := Int.ediv_le_self (roomOf c.2.2.1) (show 0 ≤ key + value + 12 + roomOf c.2.2.1 - 1 by omega)
    have h2 := Int.ediv_nonneg (show 0 ≤ key + value + 12 + roomOf c.2.2.1 - 1 by omega) (show 0 ≤ roomOf c.2.2.1 by omega)
    exact w64_id (by omega) (by omega)
  simp only [e1, e2, e3, e4, e5, e6]
  refine ld_of c.2.1 (lc.one 1 rfl) (cl_rd (class_rd _ hT.cons _ c.2.1 hc) (cls ((key + value + 12 + roomOf c.2.2.1 - 1) / roomOf c.2.2.1) c.2.1, ()) rfl (.cons (.of ⟨by rw [hp], rfl⟩)))
end Go.Proofs.YtlabcgnegbdlfaaDoor
set_option linter.unusedVariables false
set_option linter.unusedSimpArgs false
namespace Go.Proofs.YtlabcgnegbdlfaaDoor
open Go.HL

theorem grow_cl (n : Nat) (hn : n ≤ 1099511627776) : CallF PP 87 #[.slice none 0 0, .int .i64 n] [] fun r L' => ∃ (s : SlV) (seg : HList), r = .slice s.a s.len s.cap ∧ L' = seg ∧ Own s 1 eB [] seg := by
  refine CallF.of (args := [.slice none 0 0, .int .i64 n]) noNum mixed Tryd.func87 (e87 ⟨none, 0, 0⟩ n _) ?_
  unfold t87
  refine jn_of (fun y L' => L' = []) ?_ (fun j hj => ifN (show ¬ (n : Int) < 0 by omega) (hj _ _ rfl))
  rintro _ _ rfl
  have e0 : IntKind.i64.wrap (((0 : Nat) : Int) - ((0 : Nat) : Int)) = 0 := by decide
  have e1 : IntKind.i64.wrap ((n : Int) - 0) = n := w64_id (by omega) (by omega)
  simp only [e0, e1]
  refine ifD_of (fun (h : (n : Int) > 0) => ?_) (fun (h : ¬ (n : Int) > 0) => .of ⟨⟨none, 0, 0⟩, [], rfl, rfl, own_nil⟩)
  refine slc_of (l' := 0) (h' := 0) (m' := 0) rfl rfl rfl (by decide) (by decide) (by decide) ?_
  have hs0 : slcV ⟨none, 0, 0⟩ ((0 : Nat) : Int) ((0 : Nat) : Int) ((0 : Nat) : Int) 1 = ⟨none, 0, 0⟩ := by simp [slcV]
  rw [hs0]
  refine grow0_of (n := n) (ik := .i64) elemB (by kernel_rfl) (by omega) (by omega) fun q cap ob hcap own => ?_
  refine slc_of (l' := 0) (h' := 0) (m' := cap) rfl rfl rfl (by omega) (by omega) (Nat.le_refl _) ?_
  have hs : slcV ⟨some ⟨q, 0, none⟩, n, cap⟩ ((0 : Nat) : Int) ((0 : Nat) : Int) (cap : Int) 1 = ⟨some ⟨q, 0, none⟩, 0, cap⟩ := by
    simp only [slcV]
    rw [if_neg (by omega)]
    simp [Addr.add]
  rw [hs]
  exact .of ⟨⟨some ⟨q, 0, none⟩, 0, cap⟩, [(q, ob)], rfl, rfl, own⟩
theorem concat_cl (A : HList) (v : SlV) (l : List PV) (h : Parts A v l) (hb : (catL l).length ≤ 1099511627776) (hl : l.length ≤ 1099511627776) :
    CallF PP 80 #[.slice v.a v.len v.cap] A fun r L' => ∃ (s : SlV) (seg : HList), r = .slice s.a s.len s.cap ∧ L' = seg ++ A ∧ Own s 1 eB (bvs (catL l)) seg := by
  refine CallF.of (args := [.slice v.a v.len v.cap]) noNum mixed Tryd.func80 (e80 v _) ?_
  unfold t80
  have hlen := h.len
  refine lp_of (fun z' z L' => L' = A ∧ ∃ i : Nat, i ≤ l.length ∧ z' = l.length - i ∧ z = (((catL (l.take i)).length : Int), (i : Int), ())) l.length ⟨rfl, 0, by omega, by omega, rfl⟩ ?_
  rintro z' z L1 ⟨hL1, i, hi, rfl, rfl⟩
  rw [hL1]
  refine ifD_of (fun (hlt : (i : Int) < (v.len : Int)) => ?_) (fun (hge : ¬ (i : Int) < (v.len : Int)) => ?_)
  · have hi' : i < l.length := by omega
    obtain ⟨a, ha, hld⟩ := h.at' hi'
    have hbl := (h.val _ (List.getElem_mem hi')).len
    have hs := catL_succ l hi'
    have hle := catL_take_le l (i + 1)
    have hsl : (catL (l.take (i + 1))).length = (catL (l.take i)).length + l[i].1.len := by rw [hs, List.length_append, hbl]
    refine nilc_of ha (ixn_of (show (0 : Int) ≤ (i : Int) by omega) hlt (ld_of l[i].1 hld ?_))
    have e1 : IntKind.i64.wrap (((catL (l.take i)).length : Int) + (l[i].1.len : Int)) = ((catL (l.take (i + 1))).length : Int) := by rw [w64_id (by omega) (by omega), hsl]; omega
    simp only [e1]
    refine ifN (show ¬ ((catL (l.take (i + 1))).length : Int) < 0 by omega) ⟨l.length - (i + 1), by omega, rfl, i + 1, by omega, rfl, ?_⟩
    rw [w64_id (by first | omega | (simp only; omega)) (by first | omega | (simp only; omega))]
    rfl
  · obtain rfl : i = l.length := by omega
    rw [List.take_length]
    refine cl_in [] A (grow_cl (catL l).length hb) rfl ?_
    rintro _ seg0 - ⟨s0, _, rfl, rfl, own0⟩
    refine ⟨(s0, ()), rfl, ?_⟩
    rw [List.nil_append]
    refine lp_of (fun z' z L' => ∃ (i : Nat) (s : SlV) (seg : HList), i ≤ l.length ∧ z' = l.length - i ∧ z = (s, (i : Int), ()) ∧ L' = seg ++ A ∧ Own s 1 eB (bvs (catL (l.take i))) seg) l.length ⟨0, s0, seg0, by omega, by omega, rfl, rfl, own0⟩ ?_
    rintro z' z _ ⟨i, s, seg, hi, rfl, rfl, rfl, own⟩
    refine ifD_of (fun (hlt : (i : Int) < (v.len : Int)) => ?_) (fun (hge : ¬ (i : Int) < (v.len : Int)) => ?_)
    · have hi' : i < l.length := by omega
      obtain ⟨a, ha, hld⟩ := h.at' hi'
      have hbl := (h.val _ (List.getElem_mem hi')).len
      have hs := catL_succ l hi'
      have hle := catL_take_le l (i + 1)
      have hsl : (catL (l.take (i + 1))).length = (catL (l.take i)).length + l[i].1.len := by rw [hs, List.length_append, hbl]
      have hol := own.sl.len
      rw [bvs_length] at hol
      refine nilc_of ha (ixn_of (show (0 : Int) ≤ (i : Int) by omega) hlt (ld_of l[i].1 (hld.mono fun x hx => List.mem_append_right _ hx) ?_))
      refine append_in elemB srcB [] A own rfl (.sl (Sl.right (h.val _ (List.getElem_mem hi')))) (bvs_plain _) (by omega) fun s' seg' hs' own' => ?_
      rw [← bvs_append, ← hs] at own'
      refine ⟨l.length - (i + 1), by omega, i + 1, s', seg', by omega, rfl, ?_, rfl, own'⟩
      rw [w64_id (by first | omega | (simp only; omega)) (by first | omega | (simp only; omega))]
      rfl
    · obtain rfl : i = l.length := by omega
      rw [List.take_length] at own
      exact .of ⟨s, seg, rfl, rfl, own⟩
theorem joined_cl (A : HList) (v : SlV) (l : List PV) (h : Parts A v l) (hb : (catL l).length ≤ 1099511627776) (hl : l.length ≤ 1099511627776) :
    CallF PP 62 #[.slice v.a v.len v.cap] A fun r L' => ∃ (s : SlV) (seg : HList), r = .slice s.a s.len s.cap ∧ L' = seg ++ A ∧ Own s 1 eB (bvs (catL l)) seg := by
  refine CallF.of (args := [.slice v.a v.len v.cap]) noNum mixed Tryd.func62 (e62 v _) ?_
  unfold t62
  refine cl_in [] [] (concat_cl A v l h hb hl) (by simp) ?_
  rintro _ _ - ⟨s, seg, rfl, rfl, own⟩
  refine ⟨(s, ()), rfl, ?_⟩
  rw [List.nil_append, List.append_nil]
  exact .of ⟨s, seg, rfl, rfl, own⟩
def encB (key val : List UInt8) : List UInt8 := digs key.length 4 ++ key ++ (digs val.length 4 ++ val)
def encA (key val : List UInt8) : List UInt8 := encB key val ++ digs (crcSum (encB key val)).toNat 4
theorem encB_len (key val : List UInt8) : (encB key val).length = key.length + val.length + 8 := by
  unfold encB
  simp only [List.length_append, digs_len]; omega
theorem encA_len (key val : List UInt8) : (encA key val).length = key.length + val.length + 12 := by
  unfold encA
  rw [List.length_append, encB_len, digs_len]
def chunks (n r : Nat) (b : List UInt8) : List (List UInt8) := (List.range n).map fun i => (b.drop (i * r)).take r
theorem chunks_succ (n r : Nat) (b : List UInt8) : chunks (n + 1) r b = chunks n r b ++ [(b.drop (n * r)).take r] := by simp [chunks, List.range_succ]
def cutR (key val : List UInt8) (c : Cf) : List (List UInt8) × Int :=
  if key.length < 1 ∨ key.length > 255 then ([], 2) else if val.length > 65536 then ([], 4) else
  if pagesOf key.length val.length c = 0 then ([], 14) else (chunks (pagesOf key.length val.length c).toNat (roomOf c.2.2.1).toNat (encA key val), 0)
def CutK (key val : List UInt8) (c : Cf) (A : HList) (r : Value) (L' : HList) : Prop := ∃ (ov : SlV) (oseg : HList) (gs : List PG), r = .tuple #[.slice ov.a ov.len ov.cap, .int .i64 (cutR key val c).2] ∧ L' = oseg ++ (pgs gs ++ A) ∧ Own ov 1 tB (gs.map PG.val) oseg ∧ (∀ g ∈ gs, g.Ok) ∧ gs.map PG.l = (cutR key val c).1
theorem CutK.err {key val : List UInt8} {c : Cf} {A : HList} {e : Int} (h : cutR key val c = ([], e)) : CutK key val c A (.tuple #[.slice none 0 0, .int .i64 e]) A :=
  ⟨⟨none, 0, 0⟩, [], [], by rw [h], rfl, own_nil, by simp, by rw [h]; rfl⟩
theorem pagesOf_ne {key value : Int} {c : Cf} (h : pagesOf key value c ≠ 0) : 1 ≤ key ∧ key ≤ 255 ∧ 0 ≤ value ∧ value ≤ 65536 ∧ roomOf c.2.2.1 ≠ 0 ∧ 1 ≤ pagesOf key value c ∧ pagesOf key value c ≤ 8 ∧ pagesOf key value c ≤ c.2.1 - 2 ∧ key + value + 12 ≤ pagesOf key value c * roomOf c.2.2.1 ∧ cls (pagesOf key value c) c.2.1 = pagesOf key value c := by
  unfold pagesOf at h ⊢
  split at h
  · exact absurd rfl h
  · rename_i h0
    rw [if_neg h0]
    obtain ⟨h1, h2, h3, h4⟩ := cls_ge h
    have h5 := cls_rng ((key + value + 12 + roomOf c.2.2.1 - 1) / roomOf c.2.2.1) c.2.1
    have hr := roomOf_rng (show roomOf c.2.2.1 ≠ 0 by omega)
    refine ⟨by omega, by omega, by omega, by omega, by omega, h3, h5.2, h2, ?_, h4⟩
    generalize roomOf c.2.2.1 = room at *
    generalize hq : (key + value + 12 + room - 1) / room = q at *
    have hq2 : key + value + 12 + room - 1 < (q + 1) * room := by rw [← hq]; exact Int.lt_ediv_add_one_mul_self _ (by omega)
    rw [Int.add_mul, Int.one_mul] at hq2
    have := Int.mul_le_mul_of_nonneg_right h1 (show 0 ≤ room by omega)
    omega
theorem toList_len (s : ByteArray) : s.data.toList.length = s.size := size_list s
theorem cut_cl (A : HList) (hT : Tab A) (key : ByteArray) (hk : key.size ≤ maxLen) (u : SlV) (val : List UInt8) (hu : BSl A u val) (c : Cf) (hc : c.2.1 ≤ 9223372036854775807) :
    CallF PP 45 #[.string key, .slice u.a u.len u.cap, .agg #[.int .i64 c.1, .int .i64 c.2.1, .int .i64 c.2.2.1, .int .i64 c.2.2.2.1]] A (CutK key.data.toList val c A) := by
  refine CallF.of (args := [.string key, .slice u.a u.len u.cap, .agg #[.int .i64 c.1, .int .i64 c.2.1, .int .i64 c.2.2.1, .int .i64 c.2.2.2.1]]) noNum mixed Tryd.func45 (e45 key u c _) ?_
  unfold t45
  have hul := hu.len
  have hks := toList_len key
  refine nw_of fun n1 _ => ?_
  generalize ho : (n1, Obj.cells #[.int .i64 c.1, .int .i64 c.2.1, .int .i64 c.2.2.1, .int .i64 c.2.2.2.1] 23) = o1
  have lc : ∀ L : HList, o1 ∈ L → LdAt ⟨n1, 0, none⟩ [.int .i64 c.1, .int .i64 c.2.1, .int .i64 c.2.2.1, .int .i64 c.2.2.2.1] L := fun L hm => ldB (by rw [← ho] at hm; exact hm) rfl
  clear ho
  refine cl_rd (keyed_rd _ key.size) (decide (1 ≤ (key.size : Int) ∧ (key.size : Int) ≤ 255), ()) rfl ?_
  by_cases h1 : 1 ≤ (key.size : Int) ∧ (key.size : Int) ≤ 255
  case neg =>
    rw [decide_eq_false h1]
    exact ifT rfl (.cons (.of (CutK.err (by unfold cutR; rw [if_pos (by omega)]))))
  rw [decide_eq_true h1]
  refine ifF rfl (ifD_of (fun (h2 : (u.len : Int) > 65536) => .cons (.of (CutK.err (by unfold cutR; rw [if_neg (by omega), if_pos (by omega)])))) (fun (h2 : ¬ (u.len : Int) > 65536) => ?_))
  have hpe : pagesOf (key.size : Int) (u.len : Int) c = pagesOf (key.data.toList.length : Int) (val.length : Int) c := by rw [hks, hul]
  refine ld_of c (lc _ List.mem_cons_self) (cl_rd (pages_rd _ hT.cons key.size u.len c hc) (pagesOf key.size u.len c, ()) rfl ?_)
  rw [hpe]
  refine ifE_of (fun (h3 : pagesOf (key.data.toList.length : Int) (val.length : Int) c = 0) => .cons (.of (CutK.err (by unfold cutR; rw [if_neg (by omega), if_neg (by omega), if_pos h3])))) (fun (h3 : pagesOf (key.data.toList.length : Int) (val.length : Int) c ≠ 0) => ?_)
  have hcr : cutR key.data.toList val c = (chunks (pagesOf key.data.toList.length val.length c).toNat (roomOf c.2.2.1).toNat (encA key.data.toList val), 0) := by unfold cutR; rw [if_neg (by omega), if_neg (by omega), if_neg h3]
  obtain ⟨_, _, _, _, hr0, hn1, hn8, _, htot, _⟩ := pagesOf_ne h3
  have hrr := roomOf_rng hr0
  unfold CutK
  rw [hcr]
  generalize hN : pagesOf (key.data.toList.length : Int) (val.length : Int) c = N at hn1 hn8 htot
  obtain ⟨n, rfl⟩ : ∃ n : Nat, N = n := ⟨N.toNat, by omega⟩
  obtain ⟨room, hroom⟩ : ∃ r : Nat, roomOf c.2.2.1 = r := ⟨(roomOf c.2.2.1).toNat, by omega⟩
  rw [hroom] at hrr
  simp only [hroom, Int.toNat_natCast]
  refine cl_in [] [] (wtxt_cl (o1 :: A) ⟨none, 0, 0⟩ [] (Sl.nil 1) (by decide) key hk) (by simp) ?_
  rintro _ _ - ⟨s1, sg1, rfl, rfl, own1⟩
  have hw1 : wtxt [] key = (digs key.data.toList.length 4 ++ key.data.toList, 0) := by unfold wtxt; rw [if_neg (by omega), hks]; rfl
  rw [hw1] at own1 ⊢
  rw [List.nil_append, List.append_nil]
  refine ⟨(s1, 0, ()), rfl, b2s_of (v := u) (l := val) (Sl.right (R := sg1) (Sl.cons hu)) ?_⟩
  have hvs : (ByteArray.mk val.toArray).size = val.length := by show val.toArray.size = _; simp
  refine cl_in [] [] (wtxt_cl (sg1 ++ (o1 :: A)) ⟨none, 0, 0⟩ [] (Sl.nil 1) (by decide) ⟨val.toArray⟩ (by rw [hvs]; show val.length ≤ 9223372036854775807; omega)) (by simp) ?_
  rintro _ _ - ⟨s2, sg2, rfl, rfl, own2⟩
  have hw2 : wtxt [] ⟨val.toArray⟩ = (digs val.length 4 ++ val, 0) := by
    unfold wtxt
    rw [hvs, if_neg (by omega)]; simp
  rw [hw2] at own2 ⊢
  rw [List.nil_append, List.append_nil]
  refine ⟨(s2, 0, ()), rfl, nw_of fun n2 _ => ?_⟩
  have hparts : Parts ((n2, Obj.cells #[.slice s1.a s1.len s1.cap, .slice s2.a s2.len s2.cap] 44) :: (sg2 ++ (sg1 ++ (o1 :: A)))) ⟨some ⟨n2, 0, none⟩, 2, 2⟩ [(s1, digs key.data.toList.length 4 ++ key.data.toList), (s2, digs val.length 4 ++ val)] := by
    refine ⟨⟨rfl, Nat.le_refl _, .inr ⟨_, rfl, ldB List.mem_cons_self rfl⟩⟩, fun x hx => ?_⟩
    have hx' : x = (s1, digs key.data.toList.length 4 ++ key.data.toList) ∨ x = (s2, digs val.length 4 ++ val) := by simpa using hx
    rcases hx' with rfl | rfl
    · exact own1.sl.left.right.cons
    · exact own2.sl.left.cons
  have hcat : catL [((s1, digs key.data.toList.length 4 ++ key.data.toList) : PV), (s2, digs val.length 4 ++ val)] = encB key.data.toList val := by simp [catL, encB]
  have hel := encB_len key.data.toList val
  refine cl_in [] [] (joined_cl _ ⟨some ⟨n2, 0, none⟩, 2, 2⟩ _ hparts (by rw [hcat]; omega) (by simp)) (by simp) ?_
  rintro _ _ - ⟨s3, sg3, rfl, rfl, own3⟩
  rw [hcat] at own3
  rw [List.nil_append, List.append_nil]
  refine ⟨(s3, ()), rfl, ?_⟩
  generalize (n2, Obj.cells #[.slice s1.a s1.len s1.cap, .slice s2.a s2.len s2.cap] 44) = o2
  refine cl_rd (sum_rd _ s3 (encB key.data.toList val) own3.sl.left (by omega)) (crcSum (encB key.data.toList val), ()) rfl ?_
  have hcs : 0 ≤ crcSum (encB key.data.toList val) ∧ crcSum (encB key.data.toList val) < 4294967296 := crcMore_range 0 _
  refine cl_in [] [] (wput_cl (sg3 ++ (o2 :: (sg2 ++ (sg1 ++ (o1 :: A))))) s3 (encB key.data.toList val) own3.sl.left (by omega) (crcSum (encB key.data.toList val)) 4 (by omega)) (by simp) ?_
  rintro _ _ - ⟨s4, sg4, rfl, rfl, own4⟩
  have hw4 : wput (encB key.data.toList val) (crcSum (encB key.data.toList val)) 4 = (encA key.data.toList val, 0) := by
    rw [wput_ok (by decide) (by omega) (by show (crcSum (encB key.data.toList val)).toNat < 4294967296; omega)]
    rfl
  rw [hw4] at own4 ⊢
  rw [List.nil_append, List.append_nil]
  refine ⟨(s4, 0, ()), rfl, ?_⟩
  have hal := encA_len key.data.toList val
  generalize encA key.data.toList val = E at own4 hal
  have hbase : ∃ J0, sg4 ++ (sg3 ++ (o2 :: (sg2 ++ (sg1 ++ (o1 :: A))))) = J0 ++ A ∧ o1 ∈ J0 ∧ BSl J0 s4 E := ⟨sg4 ++ (sg3 ++ (o2 :: (sg2 ++ (sg1 ++ [o1])))), by simp, by simp, own4.sl.left⟩
  obtain ⟨J0, hJ0, ho1, hE0⟩ := hbase
  rw [hJ0]
  clear hJ0 own4 own3 own2 own1 hparts hcat hel hcs hw4 hw1 hw2
  refine lp_of (fun z' z L' => ∃ (i : Nat) (s v : SlV) (seg : HList) (gs : List PG) (J X Y : HList), i ≤ n ∧ z' = n - i ∧ z = (s, v, (i : Int), ()) ∧ L' = X ++ seg ++ Y ∧ (X ++ Y).Perm (pgs gs ++ (J ++ (J0 ++ A))) ∧ BSl J0 s (E.drop (i * room)) ∧
      Own v 1 tB (gs.map PG.val) seg ∧ (∀ g ∈ gs, g.Ok) ∧ gs.map PG.l = chunks i room E) n
    ⟨0, s4, ⟨none, 0, 0⟩, [], [], [], [], J0 ++ A, by omega, by omega, rfl, rfl, List.Perm.refl _, by rw [Nat.zero_mul, List.drop_zero]; exact hE0, own_nil, by simp, rfl⟩ ?_
  rintro z' z L ⟨i, s, v, seg, gs, J, X, Y, hi, rfl, rfl, rfl, hp, hs, own, hok, hgs⟩
  have hsub : ∀ x ∈ J0, x ∈ X ++ seg ++ Y := by
    intro x hx
    have h5 : x ∈ X ++ Y := (hp.mem_iff (a := x)).2 (by simp [hx])
    have h6 : x ∈ X ∨ x ∈ Y := by simpa using h5
    rcases h6 with h6 | h6 <;> simp [h6]
  have hgl : gs.length = i := by have := congrArg List.length hgs; rw [List.length_map, chunks, List.length_map, List.length_range] at this; exact this
  have hvl := own.len
  rw [List.length_map] at hvl
  refine ifD_of (fun (hlt : (i : Int) < (n : Int)) => ?_) (fun (hge : ¬ (i : Int) < (n : Int)) => ?_)
  · refine ld_of c.2.2.1 ((lc _ (hsub _ ho1)).one 2 rfl) (cl_rd (proom_rd _ c.2.2.1) (roomOf c.2.2.1, ()) rfl ?_)
    rw [hroom]
    have hsl := hs.len
    have hscap := hs.cap
    have him : imin (s.len : Int) (room : Int) = ((min s.len room : Nat) : Int) := by unfold imin; omega
    simp only [him]
    have hsL : BSl (X ++ seg ++ Y) s (E.drop (i * room)) := Sl.mono hs hsub
    refine slc_of (l' := 0) (h' := min s.len room) (m' := s.cap) rfl rfl rfl (by omega) (by omega) (Nat.le_refl _) ?_
    have hcut := cut_sl hsL (i := 0) (j := min s.len room) (by omega) (by omega)
    have hct : ((E.drop (i * room)).drop 0).take (min s.len room - 0) = (E.drop (i * room)).take room := by
      rw [List.drop_zero, Nat.sub_zero, hsl, Nat.min_comm]
      exact (List.take_eq_take_min).symm
    rw [hct] at hcut
    generalize slcV s ((0 : Nat) : Int) ((min s.len room : Nat) : Int) (s.cap : Int) 1 = c1 at hcut ⊢
    refine nw_of fun n3 _ => ?_
    have hparts : Parts ((n3, Obj.cells #[.slice c1.a c1.len c1.cap] 44) :: (X ++ seg ++ Y)) ⟨some ⟨n3, 0, none⟩, 1, 1⟩ [(c1, (E.drop (i * room)).take room)] := by
      refine ⟨⟨rfl, Nat.le_refl _, .inr ⟨_, rfl, ldB List.mem_cons_self rfl⟩⟩, fun x hx => ?_⟩
      have hx' : x = (c1, (E.drop (i * room)).take room) := by simpa using hx
      subst hx'
      exact Sl.cons hcut
    have hcat : catL [((c1, (E.drop (i * room)).take room) : PV)] = (E.drop (i * room)).take room := by simp [catL]
    refine cl_in [] [] (joined_cl _ ⟨some ⟨n3, 0, none⟩, 1, 1⟩ _ hparts (by rw [hcat, List.length_take]; omega) (by simp)) (by simp) ?_
    rintro _ _ - ⟨s9, sg9, rfl, rfl, own9⟩
    rw [hcat] at own9
    rw [List.nil_append, List.append_nil]
    refine ⟨(s9, ()), rfl, nw_of fun n4 _ => ?_⟩
    generalize (n3, Obj.cells #[.slice c1.a c1.len c1.cap] 44) = o3
    refine append_in elemPs srcPs ((n4, Obj.cells #[.slice s9.a s9.len s9.cap] 44) :: (sg9 ++ (o3 :: X))) Y own (by simp) (n := 1) (ws := [PG.val ⟨s9, sg9, (E.drop (i * room)).take room⟩]) (x := .slice (some ⟨n4, 0, none⟩) 1 1) (Src.sl (v := ⟨some ⟨n4, 0, none⟩, 1, 1⟩) ⟨rfl, Nat.le_refl _, .inr ⟨_, rfl, ldB List.mem_cons_self rfl⟩⟩) rfl (by omega) fun v8 seg8 hv8 own8 => ?_
    generalize (n4, Obj.cells #[.slice s9.a s9.len s9.cap] 44) = o4
    refine slc_of (l' := min s.len room) (h' := s.len) (m' := s.cap) rfl rfl rfl (by omega) (by omega) (Nat.le_refl _) ?_
    have hcut2 := cut_sl hs (i := min s.len room) (j := s.len) (by omega) (by omega)
    have hct2 : ((E.drop (i * room)).drop (min s.len room)).take (s.len - min s.len room) = E.drop ((i + 1) * room) := by
      rw [List.take_of_length_le (by rw [List.length_drop, ← hsl]; omega), List.drop_drop]
      rcases Nat.le_total room s.len with h9 | h9
      · rw [Nat.min_eq_right h9, Nat.add_mul, Nat.one_mul]
      · rw [List.length_drop] at hsl
        rw [Nat.min_eq_left h9, List.drop_of_length_le (by omega), List.drop_of_length_le (by rw [Nat.add_mul]; omega)]
    rw [hct2] at hcut2
    refine ⟨n - (i + 1), by omega, i + 1, _, v8, seg8, gs ++ [⟨s9, sg9, (E.drop (i * room)).take room⟩], o4 :: o3 :: J, _, _, by omega, rfl, ?_, rfl, ?_, hcut2, ?_, ?_, ?_⟩
    · rw [w64_id (by first | omega | (simp only; omega)) (by first | omega | (simp only; omega))]
      rfl
    · rw [pgs_append, pgs_one]
      classical
      rw [List.perm_iff_count] at hp ⊢
      intro z
      have := hp z
      simp only [List.append_eq, List.cons_append, List.count_append, List.count_cons, List.count_nil] at this ⊢
      omega
    · rw [List.map_append]; exact own8
    · intro z hz
      rcases List.mem_append.1 hz with h5 | h5
      · exact hok z h5
      · rw [List.mem_singleton.1 h5]; exact own9
    · rw [List.map_append, hgs, chunks_succ]; rfl
  · obtain rfl : i = n := by omega
    refine .drop (A := seg ++ (pgs gs ++ A)) (J := J ++ J0) ⟨v, seg, gs, rfl, rfl, own, hok, hgs⟩ ?_
    classical
    rw [List.perm_iff_count] at hp ⊢
    intro z
    have := hp z
    simp only [List.append_eq, List.cons_append, List.count_append, List.count_cons, List.count_nil] at this ⊢
    omega
end Go.Proofs.YtlabcgnegbdlfaaDoor
set_option linter.unusedVariables false
set_option linter.unusedSimpArgs false
namespace Go.Proofs.YtlabcgnegbdlfaaDoor
open Go.HL

end Go.Proofs.YtlabcgnegbdlfaaDoor
set_option linter.unusedVariables false
set_option linter.unusedSimpArgs false
namespace Go.Proofs.YtlabcgnegbdlfaaDoor
open Go.HL

/-- Which entry bytes are, or what is wrong. -/
def joinR (b : List UInt8) : List UInt8 × List UInt8 × Int :=
  if (wtext b 0).2.2 ≠ 0 then ([], [], (wtext b 0).2.2) else
  if (wtext b (wtext b 0).2.1).2.2 ≠ 0 then ([], [], (wtext b (wtext b 0).2.1).2.2) else
  if (wget b (wtext b (wtext b 0).2.1).2.1 4).2 ≠ 0 then ([], [], (wget b (wtext b (wtext b 0).2.1).2.1 4).2) else
  if b.length > (wtext b (wtext b 0).2.1).2.1 + 4 ∨ (wtext b 0).1.length < 1 ∨ (wtext b 0).1.length > 255 then ([], [], 5) else
  if crcSum (b.take (wtext b (wtext b 0).2.1).2.1) ≠ (wget b (wtext b (wtext b 0).2.1).2.1 4).1 then ([], [], 12) else
  ((wtext b 0).1, (wtext b (wtext b 0).2.1).1, 0)
def JoinK (b : List UInt8) (A : HList) (r : Value) (L' : HList) : Prop := ∃ g : PG, r = .tuple #[strOf (joinR b).1, g.val, .int .i64 (joinR b).2.2] ∧ L' = g.seg ++ A ∧ g.Ok ∧ g.l = (joinR b).2.1
theorem JoinK.err {b : List UInt8} {A : HList} {e : Int} (h : joinR b = ([], [], e)) : JoinK b A (.tuple #[.string ⟨#[]⟩, .slice none 0 0, .int .i64 e]) A := ⟨pg0, by rw [h]; rfl, rfl, pg0_ok, by rw [h]; rfl⟩
theorem wtext_rng {b : List UInt8} {a : Nat} (h : a ≤ b.length) : a ≤ (wtext b a).2.1 ∧ (wtext b a).2.1 ≤ b.length ∧ (wtext b a).1.length ≤ 65536 ∧ ((wtext b a).2.2 = 0 → (wtext b a).2.1 = a + 4 + (wtext b a).1.length) := by
  have hg := wget_rng b a 4
  unfold wtext
  split
  · rename_i h1
    exact ⟨Nat.le_refl _, h, by simp, fun h2 => absurd h2 h1⟩
  · split
    · exact ⟨Nat.le_refl _, h, by simp, fun h => absurd h (by simp)⟩
    · split
      · exact ⟨Nat.le_refl _, h, by simp, fun h => absurd h (by simp)⟩
      · rename_i h1 h2 h3
        simp only
        rw [List.length_take, List.length_drop]
        omega
theorem strOf_size (l : List UInt8) : (ByteArray.mk l.toArray).size = l.length := by show l.toArray.size = _; simp
theorem join_cl (A : HList) (v : SlV) (l : List PV) (h : Parts A v l) (hb : (catL l).length ≤ 1000000) (hl : l.length ≤ 1099511627776) :
    CallF PP 32 #[.slice v.a v.len v.cap] A (JoinK (catL l) A) := by
  refine CallF.of (args := [.slice v.a v.len v.cap]) noNum mixed Tryd.func32 (e32 v _) ?_
  unfold t32
  refine cl_in [] [] (joined_cl A v l h (by omega) hl) (by simp) ?_
  rintro _ _ - ⟨s, seg, rfl, rfl, own⟩
  rw [List.nil_append, List.append_nil]
  generalize catL l = b at hb own ⊢
  refine ⟨(s, ()), rfl, cl_in [] [] (rdnew_cl (seg ++ A) s b own.sl.left hb) (by simp) ?_⟩
  rintro _ _ - ⟨m, R0, rfl, rfl, hr0⟩
  rw [List.nil_append, List.append_nil]
  have hsl : ∀ R : HList, BSl (R ++ (seg ++ A)) s b := fun R => own.sl.left.right
  have hslen := own.sl.len
  rw [bvs_length, Nat.mul_one] at hslen
  have hscap := own.cap
  refine ⟨(some ⟨m, 0, none⟩, ()), rfl, cl_in [] (seg ++ A) (text_cl m b 0 R0 hr0) rfl ?_⟩
  rintro _ R1 - ⟨rfl, hr1⟩
  rw [List.nil_append]
  obtain ⟨q1, q2, q3, q4⟩ := wtext_rng (b := b) (a := 0) (Nat.zero_le _)
  refine ⟨(⟨(wtext b 0).1.toArray⟩, (wtext b 0).2.2, ()), rfl, ?_⟩
  refine ifNe_of (fun (he : (wtext b 0).2.2 ≠ 0) => .app (.app (.of (JoinK.err (by unfold joinR; rw [if_pos he]))))) (fun (he : (wtext b 0).2.2 = 0) => ?_)
  refine cl_in [] (seg ++ A) (text_cl m b (wtext b 0).2.1 R1 hr1) rfl ?_
  rintro _ R2 - ⟨rfl, hr2⟩
  rw [List.nil_append]
  obtain ⟨w1, w2, w3, w4⟩ := wtext_rng (b := b) (a := (wtext b 0).2.1) q2
  refine ⟨(⟨(wtext b (wtext b 0).2.1).1.toArray⟩, (wtext b (wtext b 0).2.1).2.2, ()), rfl, ?_⟩
  refine ifNe_of (fun (he2 : (wtext b (wtext b 0).2.1).2.2 ≠ 0) => .app (.app (.of (JoinK.err (by unfold joinR; rw [if_neg (by omega), if_pos he2]))))) (fun (he2 : (wtext b (wtext b 0).2.1).2.2 = 0) => ?_)
  have hj : joinR b = if (wget b (wtext b (wtext b 0).2.1).2.1 4).2 ≠ 0 then ([], [], (wget b (wtext b (wtext b 0).2.1).2.1 4).2) else
      if b.length > (wtext b (wtext b 0).2.1).2.1 + 4 ∨ (wtext b 0).1.length < 1 ∨ (wtext b 0).1.length > 255 then ([], [], 5) else
      if crcSum (b.take (wtext b (wtext b 0).2.1).2.1) ≠ (wget b (wtext b (wtext b 0).2.1).2.1 4).1 then ([], [], 12) else
      ((wtext b 0).1, (wtext b (wtext b 0).2.1).1, 0) := by unfold joinR; rw [if_neg (by omega), if_neg (by omega)]
  refine cl_rd (Reads.in (X := []) (Y := seg ++ A) (left_rd m b _ R2 hr2)) ((b.length : Int) - (wtext b (wtext b 0).2.1).2.1, ()) rfl ?_
  generalize (wtext b 0).1 = key at q3 hj ⊢
  generalize wtext b (wtext b 0).2.1 = t2 at hr2 w2 hj ⊢
  obtain ⟨val, e, z⟩ := t2
  simp only at hr2 w2 hj ⊢
  refine cl_in [] (seg ++ A) (num_cl m b e R2 hr2 4) rfl ?_
  rintro _ R3 - ⟨rfl, hr3⟩
  rw [List.nil_append]
  refine ⟨((wget b e 4).1, (wget b e 4).2, ()), rfl, ?_⟩
  refine ifNe_of (fun (he3 : (wget b e 4).2 ≠ 0) => .app (.app (.of (JoinK.err (by rw [hj, if_pos he3]))))) (fun (he3 : (wget b e 4).2 = 0) => ?_)
  have hnx : rdNext b e 4 = e + 4 := by unfold rdNext; rw [if_pos he3]; rfl
  rw [hnx] at hr3
  have hge := (wget_rng b e 4).2.2.2 he3
  refine cl_rd (Reads.in (X := []) (Y := seg ++ A) (left_rd m b _ R3 hr3)) ((b.length : Int) - (e + 4 : Nat), ()) rfl ?_
  refine ifD_of (fun (h4 : (b.length : Int) - (e + 4 : Nat) > 0) => .app (.app (.of (JoinK.err (by rw [hj, if_neg (by omega), if_pos (by omega)]))))) (fun (h4 : ¬ (b.length : Int) - (e + 4 : Nat) > 0) => ?_)
  refine cl_rd (keyed_rd _ _) (decide (1 ≤ ((ByteArray.mk key.toArray).size : Int) ∧ ((ByteArray.mk key.toArray).size : Int) ≤ 255), ()) rfl ?_
  rw [strOf_size]
  by_cases h5 : 1 ≤ (key.length : Int) ∧ (key.length : Int) ≤ 255
  case neg =>
    rw [decide_eq_false h5]
    exact ifT rfl (.app (.app (.of (JoinK.err (by rw [hj, if_neg (by omega), if_pos (by omega)])))))
  rw [decide_eq_true h5]
  have hwe : IntKind.i64.wrap ((s.len : Int) - ((b.length : Int) - (e : Int))) = ((e : Nat) : Int) := by rw [hslen, w64_id (by omega) (by omega)]; omega
  simp only [hwe]
  refine ifF rfl (slc_of (l' := 0) (h' := e) (m' := s.cap) rfl rfl rfl (by omega) (by omega) (Nat.le_refl _) ?_)
  have hcut := cut_sl (hsl R3) (i := 0) (j := e) (by omega) (by omega)
  rw [List.drop_zero, Nat.sub_zero] at hcut
  refine cl_rd (check_rd _ _ (b.take e) hcut (by rw [List.length_take]; omega) (wget b e 4).1) (crcSum (b.take e) == (wget b e 4).1, ()) rfl ?_
  by_cases h6 : crcSum (b.take e) = (wget b e 4).1
  · have hjj : joinR b = (key, val, 0) := by rw [hj, if_neg (by omega), if_neg (by omega), if_neg (by simpa using h6)]
    refine ifF (by simp [h6]) (s2b_of fun n ob w hw own2 _ => ?_)
    unfold JoinK
    rw [hjj]
    refine .drop (A := [(n, ob)] ++ A) (J := R3 ++ seg) ⟨⟨w, [(n, ob)], val⟩, rfl, rfl, own2, rfl⟩ ?_
    classical
    rw [List.perm_iff_count]
    intro x
    simp only [List.append_eq, List.cons_append, List.count_append, List.count_cons, List.count_nil]
    omega
  · refine ifT (by simp [h6]) (.app (.app (.of (JoinK.err (by rw [hj, if_neg (by omega), if_neg (by omega), if_pos h6])))))
end Go.Proofs.YtlabcgnegbdlfaaDoor
set_option linter.unusedVariables false
set_option linter.unusedSimpArgs false
namespace Go.Proofs.YtlabcgnegbdlfaaDoor
open Go.HL

theorem readR_len {d : Dev} (ok : DvOk d) (b p : Int) : (readR d b p).1.length ≤ 512 := by
  have hS := ok.c.s
  unfold readR
  split
  · simp
  · split
    · simp
    · rename_i k hk
      split
      · show (blk d.c.S).length ≤ 512
        unfold blk
        rw [List.length_replicate]; omega
      · show (k.pages.getD p.toNat []).length ≤ 512
        rw [List.getD_eq_getElem?_getD]
        cases h : k.pages[p.toNat]? with
        | none => simp
        | some l => have := (ok.pg k (List.mem_of_getElem? hk)).2 l (List.mem_of_getElem? h); simp only [Option.getD_some]; omega
/-- A piece of an entry at a place. -/
def pieceR (d : Dev) (b pg : Int) : Hd × List UInt8 × Int :=
  if (readR d b pg).2 = 0 then if (parR (readR d b pg).1).2.2 = 0 then parR (readR d b pg).1 else (hz, [], 8) else (hz, [], 8)
theorem pieceR_len {d : Dev} (ok : DvOk d) (b pg : Int) : (pieceR d b pg).2.1.length ≤ 512 := by
  unfold pieceR
  split
  · split
    · exact Nat.le_trans (parR_len _) (readR_len ok b pg)
    · simp
  · simp
def piecesR (d : Dev) (b pg : Int) : Nat → Option (List (List UInt8))
  | 0 => some []
  | n + 1 => match piecesR d b pg n with
    | some l => if (pieceR d b (pg + n)).2.2 = 0 then some (l ++ [(pieceR d b (pg + n)).2.1]) else none
    | none => none
theorem piecesR_none {d : Dev} {b pg : Int} : ∀ {n m : Nat}, n ≤ m → piecesR d b pg n = none → piecesR d b pg m = none
  | n, m, h, hn => by
    induction m with
    | zero => obtain rfl : n = 0 := by omega
              exact hn
    | succ m ih =>
      rcases Nat.lt_or_ge m n with h1 | h1
      · obtain rfl : n = m + 1 := by omega
        exact hn
      · rw [piecesR, ih h1]
theorem piecesR_bnd {d : Dev} (ok : DvOk d) {b pg : Int} : ∀ {n : Nat} {l : List (List UInt8)}, piecesR d b pg n = some l → l.length = n ∧ ∀ x ∈ l, x.length ≤ 512
  | 0, l, h => by obtain rfl := Option.some.inj h; exact ⟨rfl, by simp⟩
  | n + 1, l, h => by
    rw [piecesR] at h
    split at h
    · rename_i l' hl'
      split at h
      · obtain rfl := Option.some.inj h
        obtain ⟨h1, h2⟩ := piecesR_bnd ok hl'
        refine ⟨by simp [h1], fun x hx => ?_⟩
        rcases List.mem_append.1 hx with hx | hx
        · exact h2 x hx
        · rw [List.mem_singleton.1 hx]; exact pieceR_len ok _ _
      · cases h
    · cases h
theorem piecesR_head {d : Dev} {b pg : Int} {n : Nat} {l : List (List UInt8)} (h : piecesR d b pg n = some l) (h0 : 0 < n) : (pieceR d b pg).2.2 = 0 := by
  cases h1 : piecesR d b pg 1 with
  | none => rw [piecesR_none h0 h1] at h; cases h
  | some l1 =>
    rw [piecesR, piecesR] at h1
    simp only [Int.natCast_zero, Int.add_zero] at h1
    split at h1
    · assumption
    · cases h1

def headOk (p : It) (h : Hd) : Prop := h.1 = 2 ∧ h.2.1 = 0 ∧ h.2.2.2.1 = p.2.2.1 ∧ h.2.2.2.2.1 = p.2.1
instance (p : It) (h : Hd) : Decidable (headOk p h) := by unfold headOk; infer_instance
/-- The entry at a place: its key, its value, what is wrong. -/
def fetchR (d : Dev) (p : It) : List UInt8 × List UInt8 × Int :=
  if (readR d p.1 0).2 ≠ 0 then ([], [], (readR d p.1 0).2) else
  if (pieceR d p.1 p.2.1).2.2 = 0 ∧ headOk p (pieceR d p.1 p.2.1).1 then
    match piecesR d p.1 p.2.1 (pieceR d p.1 p.2.1).1.2.2.1.toNat with
    | some l => joinR l.flatten
    | none => ([], [], 8)
  else ([], [], 8)
def FetchK (q : List UInt8 × List UInt8 × Int) (A : HList) (r : Value) (L' : HList) : Prop := ∃ g : PG, r = .tuple #[strOf q.1, g.val, .int .i64 q.2.2] ∧ L' = g.seg ++ A ∧ g.Ok ∧ g.l = q.2.1
theorem FetchK.err {q : List UInt8 × List UInt8 × Int} {A : HList} {e : Int} (h : q = ([], [], e)) : FetchK q A (.tuple #[.string ⟨#[]⟩, .slice none 0 0, .int .i64 e]) A := ⟨pg0, by rw [h]; rfl, rfl, pg0_ok, by rw [h]; rfl⟩
theorem FetchK.no {q : List UInt8 × List UInt8 × Int} {A J L2 : HList} {e : Int} (h : q = ([], [], e)) (hp : L2.Perm (A ++ J)) : HL.Ends (FetchK q A) (.tuple #[.string ⟨#[]⟩, .slice none 0 0, .int .i64 e]) L2 := .drop (FetchK.err h) hp
theorem flatten_catL (gs : List PG) : catL (pvs gs) = (gs.map PG.l).flatten := by
  induction gs with
  | nil => rfl
  | cons g r ih => simp only [catL, pvs, List.map_cons, List.flatMap_cons, List.flatten_cons] at ih ⊢; rw [ih]
theorem flat_bnd : ∀ (l : List (List UInt8)), (∀ x ∈ l, x.length ≤ 512) → l.flatten.length ≤ l.length * 512
  | [], _ => by simp
  | x :: r, h => by
    have h1 := flat_bnd r fun y hy => h y (by simp [hy])
    have h2 := h x (by simp)
    simp only [List.flatten_cons, List.length_append, List.length_cons]
    omega
theorem fetch_cl (m : Nat) (d : Dev) (A : HList) (h : FH m d A) (ok : DvOk d) (p : It) (hp1 : intWf .i64 p.2.1) : CallF PP 8 #[.pointer (some ⟨m, 0, none⟩), .agg #[.int .i64 p.1, .int .i64 p.2.1, .int .i64 p.2.2.1]] A (FetchK (fetchR d p) A) := by
  refine c8 (some ⟨m, 0, none⟩) p ?_
  unfold s8
  have hpw := wf_i64 hp1
  have hP := DG.pb ok
  refine cl_of (read_cl m d A h ok p.1 0) ?_
  rintro _ _ - ⟨g0, rfl, rfl, -, -⟩
  refine ⟨(g0.v, (readR d p.1 0).2, ()), rfl, ifb_of (fun (h0 : (readR d p.1 0).2 = 0) => ?_) (fun (h0 : ¬ (readR d p.1 0).2 = 0) => FetchK.no (by unfold fetchR; rw [if_pos h0]) List.perm_append_comm)⟩
  have hno : ¬ ((pieceR d p.1 p.2.1).2.2 = 0 ∧ headOk p (pieceR d p.1 p.2.1).1) → fetchR d p = ([], [], 8) := fun hh => by unfold fetchR; rw [if_neg (by simpa using h0), if_neg hh]
  refine lp_of (fun z' z L' => ∃ (gs : List PG) (s : SlV) (sg J : HList) (n : Nat), z = (s, (n : Int), ()) ∧ z' = 20 - gs.length ∧ L'.Perm (sg ++ (pgs gs ++ (J ++ A))) ∧ Own s 1 tB (gs.map PG.val) sg ∧ (∀ g ∈ gs, g.Ok) ∧ gs.length ≤ n ∧ n ≤ 16 ∧ piecesR d p.1 p.2.1 gs.length = some (gs.map PG.l) ∧
    ((gs = [] ∧ n = 1) ∨ (0 < gs.length ∧ 0 ≤ p.2.1 ∧ p.2.1 ≤ 16 ∧ headOk p (pieceR d p.1 p.2.1).1 ∧ (pieceR d p.1 p.2.1).1.2.2.1 = n))) 20
    ⟨[], ⟨none, 0, 0⟩, [], g0.seg, 1, rfl, rfl, List.Perm.refl _, own_nil, by simp, by simp, by omega, rfl, .inl ⟨rfl, rfl⟩⟩ ?_
  rintro z' z L1 ⟨gs, s, sg, J, n, rfl, rfl, hpm, own, hok, hgn, hn16, hpc, hst⟩
  dsimp only
  have hsl := own.sl.len
  rw [List.length_map] at hsl
  refine ifb_of (fun (hlt : (s.len : Int) < n) => ?_) (fun (hge : ¬ (s.len : Int) < n) => ?_)
  · have hadd : -9223372036854775808 ≤ p.2.1 + (s.len : Int) ∧ p.2.1 + (s.len : Int) ≤ 9223372036854775807 := by
      rcases hst with ⟨rfl, -⟩ | ⟨-, h1, h2, -⟩
      · simp at hsl; omega
      · omega
    refine w64_of hadd (cl_pm (read_cl m d A h ok p.1 (p.2.1 + s.len)) (R := sg ++ (pgs gs ++ J)) (pc fun z => by have := pcn hpm z; simp only [cnt_a] at *; omega) ?_)
    have hse : p.2.1 + (s.len : Int) = p.2.1 + (gs.length : Int) := by omega
    rw [hse]
    rintro _ _ ⟨g1, rfl, rfl, hg1, hgl1⟩
    -- what is wrong with this piece is wrong with all
    have hbad : (pieceR d p.1 (p.2.1 + (gs.length : Int))).2.2 ≠ 0 → fetchR d p = ([], [], 8) := by
      intro hh
      rcases hst with ⟨rfl, -⟩ | ⟨hgp, -, -, hhd, hnn⟩
      · exact hno fun h => hh (by simpa using h.1)
      · have h3 : piecesR d p.1 p.2.1 (gs.length + 1) = none := by rw [piecesR, hpc]; simp only; rw [if_neg hh]
        have h4 := piecesR_head hpc hgp
        unfold fetchR
        rw [if_neg (by simpa using h0), if_pos ⟨h4, hhd⟩, hnn, Int.toNat_natCast, piecesR_none (show gs.length + 1 ≤ n by omega) h3]
    refine ⟨_, List.Perm.refl _, (g1.v, (readR d p.1 (p.2.1 + (gs.length : Int))).2, ()), rfl, ifb_of (fun (he : (readR d p.1 (p.2.1 + (gs.length : Int))).2 = 0) => ?_) (fun (he : ¬ (readR d p.1 (p.2.1 + (gs.length : Int))).2 = 0) => FetchK.no (J := g1.seg ++ (sg ++ (pgs gs ++ J))) (hbad (by unfold pieceR; rw [if_neg he]; decide)) (pc fun z => by simp only [cnt_a] at *; omega))⟩
    refine cl_pm (pparse_cl (g1.seg ++ A) g1.v (readR d p.1 (p.2.1 + (gs.length : Int))).1 (by rw [← hgl1]; exact Sl.left hg1.sl) (by have := readR_len ok p.1 (p.2.1 + (gs.length : Int)); omega)) (List.Perm.refl _) ?_
    rintro _ _ ⟨s2, sg2, rfl, rfl, own2⟩
    generalize hq : parR (readR d p.1 (p.2.1 + (gs.length : Int))).1 = q at own2
    refine ⟨_, List.Perm.refl _, (q.1, s2, q.2.2, ()), rfl, ifb_of (fun (he2 : q.2.2 = 0) => ?_) (fun (he2 : ¬ q.2.2 = 0) => FetchK.no (J := sg2 ++ (g1.seg ++ (sg ++ (pgs gs ++ J)))) (hbad (by unfold pieceR; rw [if_pos he, if_neg (by rw [hq]; exact he2)]; decide)) (pc fun z => by simp only [cnt_a] at *; omega))⟩
    have hpq : pieceR d p.1 (p.2.1 + (gs.length : Int)) = q := by unfold pieceR; rw [if_pos he, hq, if_pos he2]
    have hqk := hErr_ok (par_ok (b := (readR d p.1 (p.2.1 + (gs.length : Int))).1) (by rw [hq]; exact he2))
    rw [hq] at hqk
    have hql : q.2.1.length ≤ 512 := by rw [← hpq]; exact pieceR_len ok _ _
    refine jn_of (fun y L' => L' = sg2 ++ (g1.seg ++ A) ++ (sg ++ (pgs gs ++ J)) ∧ ∃ n' : Nat, y = ((n' : Int), ()) ∧ gs.length < n' ∧ n' ≤ 16 ∧ 0 ≤ p.2.1 ∧ p.2.1 ≤ 16 ∧ headOk p (pieceR d p.1 p.2.1).1 ∧ (pieceR d p.1 p.2.1).1.2.2.1 = n') ?_ ?_
    · rintro _ _ ⟨rfl, n', rfl, hn1, hn2, hp0, hp16, hhd, hnn⟩
      refine apv_pm elemPs srcPs own (Y := sg2 ++ (g1.seg ++ A) ++ (pgs gs ++ J)) (ws := [pvV (s2, q.2.1)]) (pc fun z => by simp only [cnt_a] at *; omega) rfl rfl (by omega) fun s3 sg3 hs3 own3 => ?_
      refine ⟨20 - (gs.length + 1), by omega, gs ++ [⟨s2, sg2, q.2.1⟩], s3, sg3, g1.seg ++ J, n', rfl, by simp, ?_, ?_, ?_, by simp; omega, hn2, ?_, .inr ⟨by simp, hp0, hp16, hhd, hnn⟩⟩
      · rw [pgs_append, pgs_one]
        exact pc fun z => by simp only [cnt_a] at *; omega
      · rw [List.map_append]; exact own3
      · intro g hg
        rcases List.mem_append.1 hg with hg | hg
        · exact hok g hg
        · rw [List.mem_singleton.1 hg]; exact own2
      · rw [List.length_append, List.length_singleton, piecesR, hpc]
        simp only
        rw [hpq, if_pos he2, List.map_append]; rfl
    · intro j hj
      refine ifb_of (fun (hl0 : (s.len : Int) = 0) => ?_) (fun (hl0 : ¬ (s.len : Int) = 0) => ?_)
      · have hg0 : gs.length = 0 := by omega
        have hpq0 : pieceR d p.1 p.2.1 = q := by rw [← hpq, hg0]; simp
        have hne : ¬ headOk p q.1 → HL.Ends (FetchK (fetchR d p) A) (.tuple #[.string ⟨#[]⟩, .slice none 0 0, .int .i64 8]) (sg2 ++ (g1.seg ++ A) ++ (sg ++ (pgs gs ++ J))) := fun hh =>
          FetchK.no (J := sg2 ++ (g1.seg ++ (sg ++ (pgs gs ++ J)))) (hno fun hx => hh (by rw [← hpq0]; exact hx.2)) (pc fun z => by simp only [cnt_a] at *; omega)
        refine ifb_of (fun (e1 : q.1.1 = 2) => ?_) (fun e1 => hne fun hx => e1 hx.1)
        refine ifb_of (fun (e2 : q.1.2.1 = 0) => ?_) (fun e2 => hne fun hx => e2 hx.2.1)
        refine ifb_of (fun (e3 : q.1.2.2.2.1 = p.2.2.1) => ?_) (fun e3 => hne fun hx => e3 hx.2.2.1)
        refine ifb_of (fun (e4 : q.1.2.2.2.2.1 = p.2.1) => ?_) (fun e4 => hne fun hx => e4 hx.2.2.2)
        have hf := findE_0 (by rw [← readR_err ok]; exact he)
        rw [hg0] at hf
        exact hj _ _ ⟨rfl, q.1.2.2.1.toNat, by rw [Int.toNat_of_nonneg (by omega)], by omega, by omega, by omega, by omega, by rw [hpq0]; exact ⟨e1, e2, e3, e4⟩, by rw [hpq0]; omega⟩
      · rcases hst with ⟨rfl, -⟩ | ⟨-, hp0, hp16, hhd, hnn⟩
        · simp at hsl; omega
        · exact hj _ _ ⟨rfl, n, rfl, by omega, hn16, hp0, hp16, hhd, hnn⟩
  · rcases hst with ⟨rfl, rfl⟩ | ⟨hgp, hp0, hp16, hhd, hnn⟩
    · simp at hsl; omega
    have hgn' : gs.length = n := by omega
    have hb := piecesR_bnd ok hpc
    have hcat : (catL (pvs gs)).length ≤ 1000000 := by
      rw [flatten_catL]
      have := flat_bnd _ hb.2
      rw [hb.1] at this
      omega
    refine cl_of (join_cl L1 s (pvs gs) (parts_of own hok (psub0 hpm) fun x hx => hpm.symm.subset (by simp [hx])) hcat (by simp [pvs]; omega)) ?_
    rintro _ _ - ⟨g, rfl, rfl, hg, hgl⟩
    have hfe : fetchR d p = joinR (catL (pvs gs)) := by
      unfold fetchR
      rw [if_neg (by simpa using h0), if_pos ⟨piecesR_head hpc hgp, hhd⟩, hnn, Int.toNat_natCast, ← hgn', hpc, flatten_catL]
    refine ⟨(⟨(joinR (catL (pvs gs))).1.toArray⟩, g.v, (joinR (catL (pvs gs))).2.2, ()), rfl, .drop (A := g.seg ++ A) (J := sg ++ (pgs gs ++ J)) ⟨g, by rw [hfe]; rfl, rfl, hg, by rw [hfe]; exact hgl⟩ (pc fun z => by have := pcn hpm z; simp only [cnt_a] at *; omega)⟩
end Go.Proofs.YtlabcgnegbdlfaaDoor
set_option linter.unusedVariables false
set_option linter.unusedSimpArgs false
set_option linter.unusedSectionVars false
namespace Go.HL
section
variable {P : Program} {L A Y : HList}
theorem own_st {v : SlV} {sz : Nat} {T : TypeId} {vs ws : List Value} {seg : HList} (own : Own v sz T vs seg) {p : Nat} (hp : p + ws.length ≤ vs.length) (hws : 0 < ws.length) {a ad : Addr} (ha : v.a = some a) (had : ad = Addr.add a p) {k : HP}
    (hL : L.Perm (seg ++ Y)) (hk : ∀ seg' L', L'.Perm (seg' ++ Y) → Own v sz T (putL vs p ws) seg' → k L') : st ad ws k L := by
  subst had
  rcases own.row with ⟨ha', _, _⟩ | ⟨b, off, c, fz, ha', rfl, hsz, hfz, hc⟩
  · rw [ha] at ha'; cases ha'
  · rw [ha] at ha'
    obtain rfl := Option.some.inj ha'
    have hlen := own.len
    have hcap := own.cap
    have hle := Nat.mul_le_mul_right sz hcap
    refine st_pm (n := b) (off := off + p) (c := c) (T := T) (fz := fz) (Y := Y) hL (addr_add (ad := ⟨b, off, none⟩) rfl p) (by omega) (by omega) _ rfl fun L' hL' => ?_
    refine hk [(b, Obj.cells (wr c (off + p) ws) T fz)] L' hL' ⟨by rw [putL_len _ _ _ hp]; exact hlen, hcap, .inr ⟨b, off, _, fz, ha, rfl, by rw [wr_size]; exact hsz, by rw [wr_size]; exact hfz, fun i u hu => ?_⟩⟩
    rw [putL_get _ _ _ hp] at hu
    rw [wr_get _ _ _ _ (by omega)]
    split at hu
    · rw [if_pos (by omega), show off + i - (off + p) = i - p by omega]; exact hu
    · rw [if_neg (by omega)]; exact hc i u hu
theorem putL_enc {α : Type} {enc : α → List Value} {sz : Nat} (hsz : ∀ x, (enc x).length = sz) (hpos : 0 < sz) {l : List α} {n : Nat} (hn : n < l.length) (x : α) : putL (l.flatMap enc) (n * sz) (enc x) = (l.set n x).flatMap enc := by
  have hfl := flat_len hsz l
  have hfl2 := flat_len hsz (l.set n x)
  rw [List.length_set] at hfl2
  have h0 : n * sz + sz ≤ l.length * sz := by rw [← Nat.succ_mul]; exact Nat.mul_le_mul_right sz hn
  apply List.ext_getElem?
  intro i
  rw [putL_get _ _ _ (by rw [hsz, hfl]; exact h0), hsz]
  by_cases hi : i < l.length * sz
  · have hq : i / sz < l.length := by rw [Nat.div_lt_iff_lt_mul hpos]; exact hi
    have hr : i % sz < sz := Nat.mod_lt _ hpos
    have hi2 : i = i / sz * sz + i % sz := by rw [Nat.mul_comm]; exact (Nat.div_add_mod i sz).symm
    generalize i / sz = q at hq hi2
    generalize i % sz = r at hr hi2
    subst hi2
    rw [flat_at hsz (l.set n x) q (by simpa using hq) r hr, flat_at hsz l q hq r hr, List.getElem_set]
    by_cases hqn : n = q
    · subst hqn
      rw [if_pos (by omega), if_pos rfl]
      congr 1; omega
    · rw [if_neg, if_neg hqn]
      intro hc
      rcases Nat.lt_or_ge n q with h | h
      · have := Nat.mul_le_mul_right sz (show n + 1 ≤ q by omega)
        rw [Nat.succ_mul] at this
        omega
      · have := Nat.mul_le_mul_right sz (show q + 1 ≤ n by omega)
        rw [Nat.succ_mul] at this
        omega
  · rw [if_neg (by omega), List.getElem?_eq_none (by omega), List.getElem?_eq_none (by omega)]
theorem elp_own {α : Type} {enc : α → List Value} {sz : Nat} (hsz : ∀ x, (enc x).length = sz) (hpos : 0 < sz) {v : SlV} {T : TypeId} {l : List α} {seg : HList} (own : Own v sz T (l.flatMap enc) seg) (hs : ∀ p ∈ seg, p ∈ L) {i : Int} {n : Nat} (hi : i = n) (hn : n < l.length) {k : Addr → HP}
    (hk : ∀ b, v.a = some b → LdAt (Addr.add b (n * sz)) (enc l[n]) L → k (Addr.add b (n * sz)) L) : elp v.a v.len i sz k L := by
  subst hi
  obtain ⟨a, ha, hl⟩ := own.sl.el hsz hpos hn
  refine nilc_of ha (ixn_of (by omega) (by have := own.sl.els_len hsz hpos; omega) ?_)
  rw [Int.toNat_natCast]
  exact hk a ha (hl.mono hs)
theorem st_own {α : Type} {enc : α → List Value} {sz : Nat} (hsz : ∀ x, (enc x).length = sz) (hpos : 0 < sz) {v : SlV} {T : TypeId} {l : List α} {seg : HList} (own : Own v sz T (l.flatMap enc) seg) {b : Addr} (hb : v.a = some b) {n : Nat} (hn : n < l.length) (x : α) (hL : L.Perm (seg ++ Y)) {k : HP}
    (hk : ∀ seg' L', L'.Perm (seg' ++ Y) → Own v sz T ((l.set n x).flatMap enc) seg' → k L') : st (Addr.add b (n * sz)) (enc x) k L := by
  have h0 : n * sz + sz ≤ l.length * sz := by rw [← Nat.succ_mul]; exact Nat.mul_le_mul_right sz hn
  refine own_st own (p := n * sz) (by rw [hsz, flat_len hsz]; exact h0) (by rw [hsz]; exact hpos) hb rfl hL fun seg' L' hL' o => hk seg' L' hL' ?_
  rw [putL_enc hsz hpos hn] at o; exact o
variable {κ : Type} [DecidableEq κ]
theorem update_pm {t kt et : TypeId} {kv : κ → Value} {z : Value} (hT : MapT P t kt et kv z) {r : Nat} {es : Array MapEntry} {clock : Nat} {m : List (κ × Value)} (hL : L.Perm ((r, Obj.map es clock) :: Y)) (h : Mp kv es m) (k : κ) (v : Value) {K : HP}
    (hk : ∀ es' clock' L', Mp kv es' (mput m k v) → L'.Perm ((r, Obj.map es' clock') :: Y) → K L') : smU P (Instr.mapUpdate t (.map (some r)) (kv k) v) K L := by
  obtain ⟨A2, B2, rfl⟩ := List.append_of_mem (hL.symm.subset List.mem_cons_self)
  refine update_of hT A2 B2 rfl h k v fun es' clock' hm => hk es' clock' _ hm ?_
  exact List.perm_middle.trans (((List.perm_cons _).1 (List.perm_middle.symm.trans hL)).cons _)
theorem delete_pm {t t2 ty kt et : TypeId} {kv : κ → Value} {z : Value} (hT : MapT P t kt et kv z) {r : Nat} {es : Array MapEntry} {clock : Nat} {m : List (κ × Value)} (hL : L.Perm ((r, Obj.map es clock) :: Y)) (h : Mp kv es m) (k : κ) {K : RsV [] → HP}
    (hk : ∀ es' clock' L', Mp kv es' (mdel m k) → L'.Perm ((r, Obj.map es' clock') :: Y) → K () L') : smW P (Builtin.delete_ #[t, t2] ty #[.map (some r), kv k]) [] K L := by
  obtain ⟨A2, B2, rfl⟩ := List.append_of_mem (hL.symm.subset List.mem_cons_self)
  refine delete_of hT A2 B2 rfl h k fun es' clock' hm => hk es' clock' _ hm ?_
  exact List.perm_middle.trans (((List.perm_cons _).1 (List.perm_middle.symm.trans hL)).cons _)
theorem mget_nil (k : κ) : mget ([] : List (κ × Value)) k = none := rfl
theorem mget_cons (p : κ × Value) (m : List (κ × Value)) (k : κ) : mget (p :: m) k = if k = p.1 then some p.2 else mget m k := by
  unfold mget
  by_cases h : k = p.1
  · rw [if_pos h, List.find?_cons_of_pos (by simpa using h)]; rfl
  · rw [if_neg h, List.find?_cons_of_neg (by simpa using h)]
theorem mget_mput : ∀ (m : List (κ × Value)) (k : κ) (v : Value) (k' : κ), mget (mput m k v) k' = if k' = k then some v else mget m k'
  | [], k, v, k' => by rw [mput, mget_cons]
  | p :: r, k, v, k' => by
    rw [mput]
    by_cases h : k = p.1
    · rw [if_pos h, mget_cons, mget_cons]
      by_cases h2 : k' = k
      · subst h2; simp
      · simp only [h2, if_false]; rw [if_neg (fun e => h2 (e.trans h.symm))]
    · rw [if_neg h, mget_cons, mget_cons, mget_mput r k v k']
      by_cases h2 : k' = p.1
      · rw [if_pos h2, if_pos h2, if_neg (fun e => h (e.symm.trans h2))]
      · rw [if_neg h2, if_neg h2]
theorem mput_keys : ∀ (m : List (κ × Value)) (k : κ) (v : Value), (m.map Prod.fst).Nodup → ((mput m k v).map Prod.fst).Nodup ∧ ∀ x, x ∈ (mput m k v).map Prod.fst ↔ x = k ∨ x ∈ m.map Prod.fst
  | [], k, v, _ => by simp [mput]
  | p :: r, k, v, h => by
    rw [mput]
    rw [List.map_cons, List.nodup_cons] at h
    by_cases hk : k = p.1
    · rw [if_pos hk]
      subst hk
      refine ⟨by simpa using h, fun x => by simp⟩
    · rw [if_neg hk]
      obtain ⟨h1, h2⟩ := mput_keys r k v h.2
      refine ⟨?_, fun x => ?_⟩
      · rw [List.map_cons, List.nodup_cons]
        exact ⟨fun hx => ((h2 _).1 hx).elim (fun e => hk e.symm) h.1, h1⟩
      · rw [List.map_cons, List.mem_cons, h2, List.map_cons, List.mem_cons]
        constructor
        · rintro (a | a | a) <;> simp [a]
        · rintro (a | a | a) <;> simp [a]
theorem mget_none {m : List (κ × Value)} {k : κ} (h : k ∉ m.map Prod.fst) : mget m k = none := by
  induction m with
  | nil => rfl
  | cons p r ih =>
    rw [List.map_cons, List.mem_cons, not_or] at h
    rw [mget_cons, if_neg h.1, ih h.2]
theorem mget_mdel : ∀ (m : List (κ × Value)) (k k' : κ), (m.map Prod.fst).Nodup → mget (mdel m k) k' = if k' = k then none else mget m k'
  | [], k, k', _ => by simp [mdel, mget_nil]
  | p :: r, k, k', h => by
    rw [mdel]
    rw [List.map_cons, List.nodup_cons] at h
    by_cases hk : k = p.1
    · rw [if_pos hk, mget_cons]
      by_cases h2 : k' = k
      · rw [if_pos h2, h2, hk]; exact mget_none h.1
      · rw [if_neg h2, if_neg (fun e => h2 (e.trans hk.symm))]
    · rw [if_neg hk, mget_cons, mget_cons, mget_mdel r k k' h.2]
      by_cases h2 : k' = p.1
      · rw [if_pos h2, if_pos h2, if_neg (fun e => hk (e.symm.trans h2))]
      · rw [if_neg h2, if_neg h2]
theorem mdel_keys : ∀ (m : List (κ × Value)) (k : κ), (m.map Prod.fst).Nodup → ((mdel m k).map Prod.fst).Nodup ∧ ∀ x, x ∈ (mdel m k).map Prod.fst → x ∈ m.map Prod.fst
  | [], k, _ => by simp [mdel]
  | p :: r, k, h => by
    rw [mdel]
    rw [List.map_cons, List.nodup_cons] at h
    by_cases hk : k = p.1
    · rw [if_pos hk]
      exact ⟨h.2, fun x hx => by simp [hx]⟩
    · rw [if_neg hk]
      obtain ⟨h1, h2⟩ := mdel_keys r k h.2
      refine ⟨?_, fun x hx => ?_⟩
      · rw [List.map_cons, List.nodup_cons]
        exact ⟨fun hx => h.1 (h2 _ hx), h1⟩
      · rw [List.map_cons, List.mem_cons] at hx ⊢
        exact hx.imp id (h2 x)
end
end Go.HL
set_option linter.unusedVariables false
set_option linter.unusedSimpArgs false
namespace Go.Proofs.YtlabcgnegbdlfaaDoor
open Go.HL

section
variable {α : Type} (key : α → Int)
def insK : List α → α → List α
  | [], x => [x]
  | y :: r, x => if key x < key y then y :: insK r x else x :: y :: r
def isort (l : List α) : List α := (l.foldl (insK key) []).reverse
theorem insK_perm : ∀ (r : List α) (x : α), (insK key r x).Perm (x :: r)
  | [], x => List.Perm.refl _
  | y :: r, x => by
    rw [insK]
    split
    · exact ((insK_perm r x).cons y).trans (List.Perm.swap x y r)
    · exact List.Perm.refl _
theorem foldl_insK_perm : ∀ (l acc : List α), (l.foldl (insK key) acc).Perm (l ++ acc)
  | [], acc => List.Perm.refl _
  | x :: l, acc => by
    rw [List.foldl_cons]
    refine (foldl_insK_perm l _).trans ?_
    exact ((insK_perm key acc x).append_left l).trans (List.perm_middle)
theorem isort_perm (l : List α) : (isort key l).Perm l := by
  unfold isort
  refine (List.reverse_perm _).trans ?_
  have := foldl_insK_perm key l []
  rwa [List.append_nil] at this
theorem insK_sorted : ∀ (r : List α) (x : α), r.Pairwise (fun a b => key b ≤ key a) → (insK key r x).Pairwise (fun a b => key b ≤ key a)
  | [], x, _ => by simp [insK]
  | y :: r, x, h => by
    rw [insK]
    rw [List.pairwise_cons] at h
    split
    · rename_i hlt
      rw [List.pairwise_cons]
      refine ⟨fun z hz => ?_, insK_sorted r x h.2⟩
      rcases List.mem_cons.1 ((insK_perm key r x).subset hz) with rfl | hz
      · omega
      · exact h.1 z hz
    · rename_i hge
      rw [List.pairwise_cons]
      refine ⟨fun z hz => ?_, by rw [List.pairwise_cons]; exact h⟩
      rcases List.mem_cons.1 hz with rfl | hz
      · omega
      · have := h.1 z hz; omega
theorem foldl_insK_sorted : ∀ (l acc : List α), acc.Pairwise (fun a b => key b ≤ key a) → (l.foldl (insK key) acc).Pairwise (fun a b => key b ≤ key a)
  | [], acc, h => h
  | x :: l, acc, h => foldl_insK_sorted l _ (insK_sorted key acc x h)
theorem isort_sorted (l : List α) : (isort key l).Pairwise (fun a b => key a ≤ key b) := by
  unfold isort
  rw [List.pairwise_reverse]
  exact foldl_insK_sorted key l [] List.Pairwise.nil
theorem insK_map {β : Type} (f : α → β) (kb : β → Int) (h : ∀ x, kb (f x) = key x) : ∀ (r : List α) (x : α), (insK key r x).map f = insK kb (r.map f) (f x)
  | [], x => rfl
  | y :: r, x => by
    rw [insK, List.map_cons, insK, h, h]
    split
    · rw [List.map_cons, insK_map f kb h r x]
    · rfl
theorem foldl_insK_map {β : Type} (f : α → β) (kb : β → Int) (h : ∀ x, kb (f x) = key x) : ∀ (l acc : List α), (l.foldl (insK key) acc).map f = (l.map f).foldl (insK kb) (acc.map f)
  | [], acc => rfl
  | x :: l, acc => by rw [List.foldl_cons, List.map_cons, List.foldl_cons, foldl_insK_map f kb h l, insK_map key f kb h]
theorem isort_map {β : Type} (f : α → β) (kb : β → Int) (h : ∀ x, kb (f x) = key x) (l : List α) : (isort key l).map f = isort kb (l.map f) := by
  unfold isort
  rw [List.map_reverse, foldl_insK_map key f kb h, List.map_nil]
end
abbrev HD := Int × Int × List It
structure HE where
  b : Int
  ep : Int
  v : SlV
  seg : HList
  l : List It
def HE.enc (h : HE) : List Value := [.int .i64 h.b, .int .i64 h.ep, .slice h.v.a h.v.len h.v.cap]
def HE.Ok (h : HE) : Prop := Own h.v 3 eItm (h.l.flatMap itEnc) h.seg
def HE.dat (h : HE) : HD := (h.b, h.ep, h.l)
theorem HE.enc_len (h : HE) : h.enc.length = 3 := rfl
def hsegs (l : List HE) : HList := l.flatMap HE.seg
theorem hsegs_app (a b : List HE) : hsegs (a ++ b) = hsegs a ++ hsegs b := List.flatMap_append
theorem hsegs_one (a : HE) : hsegs [a] = a.seg := by simp [hsegs]
theorem flatMap_cnt {α : Type} (f : α → HList) {a b : List α} (h : a.Perm b) (z : Nat × Obj) : cnt (a.flatMap f) z = cnt (b.flatMap f) z := by
  induction h with
  | nil => rfl
  | cons x _ ih => simp only [List.flatMap_cons, cnt_a, ih]
  | swap x y l => simp only [List.flatMap_cons, cnt_a]; omega
  | trans _ _ i1 i2 => rw [i1, i2]
abbrev eHl : TypeId := 39
abbrev tHl : TypeId := 30
theorem elemHl : ElemT PP tHl eHl 3 40 [.int .i64 0, .int .i64 0, .slice none 0 0] := elemT_of (by kernel_rfl) (by kernel_rfl) rfl (by decide) (by decide)
theorem srcHl : SrcT PP tHl := .inl ⟨eHl, by kernel_rfl⟩
abbrev tPPs : TypeId := 67
theorem elemPPs : ElemT PP tPPs tPs 1 24 [.slice none 0 0] := elemT_of (by kernel_rfl) (by kernel_rfl) rfl (by decide) (by decide)
theorem srcPPs : SrcT PP tPPs := .inl ⟨tPs, by kernel_rfl⟩
/-- What compares two regions. -/
theorem cmp_rd (L : HList) (x y : HE) (hx : 0 ≤ x.ep ∧ x.ep ≤ 4294967296) (hy : 0 ≤ y.ep ∧ y.ep ≤ 4294967296) :
    Reads PP 54 #[.agg #[.int .i64 x.b, .int .i64 x.ep, .slice x.v.a x.v.len x.v.cap], .agg #[.int .i64 y.b, .int .i64 y.ep, .slice y.v.a y.v.len y.v.cap]] L (.int .i64 (x.ep - y.ep)) := by
  unfold Reads
  refine c54 (x.b, x.ep, x.v, ()) (y.b, y.ep, y.v, ()) ?_
  unfold s54
  exact w64_of (by simp only; omega) (.of ⟨rfl, rfl⟩)
theorem isort_cl (v : SlV) (hs : List HE) (seg R : HList) (own : Own v 3 eHl (hs.flatMap HE.enc) seg) (hep : ∀ h ∈ hs, 0 ≤ h.ep ∧ h.ep ≤ 4294967296) (hlen : hs.length ≤ 1000) :
    CallF PP 85 #[.slice v.a v.len v.cap, .int .i64 0, .int .i64 hs.length, .func (.func 54) #[] #[]] (seg ++ R) fun r L' => ∃ seg', r = .tuple #[] ∧ L' = seg' ++ R ∧ Own v 3 eHl ((isort HE.ep hs).flatMap HE.enc) seg' := by
  refine c85 v 0 hs.length ⟨.func 54, #[], #[]⟩ ?_
  unfold s85
  refine w64_of (by omega) ?_
  -- the sorted ones stand reversed in acc
  refine lp_of (fun z' z L' => ∃ (i : Nat) (acc : List HE) (sg : HList), z = ((i : Int), ()) ∧ z' = 2000 - i ∧ 1 ≤ i ∧ i ≤ max 1 hs.length ∧ acc = (hs.take i).foldl (insK HE.ep) [] ∧ L'.Perm (sg ++ R) ∧ Own v 3 eHl ((acc.reverse ++ hs.drop i).flatMap HE.enc) sg) 1999
    ⟨1, _, seg, rfl, rfl, by omega, by omega, rfl, List.Perm.refl _, ?_⟩ ?_
  · cases hs with
    | nil => exact own
    | cons h t => exact own
  rintro z' z L1 ⟨i, acc, sg, rfl, rfl, hi1, hi2, hacc, hp, own1⟩
  dsimp only
  have hap : acc.Perm (hs.take i) := by rw [hacc]; have := foldl_insK_perm HE.ep (hs.take i) []; rwa [List.append_nil] at this
  have hal : acc.length = min i hs.length := by rw [hap.length_eq, List.length_take]
  refine ifb_of (fun (hlt : (i : Int) < hs.length) => ?_) (fun (hge : ¬ (i : Int) < hs.length) => ?_)
  · have hi : i < hs.length := by omega
    have hdr : hs.drop i = hs[i] :: hs.drop (i + 1) := List.drop_eq_getElem_cons hi
    generalize hx : hs[i] = x at hdr
    have hxe : 0 ≤ x.ep ∧ x.ep ≤ 4294967296 := hep x (by rw [← hx]; exact List.getElem_mem hi)
    have hst : ∀ acc', acc' = insK HE.ep acc x → acc' = (hs.take (i + 1)).foldl (insK HE.ep) [] := fun acc' h => by
      rw [h, List.take_succ_eq_append_getElem hi, List.foldl_append, ← hacc, hx]; rfl
    rw [hdr] at own1
    have hdone : ∀ (r p : List HE) (sg' L' : HList), L'.Perm (sg' ++ R) → Own v 3 eHl ((r.reverse ++ x :: (p ++ hs.drop (i + 1))).flatMap HE.enc) sg' → insK HE.ep acc x = p.reverse ++ x :: r →
        ∃ k', k' < 2000 - i ∧ ∃ (i' : Nat) (acc : List HE) (sg : HList), ((((i : Int) + 1 : Int), ()) : RsV [.lf (.int .i64)]) = ((i' : Int), ()) ∧ k' = 2000 - i' ∧ 1 ≤ i' ∧ i' ≤ max 1 hs.length ∧ acc = (hs.take i').foldl (insK HE.ep) [] ∧ L'.Perm (sg ++ R) ∧ Own v 3 eHl ((acc.reverse ++ hs.drop i').flatMap HE.enc) sg := by
      intro r p sg' L' hp' own' he
      refine ⟨2000 - (i + 1), by omega, i + 1, insK HE.ep acc x, sg', rfl, rfl, by omega, by omega, hst _ rfl, hp', ?_⟩
      rw [he, List.reverse_append, List.reverse_cons, List.reverse_reverse]
      simpa [List.append_assoc] using own'
    refine lp_of (fun z' z L' => ∃ (r p : List HE) (sg : HList), z = ((r.length : Int), ()) ∧ z' = r.length ∧ acc = p.reverse ++ r ∧ insK HE.ep acc x = p.reverse ++ insK HE.ep r x ∧ L'.Perm (sg ++ R) ∧ Own v 3 eHl ((r.reverse ++ x :: (p ++ hs.drop (i + 1))).flatMap HE.enc) sg) acc.length
      ⟨acc, [], sg, by rw [hal, Nat.min_eq_left (by omega)], rfl, rfl, rfl, hp, own1⟩ ?_
    rintro z' z L2 ⟨r, p, sg2, rfl, rfl, hrp, hins, hp2, own2⟩
    dsimp only
    have hrl : r.length ≤ 1000 := by have := congrArg List.length hrp; rw [List.length_append] at this; omega
    refine jn_of (fun _ L' => L' = L2 ∧ ∃ y r', r = y :: r' ∧ x.ep < y.ep) ?_ ?_
    · rintro _ _ ⟨rfl, y, r', rfl, hlt2⟩
      have hln : ((y :: r').length : Int) - 1 = (r'.length : Int) := by simp
      have hfl : (y :: r').reverse ++ x :: (p ++ hs.drop (i + 1)) = r'.reverse ++ y :: (x :: (p ++ hs.drop (i + 1))) := by simp
      rw [hfl] at own2
      have hn1 : r'.length < (r'.reverse ++ y :: (x :: (p ++ hs.drop (i + 1)))).length := by simp
      have hn2 : r'.length + 1 < (r'.reverse ++ y :: (x :: (p ++ hs.drop (i + 1)))).length := by simp
      have g1 : (r'.reverse ++ y :: (x :: (p ++ hs.drop (i + 1))))[r'.length]'hn1 = y := by rw [List.getElem_append_right (by simp)]; simp
      have g2 : (r'.reverse ++ y :: (x :: (p ++ hs.drop (i + 1))))[r'.length + 1]'hn2 = x := by rw [List.getElem_append_right (by simp)]; simp
      refine w64_of (by simp only [hln]; omega) (w64_of (by simp only [hln]; omega) ?_)
      rw [hln]
      refine elp_own HE.enc_len (by decide) own2 (psub0 hp2) rfl hn1 fun b0 hb0 ha3 => ?_
      refine elp_own HE.enc_len (by decide) own2 (psub0 hp2) (n := r'.length + 1) (by simp) hn2 fun b1 hb1 ha4 => ?_
      rw [g1] at ha3
      rw [g2] at ha4
      refine ld_of (y.b, y.ep, y.v, ()) ha3 (ld_of (x.b, x.ep, x.v, ()) ha4 ?_)
      refine st_own HE.enc_len (by decide) own2 hb1 hn2 y hp2 fun sg3 L3 hp3 own3 => ?_
      have e3 : (r'.reverse ++ y :: (x :: (p ++ hs.drop (i + 1)))).set (r'.length + 1) y = r'.reverse ++ y :: (y :: (p ++ hs.drop (i + 1))) := by
        rw [List.set_append_right _ _ (by simp)]; simp
      rw [e3] at own3
      refine elp_own HE.enc_len (by decide) own3 (psub0 hp3) (n := r'.length) rfl (by simp) fun b2 hb2 ha5 => ?_
      refine st_own HE.enc_len (by decide) own3 hb2 (by simp) x hp3 fun sg4 L4 hp4 own4 => ?_
      have e4 : (r'.reverse ++ y :: (y :: (p ++ hs.drop (i + 1)))).set r'.length x = r'.reverse ++ x :: ((y :: p) ++ hs.drop (i + 1)) := by
        rw [List.set_append_right _ _ (by simp)]; simp
      rw [e4] at own4
      refine w64_of (by omega) ⟨r'.length, by simp, r', y :: p, sg4, rfl, rfl, ?_, ?_, hp4, own4⟩
      · rw [hrp]; simp
      · rw [hins, insK, if_pos hlt2]; simp
    · intro j hj
      refine ifb_of (fun (h0 : (r.length : Int) > 0) => ?_) (fun (h0 : ¬ (r.length : Int) > 0) => ?_)
      · obtain ⟨y, r', rfl⟩ : ∃ y r', r = y :: r' := by
          cases r with
          | nil => simp at h0
          | cons y r' => exact ⟨y, r', rfl⟩
        have hln : ((y :: r').length : Int) - 1 = (r'.length : Int) := by simp
        have hfl : (y :: r').reverse ++ x :: (p ++ hs.drop (i + 1)) = r'.reverse ++ y :: (x :: (p ++ hs.drop (i + 1))) := by simp
        have own2' := own2
        rw [hfl] at own2'
        have hn1 : r'.length < (r'.reverse ++ y :: (x :: (p ++ hs.drop (i + 1)))).length := by simp
        have hn2 : r'.length + 1 < (r'.reverse ++ y :: (x :: (p ++ hs.drop (i + 1)))).length := by simp
        have g1 : (r'.reverse ++ y :: (x :: (p ++ hs.drop (i + 1))))[r'.length]'hn1 = y := by rw [List.getElem_append_right (by simp)]; simp
        have g2 : (r'.reverse ++ y :: (x :: (p ++ hs.drop (i + 1))))[r'.length + 1]'hn2 = x := by rw [List.getElem_append_right (by simp)]; simp
        have hye : 0 ≤ y.ep ∧ y.ep ≤ 4294967296 := hep y (List.mem_of_mem_take (hap.subset (by rw [hrp]; simp)))
        refine elp_own HE.enc_len (by decide) own2' (psub0 hp2) (n := r'.length + 1) (by simp) hn2 fun b1 hb1 ha1 => ?_
        refine w64_of (by simp only [hln]; omega) ?_
        rw [hln]
        refine elp_own HE.enc_len (by decide) own2' (psub0 hp2) rfl hn1 fun b2 hb2 ha2 => ?_
        rw [g2] at ha1
        rw [g1] at ha2
        refine ld_of (x.b, x.ep, x.v, ()) ha1 (ld_of (y.b, y.ep, y.v, ()) ha2 ?_)
        refine clv_of (by kernel_rfl) (cl_rd (cmp_rd L2 x y hxe hye) (x.ep - y.ep, ()) rfl (ifb_of (fun (hc : x.ep - y.ep < 0) => hj _ _ ⟨rfl, y, r', rfl, by omega⟩) (fun (hc : ¬ x.ep - y.ep < 0) => w64_of (by omega) ?_)))
        refine hdone (y :: r') p sg2 L2 hp2 own2 ?_
        rw [hins, insK, if_neg (by omega)]
      · obtain rfl : r = [] := by
          cases r with
          | nil => rfl
          | cons y r' => simp at h0
        exact w64_of (by omega) (hdone [] p sg2 L2 hp2 own2 hins)
  · have e : acc.reverse ++ hs.drop i = isort HE.ep hs := by
      rw [List.drop_eq_nil_of_le (by omega), List.append_nil, hacc, List.take_of_length_le (by omega)]; rfl
    rw [e] at own1
    exact .drop (A := sg ++ R) (J := []) ⟨sg, rfl, rfl, own1⟩ (by simpa using hp)
theorem ssort_cl (v : SlV) (hs : List HE) (seg R : HList) (own : Own v 3 eHl (hs.flatMap HE.enc) seg) (hep : ∀ h ∈ hs, 0 ≤ h.ep ∧ h.ep ≤ 4294967296) (hlen : hs.length ≤ 19) :
    CallF PP 53 #[.slice v.a v.len v.cap, .func (.func 54) #[] #[]] (seg ++ R) fun r L' => ∃ seg', r = .tuple #[] ∧ L' = seg' ++ R ∧ Own v 3 eHl ((isort HE.ep hs).flatMap HE.enc) seg' := by
  refine c53 v ⟨.func 54, #[], #[]⟩ ?_
  unfold s53
  have hvl := own.sl.els_len HE.enc_len (by decide)
  have key : CallF PP 79 #[.slice v.a v.len v.cap, .int .i64 v.len, .func (.func 54) #[] #[]] (seg ++ R) fun r L' => ∃ seg', r = .tuple #[] ∧ L' = seg' ++ R ∧ Own v 3 eHl ((isort HE.ep hs).flatMap HE.enc) seg' := by
    refine c79 v v.len ⟨.func 54, #[], #[]⟩ ?_
    unfold s79
    refine lp_of (fun z' z L' => z' = 0 ∧ z = (0, 20, ()) ∧ L' = seg ++ R) 0 ⟨rfl, rfl, rfl⟩ ?_
    rintro z' z _ ⟨rfl, rfl, rfl⟩
    dsimp only
    refine ifN (show ¬ ((20 : Int) ≤ v.len) by omega) ?_
    have hcall := isort_cl v hs seg R own hep (by omega)
    rw [← hvl] at hcall
    refine cl_of hcall ?_
    rintro _ _ - ⟨seg', rfl, rfl, own'⟩
    refine ⟨(), rfl, lp_of (fun z' z L' => z' = 0 ∧ z = (20, ()) ∧ L' = seg' ++ R) 0 ⟨rfl, rfl, rfl⟩ ?_⟩
    rintro z' z _ ⟨rfl, rfl, rfl⟩
    dsimp only
    exact ifN (show ¬ ((20 : Int) < v.len) by omega) (.of ⟨seg', rfl, rfl, own'⟩)
  refine cl_of key ?_
  rintro _ _ - ⟨seg', rfl, rfl, own'⟩
  exact ⟨(), rfl, .of ⟨seg', rfl, rfl, own'⟩⟩
end Go.Proofs.YtlabcgnegbdlfaaDoor
set_option linter.unusedVariables false
set_option linter.unusedSimpArgs false
namespace Go.Proofs.YtlabcgnegbdlfaaDoor
open Go.HL

/-- A block's pages. -/
structure BP where
  v : SlV
  gs : List PG
  seg : HList
def BP.val (b : BP) : Value := .slice b.v.a b.v.len b.v.cap
def BP.all (b : BP) : HList := b.seg ++ pgs b.gs
def BP.ls (b : BP) : List (List UInt8) := b.gs.map PG.l
structure BP.Ok (b : BP) : Prop where
  own : Own b.v 1 tB (b.gs.map PG.val) b.seg
  ok : ∀ g ∈ b.gs, g.Ok
  few : b.gs.length ≤ 16
  small : ∀ g ∈ b.gs, g.l.length ≤ 512
def bsegs (l : List BP) : HList := l.flatMap BP.all
theorem bsegs_app (a b : List BP) : bsegs (a ++ b) = bsegs a ++ bsegs b := List.flatMap_append
theorem bsegs_one (a : BP) : bsegs [a] = a.all := by simp [bsegs]
theorem BP.Ok.parts {L Y : HList} {b : BP} (h : b.Ok) (hp : L.Perm (b.all ++ Y)) : Parts L b.v (pvs b.gs) :=
  parts_l h.own h.ok (Y := Y) (hp.trans (pc fun z => by simp only [BP.all, cnt_a]; omega))
theorem BP.Ok.bnd {b : BP} (h : b.Ok) : (pvs b.gs).length ≤ 1000000 ∧ ∀ x ∈ pvs b.gs, x.2.length ≤ 1000000 := by
  refine ⟨by have := h.few; simp [pvs]; omega, fun x hx => ?_⟩
  simp only [pvs, List.mem_map] at hx
  obtain ⟨g, hg, rfl⟩ := hx
  have := h.small g hg
  simp only; omega
/-- The regions of a device, block by block. -/
def regR (d : Dev) (b : Nat) : Option HD := if (scanR (loadR d b).1).2 then some ((b : Int), (scanR (loadR d b).1).1.1, (scanR (loadR d b).1).1.2.2) else none
def rawR (d : Dev) (n : Nat) : List HD := (List.range n).filterMap (regR d)
def epK (h : HD) : Int := h.2.1
/-- The regions of a device, the least epoch first. -/
def heldR (d : Dev) : List HD := isort epK (rawR d d.c.B)
theorem regR_b {d : Dev} {b : Nat} {x : HD} (h : regR d b = some x) : x.1 = b ∧ (0 ≤ x.2.1 ∧ x.2.1 ≤ 1073741824) ∧ (∀ y ∈ x.2.2, itRng y) ∧ x.2.2.Pairwise (fun a b => a.2.1 < b.2.1) := by
  unfold regR at h
  split at h
  · obtain rfl := Option.some.inj h
    have h1 := scanR_ord (loadR d b).1
    exact ⟨rfl, scanR_ep _, h1.1, h1.2⟩
  · cases h
theorem rawR_mem {d : Dev} {n : Nat} {x : HD} (h : x ∈ rawR d n) : ∃ b : Nat, b < n ∧ regR d b = some x := by
  unfold rawR at h
  rw [List.mem_filterMap] at h
  obtain ⟨b, hb, hx⟩ := h
  exact ⟨b, List.mem_range.1 hb, hx⟩
theorem rawR_succ (d : Dev) (n : Nat) : rawR d (n + 1) = rawR d n ++ (regR d n).toList := by
  unfold rawR
  rw [List.range_succ, List.filterMap_append]
  congr 1
theorem rawR_len (d : Dev) (n : Nat) : (rawR d n).length ≤ n := by
  have := List.length_filterMap_le (regR d) (List.range n)
  rw [List.length_range] at this; exact this
structure Hold (d : Dev) (lv : SlV) (hs : List HE) (hseg : HList) (pv : SlV) (bs : List BP) (pseg : HList) : Prop where
  own : Own lv 3 eHl (hs.flatMap HE.enc) hseg
  ok : ∀ h ∈ hs, h.Ok
  dat : hs.map HE.dat = heldR d
  pown : Own pv 1 tPs (bs.map BP.val) pseg
  pok : ∀ b ∈ bs, b.Ok
  pdat : bs.map BP.ls = (List.range d.c.B).map fun (b : Nat) => (loadR d b).1
def HoldK (d : Dev) (A : HList) (r : Value) (L' : HList) : Prop := ∃ (lv : SlV) (hs : List HE) (hseg : HList) (pv : SlV) (bs : List BP) (pseg : HList), r = .tuple #[.slice lv.a lv.len lv.cap, .slice pv.a pv.len pv.cap, .int .i64 0] ∧
  L' = hseg ++ (hsegs hs ++ (pseg ++ (bsegs bs ++ A))) ∧ Hold d lv hs hseg pv bs pseg
theorem loadR_ok {d : Dev} (ok : DvOk d) (hdn : d.down = false) {b : Nat} (hb : b < d.c.B) : (loadR d b).2 = 0 := by
  have hP := ok.c.p
  have hl := ok.len
  have : findE d b 0 = 0 := by
    unfold findE
    rw [if_neg (by simp [hdn]), if_neg (by omega), if_neg (by omega)]
  unfold loadR
  rw [if_neg (by simp [this])]
theorem hold_cl (m : Nat) (d : Dev) (A : HList) (h : FH m d A) (ok : DvOk d) (hdn : d.down = false) : CallF PP 24 #[.pointer (some ⟨m, 0, none⟩)] A (HoldK d A) := by
  refine c24 (some ⟨m, 0, none⟩) ?_
  unfold s24
  have hB := ok.c.b
  refine cl_rd (config_rd m d A h) ((d.c.B, d.c.P, d.c.S, d.c.W, ()), ()) rfl ?_
  refine lp_of (fun z' z L' => ∃ (i : Nat) (lv : SlV) (hs : List HE) (hseg : HList) (pv : SlV) (bs : List BP) (pseg J : HList), i ≤ d.c.B ∧ z' = d.c.B - i ∧ z = (lv, pv, (i : Int), ()) ∧ L'.Perm (hseg ++ (hsegs hs ++ (pseg ++ (bsegs bs ++ (J ++ A))))) ∧
      Own lv 3 eHl (hs.flatMap HE.enc) hseg ∧ (∀ h ∈ hs, h.Ok) ∧ hs.map HE.dat = rawR d i ∧ Own pv 1 tPs (bs.map BP.val) pseg ∧ (∀ b ∈ bs, b.Ok) ∧ bs.map BP.ls = (List.range i).map fun (b : Nat) => (loadR d b).1) d.c.B
    ⟨0, ⟨none, 0, 0⟩, [], [], ⟨none, 0, 0⟩, [], [], [], by omega, by omega, rfl, List.Perm.refl _, own_nil, by simp, rfl, own_nil, by simp, rfl⟩ ?_
  rintro z' z L1 ⟨i, lv, hs, hseg, pv, bs, pseg, J, hi, rfl, rfl, hp, own, hok, hdat, pown, pok, pdat⟩
  dsimp only
  have hbl : bs.length = i := by have := congrArg List.length pdat; rw [List.length_map, List.length_map, List.length_range] at this; exact this
  have hhl : hs.length ≤ i := by have := congrArg List.length hdat; rw [List.length_map] at this; have h2 := rawR_len d i; omega
  have hlv := own.sl.els_len HE.enc_len (by decide)
  have hpv := pown.sl.len
  rw [List.length_map] at hpv
  refine ifb_of (fun (hlt : (i : Int) < d.c.B) => ?_) (fun (hge : ¬ (i : Int) < d.c.B) => ?_)
  · have hi' : i < d.c.B := by omega
    refine cl_pm (load_cl m d A h ok i) (R := hseg ++ (hsegs hs ++ (pseg ++ (bsegs bs ++ J)))) (pc fun z => by have := pcn hp z; simp only [cnt_a] at *; omega) ?_
    rintro _ _ ⟨v, gs, seg, rfl, rfl, gown, gok, gl⟩
    have hbn := load_bnd ok gl
    have hbo : BP.Ok ⟨v, gs, seg⟩ := ⟨gown, gok, by simpa [pvs] using hbn.1, fun g hg => hbn.2 (g.v, g.l) (List.mem_map_of_mem (f := fun g : PG => (g.v, g.l)) hg)⟩
    rw [loadR_ok ok hdn hi']
    refine ⟨_, List.Perm.refl _, (v, 0, ()), rfl, ifT rfl ?_⟩
    refine apv_pm elemPPs srcPPs pown (Y := seg ++ (pgs gs ++ A) ++ (hseg ++ (hsegs hs ++ (bsegs bs ++ J)))) (ws := [BP.val (⟨v, gs, seg⟩ : BP)]) (pc fun z => by simp only [cnt_a]; omega) rfl rfl (by omega) fun pv2 pseg2 hpl2 pown2 => ?_
    refine cl_of (scan_cl _ v (pvs gs) (hbo.parts (b := ⟨v, gs, seg⟩) (Y := pseg2 ++ (A ++ (hseg ++ (hsegs hs ++ (bsegs bs ++ J))))) (pc fun z => by simp only [BP.all, cnt_a]; omega)) hbo.bnd.1 hbo.bnd.2) ?_
    rintro _ _ - ⟨w, wseg, rfl, rfl, wown⟩
    have hls : (pvs gs).map Prod.snd = (loadR d i).1 := by rw [pvs_snd, gl]
    rw [hls] at wown ⊢
    have hpd : (bs ++ [(⟨v, gs, seg⟩ : BP)]).map BP.ls = (List.range (i + 1)).map fun (b : Nat) => (loadR d b).1 := by rw [List.map_append, pdat, List.range_succ, List.map_append, List.map_singleton, List.map_singleton]; exact congrArg (fun t => _ ++ [t]) gl
    have hpok : ∀ b ∈ bs ++ [(⟨v, gs, seg⟩ : BP)], BP.Ok b := fun b hb => by
      rcases List.mem_append.1 hb with hb | hb
      · exact pok b hb
      · rw [List.mem_singleton.1 hb]; exact hbo
    have hpo : Own pv2 1 tPs ((bs ++ [(⟨v, gs, seg⟩ : BP)]).map BP.val) pseg2 := by rw [List.map_append]; exact pown2
    refine ⟨(((scanR (loadR d i).1).1.1, (scanR (loadR d i).1).1.2.1, w, ()), (scanR (loadR d i).1).2, ()), rfl, ifB_of (fun (hs2 : (scanR (loadR d i).1).2 = true) => ?_) (fun (hs2 : (scanR (loadR d i).1).2 = false) => ?_)⟩
    · have hreg : regR d i = some ((i : Int), (scanR (loadR d i).1).1.1, (scanR (loadR d i).1).1.2.2) := by unfold regR; rw [if_pos hs2]
      refine apv_pm elemHl srcHl own (Y := wseg ++ (pseg2 ++ (seg ++ (pgs gs ++ A) ++ ((hsegs hs ++ (bsegs bs ++ J)))))) (ws := HE.enc ⟨i, (scanR (loadR d i).1).1.1, w, wseg, (scanR (loadR d i).1).1.2.2⟩) (pc fun z => by simp only [cnt_a]; omega) rfl rfl (by omega) fun lv2 hseg2 hl2 own2 => ?_
      refine w64_of (by omega) ⟨d.c.B - (i + 1), by omega, i + 1, lv2, hs ++ [⟨i, (scanR (loadR d i).1).1.1, w, wseg, (scanR (loadR d i).1).1.2.2⟩], hseg2, pv2, bs ++ [(⟨v, gs, seg⟩ : BP)], pseg2, J, by omega, rfl, rfl, ?_, ?_, ?_, ?_, hpo, hpok, hpd⟩
      · rw [hsegs_app, hsegs_one, bsegs_app, bsegs_one]
        exact pc fun z => by simp only [BP.all, cnt_a]; omega
      · rw [List.flatMap_append, List.flatMap_singleton]; exact own2
      · intro x hx
        rcases List.mem_append.1 hx with hx | hx
        · exact hok x hx
        · rw [List.mem_singleton.1 hx]; exact wown
      · rw [rawR_succ, hreg, List.map_append, hdat]; rfl
    · have hreg : regR d i = none := by unfold regR; rw [if_neg (by simp [hs2])]
      refine w64_of (by omega) ⟨d.c.B - (i + 1), by omega, i + 1, lv, hs, hseg, pv2, bs ++ [(⟨v, gs, seg⟩ : BP)], pseg2, J ++ wseg, by omega, rfl, rfl, ?_, own, hok, ?_, hpo, hpok, hpd⟩
      · rw [bsegs_app, bsegs_one]
        exact pc fun z => by simp only [BP.all, cnt_a]; omega
      · rw [rawR_succ, hreg, hdat]; simp
  · obtain rfl : i = d.c.B := by omega
    have hep : ∀ x ∈ hs, 0 ≤ x.ep ∧ x.ep ≤ 4294967296 := by
      intro x hx
      have hm : x.dat ∈ rawR d d.c.B := by rw [← hdat]; exact List.mem_map_of_mem hx
      obtain ⟨b, -, hb⟩ := rawR_mem hm
      have h1 := (regR_b hb).2.1
      have h2 : x.dat.2.1 = x.ep := rfl
      omega
    refine cl_of (CallF.perm hp.symm (ssort_cl lv hs hseg (hsegs hs ++ (pseg ++ (bsegs bs ++ (J ++ A)))) own hep (by omega))) ?_
    rintro _ _ - ⟨hseg2, rfl, rfl, own2⟩
    refine ⟨(), rfl, .drop (A := hseg2 ++ (hsegs (isort HE.ep hs) ++ (pseg ++ (bsegs bs ++ A)))) (J := J) ⟨lv, isort HE.ep hs, hseg2, pv, bs, pseg, rfl, rfl, own2, fun x hx => hok x ((isort_perm HE.ep hs).subset hx), ?_, pown, pok, pdat⟩ ?_⟩
    · rw [isort_map HE.ep HE.dat epK (fun _ => rfl), hdat]; rfl
    · exact pc fun z => by have := flatMap_cnt HE.seg (isort_perm HE.ep hs) z; simp only [hsegs, cnt_a]; omega
end Go.Proofs.YtlabcgnegbdlfaaDoor
set_option linter.unusedVariables false
set_option linter.unusedSimpArgs false
namespace Go.Proofs.YtlabcgnegbdlfaaDoor
open Go.HL

def selI (kind : Int) (h : HE) (l : List It) : List (HE × It) := (l.filter fun x => decide (x.1 = kind)).map fun x => (h, x)
def selE (kind : Int) (hs : List HE) : List (HE × It) := hs.flatMap fun h => selI kind h h.l
theorem selI_app (kind : Int) (h : HE) (a b : List It) : selI kind h (a ++ b) = selI kind h a ++ selI kind h b := by simp [selI]
theorem selI_yes {kind : Int} {h : HE} {x : It} (e : x.1 = kind) : selI kind h [x] = [(h, x)] := by simp [selI, e]
theorem selI_no {kind : Int} {h : HE} {x : It} (e : ¬ x.1 = kind) : selI kind h [x] = [] := by simp [selI, e]
theorem selE_app (kind : Int) (a b : List HE) : selE kind (a ++ b) = selE kind a ++ selE kind b := List.flatMap_append
theorem selE_one (kind : Int) (h : HE) : selE kind [h] = selI kind h h.l := by simp [selE]
theorem selE_mem {kind : Int} {hs : List HE} {q : HE × It} (h : q ∈ selE kind hs) : q.1 ∈ hs ∧ q.2 ∈ q.1.l ∧ q.2.1 = kind := by
  unfold selE selI at h
  simp only [List.mem_flatMap, List.mem_map, List.mem_filter, decide_eq_true_eq] at h
  obtain ⟨a, ha, x, ⟨hx, he⟩, rfl⟩ := h
  exact ⟨ha, hx, he⟩
theorem split_at {α : Type} (l : List α) {i : Nat} (hi : i < l.length) : l = l.take i ++ l[i] :: l.drop (i + 1) := by
  rw [← List.drop_eq_getElem_cons hi, List.take_append_drop]
theorem take_snoc {α : Type} (l : List α) {i : Nat} (hi : i < l.length) : l.take (i + 1) = l.take i ++ [l[i]] := by rw [List.take_succ_eq_append_getElem hi]
theorem each_it (v : SlV) (hs : List HE) (kind : Int) (fn : FnV) (I : List (HE × It) → HList → Prop) (hlen : hs.length ≤ 1000000) (hb : ∀ h ∈ hs, h.l.length ≤ 1000000)
    (hI : ∀ done L, I done L → Sl L v 3 (hs.flatMap HE.enc) ∧ ∀ h ∈ hs, Sl L h.v 3 (h.l.flatMap itEnc))
    (step : ∀ (done rest : List (HE × It)) (h : HE) (x : It) (L : HList) (k : RsV [] → HP), selE kind hs = done ++ (h, x) :: rest → I done L → (∀ L', I (done ++ [(h, x)]) L' → k () L') →
      clv PP fn.fn (fn.first ++ #[.agg #[.int .i64 h.b, .int .i64 h.ep, .slice h.v.a h.v.len h.v.cap], .agg #[.int .i64 x.1, .int .i64 x.2.1, .int .i64 x.2.2.1]]) fn.captured [] k L)
    {L : HList} (h0 : I [] L) : CallF PP 25 #[.slice v.a v.len v.cap, .int .i64 kind, .func fn.fn fn.first fn.captured] L fun r L' => r = .tuple #[] ∧ I (selE kind hs) L' := by
  refine c25 v kind fn ?_
  unfold s25
  have hvl := (hI _ _ h0).1.els_len HE.enc_len (by decide)
  refine lp_of (fun z' z L' => ∃ i : Nat, i ≤ hs.length ∧ z' = hs.length - i ∧ z = ((i : Int), ()) ∧ I (selE kind (hs.take i)) L') hs.length ⟨0, by omega, by omega, rfl, h0⟩ ?_
  rintro z' z L1 ⟨i, hi, rfl, rfl, hI1⟩
  dsimp only
  refine ifb_of (fun (hlt : (i : Int) < v.len) => ?_) (fun (hge : ¬ (i : Int) < v.len) => ?_)
  · have hi' : i < hs.length := by omega
    refine elp_el HE.enc_len (by decide) (hI _ _ hI1).1 rfl hi' fun a ha => ?_
    have hmem : hs[i] ∈ hs := List.getElem_mem hi'
    have hsp := split_at hs hi'
    have htk := take_snoc hs hi'
    generalize hs[i] = h at ha hmem hsp htk
    refine ld_of (h.b, h.ep, h.v, ()) ha ?_
    dsimp only
    have hhl := ((hI _ _ hI1).2 h hmem).els_len itEnc_len (by decide)
    have hhb := hb h hmem
    refine lp_of (fun z' z L' => ∃ j : Nat, j ≤ h.l.length ∧ z' = h.l.length - j ∧ z = ((j : Int), ()) ∧ I (selE kind (hs.take i) ++ selI kind h (h.l.take j)) L') h.l.length ⟨0, by omega, by omega, rfl, by simpa [selI] using hI1⟩ ?_
    rintro z' z L2 ⟨j, hj, rfl, rfl, hI2⟩
    dsimp only
    refine ifb_of (fun (hlt2 : (j : Int) < h.v.len) => ?_) (fun (hge2 : ¬ (j : Int) < h.v.len) => ?_)
    · have hj' : j < h.l.length := by omega
      refine elp_el itEnc_len (by decide) ((hI _ _ hI2).2 h hmem) rfl hj' fun a2 ha2 => ?_
      have hsp2 := split_at h.l hj'
      have htk2 := take_snoc h.l hj'
      generalize h.l[j] = x at ha2 hsp2 htk2
      refine ld_of x ha2 (ifb_of (fun (hk : x.1 = kind) => ?_) (fun (hk : ¬ x.1 = kind) => ?_))
      · refine step (selE kind (hs.take i) ++ selI kind h (h.l.take j)) (selI kind h (h.l.drop (j + 1)) ++ selE kind (hs.drop (i + 1))) h x L2 _ ?_ hI2 fun L' hI3 => ?_
        · conv => lhs; rw [hsp]
          rw [selE_app, show h :: hs.drop (i + 1) = [h] ++ hs.drop (i + 1) from rfl, selE_app, selE_one]
          conv => lhs; rw [hsp2]
          rw [selI_app, show x :: h.l.drop (j + 1) = [x] ++ h.l.drop (j + 1) from rfl, selI_app, selI_yes hk]
          simp [List.append_assoc]
        · refine w64_of (by omega) ⟨h.l.length - (j + 1), by omega, j + 1, by omega, rfl, rfl, ?_⟩
          rw [htk2, selI_app, selI_yes hk, ← List.append_assoc]; exact hI3
      · refine w64_of (by omega) ⟨h.l.length - (j + 1), by omega, j + 1, by omega, rfl, rfl, ?_⟩
        rw [htk2, selI_app, selI_no hk, List.append_nil]; exact hI2
    · obtain rfl : j = h.l.length := by omega
      refine w64_of (by omega) ⟨hs.length - (i + 1), by omega, i + 1, by omega, rfl, rfl, ?_⟩
      rw [htk, selE_app, selE_one]
      rw [List.take_length] at hI2
      exact hI2
  · obtain rfl : i = hs.length := by omega
    rw [List.take_length] at hI1
    exact .of ⟨rfl, hI1⟩
abbrev LE := ByteArray × It
def LE.enc (x : LE) : List Value := [.string x.1, .int .i64 x.2.1, .int .i64 x.2.2.1, .int .i64 x.2.2.2.1]
theorem LE.enc_len (x : LE) : (LE.enc x).length = 4 := rfl
def keyB (l : List UInt8) : ByteArray := ⟨l.toArray⟩
def plOf (h : HD) (x : It) : It := (h.1, x.2.1, h.2.1, ())
def liveOf (d : Dev) (q : HD × It) : Option LE := if (fetchR d (plOf q.1 q.2)).2.2 = 0 then some (keyB (fetchR d (plOf q.1 q.2)).1, plOf q.1 q.2) else none
def killsOf (d : Dev) (q : HD × It) : List It := (partsR (loadR d q.1.1).1 q.2).flatMap fun b => (killsR b).1
def datQ (q : HE × It) : HD × It := (q.1.dat, q.2)
abbrev eLv : TypeId := 43
theorem elemLv : ElemT PP 31 eLv 4 40 [.string ⟨#[]⟩, .int .i64 0, .int .i64 0, .int .i64 0] := elemT_of (by kernel_rfl) (by kernel_rfl) rfl (by decide) (by decide)
theorem srcLv : SrcT PP 31 := .inl ⟨eLv, by kernel_rfl⟩
def plV (p : It) : Value := .agg #[.int .i64 p.1, .int .i64 p.2.1, .int .i64 p.2.2.1]
theorem mapL : MapT PP 70 9 41 Value.string (plV (0, 0, 0, ())) := mapT_of (by kernel_rfl) (keyStr (by kernel_rfl)) (by kernel_rfl)
theorem eqAt_pl (x y : It) : eqAt PP 100 ePlc (itEnc x) (itEnc y) = some (decide (x = y)) := by
  have h : eqAt PP 100 ePlc [.int .i64 x.1, .int .i64 x.2.1, .int .i64 x.2.2.1] [.int .i64 y.1, .int .i64 y.2.1, .int .i64 y.2.2.1] = some (x.1 == y.1 && (x.2.1 == y.2.1 && (x.2.2.1 == y.2.2.1 && true))) := by kernel_rfl
  unfold itEnc
  rw [h]
  clear h
  refine congrArg some ?_
  obtain ⟨a, b, c, ⟨⟩⟩ := x
  obtain ⟨a', b', c', ⟨⟩⟩ := y
  rw [Bool.eq_iff_iff]; simp
theorem same_pl (a : It) : Instr.sameBits 10000 (plV a) (plV a) = true := by
  have h : ∀ n, Instr.sameBits (n + 1) (plV a) (plV a) = true := by intro n; simp [plV, Instr.sameBits]
  have h2 := h 9999
  rw [show 9999 + 1 = 10000 from rfl] at h2
  exact h2
theorem mapK : MapT PP 75 41 4 plV (.bool false) := mapT_of (by kernel_rfl) (keyStruct itEnc (fun _ => rfl) undPlc eqAt_pl same_pl) (by kernel_rfl)
def lastM (l : List LE) : List (ByteArray × Value) := l.foldl (fun m x => mput m x.1 (plV x.2)) []
def killM (l : List It) : List (It × Value) := l.foldl (fun m p => mput m p (.bool true)) []
theorem lastM_snoc (l : List LE) (x : LE) : lastM (l ++ [x]) = mput (lastM l) x.1 (plV x.2) := by simp [lastM]
theorem killM_snoc (l : List It) (x : It) : killM (l ++ [x]) = mput (killM l) x (.bool true) := by simp [killM]
/-- What was read of the entries so far. -/
def I1 (n6 n7 : Nat) (F : HList) (all : List LE) (L : HList) : Prop := ∃ (av : SlV) (aseg : HList) (es : Array MapEntry) (ck : Nat) (J : HList), L.Perm ((n6, Obj.cells #[.slice av.a av.len av.cap] 31) :: ((n7, Obj.map es ck) :: (aseg ++ (J ++ F)))) ∧
  Own av 4 eLv (all.flatMap LE.enc) aseg ∧ Mp Value.string es (lastM all)
theorem I1.sub {n6 n7 : Nat} {F : HList} {all : List LE} {L : HList} (h : I1 n6 n7 F all L) : ∀ x ∈ F, x ∈ L := by
  obtain ⟨av, aseg, es, ck, J, hL, -⟩ := h
  exact fun x hx => hL.symm.subset (by simp [hx])
theorem read1_cl (m : Nat) (d : Dev) (A : HList) (h : FH m d A) (ok : DvOk d) (n1 n6 n7 n8 : Nat) (T1 : TypeId) (R F : HList) (hF : F.Perm (A ++ R)) (h1 : (n1, Obj.cells #[.pointer (some ⟨m, 0, none⟩)] T1) ∈ F) (h8 : (n8, Obj.cells #[.map (some n7)] 70) ∈ F)
    (all : List LE) (hal : all.length ≤ 1000000) (he : HE) (x : It) (hx : itRng x) (L : HList) (hL : I1 n6 n7 F all L) :
    CallF PP 26 #[.agg #[.int .i64 he.b, .int .i64 he.ep, .slice he.v.a he.v.len he.v.cap], .agg #[.int .i64 x.1, .int .i64 x.2.1, .int .i64 x.2.2.1], .pointer (some ⟨n1, 0, none⟩), .pointer (some ⟨n6, 0, none⟩), .pointer (some ⟨n8, 0, none⟩)] L
      fun r L' => r = .tuple #[] ∧ I1 n6 n7 F (all ++ (liveOf d (he.dat, x)).toList) L' := by
  refine c26 (he.b, he.ep, he.v, ()) x (some ⟨n1, 0, none⟩) (some ⟨n6, 0, none⟩) (some ⟨n8, 0, none⟩) ?_
  unfold s26
  dsimp only
  have hx' := hx
  unfold itRng at hx'
  have hpl : plOf he.dat x = (he.b, x.2.1, he.ep, ()) := rfl
  refine nilc_of rfl (ld_of (some ⟨m, 0, none⟩) (ldB (hL.sub _ h1) rfl) ?_)
  have hL0 := hL
  obtain ⟨av, aseg, es, ck, J, hp, own, hm⟩ := hL
  have hfe := fetch_cl m d A h ok (plOf he.dat x) (wf_mk (by rw [hpl]; simp only; omega))
  refine cl_pm (R := (n6, Obj.cells #[.slice av.a av.len av.cap] 31) :: ((n7, Obj.map es ck) :: (aseg ++ (J ++ R)))) hfe (pc fun z => by have := pcn hp z; have := pcn hF z; simp only [cnt_a, cnt_c] at *; omega) ?_
  rintro _ _ ⟨g, rfl, rfl, hg, hgl⟩
  generalize hq : fetchR d (plOf he.dat x) = q
  have hI1 : I1 n6 n7 F all (g.seg ++ A ++ ((n6, Obj.cells #[.slice av.a av.len av.cap] 31) :: ((n7, Obj.map es ck) :: (aseg ++ (J ++ R))))) :=
    ⟨av, aseg, es, ck, g.seg ++ J, pc fun z => by have := pcn hF z; simp only [cnt_a, cnt_c] at *; omega, own, hm⟩
  refine ⟨_, List.Perm.refl _, (keyB q.1, g.v, q.2.2, ()), rfl, ifb_of (fun (h0 : q.2.2 = 0) => ?_) (fun (h0 : ¬ q.2.2 = 0) => ?_)⟩
  · have hlo : liveOf d (he.dat, x) = some (keyB q.1, plOf he.dat x) := by unfold liveOf; simp only; rw [hq, if_pos h0]
    rw [hlo]
    obtain ⟨av, aseg, es, ck, J, hp, own, hm⟩ := hI1
    have hl := own.sl.els_len LE.enc_len (by decide)
    refine nilc_of rfl (ld_of av (ldB (hp.symm.subset List.mem_cons_self) rfl) ?_)
    refine apv_pm elemLv srcLv own (Y := (n6, Obj.cells #[.slice av.a av.len av.cap] 31) :: ((n7, Obj.map es ck) :: (J ++ F))) (ws := LE.enc (keyB q.1, plOf he.dat x)) (pc fun z => by have := pcn hp z; simp only [cnt_a, cnt_c] at *; omega) rfl rfl (by omega) fun av2 aseg2 hl2 own2 => ?_
    refine st_pm (n := n6) (off := 0) (c := #[.slice av.a av.len av.cap]) (T := 31) (fz := (0, 0)) (Y := (n7, Obj.map es ck) :: (aseg2 ++ (J ++ F))) (pc fun z => by simp only [cnt_a, cnt_c]; omega) rfl (by simp) (.inl (Nat.le_refl _)) #[.slice av2.a av2.len av2.cap] rfl fun L2 hp2 => ?_
    refine nilc_of rfl (ld_of (some n7) (ldB (c := #[.map (some n7)]) (T := 70) (fz := (0, 0)) (hp2.symm.subset (by simp [h8])) rfl) ?_)
    refine update_pm mapL (es := es) (clock := ck) (Y := (n6, Obj.cells #[.slice av2.a av2.len av2.cap] 31) :: (aseg2 ++ (J ++ F))) (pc fun z => by have := pcn hp2 z; simp only [cnt_a, cnt_c] at *; omega) hm (keyB q.1) (plV (plOf he.dat x)) fun es2 ck2 L3 hm2 hp3 => ?_
    refine .of ⟨rfl, av2, aseg2, es2, ck2, J, pc fun z => by have := pcn hp3 z; simp only [cnt_a, cnt_c] at *; omega, ?_, ?_⟩
    · rw [Option.toList_some, List.flatMap_append, List.flatMap_singleton]; exact own2
    · rw [Option.toList_some, lastM_snoc]; exact hm2
  · have hlo : liveOf d (he.dat, x) = none := by unfold liveOf; simp only; rw [hq, if_neg h0]
    rw [hlo, Option.toList_none, List.append_nil]
    exact .of ⟨rfl, hI1⟩
end Go.Proofs.YtlabcgnegbdlfaaDoor
set_option linter.unusedVariables false
set_option linter.unusedSimpArgs false
namespace Go.Proofs.YtlabcgnegbdlfaaDoor
open Go.HL

def I2 (n9 : Nat) (F : HList) (ks : List It) (L : HList) : Prop := ∃ (es : Array MapEntry) (ck : Nat) (J : HList), L.Perm ((n9, Obj.map es ck) :: (J ++ F)) ∧ Mp plV es (killM ks)
theorem I2.sub {n9 : Nat} {F : HList} {ks : List It} {L : HList} (h : I2 n9 F ks L) : ∀ x ∈ F, x ∈ L := by
  obtain ⟨es, ck, J, hL, -⟩ := h
  exact fun x hx => hL.symm.subset (by simp [hx])
theorem I2.more {n9 : Nat} {F X : HList} {ks : List It} {L L' : HList} (h : I2 n9 F ks L) (hp : L'.Perm (X ++ L)) : I2 n9 (X ++ F) ks L' := by
  obtain ⟨es, ck, J, hL, hm⟩ := h
  exact ⟨es, ck, J, pc fun z => by have := pcn hL z; have := pcn hp z; simp only [cnt_a, cnt_c] at *; omega, hm⟩
theorem I2.less {n9 : Nat} {F X : HList} {ks : List It} {L : HList} (h : I2 n9 (X ++ F) ks L) : I2 n9 F ks L := by
  obtain ⟨es, ck, J, hL, hm⟩ := h
  exact ⟨es, ck, J ++ X, pc fun z => by have := pcn hL z; simp only [cnt_a, cnt_c] at *; omega, hm⟩
theorem killsR_len (p : List UInt8) : (killsR p).1.length ≤ p.length := by
  unfold killsR
  split
  · simp
  · split
    · simp only [pls_len]; omega
    · simp
theorem partsG_mem {ps : List (List UInt8)} (hb : ∀ x ∈ ps, x.length ≤ 512) {pg : Int} : ∀ {n : Nat} {l : List (List UInt8)}, partsG ps pg n = some l → ∀ x ∈ l, x.length ≤ 512
  | 0, l, h => by obtain rfl := Option.some.inj h; simp
  | n + 1, l, h => by
    rw [partsG] at h
    split at h
    · rename_i l' hl'
      split at h
      · cases h
      · split at h
        · obtain rfl := Option.some.inj h
          intro x hx
          rcases List.mem_append.1 hx with hx | hx
          · exact partsG_mem hb hl' x hx
          · rw [List.mem_singleton.1 hx]
            refine Nat.le_trans (parR_len _) ?_
            rw [List.getD_eq_getElem?_getD]
            cases hg : ps[pg.toNat + n]? with
            | none => simp
            | some b => exact hb b (List.mem_of_getElem? hg)
        · cases h
    · cases h
theorem partsR_bnd {ps : List (List UInt8)} (hb : ∀ x ∈ ps, x.length ≤ 512) (x : It) : (partsR ps x).length ≤ x.2.2.1.toNat ∧ ∀ p ∈ partsR ps x, p.length ≤ 512 := by
  unfold partsR
  cases h : partsG ps x.2.1 x.2.2.1.toNat with
  | none => simp
  | some l => exact ⟨by simp [(partsG_len h).1], partsG_mem hb h⟩
theorem read2_cl (d : Dev) (n3 n9 n10 : Nat) (F pseg : HList) (pv : SlV) (bs : List BP) (pown : Own pv 1 tPs (bs.map BP.val) pseg) (pok : ∀ b ∈ bs, b.Ok) (pdat : bs.map BP.ls = (List.range d.c.B).map fun (b : Nat) => (loadR d b).1)
    (hpF : ∀ x ∈ pseg, x ∈ F) (hbF : ∀ x ∈ bsegs bs, x ∈ F) (h3 : (n3, Obj.cells #[.slice pv.a pv.len pv.cap] 67) ∈ F) (h10 : (n10, Obj.cells #[.map (some n9)] 75) ∈ F)
    (ks : List It) (he : HE) (b : Nat) (hb : he.b = b) (hbB : b < d.c.B) (x : It) (hx : itRng x) (L : HList) (hL : I2 n9 F ks L) :
    CallF PP 27 #[.agg #[.int .i64 he.b, .int .i64 he.ep, .slice he.v.a he.v.len he.v.cap], .agg #[.int .i64 x.1, .int .i64 x.2.1, .int .i64 x.2.2.1], .pointer (some ⟨n3, 0, none⟩), .pointer (some ⟨n10, 0, none⟩)] L
      fun r L' => r = .tuple #[] ∧ I2 n9 F (ks ++ killsOf d (he.dat, x)) L' := by
  refine c27 (he.b, he.ep, he.v, ()) x (some ⟨n3, 0, none⟩) (some ⟨n10, 0, none⟩) ?_
  unfold s27
  dsimp only
  have hx' := hx
  unfold itRng at hx'
  have hbl : bs.length = d.c.B := by have := congrArg List.length pdat; rw [List.length_map, List.length_map, List.length_range] at this; exact this
  have hi : b < bs.length := by omega
  refine nilc_of rfl (ld_of pv (ldB (hL.sub _ h3) rfl) ?_)
  refine elp_1 (pown.sl.mono fun y hy => hL.sub _ (hpF y hy)) hb (by rw [List.length_map]; exact hi) fun a ha => ?_
  rw [List.getElem_map] at ha
  have hbm : bs[b] ∈ bs := List.getElem_mem hi
  have hls : bs[b].ls = (loadR d b).1 := by
    have h1 : (bs.map BP.ls)[b]? = some bs[b].ls := by rw [List.getElem?_map, List.getElem?_eq_getElem hi]; rfl
    rw [pdat, List.getElem?_map, List.getElem?_range hbB] at h1
    exact (Option.some.inj h1).symm
  generalize bs[b] = q at ha hbm hls
  have hq := pok q hbm
  have hqF : ∀ y ∈ q.all, y ∈ F := fun y hy => hbF y (List.mem_flatMap.2 ⟨q, hbm, hy⟩)
  have hqp : Parts L q.v (pvs q.gs) := parts_of hq.own hq.ok (fun y hy => hL.sub _ (hqF y (List.mem_append_left _ hy))) (fun y hy => hL.sub _ (hqF y (List.mem_append_right _ hy)))
  refine ld_of q.v ha (cl_of (ppartsrg_cl L q.v (pvs q.gs) hqp hq.bnd.1 hq.bnd.2 x ⟨wf_mk (by omega), wf_mk (by omega)⟩) ?_)
  rintro _ _ - ⟨v2, gs2, seg2, rfl, rfl, own2, ok2, l2⟩
  have hsn : (pvs q.gs).map Prod.snd = (loadR d b).1 := by rw [pvs_snd]; exact hls
  rw [hsn] at l2
  have hko : killsOf d (he.dat, x) = gs2.flatMap fun g => (killsR g.l).1 := by
    unfold killsOf
    show (partsR (loadR d he.b).1 x).flatMap _ = _
    rw [hb, ← l2, List.flatMap_map]
  have hpb := partsR_bnd (ps := (loadR d b).1) (by
    intro y hy
    rw [← hls] at hy
    unfold BP.ls at hy
    simp only [List.mem_map] at hy
    obtain ⟨g, hg, rfl⟩ := hy
    exact hq.small g hg) x
  rw [← l2, List.length_map] at hpb
  have hvl := own2.sl.len
  rw [List.length_map] at hvl
  refine ⟨(v2, ()), rfl, ?_⟩
  dsimp only
  refine lp_of (fun z' z L' => ∃ i : Nat, i ≤ gs2.length ∧ z' = gs2.length - i ∧ z = ((i : Int), ()) ∧ I2 n9 ((seg2 ++ pgs gs2) ++ F) (ks ++ (gs2.take i).flatMap fun g => (killsR g.l).1) L') gs2.length
    ⟨0, by omega, by omega, rfl, by simpa using hL.more (X := seg2 ++ pgs gs2) (pc fun z => by simp only [cnt_a]; omega)⟩ ?_
  rintro z' z L2 ⟨i, hi2, rfl, rfl, hI2⟩
  dsimp only
  refine ifb_of (fun (hlt : (i : Int) < v2.len) => ?_) (fun (hge : ¬ (i : Int) < v2.len) => ?_)
  · have hi' : i < gs2.length := by omega
    refine elp_1 (own2.sl.mono fun y hy => hI2.sub _ (by simp [hy])) rfl (by rw [List.length_map]; exact hi') fun a2 ha2 => ?_
    rw [List.getElem_map] at ha2
    have hgm : gs2[i] ∈ gs2 := List.getElem_mem hi'
    have htk := take_snoc gs2 hi'
    generalize gs2[i] = g at ha2 hgm htk
    have hgl : g.l.length ≤ 512 := hpb.2 _ (List.mem_map_of_mem hgm)
    have hkl := killsR_len g.l
    refine ld_of g.v ha2 (cl_of (kills_cl L2 g.v g.l (Sl.mono (ok2 g hgm).sl fun y hy => hI2.sub _ (by simp only [List.mem_append]; exact .inl (.inr (List.mem_flatMap.2 ⟨g, hgm, hy⟩)))) (by omega)) ?_)
    rintro _ _ - ⟨kv, kseg, rfl, rfl, kown⟩
    generalize hkr : killsR g.l = kr at kown hkl
    have hkvl := kown.sl.els_len itEnc_len (by decide)
    refine ⟨(kv, kr.2, ()), rfl, ?_⟩
    dsimp only
    refine lp_of (fun z' z L' => ∃ j : Nat, j ≤ kr.1.length ∧ z' = kr.1.length - j ∧ z = ((j : Int), ()) ∧ I2 n9 (kseg ++ ((seg2 ++ pgs gs2) ++ F)) ((ks ++ (gs2.take i).flatMap fun g => (killsR g.l).1) ++ kr.1.take j) L') kr.1.length
      ⟨0, by omega, by omega, rfl, by simpa using hI2.more (X := kseg) (List.Perm.refl _)⟩ ?_
    rintro z' z L3 ⟨j, hj, rfl, rfl, hI3⟩
    dsimp only
    refine ifb_of (fun (hlt2 : (j : Int) < kv.len) => ?_) (fun (hge2 : ¬ (j : Int) < kv.len) => ?_)
    · have hj' : j < kr.1.length := by omega
      refine elp_el itEnc_len (by decide) (kown.sl.mono fun y hy => hI3.sub _ (by simp [hy])) rfl hj' fun a3 ha3 => ?_
      have htk2 := take_snoc kr.1 hj'
      generalize kr.1[j] = p at ha3 htk2
      refine ld_of p ha3 (nilc_of rfl (ld_of (some n9) (ldB (c := #[.map (some n9)]) (T := 75) (fz := (0, 0)) (hI3.sub _ (by simp [h10])) rfl) ?_))
      obtain ⟨es, ck, J, hp3, hm3⟩ := hI3
      refine update_pm mapK hp3 hm3 p (.bool true) fun es2 ck2 L4 hm4 hp4 => ?_
      refine w64_of (by omega) ⟨kr.1.length - (j + 1), by omega, j + 1, by omega, rfl, rfl, es2, ck2, J, hp4, ?_⟩
      rw [htk2, ← List.append_assoc, killM_snoc]; exact hm4
    · obtain rfl : j = kr.1.length := by omega
      rw [List.take_length] at hI3
      refine w64_of (by omega) ⟨gs2.length - (i + 1), by omega, i + 1, by omega, rfl, rfl, ?_⟩
      rw [htk, List.flatMap_append, List.flatMap_singleton, hkr, ← List.append_assoc]
      exact hI3.less
  · obtain rfl : i = gs2.length := by omega
    rw [List.take_length, ← hko] at hI2
    exact .of ⟨rfl, hI2.less⟩
def lastOf (l : List LE) (k : ByteArray) : Option It := (l.reverse.find? fun x => decide (x.1 = k)).map Prod.snd
theorem lastOf_snoc (l : List LE) (x : LE) (k : ByteArray) : lastOf (l ++ [x]) k = if k = x.1 then some x.2 else lastOf l k := by
  unfold lastOf
  rw [List.reverse_append, List.reverse_singleton, List.singleton_append]
  by_cases h : k = x.1
  · rw [if_pos h, List.find?_cons_of_pos (by simp [h])]; rfl
  · rw [if_neg h, List.find?_cons_of_neg (by simpa using fun e => h e.symm)]
theorem lastM_get (l : List LE) (k : ByteArray) : mget (lastM l) k = (lastOf l k).map plV ∧ ((lastM l).map Prod.fst).Nodup := by
  obtain ⟨r, rfl⟩ : ∃ r, l = r.reverse := ⟨l.reverse, by simp⟩
  induction r with
  | nil => exact ⟨rfl, List.nodup_nil⟩
  | cons x r ih =>
    rw [List.reverse_cons, lastM_snoc, lastOf_snoc]
    refine ⟨?_, (mput_keys _ _ _ ih.2).1⟩
    rw [mget_mput, ih.1]
    split <;> rfl
theorem killM_get (l : List It) (p : It) : mget (killM l) p = if p ∈ l then some (.bool true) else none := by
  obtain ⟨r, rfl⟩ : ∃ r, l = r.reverse := ⟨l.reverse, by simp⟩
  induction r with
  | nil => rfl
  | cons x r ih =>
    rw [List.reverse_cons, killM_snoc, mget_mput, ih]
    by_cases h : p = x
    · simp [h]
    · simp [h]
theorem lastOf_mem {l : List LE} {x : LE} (h : x ∈ l) : ∃ p, lastOf l x.1 = some p := by
  unfold lastOf
  cases hf : l.reverse.find? fun y => decide (y.1 = x.1) with
  | some y => exact ⟨y.2, rfl⟩
  | none =>
    rw [List.find?_eq_none] at hf
    exact (hf x (by simpa using h) (by simp)).elim
/-- Which entries live. -/
def liveR (l : List LE) (ks : List It) : List LE := l.filter fun x => decide (lastOf l x.1 = some x.2 ∧ x.2 ∉ ks)
def selR (kind : Int) (l : List HD) : List (HD × It) := l.flatMap fun h => (h.2.2.filter fun x => decide (x.1 = kind)).map fun x => (h, x)
def allL (d : Dev) (l : List HD) : List LE := (selR 2 l).filterMap (liveOf d)
def allK (d : Dev) (l : List HD) : List It := (selR 3 l).flatMap (killsOf d)
def liveD (d : Dev) : List LE := liveR (allL d (heldR d)) (allK d (heldR d))
def maxE (l : List HD) : Int := l.foldl (fun a h => imax a h.2.1) 0
theorem sel_dat (kind : Int) (hs : List HE) : (selE kind hs).map datQ = selR kind (hs.map HE.dat) := by
  unfold selE selR selI
  rw [List.map_flatMap, List.flatMap_map]
  congr 1
  funext h
  rw [List.map_map]
  rfl
theorem maxE_snoc (l : List HD) (h : HD) : maxE (l ++ [h]) = imax (maxE l) h.2.1 := by simp [maxE]
theorem eqPlc {L : HList} (x y : It) {k : ShV (.lf .bool) → HP} (hk : k (decide (x = y)) L) :
    smP PP (binOp .eql ePlc (.agg #[.int .i64 x.1, .int .i64 x.2.1, .int .i64 x.2.2.1]) (.agg #[.int .i64 y.1, .int .i64 y.2.1, .int .i64 y.2.2.1])) (.lf .bool) k L :=
  eqS_of (r := decide (x = y)) undPlc (eqAt_pl x y) hk
theorem ord_len : ∀ (l : List It) (a : Int), (∀ x ∈ l, a ≤ x.2.1 ∧ x.2.1 ≤ 255) → l.Pairwise (fun x y => x.2.1 < y.2.1) → a ≤ 256 → (l.length : Int) ≤ 256 - a
  | [], a, _, _, ha => by simp; omega
  | x :: r, a, h, hp, ha => by
    rw [List.pairwise_cons] at hp
    have h1 := h x (by simp)
    have h2 := ord_len r (x.2.1 + 1) (fun y hy => ⟨by have := hp.1 y hy; omega, (h y (by simp [hy])).2⟩) hp.2 (by omega)
    simp only [List.length_cons]
    omega
end Go.Proofs.YtlabcgnegbdlfaaDoor
