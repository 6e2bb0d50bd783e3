/-
  It is proved what Erase and New of the layer flash compute. There are no further conditions than those that each theorem names.
-/
import Derived.Test.YtaniefdpjommnaaFlash4
set_option linter.unusedVariables false
set_option linter.unusedSimpArgs false
namespace Go.Proofs.Ytaniefdpjommnaa
open Go.HL

def Blk.torn (k : Blk) (c : Cfg) (n : Nat) : Blk := { k with pages := List.replicate n (blk c.S) ++ k.pages.drop n, next := c.P }
def Blk.fresh (k : Blk) (c : Cfg) : Blk := ⟨List.replicate c.P (blk c.S), 0, k.wear + 1, decide (k.wear + 1 = c.W)⟩
def eraseK (d : Dev) (i : Nat) (k : Blk) : Int × Dev :=
  if (tear d).1 then (11, { (tear d).2 with bs := d.bs.set i (k.torn d.c (keptN d.keep d.c.P)) })
  else (if k.wear + 1 = d.c.W then 10 else 0, { (tear d).2 with bs := d.bs.set i (k.fresh d.c) })
def eraseR (d : Dev) (b : Int) : Int × Dev :=
  if findE d b 0 ≠ 0 then (findE d b 0, d) else
  match d.bs[b.toNat]? with
  | none => (2, d)
  | some k => if k.bad then (10, d) else eraseK d b.toNat k
theorem erase_cl (m : Nat) (d : Dev) (A : HList) (h : FH m d A) (ok : DvOk d) (b : Int) :
    CallF PP 38 #[.pointer (some ⟨m, 0, none⟩), .int .i64 b] A fun r L' => r = .int .i64 (eraseR d b).1 ∧ FH m (eraseR d b).2 L' := by
  have hA := h
  obtain ⟨bv, bseg, bs, tv, tseg, ts, rfl, h⟩ := h
  refine CallF.of (args := [.pointer (some ⟨m, 0, none⟩), .int .i64 b]) noNum mixed Try.func38 (e38 (some ⟨m, 0, none⟩) b _) ?_
  unfold t38
  have hfew := h.few ok
  have hP := ok.c.p
  have hS := ok.c.s
  have hW := ok.c.w
  refine cl_rd (find_rd _ m d bv tv fL_o bs h.sl (by omega) h.hb (by omega) b 0) (if findE d b 0 = 0 then ptAt bs b else none, findE d b 0, ()) rfl ?_
  refine ifNe_of (fun (he : findE d b 0 ≠ 0) => ?_) (fun (he : findE d b 0 = 0) => ?_)
  · have hr : eraseR d b = (findE d b 0, d) := by unfold eraseR; rw [if_pos he]
    rw [hr]
    exact .of ⟨rfl, hA⟩
  obtain ⟨hdn, hb0, hb1, hp0, hp1⟩ := findE_0 he
  obtain ⟨i, rfl⟩ : ∃ i : Nat, b = i := ⟨b.toNat, by omega⟩
  have hbl : d.bs.length = bs.length := by rw [← h.hb, List.length_map]
  have hi : i < bs.length := by omega
  obtain ⟨pre, x, post, rfl, rfl⟩ : ∃ pre x post, bs = pre ++ x :: post ∧ pre.length = i := ⟨bs.take i, bs[i], bs.drop (i + 1), by rw [← List.drop_eq_getElem_cons hi, List.take_append_drop], by rw [List.length_take]; omega⟩
  have hk : d.bs[pre.length]? = some x.blk := by rw [← h.hb, List.getElem?_map]; simp
  have hset : ∀ y : PB, (pre ++ y :: post).map PB.blk = d.bs.set pre.length y.blk := fun y => by rw [← h.hb]; simp
  have hmk : x.blk ∈ d.bs := List.mem_of_getElem? hk
  have hpr : eraseR d (pre.length : Int) = if x.bad then (10, d) else eraseK d pre.length x.blk := by
    unfold eraseR
    rw [if_neg (by simpa using he), Int.toNat_natCast, hk]
    rfl
  have hxm : x.obj ∈ fL m d bv bseg (pre ++ x :: post) tv tseg ts := (List.mem_cons_of_mem _ (List.mem_append_right _ (List.mem_append_left _ (by rw [bobjs_append, bobjs_cons]; exact List.mem_append_right _ (List.mem_append_left _ List.mem_cons_self)))))
  rw [if_pos he, ptAt_mid]
  refine nilc_of rfl (ld_of x.bad (b_bad hxm) ?_)
  refine ifB_of (fun (hbad : x.bad = true) => ?_) (fun (hbad : x.bad = false) => ?_)
  · rw [hpr, if_pos hbad]
    exact .of ⟨rfl, hA⟩
  rw [hpr, if_neg (by rw [hbad]; decide)]
  clear hpr hA hxm
  have hok := h.okb x (by simp)
  have hpl := (ok.pg _ hmk).1
  have hpl' : x.ps.length = d.c.P := by rw [← hpl]; simp [PB.blk]
  have hxw : x.wear ≤ d.c.W := (ok.nx _ hmk).2.1
  have hL : fL m d bv bseg (pre ++ x :: post) tv tseg ts = fO m d bv tv :: (bseg ++ (bobjs pre ++ (x.objs ++ (bobjs post ++ (tseg ++ tsegs ts))))) := by
    unfold fL
    rw [bobjs_append, bobjs_cons]
    simp
  rw [hL]
  clear hL
  have hokb : ∀ y : PB, y.Ok → ∀ z ∈ pre ++ y :: post, z.Ok := by
    intro y hy z hz
    have hz' : z ∈ pre ∨ z = y ∨ z ∈ post := by simpa using hz
    rcases hz' with h1 | rfl | h1
    · exact h.okb z (by simp [h1])
    · exact hy
    · exact h.okb z (by simp [h1])
  have hobp : ∀ y : PB, y.id = x.id → Own bv 1 ePb ((pre ++ y :: post).map pbp) bseg := by
    intro y hy
    have : (pre ++ y :: post).map pbp = (pre ++ x :: post).map pbp := by simp [pbp, hy]
    rw [this]; exact h.ob
  refine nilc_of rfl ?_
  refine cl_in [] (bseg ++ (bobjs pre ++ (x.objs ++ (bobjs post ++ (tseg ++ tsegs ts))))) (tears_cl m d bv tv ok.after) rfl ?_
  rintro _ _ - ⟨rfl, rfl⟩
  refine ⟨((tear d).1, ()), rfl, ?_⟩
  unfold eraseK
  obtain ⟨hc2, hb2, hk2, hy2, ht2⟩ := tear_c d
  generalize hd2 : tear d = tt at hc2 hb2 hk2 hy2 ht2 ⊢
  obtain ⟨t, d2⟩ := tt
  simp only at hc2 hb2 hk2 hy2 ht2 ⊢
  rw [List.nil_append]
  have hLs : [fO m d2 bv tv] ++ (bseg ++ (bobjs pre ++ (x.objs ++ (bobjs post ++ (tseg ++ tsegs ts))))) = (fO m d2 bv tv :: (bseg ++ bobjs pre)) ++ x.objs ++ (bobjs post ++ (tseg ++ tsegs ts)) := by simp
  rw [hLs]
  cases t with
  | true =>
    refine ifT rfl (nilc_of rfl (nilc_of rfl (nilc_of rfl ?_)))
    refine ld_of (d.c.P : Int) (by have := f_P (m := m) (d := d2) (bv := bv) (tv := tv) (L := (fO m d2 bv tv :: (bseg ++ bobjs pre)) ++ x.objs ++ (bobjs post ++ (tseg ++ tsegs ts))) (by simp); rw [hc2] at this; exact this) ?_
    have hls : LdAt ⟨m, 5, none⟩ [.int .i64 d.c.S] ((fO m d2 bv tv :: (bseg ++ bobjs pre)) ++ x.objs ++ (bobjs post ++ (tseg ++ tsegs ts))) := by have := f_S (m := m) (d := d2) (bv := bv) (tv := tv) (L := (fO m d2 bv tv :: (bseg ++ bobjs pre)) ++ x.objs ++ (bobjs post ++ (tseg ++ tsegs ts))) (by simp); rw [hc2] at this; exact this
    refine ld_of (d.c.S : Int) hls ?_
    refine cl_rd (kept_rd _ m d2 bv tv (by simp) d.c.P) ((keptN d2.keep d.c.P : Int), ()) rfl (keep_of hls ?_)
    rw [show keptN d2.keep d.c.P = keptN d.keep d.c.P by rw [hk2]]
    have hkp : keptN d.keep d.c.P ≤ d.c.P := by unfold keptN; omega
    refine cl_in (fO m d2 bv tv :: (bseg ++ bobjs pre)) (bobjs post ++ (tseg ++ tsegs ts)) (wipe_cl x hok (keptN d.keep d.c.P) d.c.S (by omega) (by omega) (by omega)) rfl ?_
    rintro _ _ - ⟨rfl, seg', ps', rfl, hok', hps'⟩
    refine ⟨(), rfl, nilc_of rfl (ld_of (d.c.P : Int) (by have := f_P (m := m) (d := d2) (bv := bv) (tv := tv) (L := (fO m d2 bv tv :: (bseg ++ bobjs pre)) ++ ({ x with seg := seg', ps := ps' } : PB).objs ++ (bobjs post ++ (tseg ++ tsegs ts))) (by simp); rw [hc2] at this; exact this) (nilc_of rfl ?_))⟩
    refine st_of (n := x.id) (off := 1) (c := #[.slice x.v.a x.v.len x.v.cap, .int .i64 x.next, .int .i64 x.wear, .bool x.bad]) (T := tBk) (fz := (0, 0)) (fO m d2 bv tv :: (bseg ++ bobjs pre)) (seg' ++ (pgs ps' ++ (bobjs post ++ (tseg ++ tsegs ts)))) rfl (by simp [PB.obj, PB.objs]) (by simp) (.inl (Nat.le_refl _))
      #[.slice x.v.a x.v.len x.v.cap, .int .i64 d.c.P, .int .i64 x.wear, .bool x.bad] rfl ?_
    refine .of ⟨rfl, bv, bseg, pre ++ ({ x with seg := seg', ps := ps', next := d.c.P } : PB) :: post, tv, tseg, ts, ?_, hobp _ rfl, hokb _ ⟨hok'.own, hok'.ps⟩, ?_, h.ot, h.okt, ?_⟩
    · unfold fL
      rw [bobjs_append, bobjs_cons]
      unfold PB.objs PB.obj
      simp [fO]
    · rw [hset]
      congr 1
      unfold PB.blk Blk.torn
      simp only
      rw [hps']
    · rw [if_pos rfl]; show _ = d2.torn; rw [ht2]; exact h.ht
  | false =>
    refine ifF rfl (nilc_of rfl (nilc_of rfl ?_))
    refine ld_of (d.c.P : Int) (by have := f_P (m := m) (d := d2) (bv := bv) (tv := tv) (L := (fO m d2 bv tv :: (bseg ++ bobjs pre)) ++ x.objs ++ (bobjs post ++ (tseg ++ tsegs ts))) (by simp); rw [hc2] at this; exact this) ?_
    have hls : LdAt ⟨m, 5, none⟩ [.int .i64 d.c.S] ((fO m d2 bv tv :: (bseg ++ bobjs pre)) ++ x.objs ++ (bobjs post ++ (tseg ++ tsegs ts))) := by have := f_S (m := m) (d := d2) (bv := bv) (tv := tv) (L := (fO m d2 bv tv :: (bseg ++ bobjs pre)) ++ x.objs ++ (bobjs post ++ (tseg ++ tsegs ts))) (by simp); rw [hc2] at this; exact this
    refine ld_of (d.c.S : Int) hls ?_
    refine cl_in (fO m d2 bv tv :: (bseg ++ bobjs pre)) (bobjs post ++ (tseg ++ tsegs ts)) (wipe_cl x hok d.c.P d.c.S (by omega) (by omega) (by omega)) rfl ?_
    rintro _ _ - ⟨rfl, seg', ps', rfl, hok', hps'⟩
    refine ⟨(), rfl, nilc_of rfl (ld_of (d.c.W : Int) (by have := f_W (m := m) (d := d2) (bv := bv) (tv := tv) (L := (fO m d2 bv tv :: (bseg ++ bobjs pre)) ++ ({ x with seg := seg', ps := ps' } : PB).objs ++ (bobjs post ++ (tseg ++ tsegs ts))) (by simp); rw [hc2] at this; exact this) ?_)⟩
    refine cl_in (fO m d2 bv tv :: (bseg ++ bobjs pre)) (seg' ++ (pgs ps' ++ (bobjs post ++ (tseg ++ tsegs ts)))) (worn_cl ({ x with seg := seg', ps := ps' } : PB) d.c.W (by show x.wear ≤ 1048576; omega)) (by simp [PB.objs]) ?_
    rintro _ _ - ⟨rfl, rfl⟩
    have hwd : decide ((((({ x with seg := seg', ps := ps' } : PB).wear + 1 : Nat)) : Int) = (d.c.W : Int)) = decide (x.wear + 1 = d.c.W) := by
      show decide (((x.wear + 1 : Nat) : Int) = (d.c.W : Int)) = _
      by_cases hw1 : x.wear + 1 = d.c.W
      · rw [decide_eq_true hw1, decide_eq_true (by omega)]
      · rw [decide_eq_false hw1, decide_eq_false (by omega)]
    rw [hwd]
    refine ⟨(decide (x.wear + 1 = d.c.W), ()), rfl, ?_⟩
    rw [if_neg (by decide)]
    have hend : FH m { d2 with bs := d.bs.set pre.length (x.blk.fresh d.c) } ((fO m d2 bv tv :: (bseg ++ bobjs pre)) ++ [({ x with seg := seg', ps := ps', next := 0, wear := x.wear + 1, bad := decide (x.wear + 1 = d.c.W) } : PB).obj] ++ (seg' ++ (pgs ps' ++ (bobjs post ++ (tseg ++ tsegs ts))))) := by
      refine ⟨bv, bseg, pre ++ ({ x with seg := seg', ps := ps', next := 0, wear := x.wear + 1, bad := decide (x.wear + 1 = d.c.W) } : PB) :: post, tv, tseg, ts, ?_, hobp _ rfl, hokb _ ⟨hok'.own, hok'.ps⟩, ?_, h.ot, h.okt, ?_⟩
      · unfold fL
        rw [bobjs_append, bobjs_cons]
        unfold PB.objs PB.obj
        simp [fO]
      · rw [hset]
        congr 1
        unfold PB.blk Blk.fresh
        simp only
        rw [hps', List.drop_of_length_le (by rw [List.length_map]; omega), List.append_nil]
      · show _ = d2.torn; rw [ht2]; exact h.ht
    refine ifD_of (fun (hw1 : x.wear + 1 = d.c.W) => .of ⟨?_, hend⟩) (fun (hw1 : ¬ x.wear + 1 = d.c.W) => .of ⟨?_, hend⟩)
    · show Value.int .i64 10 = .int .i64 (if x.wear + 1 = d.c.W then 10 else 0)
      rw [if_pos hw1]
    · show Value.int .i64 0 = .int .i64 (if x.wear + 1 = d.c.W then 10 else 0)
      rw [if_neg hw1]
def right (c : Int × Int × Int × Int × Unit) : Prop := 2 ≤ c.1 ∧ c.1 ≤ 16 ∧ 4 ≤ c.2.1 ∧ c.2.1 ≤ 16 ∧ 64 ≤ c.2.2.1 ∧ c.2.2.1 ≤ 512 ∧ 1 ≤ c.2.2.2.1 ∧ c.2.2.2.1 ≤ 1048576
def cfg (c : Int × Int × Int × Int × Unit) : Cfg := ⟨c.1.toNat, c.2.1.toNat, c.2.2.1.toNat, c.2.2.2.1.toNat⟩
def blk0 (c : Cfg) : Blk := ⟨List.replicate c.P (blk c.S), 0, 0, false⟩
def fresh (c : Cfg) : Dev := ⟨c, 0, 0, false, List.replicate c.B (blk0 c), 0, []⟩
theorem cfg_ok {c : Int × Int × Int × Int × Unit} (h : right c) : CfgOk (cfg c) := by
  unfold right at h
  refine ⟨?_, ?_, ?_, ?_⟩ <;> simp only [cfg] <;> omega
theorem fresh_ok {c : Cfg} (h : CfgOk c) : DvOk (fresh c) := by
  refine ⟨h, by simp [fresh], ?_, ?_, by simp [fresh], by simp [fresh]⟩
  · intro k hk
    rw [List.eq_of_mem_replicate hk]
    refine ⟨by simp [blk0, fresh], fun l hl => ?_⟩
    rw [List.eq_of_mem_replicate hl]; simp [blk, fresh]
  · intro k hk
    rw [List.eq_of_mem_replicate hk]
    have := h.w
    refine ⟨Nat.zero_le _, Nat.zero_le _, ?_⟩
    show false = decide (0 = c.W)
    rw [decide_eq_false (by omega)]
theorem zeros_pg (n : Nat) : zeros [.slice none 0 0] n = (List.replicate n pg0).map PG.val := by
  unfold zeros
  rw [List.map_replicate]
  induction n with
  | zero => rfl
  | succ n ih => rw [List.replicate_succ, List.replicate_succ, List.flatten_cons, ih]; rfl
theorem pgs_nil (n : Nat) : pgs (List.replicate n pg0) = [] := by
  induction n with
  | zero => rfl
  | succ n ih => rw [List.replicate_succ, pgs_cons, ih]; rfl
theorem new_cl (c : Int × Int × Int × Int × Unit) :
    CallF PP 21 #[.agg #[.int .i64 c.1, .int .i64 c.2.1, .int .i64 c.2.2.1, .int .i64 c.2.2.2.1]] [] fun r L' => (¬ right c ∧ r = .tuple #[.pointer none, .int .i64 30] ∧ L' = []) ∨ (right c ∧ ∃ m, r = .tuple #[.pointer (some ⟨m, 0, none⟩), .int .i64 0] ∧ FH m (fresh (cfg c)) L') := by
  refine CallF.of (args := [.agg #[.int .i64 c.1, .int .i64 c.2.1, .int .i64 c.2.2.1, .int .i64 c.2.2.2.1]]) noNum mixed Try.func21 (e21 c _) ?_
  unfold t21
  refine nw_of fun n1 _ => ?_
  generalize ho : (n1, Obj.cells #[.int .i64 c.1, .int .i64 c.2.1, .int .i64 c.2.2.1, .int .i64 c.2.2.2.1] 44) = o1
  have lc : ∀ L : HList, o1 ∈ L → LdAt ⟨n1, 0, none⟩ [.int .i64 c.1, .int .i64 c.2.1, .int .i64 c.2.2.1, .int .i64 c.2.2.2.1] L := fun L hm => ldB (by rw [← ho] at hm; exact hm) rfl
  clear ho
  have lB : ∀ L : HList, o1 ∈ L → LdAt ⟨n1, 0, none⟩ [.int .i64 c.1] L := fun L hm => (lc L hm).pre fun i u hu => by cases i with | zero => exact hu | succ i => exact absurd (show (none : Option Value) = some u from hu) (by simp)
  refine ld_of c.1 (lB _ List.mem_cons_self) ?_
  refine cl_rd (within_rd _ c.1 2 16) (decide (2 ≤ c.1 ∧ c.1 ≤ 16), ()) rfl ?_
  refine ifD_of (fun (h1 : 2 ≤ c.1 ∧ c.1 ≤ 16) => ?_) (fun (h1 : ¬ (2 ≤ c.1 ∧ c.1 ≤ 16)) => .cons (.of (.inl ⟨by unfold right; omega, rfl, rfl⟩)))
  refine ld_of c.2.1 ((lc _ List.mem_cons_self).one 1 rfl) ?_
  refine cl_rd (within_rd _ c.2.1 4 16) (decide (4 ≤ c.2.1 ∧ c.2.1 ≤ 16), ()) rfl ?_
  by_cases h2 : 4 ≤ c.2.1 ∧ c.2.1 ≤ 16
  case neg => rw [decide_eq_false h2]; exact ifT rfl (.cons (.of (.inl ⟨by unfold right; omega, rfl, rfl⟩)))
  rw [decide_eq_true h2]
  refine ifF rfl (ld_of c.2.2.1 ((lc _ List.mem_cons_self).one 2 rfl) ?_)
  refine cl_rd (within_rd _ c.2.2.1 64 512) (decide (64 ≤ c.2.2.1 ∧ c.2.2.1 ≤ 512), ()) rfl ?_
  by_cases h3 : 64 ≤ c.2.2.1 ∧ c.2.2.1 ≤ 512
  case neg => rw [decide_eq_false h3]; exact ifT rfl (.cons (.of (.inl ⟨by unfold right; omega, rfl, rfl⟩)))
  rw [decide_eq_true h3]
  refine ifF rfl (ld_of c.2.2.2.1 ((lc _ List.mem_cons_self).one 3 rfl) ?_)
  refine cl_rd (within_rd _ c.2.2.2.1 1 1048576) (decide (1 ≤ c.2.2.2.1 ∧ c.2.2.2.1 ≤ 1048576), ()) rfl ?_
  by_cases h4 : 1 ≤ c.2.2.2.1 ∧ c.2.2.2.1 ≤ 1048576
  case neg => rw [decide_eq_false h4]; exact ifT rfl (.cons (.of (.inl ⟨by unfold right; omega, rfl, rfl⟩)))
  rw [decide_eq_true h4]
  refine ifF rfl ?_
  have hr : right c := by unfold right; omega
  have hck := cfg_ok hr
  obtain ⟨cB, cP, cS, cW, u⟩ := c
  obtain ⟨B, rfl⟩ : ∃ B : Nat, cB = B := ⟨cB.toNat, by simp only at h1; omega⟩
  obtain ⟨Pn, rfl⟩ : ∃ B : Nat, cP = B := ⟨cP.toNat, by simp only at h2; omega⟩
  obtain ⟨S, rfl⟩ : ∃ B : Nat, cS = B := ⟨cS.toNat, by simp only at h3; omega⟩
  obtain ⟨W, rfl⟩ : ∃ B : Nat, cW = B := ⟨cW.toNat, by simp only at h4; omega⟩
  simp only at h1 h2 h3 h4
  have hcf : cfg ((B : Int), (Pn : Int), (S : Int), (W : Int), u) = ⟨B, Pn, S, W⟩ := by simp [cfg]
  rw [hcf] at hck ⊢
  refine ld_of ((B : Int), (Pn : Int), (S : Int), (W : Int), ()) (lc _ List.mem_cons_self) (nw_of fun m _ => ?_)
  have hm0 : ((m, Obj.cells #[.int .i64 0, .int .i64 0, .bool false, .int .i64 B, .int .i64 Pn, .int .i64 S, .int .i64 W, .slice none 0 0, .int .i64 0, .slice none 0 0] tFl) : Nat × Obj) = fO m { fresh ⟨B, Pn, S, W⟩ with bs := [] } ⟨none, 0, 0⟩ ⟨none, 0, 0⟩ := rfl
  refine ld_of (B : Int) (lB _ (by simp)) ?_
  refine lp_of (fun z' z L' => ∃ (i : Nat) (bv : SlV) (bseg : HList) (bs : List PB) (J X Y : HList), i ≤ B ∧ z' = B - i ∧ z = ((i : Int), ()) ∧ L' = X ++ fO m (fresh ⟨B, Pn, S, W⟩) bv ⟨none, 0, 0⟩ :: (bseg ++ Y) ∧ (X ++ Y).Perm (bobjs bs ++ (o1 :: J)) ∧ Own bv 1 ePb (bs.map pbp) bseg ∧ (∀ b ∈ bs, b.Ok) ∧ bs.map PB.blk = List.replicate i (blk0 ⟨B, Pn, S, W⟩)) B
    ⟨0, ⟨none, 0, 0⟩, [], [], [], [], [o1], by omega, by omega, rfl, rfl, List.Perm.refl _, own_nil, by simp, rfl⟩ ?_
  rintro z' z L ⟨i, bv, bseg, bs, J, X, Y, hi, rfl, rfl, rfl, hp, own, hokb, hbs⟩
  have ho1 : o1 ∈ X ++ fO m (fresh ⟨B, Pn, S, W⟩) bv ⟨none, 0, 0⟩ :: (bseg ++ Y) := by
    have h5 : o1 ∈ X ++ Y := (hp.mem_iff (a := o1)).2 (by simp)
    have h6 : o1 ∈ X ∨ o1 ∈ Y := by simpa using h5
    rcases h6 with h6 | h6 <;> simp [h6]
  have hbl : bs.length = i := by have := congrArg List.length hbs; rwa [List.length_map, List.length_replicate] at this
  refine ifD_of (fun (hlt : (i : Int) < (B : Int)) => ?_) (fun (hge : ¬ (i : Int) < (B : Int)) => ?_)
  · refine ld_of (Pn : Int) ((lc _ ho1).one 1 rfl) ?_
    refine make_of elemPs (l := Pn) (c := Pn) (Nat.le_refl _) (by omega) fun q ob ownq _ _ => ?_
    rw [zeros_pg] at ownq
    refine nw_of fun n3 _ => ?_
    refine ld_of (Pn : Int) ((lc _ (List.mem_cons_of_mem _ (List.mem_cons_of_mem _ ho1))).one 1 rfl) (ld_of (S : Int) ((lc _ (List.mem_cons_of_mem _ (List.mem_cons_of_mem _ ho1))).one 2 rfl) ?_)
    have hx0 : ({ id := n3, v := ⟨some ⟨q, 0, none⟩, Pn, Pn⟩, seg := [(q, ob)], ps := List.replicate Pn pg0, next := 0, wear := 0, bad := false } : PB).Ok := ⟨ownq, fun g hg => by rw [List.eq_of_mem_replicate hg]; exact pg0_ok⟩
    refine cl_in [] (X ++ fO m (fresh ⟨B, Pn, S, W⟩) bv ⟨none, 0, 0⟩ :: (bseg ++ Y)) (wipe_cl _ hx0 Pn S (by simp) (by omega) (by omega)) (by simp [PB.objs, PB.obj, pgs_nil]) ?_
    rintro _ _ - ⟨rfl, seg', ps', rfl, hok', hps'⟩
    refine ⟨(), rfl, ?_⟩
    rw [List.nil_append]
    generalize hx : ({ id := n3, v := ⟨some ⟨q, 0, none⟩, Pn, Pn⟩, seg := seg', ps := ps', next := 0, wear := 0, bad := false } : PB) = x at hok' ⊢
    have hxi : x.id = n3 := by rw [← hx]
    have hxb : x.blk = blk0 ⟨B, Pn, S, W⟩ := by
      rw [← hx]
      unfold PB.blk blk0
      simp only
      rw [hps', List.drop_of_length_le (by simp), List.append_nil]
    refine ld_of bv (f_bs (m := m) (d := fresh ⟨B, Pn, S, W⟩) (tv := ⟨none, 0, 0⟩) (by simp)) (nw_of fun n4 _ => ?_)
    have hbvl := own.len
    rw [List.length_map] at hbvl
    refine append_in elemPb srcPb ((n4, Obj.cells #[.pointer (some ⟨n3, 0, none⟩)] 94) :: (x.objs ++ (X ++ [fO m (fresh ⟨B, Pn, S, W⟩) bv ⟨none, 0, 0⟩]))) Y own (by simp)
      (n := 1) (ws := [pbp x]) (x := .slice (some ⟨n4, 0, none⟩) 1 1) (Src.sl (v := ⟨some ⟨n4, 0, none⟩, 1, 1⟩) ⟨rfl, Nat.le_refl _, .inr ⟨_, rfl, ldB (n := n4) (off := 0) (T := 94) (fz := (0, 0)) (c := #[.pointer (some ⟨n3, 0, none⟩)]) List.mem_cons_self (by unfold pbp; rw [hxi]; rfl)⟩⟩) rfl (by omega) fun v8 seg8 hv8 own8 => ?_
    refine st_of (n := m) (off := 7) (c := #[.int .i64 0, .int .i64 0, .bool false, .int .i64 B, .int .i64 Pn, .int .i64 S, .int .i64 W, .slice bv.a bv.len bv.cap, .int .i64 0, .slice none 0 0]) (T := tFl) (fz := (0, 0)) ((n4, Obj.cells #[.pointer (some ⟨n3, 0, none⟩)] 94) :: (x.objs ++ X)) (seg8 ++ Y) rfl (by simp [fO, fresh]) (by simp) (.inl (Nat.le_refl _))
      #[.int .i64 0, .int .i64 0, .bool false, .int .i64 B, .int .i64 Pn, .int .i64 S, .int .i64 W, .slice v8.a v8.len v8.cap, .int .i64 0, .slice none 0 0] rfl ?_
    refine ⟨B - (i + 1), by omega, i + 1, v8, seg8, bs ++ [x], (n4, Obj.cells #[.pointer (some ⟨n3, 0, none⟩)] 94) :: J, (n4, Obj.cells #[.pointer (some ⟨n3, 0, none⟩)] 94) :: (x.objs ++ X), Y, by omega, rfl, ?_, rfl, ?_, ?_, ?_, ?_⟩
    · rw [w64_id (by first | omega | (simp only; omega)) (by first | omega | (simp only; omega))]
      rfl
    · generalize (n4, Obj.cells #[.pointer (some ⟨n3, 0, none⟩)] 94) = o4
      have hbo : bobjs (bs ++ [x]) = bobjs bs ++ x.objs := by rw [bobjs_append, bobjs_cons]; simp [bobjs]
      rw [hbo]
      classical
      rw [List.perm_iff_count] at hp ⊢
      intro z
      have := hp z
      simp only [List.append_eq, List.cons_append, List.count_append, List.count_cons, List.count_nil] at this ⊢
      omega
    · rw [List.map_append]; exact own8
    · intro z hz
      rcases List.mem_append.1 hz with h5 | h5
      · exact hokb z h5
      · rw [List.mem_singleton.1 h5]; exact hok'
    · rw [List.map_append, hbs, List.replicate_succ', List.map_singleton, hxb]
  · obtain rfl : i = B := by omega
    refine .drop (A := fL m (fresh ⟨i, Pn, S, W⟩) bv bseg bs ⟨none, 0, 0⟩ [] []) (J := o1 :: J) (.inr ⟨hr, m, rfl, bv, bseg, bs, ⟨none, 0, 0⟩, [], [], rfl, own, hokb, hbs, own_nil, by simp, rfl⟩) ?_
    unfold fL
    have : tsegs [] = [] := rfl
    rw [this]
    classical
    rw [List.perm_iff_count] at hp ⊢
    intro z
    have := hp z
    simp only [List.append_eq, List.cons_append, List.count_append, List.count_cons, List.count_nil] at this ⊢
    omega
end Go.Proofs.Ytaniefdpjommnaa
