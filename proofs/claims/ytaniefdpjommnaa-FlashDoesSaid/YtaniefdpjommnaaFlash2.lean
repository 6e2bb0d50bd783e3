/-
  It is proved what the functions of the layer flash that change no page compute. There are no further conditions than those that each theorem names.
-/
import Derived.Test.YtaniefdpjommnaaFlash
set_option linter.unusedVariables false
set_option linter.unusedSimpArgs false
namespace Go.Proofs.Ytaniefdpjommnaa
open Go.HL

structure DvOk (d : Dev) : Prop where
  c : CfgOk d.c
  len : d.bs.length = d.c.B
  pg : ∀ k ∈ d.bs, k.pages.length = d.c.P ∧ ∀ l ∈ k.pages, l.length = d.c.S
  nx : ∀ k ∈ d.bs, k.next ≤ d.c.P ∧ k.wear ≤ d.c.W ∧ k.bad = decide (k.wear = d.c.W)
  after : (d.after : Int) ≤ 9223372036854775807
  torn : ∀ t ∈ d.torn, t.meant.length = d.c.S ∧ t.image.length = d.c.S
structure PT where
  b : Nat
  p : Nat
  m : PG
  i : PG
def PT.enc (t : PT) : List Value := [.int .i64 t.b, .int .i64 t.p, t.m.val, t.i.val]
theorem PT.enc_len (t : PT) : t.enc.length = 4 := rfl
theorem PT.enc_plain (l : List PT) : (l.flatMap PT.enc).all plainV = true := by
  induction l with
  | nil => rfl
  | cons e r ih => rw [List.flatMap_cons, List.all_append, ih]; rfl
def PT.tn (t : PT) : Tn := ⟨t.b, t.p, t.m.l, t.i.l⟩
def tsegs (l : List PT) : HList := l.flatMap fun t => t.m.seg ++ t.i.seg
theorem tsegs_append (a b : List PT) : tsegs (a ++ b) = tsegs a ++ tsegs b := List.flatMap_append
theorem tsegs_one (t : PT) : tsegs [t] = t.m.seg ++ t.i.seg := by simp [tsegs]
def bobjs (l : List PB) : HList := l.flatMap PB.objs
theorem bobjs_append (a b : List PB) : bobjs (a ++ b) = bobjs a ++ bobjs b := List.flatMap_append
theorem bobjs_cons (a : PB) (b : List PB) : bobjs (a :: b) = a.objs ++ bobjs b := rfl
/-- A device's objects. -/
structure FHs (m : Nat) (d : Dev) (bv : SlV) (bseg : HList) (bs : List PB) (tv : SlV) (tseg : HList) (ts : List PT) : Prop where
  ob : Own bv 1 ePb (bs.map pbp) bseg
  okb : ∀ b ∈ bs, b.Ok
  hb : bs.map PB.blk = d.bs
  ot : Own tv 4 eT (ts.flatMap PT.enc) tseg
  okt : ∀ t ∈ ts, t.m.Ok ∧ t.i.Ok
  ht : ts.map PT.tn = d.torn
def fL (m : Nat) (d : Dev) (bv : SlV) (bseg : HList) (bs : List PB) (tv : SlV) (tseg : HList) (ts : List PT) : HList := fO m d bv tv :: (bseg ++ (bobjs bs ++ (tseg ++ tsegs ts)))
def FH (m : Nat) (d : Dev) (A : HList) : Prop := ∃ bv bseg bs tv tseg ts, A = fL m d bv bseg bs tv tseg ts ∧ FHs m d bv bseg bs tv tseg ts
def blkAt (d : Dev) (b : Int) : Option Blk := if 0 ≤ b then d.bs[b.toNat]? else none
def nextOf (d : Dev) (b : Int) : Int := ((blkAt d b).elim 0 fun k => k.next : Nat)
def wearOf (d : Dev) (b : Int) : Int := ((blkAt d b).elim 0 fun k => k.wear : Nat)
def badOf (d : Dev) (b : Int) : Bool := (blkAt d b).elim false fun k => k.bad
theorem at_cases {d : Dev} {bs : List PB} (h : bs.map PB.blk = d.bs) (b : Int) : (ptAt bs b = none ∧ blkAt d b = none) ∨ ∃ (i : Nat) (hi : i < bs.length), b = i ∧ ptAt bs b = some ⟨bs[i].id, 0, none⟩ ∧ blkAt d b = some bs[i].blk := by
  by_cases hb : 0 ≤ b ∧ b < bs.length
  · right
    obtain ⟨i, rfl⟩ : ∃ i : Nat, b = i := ⟨b.toNat, by omega⟩
    have hi : i < bs.length := by omega
    refine ⟨i, hi, rfl, ptAt_some hi, ?_⟩
    unfold blkAt
    rw [if_pos (by omega), Int.toNat_natCast, ← h, List.getElem?_map, List.getElem?_eq_getElem hi]; rfl
  · left
    refine ⟨ptAt_none hb, ?_⟩
    have hl : d.bs.length = bs.length := by rw [← h, List.length_map]
    unfold blkAt
    split
    · rw [List.getElem?_eq_none (by omega)]
    · rfl
theorem obj_mem {bs : List PB} {i : Nat} (hi : i < bs.length) : bs[i].obj ∈ bobjs bs := List.mem_flatMap.2 ⟨bs[i], List.getElem_mem hi, List.mem_cons_self⟩
section
variable {m : Nat} {d : Dev} {bv : SlV} {bseg : HList} {bs : List PB} {tv : SlV} {tseg : HList} {ts : List PT}
theorem fL_o : fO m d bv tv ∈ fL m d bv bseg bs tv tseg ts := List.mem_cons_self
theorem FHs.sl (h : FHs m d bv bseg bs tv tseg ts) : Sl (fL m d bv bseg bs tv tseg ts) bv 1 (bs.map pbp) := h.ob.sl.left.cons
theorem FHs.tsl (h : FHs m d bv bseg bs tv tseg ts) : Sl (fL m d bv bseg bs tv tseg ts) tv 4 (ts.flatMap PT.enc) := h.ot.sl.left.right.right.cons
theorem FHs.few (h : FHs m d bv bseg bs tv tseg ts) (ok : DvOk d) : bs.length ≤ 16 := by
  have h1 := ok.len
  have h2 := ok.c.b
  rw [← h.hb, List.length_map] at h1
  omega
theorem fL_b {i : Nat} (hi : i < bs.length) : bs[i].obj ∈ fL m d bv bseg bs tv tseg ts := List.mem_cons_of_mem _ (List.mem_append_right _ (List.mem_append_left _ (obj_mem hi)))
end
theorem next_rd (m : Nat) (d : Dev) (A : HList) (h : FH m d A) (ok : DvOk d) (b : Int) : Reads PP 28 #[.pointer (some ⟨m, 0, none⟩), .int .i64 b] A (.int .i64 (nextOf d b)) := by
  obtain ⟨bv, bseg, bs, tv, tseg, ts, rfl, h⟩ := h
  refine Reads.of (args := [.pointer (some ⟨m, 0, none⟩), .int .i64 b]) noNum mixed Try.func28 (e28 (some ⟨m, 0, none⟩) b _) ?_
  unfold t28 nextOf
  have := h.few ok
  refine cl_rd (at_rd _ m d bv tv fL_o bs h.sl (by omega) b) (ptAt bs b, ()) rfl ?_
  rcases at_cases h.hb b with ⟨h1, h2⟩ | ⟨i, hi, rfl, h1, h2⟩
  · rw [h1, h2]; exact ifF rfl (.of ⟨rfl, rfl⟩)
  · rw [h1, h2]; exact ifT rfl (nilc_of rfl (ld_of (bs[i].next : Int) (b_next (fL_b hi)) (.of ⟨rfl, rfl⟩)))
theorem wear_rd (m : Nat) (d : Dev) (A : HList) (h : FH m d A) (ok : DvOk d) (b : Int) : Reads PP 29 #[.pointer (some ⟨m, 0, none⟩), .int .i64 b] A (.int .i64 (wearOf d b)) := by
  obtain ⟨bv, bseg, bs, tv, tseg, ts, rfl, h⟩ := h
  refine Reads.of (args := [.pointer (some ⟨m, 0, none⟩), .int .i64 b]) noNum mixed Try.func29 (e29 (some ⟨m, 0, none⟩) b _) ?_
  unfold t29 wearOf
  have := h.few ok
  refine cl_rd (at_rd _ m d bv tv fL_o bs h.sl (by omega) b) (ptAt bs b, ()) rfl ?_
  rcases at_cases h.hb b with ⟨h1, h2⟩ | ⟨i, hi, rfl, h1, h2⟩
  · rw [h1, h2]; exact ifF rfl (.of ⟨rfl, rfl⟩)
  · rw [h1, h2]; exact ifT rfl (nilc_of rfl (ld_of (bs[i].wear : Int) (b_wear (fL_b hi)) (.of ⟨rfl, rfl⟩)))
theorem bad_rd (m : Nat) (d : Dev) (A : HList) (h : FH m d A) (ok : DvOk d) (b : Int) : Reads PP 30 #[.pointer (some ⟨m, 0, none⟩), .int .i64 b] A (.bool (badOf d b)) := by
  obtain ⟨bv, bseg, bs, tv, tseg, ts, rfl, h⟩ := h
  refine Reads.of (args := [.pointer (some ⟨m, 0, none⟩), .int .i64 b]) noNum mixed Try.func30 (e30 (some ⟨m, 0, none⟩) b _) ?_
  unfold t30 badOf
  have := h.few ok
  refine cl_rd (at_rd _ m d bv tv fL_o bs h.sl (by omega) b) (ptAt bs b, ()) rfl ?_
  rcases at_cases h.hb b with ⟨h1, h2⟩ | ⟨i, hi, rfl, h1, h2⟩
  · rw [h1, h2]; exact ifF rfl (.of ⟨rfl, rfl⟩)
  · rw [h1, h2]; exact ifT rfl (nilc_of rfl (ld_of bs[i].bad (b_bad (fL_b hi)) (.of ⟨rfl, rfl⟩)))
theorem bytes_rd (m : Nat) (d : Dev) (A : HList) (h : FH m d A) : Reads PP 26 #[.pointer (some ⟨m, 0, none⟩)] A (.int .i64 d.bytes) := by
  obtain ⟨bv, bseg, bs, tv, tseg, ts, rfl, h⟩ := h
  refine Reads.of (args := [.pointer (some ⟨m, 0, none⟩)]) noNum mixed Try.func26 (e26 (some ⟨m, 0, none⟩) _) ?_
  unfold t26
  exact ifF rfl (nilc_of rfl (ld_of d.bytes (f_bytes fL_o) (.of ⟨rfl, rfl⟩)))
theorem down_rd (m : Nat) (d : Dev) (A : HList) (h : FH m d A) : Reads PP 27 #[.pointer (some ⟨m, 0, none⟩)] A (.bool d.down) := by
  obtain ⟨bv, bseg, bs, tv, tseg, ts, rfl, h⟩ := h
  refine Reads.of (args := [.pointer (some ⟨m, 0, none⟩)]) noNum mixed Try.func27 (e27 (some ⟨m, 0, none⟩) _) ?_
  unfold t27
  exact ifT rfl (nilc_of rfl (ld_of d.down (f_down fL_o) (.of ⟨rfl, rfl⟩)))
abbrev Cf := ShV (.agg [.int .i64, .int .i64, .int .i64, .int .i64])
def cfV (c : Cfg) : Value := .agg #[.int .i64 c.B, .int .i64 c.P, .int .i64 c.S, .int .i64 c.W]
theorem config_rd (m : Nat) (d : Dev) (A : HList) (h : FH m d A) : CallF PP 33 #[.pointer (some ⟨m, 0, none⟩)] A fun r L' => r = cfV d.c ∧ L' = A := by
  obtain ⟨bv, bseg, bs, tv, tseg, ts, rfl, h⟩ := h
  refine CallF.of (args := [.pointer (some ⟨m, 0, none⟩)]) noNum mixed Try.func33 (e33 (some ⟨m, 0, none⟩) _) ?_
  unfold t33
  refine nw_of fun n _ => ifF rfl (nilc_of rfl ?_)
  refine ld_of ((d.c.B : Int), (d.c.P : Int), (d.c.S : Int), (d.c.W : Int), ()) (f_cfg (List.mem_cons_of_mem _ fL_o)) ?_
  refine st_of (n := n) (off := 0) (c := #[.int .i64 0, .int .i64 0, .int .i64 0, .int .i64 0]) (T := 44) (fz := (0, 0)) [] _ rfl rfl (by simp) (.inl (Nat.le_refl _)) #[.int .i64 d.c.B, .int .i64 d.c.P, .int .i64 d.c.S, .int .i64 d.c.W] rfl ?_
  refine ld_of ((d.c.B : Int), (d.c.P : Int), (d.c.S : Int), (d.c.W : Int), ()) (ldB List.mem_cons_self rfl) ?_
  exact .cons (.of ⟨rfl, rfl⟩)
def arm (d : Dev) (n k : Int) : Dev := if d.down then d else { d with after := n.toNat, keep := k }
theorem arm_cl (m : Nat) (d : Dev) (A : HList) (h : FH m d A) (n k : Int) : CallF PP 34 #[.pointer (some ⟨m, 0, none⟩), .int .i64 n, .int .i64 k] A fun r L' => r = .tuple #[] ∧ FH m (arm d n k) L' := by
  obtain ⟨bv, bseg, bs, tv, tseg, ts, rfl, h⟩ := h
  refine CallF.of (args := [.pointer (some ⟨m, 0, none⟩), .int .i64 n, .int .i64 k]) noNum mixed Try.func34 (e34 (some ⟨m, 0, none⟩) n k _) ?_
  unfold t34 arm
  refine ifT rfl (nilc_of rfl (ld_of d.down (f_down fL_o) ?_))
  rcases Bool.eq_false_or_eq_true d.down with hd | hd
  · rw [if_pos hd]
    exact ifF (by simp only [hd]; rfl) (.of ⟨rfl, bv, bseg, bs, tv, tseg, ts, rfl, h⟩)
  · rw [if_neg (by rw [hd]; decide)]
    have hn : imax n 0 = (n.toNat : Int) := by unfold imax; omega
    refine ifT (by simp only [hd]; rfl) (nilc_of rfl ?_)
    rw [hn]
    refine st_of (n := m) (off := 0) (c := #[.int .i64 d.after, .int .i64 d.keep, .bool d.down, .int .i64 d.c.B, .int .i64 d.c.P, .int .i64 d.c.S, .int .i64 d.c.W, .slice bv.a bv.len bv.cap, .int .i64 d.bytes, .slice tv.a tv.len tv.cap]) (T := tFl) (fz := (0, 0)) [] _ rfl rfl (by simp) (.inl (Nat.le_refl _))
      #[.int .i64 (n.toNat : Int), .int .i64 d.keep, .bool d.down, .int .i64 d.c.B, .int .i64 d.c.P, .int .i64 d.c.S, .int .i64 d.c.W, .slice bv.a bv.len bv.cap, .int .i64 d.bytes, .slice tv.a tv.len tv.cap] rfl (nilc_of rfl ?_)
    refine st_of (n := m) (off := 1) (T := tFl) (fz := (0, 0)) [] _ rfl rfl (by simp) (.inl (Nat.le_refl _))
      #[.int .i64 (n.toNat : Int), .int .i64 k, .bool d.down, .int .i64 d.c.B, .int .i64 d.c.P, .int .i64 d.c.S, .int .i64 d.c.W, .slice bv.a bv.len bv.cap, .int .i64 d.bytes, .slice tv.a tv.len tv.cap] rfl ?_
    exact .of ⟨rfl, bv, bseg, bs, tv, tseg, ts, rfl, ⟨h.ob, h.okb, h.hb, h.ot, h.okt, h.ht⟩⟩
def restart (d : Dev) : Dev := { d with down := false, after := 0 }
theorem restart_cl (m : Nat) (d : Dev) (A : HList) (h : FH m d A) : CallF PP 35 #[.pointer (some ⟨m, 0, none⟩)] A fun r L' => r = .tuple #[] ∧ FH m (restart d) L' := by
  obtain ⟨bv, bseg, bs, tv, tseg, ts, rfl, h⟩ := h
  refine CallF.of (args := [.pointer (some ⟨m, 0, none⟩)]) noNum mixed Try.func35 (e35 (some ⟨m, 0, none⟩) _) ?_
  unfold t35 restart
  refine ifT rfl (nilc_of rfl ?_)
  refine st_of (n := m) (off := 2) (c := #[.int .i64 d.after, .int .i64 d.keep, .bool d.down, .int .i64 d.c.B, .int .i64 d.c.P, .int .i64 d.c.S, .int .i64 d.c.W, .slice bv.a bv.len bv.cap, .int .i64 d.bytes, .slice tv.a tv.len tv.cap]) (T := tFl) (fz := (0, 0)) [] _ rfl rfl (by simp) (.inl (Nat.le_refl _))
    #[.int .i64 d.after, .int .i64 d.keep, .bool false, .int .i64 d.c.B, .int .i64 d.c.P, .int .i64 d.c.S, .int .i64 d.c.W, .slice bv.a bv.len bv.cap, .int .i64 d.bytes, .slice tv.a tv.len tv.cap] rfl (nilc_of rfl ?_)
  refine st_of (n := m) (off := 0) (T := tFl) (fz := (0, 0)) [] _ rfl rfl (by simp) (.inl (Nat.le_refl _))
    #[.int .i64 0, .int .i64 d.keep, .bool false, .int .i64 d.c.B, .int .i64 d.c.P, .int .i64 d.c.S, .int .i64 d.c.W, .slice bv.a bv.len bv.cap, .int .i64 d.bytes, .slice tv.a tv.len tv.cap] rfl ?_
  exact .of ⟨rfl, bv, bseg, bs, tv, tseg, ts, rfl, ⟨h.ob, h.okb, h.hb, h.ot, h.okt, h.ht⟩⟩
def readR (d : Dev) (b p : Int) : List UInt8 × Int :=
  if findE d b p ≠ 0 then ([], findE d b p) else match d.bs[b.toNat]? with
  | none => ([], 2)
  | some k => if k.bad then (blk d.c.S, 0) else (k.pages.getD p.toNat [], 0)
theorem findE_0 {d : Dev} {b p : Int} (h : findE d b p = 0) : d.down = false ∧ 0 ≤ b ∧ b < d.bs.length ∧ 0 ≤ p ∧ p < d.c.P := by
  unfold findE at h
  split at h
  · cases h
  · split at h
    · cases h
    · split at h
      · cases h
      · rename_i h1 h2 h3
        refine ⟨by simpa using h1, ?_, ?_, ?_, ?_⟩ <;> omega
theorem read_cl (m : Nat) (d : Dev) (A : HList) (h : FH m d A) (ok : DvOk d) (b p : Int) :
    CallF PP 36 #[.pointer (some ⟨m, 0, none⟩), .int .i64 b, .int .i64 p] A fun r L' => ∃ g : PG, r = .tuple #[g.val, .int .i64 (readR d b p).2] ∧ L' = g.seg ++ A ∧ g.Ok ∧ g.l = (readR d b p).1 := by
  obtain ⟨bv, bseg, bs, tv, tseg, ts, rfl, h⟩ := h
  refine CallF.of (args := [.pointer (some ⟨m, 0, none⟩), .int .i64 b, .int .i64 p]) noNum mixed Try.func36 (e36 (some ⟨m, 0, none⟩) b p _) ?_
  unfold t36
  have hfew := h.few ok
  have hP := ok.c.p
  have hS := ok.c.s
  refine cl_rd (find_rd _ m d bv tv fL_o bs h.sl (by omega) h.hb (by omega) b p) (if findE d b p = 0 then ptAt bs b else none, findE d b p, ()) rfl ?_
  refine ifNe_of (fun (he : findE d b p ≠ 0) => ?_) (fun (he : findE d b p = 0) => ?_)
  · have hr : readR d b p = ([], findE d b p) := by unfold readR; rw [if_pos he]
    rw [hr]
    exact .of ⟨pg0, rfl, rfl, pg0_ok, rfl⟩
  obtain ⟨hdn, hb0, hb1, hp0, hp1⟩ := findE_0 he
  obtain ⟨i, rfl⟩ : ∃ i : Nat, b = i := ⟨b.toNat, by omega⟩
  obtain ⟨q, rfl⟩ : ∃ q : Nat, p = q := ⟨p.toNat, by omega⟩
  have hbl : d.bs.length = bs.length := by rw [← h.hb, List.length_map]
  have hi : i < bs.length := by omega
  have hk : d.bs[i]? = some bs[i].blk := by rw [← h.hb, List.getElem?_map, List.getElem?_eq_getElem hi]; rfl
  have hmk : bs[i].blk ∈ d.bs := List.mem_of_getElem? hk
  rw [if_pos he, ptAt_some hi]
  refine nilc_of rfl (ld_of bs[i].bad (b_bad (fL_b hi)) ?_)
  refine ifB_of (fun (hbad : bs[i].bad = true) => ?_) (fun (hbad : bs[i].bad = false) => ?_)
  · have hr : readR d i q = (blk d.c.S, 0) := by
      unfold readR
      rw [if_neg (by simpa using he), Int.toNat_natCast, hk]
      show (if bs[i].bad = true then _ else _) = _
      rw [if_pos hbad]
    rw [hr]
    refine nilc_of rfl (ld_of (d.c.S : Int) (f_S fL_o) ?_)
    refine cl_in [] (fL m d bv bseg bs tv tseg ts) (blank_cl d.c.S (by omega)) rfl ?_
    rintro _ _ - ⟨g, rfl, rfl, hg, hgl⟩
    exact ⟨(g.v, ()), rfl, .of ⟨g, rfl, rfl, hg, hgl⟩⟩
  · have hpl := (ok.pg _ hmk).1
    have hpl' : bs[i].ps.length = d.c.P := by rw [← hpl]; simp [PB.blk]
    have hq : q < bs[i].ps.length := by omega
    have hr : readR d i q = (bs[i].ps[q].l, 0) := by
      unfold readR
      rw [if_neg (by simpa using he), Int.toNat_natCast, Int.toNat_natCast, hk]
      show (if bs[i].bad = true then _ else ((bs[i].ps.map PG.l).getD q [], (0 : Int))) = _
      rw [if_neg (by rw [hbad]; decide), List.getD_eq_getElem?_getD, List.getElem?_map, List.getElem?_eq_getElem hq]; rfl
    rw [hr]
    have hbi := h.okb _ (List.getElem_mem hi)
    have hsub : ∀ x ∈ bs[i].objs, x ∈ fL m d bv bseg bs tv tseg ts := fun x hx => List.mem_cons_of_mem _ (List.mem_append_right _ (List.mem_append_left _ (List.mem_flatMap.2 ⟨bs[i], List.getElem_mem hi, hx⟩)))
    have hpsl : Sl (fL m d bv bseg bs tv tseg ts) bs[i].v 1 (bs[i].ps.map PG.val) := Sl.mono (hbi.own.sl.left.cons (p := bs[i].obj)) hsub
    have hgo := hbi.ps _ (List.getElem_mem hq)
    have hgsl : BSl (fL m d bv bseg bs tv tseg ts) bs[i].ps[q].v bs[i].ps[q].l := Sl.mono hgo.sl fun x hx => hsub x (List.mem_cons_of_mem _ (List.mem_append_right _ (List.mem_flatMap.2 ⟨_, List.getElem_mem hq, hx⟩)))
    have hgl : bs[i].ps[q].l.length = d.c.S := (ok.pg _ hmk).2 _ (List.mem_map.2 ⟨_, List.getElem_mem hq, rfl⟩)
    have hvl := hpsl.len
    rw [List.length_map] at hvl
    obtain ⟨a, ha, hld⟩ := hpsl.at' (i := q) (by omega) (by decide)
    refine nw_of fun n _ => nilc_of rfl (ld_of bs[i].v (b_ps (List.mem_cons_of_mem _ (fL_b hi))) (nilc_of ha (ixn_of (show (0 : Int) ≤ q by omega) (show (q : Int) < bs[i].v.len by omega) ?_)))
    refine ld_of bs[i].ps[q].v ((hld.one ((q : Int).toNat * 1) (v := bs[i].ps[q].val) (by rw [Int.toNat_natCast, Nat.mul_one, List.getElem?_map, List.getElem?_eq_getElem hq]; rfl)).mono fun x hx => List.mem_cons_of_mem _ hx) ?_
    refine append_in elemB srcB [] (fL m d bv bseg bs tv tseg ts) own_empty rfl (.sl hgsl.cons) (bvs_plain _) (by rw [hgsl.len]; simp only; omega) fun v' seg' hv' own' => ?_
    rw [List.nil_append] at own' ⊢
    exact .of ⟨⟨v', seg', bs[i].ps[q].l⟩, rfl, rfl, own', rfl⟩
end Go.Proofs.Ytaniefdpjommnaa
