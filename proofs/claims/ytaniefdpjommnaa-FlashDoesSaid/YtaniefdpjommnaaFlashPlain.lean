/-
  It is proved what acts keep of a device as plain data: no program is in sight. There are no further conditions than those that each theorem names.
-/
import Derived.Test.YtaniefdpjommnaaFlash7
set_option linter.unusedVariables false
set_option linter.unusedSimpArgs false
namespace Go.Proofs.Ytaniefdpjommnaa
open Go.HL

theorem prog_bs (d : Dev) (b p : Int) (data : List UInt8) : (prog d b p data).2 = d ∨ ∃ (i q : Nat) (k : Blk), findE d b p = 0 ∧ data.length = d.c.S ∧ b = i ∧ p = q ∧ d.bs[i]? = some k ∧ k.bad = false ∧ k.next = q ∧ prog d b p data = progK d i q k data := by
  unfold prog
  split
  · exact .inl rfl
  · rename_i he
    have he' : findE d b p = 0 := by simpa using he
    obtain ⟨_, hb0, _, hp0, hp1⟩ := findE_0 he'
    split
    · exact .inl rfl
    · rename_i hl
      split
      · exact .inl rfl
      · rename_i k hk
        split
        · exact .inl rfl
        · rename_i hb
          split
          · exact .inl rfl
          · rename_i hn
            exact .inr ⟨b.toNat, p.toNat, k, he', by omega, by omega, by omega, hk, by simpa using hb, by omega, rfl⟩
theorem progK_bs (d : Dev) (i q : Nat) (k : Blk) (data : List UInt8) : ∃ img, (progK d i q k data).2.bs = d.bs.set i (k.put q img) ∧ (progK d i q k data).2.bytes = IntKind.i64.wrap (d.bytes + d.c.S) ∧ (progK d i q k data).2.c = d.c ∧ ((tear (counted d)).1 = false → (progK d i q k data).1 = 0 ∧ img = data) ∧
    ((progK d i q k data).2.torn = d.torn ∨ (progK d i q k data).2.torn = d.torn ++ [⟨i, q, data, tornImg d data⟩]) := by
  obtain ⟨h1, h2, h3, h4⟩ := tear_counted d
  have h5 : (tear (counted d)).2.bytes = IntKind.i64.wrap (d.bytes + d.c.S) := (tear_c (counted d)).2.2.2.1
  unfold progK
  split
  · rename_i ht
    exact ⟨tornImg d data, rfl, h5, h1, fun hf => absurd (ht.symm.trans hf) (by decide), .inr rfl⟩
  · exact ⟨data, rfl, h5, h1, fun _ => ⟨rfl, rfl⟩, .inl h3⟩
theorem erase_bs (d : Dev) (b : Int) : (eraseR d b).2 = d ∨ ∃ (i : Nat) (k k' : Blk), d.down = false ∧ b = i ∧ d.bs[i]? = some k ∧ k.bad = false ∧ k.wear ≤ k'.wear ∧ (eraseR d b).2.bs = d.bs.set i k' ∧ (eraseR d b).2.bytes = d.bytes ∧ (eraseR d b).2.c = d.c := by
  obtain ⟨h1, h2, h3, h4, h5⟩ := tear_c d
  unfold eraseR
  split
  · exact .inl rfl
  · rename_i he
    have he' : findE d b 0 = 0 := by simpa using he
    obtain ⟨hd, hb0, _, hp0, hp1⟩ := findE_0 he'
    split
    · exact .inl rfl
    · rename_i k hk
      split
      · exact .inl rfl
      · rename_i hb
        right
        unfold eraseK
        split
        · exact ⟨b.toNat, k, k.torn d.c (keptN d.keep d.c.P), hd, by omega, hk, by simpa using hb, Nat.le_refl _, rfl, h4, h1⟩
        · exact ⟨b.toNat, k, k.fresh d.c, hd, by omega, hk, by simpa using hb, Nat.le_succ _, rfl, h4, h1⟩
theorem arm_same (d : Dev) (n k : Int) : (arm d n k).bs = d.bs ∧ (arm d n k).bytes = d.bytes ∧ (arm d n k).c = d.c ∧ (arm d n k).down = d.down := by unfold arm; split <;> exact ⟨rfl, rfl, rfl, rfl⟩
theorem act_c (d : Dev) (x : FA) : (act d x).c = d.c := by
  unfold act
  split
  · rcases prog_bs d x.2.1 x.2.2.1 x.2.2.2.1.2 with h | ⟨i, q, k, _, _, _, _, _, _, _, h⟩
    · rw [h]
    · rw [h]; obtain ⟨_, _, _, h', _⟩ := progK_bs d i q k x.2.2.2.1.2; exact h'
  · split
    · rfl
    · split
      · rcases erase_bs d x.2.1 with h | ⟨_, _, _, _, _, _, _, _, _, _, h⟩
        · rw [h]
        · exact h
      · split
        · exact (arm_same d _ _).2.2.1
        · rfl
/-- A page that was programmed. -/
def Kept (d : Dev) (j p : Nat) (data : List UInt8) : Prop := ∃ k, d.bs[j]? = some k ∧ k.pages[p]? = some data ∧ p < k.next ∧ k.bad = false
theorem Kept.same {d e : Dev} {j p : Nat} {data : List UInt8} (h : Kept d j p data) (hb : e.bs = d.bs) : Kept e j p data := by
  obtain ⟨k, h1, h2⟩ := h
  exact ⟨k, by rw [hb]; exact h1, h2⟩
theorem act_kept {d : Dev} {j p : Nat} {data : List UInt8} (h : Kept d j p data) (x : FA) (hx : ¬ (x.1 = 2 ∧ x.2.1 = j)) : Kept (act d x) j p data := by
  obtain ⟨k, h1, h2, h3, h4⟩ := h
  unfold act
  split
  · rcases prog_bs d x.2.1 x.2.2.1 x.2.2.2.1.2 with h | ⟨i, q, k', _, hl, _, _, hk', hb', hn', h⟩
    · rw [h]; exact ⟨k, h1, h2, h3, h4⟩
    · rw [h]
      obtain ⟨img, hs, _⟩ := progK_bs d i q k' x.2.2.2.1.2
      by_cases hij : i = j
      · subst hij
        obtain rfl : k' = k := Option.some.inj (hk'.symm.trans h1)
        have hi : i < d.bs.length := (List.getElem?_eq_some_iff.1 h1).1
        refine ⟨k'.put q img, by rw [hs, List.getElem?_set_self hi], ?_, ?_, h4⟩
        · show (k'.pages.set q img)[p]? = some data
          rw [List.getElem?_set_ne (by omega)]; exact h2
        · show p < q + 1
          omega
      · exact ⟨k, by rw [hs, List.getElem?_set_ne hij]; exact h1, h2, h3, h4⟩
  · split
    · exact ⟨k, h1, h2, h3, h4⟩
    · split
      · rename_i h0 h00 h2x
        rcases erase_bs d x.2.1 with h | ⟨i, k', k'', _, hbi, _, _, _, hs, _, _⟩
        · rw [h]; exact ⟨k, h1, h2, h3, h4⟩
        · have hij : i ≠ j := fun e => hx ⟨h2x, by rw [hbi, e]⟩
          exact ⟨k, by rw [hs, List.getElem?_set_ne hij]; exact h1, h2, h3, h4⟩
      · split
        · exact Kept.same ⟨k, h1, h2, h3, h4⟩ (arm_same d _ _).1
        · exact Kept.same ⟨k, h1, h2, h3, h4⟩ rfl
/-- A page is programmed where its block's turn is. -/
theorem prog_next {d : Dev} (ok : DvOk d) (hd : d.down = false) (ha : d.after = 0) {j : Nat} (hj : j < d.bs.length) (data : List UInt8) :
    ((prog d j (nextOf d j) data).1 ≠ 0 → (prog d j (nextOf d j) data).2 = d ∧ (nextOf d j = d.c.P ∨ data.length ≠ d.c.S ∨ badOf d j = true)) ∧ ((prog d j (nextOf d j) data).1 = 0 → ∃ p : Nat, nextOf d j = p ∧ p < d.c.P ∧ Kept (prog d j (nextOf d j) data).2 j p data) := by
  have hk : d.bs[j]? = some d.bs[j] := List.getElem?_eq_getElem hj
  have hb : blkAt d j = some d.bs[j] := by unfold blkAt; rw [if_pos (by omega), Int.toNat_natCast]; exact hk
  have hn : nextOf d j = (d.bs[j].next : Int) := by unfold nextOf; rw [hb]; rfl
  have hbad : badOf d j = d.bs[j].bad := by unfold badOf; rw [hb]; rfl
  have hbk := ok.bk (List.getElem_mem hj)
  have hle := hbk.nx.1
  rw [hn, hbad]
  by_cases hp : d.bs[j].next = d.c.P
  · have he : findE d j (d.bs[j].next : Int) = 2 := by unfold findE; rw [hd, if_neg (by decide), if_neg (by omega), if_pos (by omega)]
    have hpr : prog d j (d.bs[j].next : Int) data = (2, d) := by unfold prog; rw [he, if_pos (by decide)]
    rw [hpr]
    exact ⟨fun _ => ⟨rfl, .inl (by omega)⟩, fun h => absurd h (by simp)⟩
  have he : findE d j (d.bs[j].next : Int) = 0 := by unfold findE; rw [hd, if_neg (by decide), if_neg (by omega), if_neg (by omega)]
  by_cases hl : data.length = d.c.S
  · cases hbd : d.bs[j].bad with
    | true => 
      have hpr : prog d j (d.bs[j].next : Int) data = (10, d) := by
        unfold prog
        rw [he, if_neg (by decide), if_neg (by omega), Int.toNat_natCast, hk]
        simp only
        rw [if_pos hbd]
      rw [hpr]
      exact ⟨fun _ => ⟨rfl, .inr (.inr rfl)⟩, fun h => absurd h (by simp)⟩
    | false =>
      have hpr : prog d j (d.bs[j].next : Int) data = progK d j d.bs[j].next d.bs[j] data := by
        unfold prog
        rw [he, if_neg (by decide), if_neg (by omega), Int.toNat_natCast, Int.toNat_natCast, hk]
        simp only
        rw [if_neg (by rw [hbd]; decide), if_neg (by simp)]
      rw [hpr]
      obtain ⟨img, h1, h2, h3, h4, h5⟩ := progK_bs d j d.bs[j].next d.bs[j] data
      have ht : (tear (counted d)).1 = false := by
        unfold tear
        rw [if_pos (show (counted d).after = 0 from ha)]
      obtain ⟨h6, rfl⟩ := h4 ht
      refine ⟨fun h => absurd h6 h, fun _ => ⟨d.bs[j].next, rfl, by omega, d.bs[j].put d.bs[j].next img, by rw [h1, List.getElem?_set_self hj], ?_, Nat.lt_succ_self _, hbd⟩⟩
      show (d.bs[j].pages.set d.bs[j].next img)[d.bs[j].next]? = some img
      rw [List.getElem?_set_self (by rw [hbk.pg.1]; omega)]
  · have hpr : prog d j (d.bs[j].next : Int) data = (2, d) := by unfold prog; rw [he, if_neg (by decide), if_pos hl]
    rw [hpr]
    exact ⟨fun _ => ⟨rfl, .inr (.inl hl)⟩, fun h => absurd h (by simp)⟩
theorem kept_read {d : Dev} (ok : DvOk d) (hd : d.down = false) {j p : Nat} {data : List UInt8} (h : Kept d j p data) : readR d j p = (data, 0) ∧ (p : Int) < nextOf d j := by
  obtain ⟨k, h1, h2, h3, h4⟩ := h
  have hi := (List.getElem?_eq_some_iff.1 h1).1
  have hp := (List.getElem?_eq_some_iff.1 h2).1
  have hpl := (ok.bk (List.mem_of_getElem? h1)).pg.1
  have he : findE d j p = 0 := by unfold findE; rw [hd, if_neg (by decide), if_neg (by omega), if_neg (by omega)]
  constructor
  · unfold readR
    rw [he, if_neg (by decide), Int.toNat_natCast, Int.toNat_natCast, h1]
    simp only
    rw [if_neg (by rw [h4]; decide), List.getD_eq_getElem?_getD, h2]; rfl
  · unfold nextOf blkAt
    rw [if_pos (by omega), Int.toNat_natCast, h1]
    show (p : Int) < (k.next : Int)
    omega
/-! ### what never falls, and what is torn -/
theorem wearOf_set {d e : Dev} {i : Nat} {k k' : Blk} (hk : d.bs[i]? = some k) (hw : k.wear ≤ k'.wear) (hs : e.bs = d.bs.set i k') (b : Int) : wearOf d b ≤ wearOf e b := by
  have hi := (List.getElem?_eq_some_iff.1 hk).1
  unfold wearOf blkAt
  split
  · rw [hs]
    by_cases hij : i = b.toNat
    · rw [← hij, hk, List.getElem?_set_self hi]
      show (k.wear : Int) ≤ (k'.wear : Int)
      omega
    · rw [List.getElem?_set_ne hij]; exact Int.le_refl _
  · exact Int.le_refl _
theorem act_wear (d : Dev) (x : FA) (b : Int) : wearOf d b ≤ wearOf (act d x) b := by
  unfold act
  split
  · rcases prog_bs d x.2.1 x.2.2.1 x.2.2.2.1.2 with h | ⟨i, q, k', _, hl, _, _, hk', hb', hn', h⟩
    · rw [h]; exact Int.le_refl _
    · rw [h]
      obtain ⟨img, hs, _⟩ := progK_bs d i q k' x.2.2.2.1.2
      exact wearOf_set (k' := k'.put q img) hk' (Nat.le_refl _) hs b
  · split
    · exact Int.le_refl _
    · split
      · rcases erase_bs d x.2.1 with h | ⟨i, k', k'', _, hbi, hk, _, hw, hs, _, _⟩
        · rw [h]; exact Int.le_refl _
        · exact wearOf_set hk hw hs b
      · split
        · unfold wearOf blkAt; rw [(arm_same d _ _).1]; exact Int.le_refl _
        · exact Int.le_refl _
theorem act_bytes (d : Dev) (x : FA) : (act d x).bytes = d.bytes ∨ (act d x).bytes = IntKind.i64.wrap (d.bytes + d.c.S) := by
  unfold act
  split
  · rcases prog_bs d x.2.1 x.2.2.1 x.2.2.2.1.2 with h | ⟨i, q, k', _, hl, _, _, hk', hb', hn', h⟩
    · rw [h]; exact .inl rfl
    · rw [h]
      obtain ⟨img, _, hs, _⟩ := progK_bs d i q k' x.2.2.2.1.2
      exact .inr hs
  · split
    · exact .inl rfl
    · split
      · rcases erase_bs d x.2.1 with h | ⟨i, k', k'', _, hbi, hk, _, hw, _, hs, _⟩
        · rw [h]; exact .inl rfl
        · exact .inl hs
      · split
        · exact .inl (arm_same d _ _).2.1
        · exact .inl rfl
/-- A device that is down does nothing. -/
theorem act_down {d : Dev} (h : d.down = true) (x : FA) : (act d x).bs = d.bs ∧ (act d x).bytes = d.bytes ∧ (act d x).down = !decide (x.1 < 0 ∨ x.1 > 3) := by
  have hp : (prog d x.2.1 x.2.2.1 x.2.2.2.1.2).2 = d := by
    have he : findE d x.2.1 x.2.2.1 = 11 := by unfold findE; rw [if_pos h]
    unfold prog; rw [he, if_pos (by decide)]
  have hq : (eraseR d x.2.1).2 = d := by
    have he : findE d x.2.1 0 = 11 := by unfold findE; rw [if_pos h]
    unfold eraseR; rw [he, if_pos (by decide)]
  unfold act
  split
  · rename_i h0; rw [hp, h0]; exact ⟨rfl, rfl, by rw [h]; rfl⟩
  · split
    · rename_i h0; rw [h0]; exact ⟨rfl, rfl, by rw [h]; rfl⟩
    · split
      · rename_i h0; rw [hq, h0]; exact ⟨rfl, rfl, by rw [h]; rfl⟩
      · split
        · rename_i h0
          obtain ⟨h1, h2, h3, h4⟩ := arm_same d x.2.2.2.2.1 x.2.2.2.2.2.1
          rw [h0]
          exact ⟨h1, h2, by rw [h4, h]; rfl⟩
        · rename_i h0 h1 h2 h3
          refine ⟨rfl, rfl, ?_⟩
          rw [decide_eq_true (by omega)]; rfl
/-- What is torn has a part of what was meant, and blank bytes behind it. -/
def TornOk (S : Nat) (t : Tn) : Prop := ∃ n, n ≤ S ∧ t.meant.length = S ∧ t.image = t.meant.take n ++ blk (S - n)
theorem act_tornOk {d : Dev} {S : Nat} (hS : d.c.S = S) (h : ∀ t ∈ d.torn, TornOk S t) (x : FA) : ∀ t ∈ (act d x).torn, TornOk S t := by
  unfold act
  split
  · rcases prog_bs d x.2.1 x.2.2.1 x.2.2.2.1.2 with h1 | ⟨i, q, k', _, hl, _, _, hk', hb', hn', h1⟩
    · rw [h1]; exact h
    · rw [h1]
      obtain ⟨img, _, _, _, _, hs | hs⟩ := progK_bs d i q k' x.2.2.2.1.2
      · rw [hs]; exact h
      · rw [hs]
        intro t ht
        rcases List.mem_append.1 ht with ht | ht
        · exact h t ht
        · rw [List.mem_singleton.1 ht]
          exact ⟨keptN d.keep d.c.S, by unfold keptN; omega, by rw [← hS]; exact hl, by rw [← hS]; rfl⟩
  · split
    · exact h
    · split
      · rw [erase_torn]; exact h
      · split
        · rw [arm_torn]; exact h
        · exact h
end Go.Proofs.Ytaniefdpjommnaa
