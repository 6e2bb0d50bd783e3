/-
  It is proved what a slice of a slice of one's own is, and what clear does behind its elements. There are no further conditions than those that each theorem names.
-/
import Derived.Test.YtaniefdpjommnaaDoorHL18
set_option linter.unusedVariables false
set_option linter.unusedSimpArgs false
namespace Go.HL
section
variable {P : Program} {L : HList}

/-- s[l:h] of a slice of one's own, which stands for it from then on. -/
theorem Own.slc {v : SlV} {sz : Nat} {T : TypeId} {vs : List Value} {seg : HList} (own : Own v sz T vs seg) {l h : Nat} (hl : l ≤ h) (hh : h ≤ v.len) :
    Own (slcV v l h v.cap sz) sz T ((vs.drop (l * sz)).take ((h - l) * sz)) seg := by
  have hlen := own.len
  have hcap := own.cap
  have h1 := Nat.mul_le_mul_right sz hh
  have h2 := Nat.mul_le_mul_right sz hl
  have h3 := Nat.mul_le_mul_right sz hcap
  refine ⟨?_, ?_, ?_⟩
  · simp only [slcV, Int.toNat_natCast, List.length_take, List.length_drop]
    rw [Nat.min_eq_left]
    rw [Nat.sub_mul]; omega
  · simp only [slcV, Int.toNat_natCast]; omega
  · rcases own.row with ⟨ha, hc, rfl⟩ | ⟨b, off, c, fz, ha, rfl, hsz, hfz, hcell⟩
    · refine .inl ⟨?_, ?_, rfl⟩
      · simp only [slcV, Int.toNat_natCast, ha]; split <;> rfl
      · simp only [slcV, Int.toNat_natCast]; omega
    · by_cases he : v.cap = l
      · refine .inr ⟨b, off, c, fz, ?_, rfl, ?_, hfz, ?_⟩
        · simp only [slcV, Int.toNat_natCast, if_pos he, ha]
        · simp only [slcV, Int.toNat_natCast]; rw [he, Nat.sub_self, Nat.zero_mul]; omega
        · intro i u hu
          have : h = l := by omega
          subst this
          simp at hu
      · refine .inr ⟨b, off + l * sz, c, fz, ?_, rfl, ?_, hfz, ?_⟩
        · simp only [slcV, Int.toNat_natCast, if_neg he, ha, Option.map_some]
          rw [addr_add rfl]
        · simp only [slcV, Int.toNat_natCast]
          rw [Nat.sub_mul]
          have := Nat.mul_le_mul_right sz (show l ≤ v.cap by omega)
          omega
        · intro i u hu
          rw [List.getElem?_take] at hu
          split at hu
          · rw [List.getElem?_drop] at hu
            rw [Nat.add_assoc]
            exact hcell _ _ hu
          · cases hu

theorem run_clear_none {t ty : TypeId} {d : TypeDesc} (hu : P.underlying t = some d) {a : Option Addr} {n c : Nat} (h : a = none ∨ n = 0) (w : World) : (Builtin.clear_ #[t] ty #[.slice a n c]).run P w = .ok (.tuple #[]) w := by
  rcases h with rfl | rfl
  · cases d <;> simp [Builtin.clear_, run_und hu]
  · cases a <;> cases d <;> simp [Builtin.clear_, run_und hu]
theorem run_clear_some {t ty e : TypeId} {i : TypeInfo} {zv : Value} (hu : P.underlying t = some (.slice e)) (hi : P.info? e = some i) (hz : i.zero = some zv) {a : Addr} {n c : Nat} (hn : n ≠ 0) {w w' : World}
    (hs : (storeCells a (Builtin.zeroCells zv.cells n).toList).run P w = .ok () w') : (Builtin.clear_ #[t] ty #[.slice (some a) n c]).run P w = .ok (.tuple #[]) w' := by
  cases n with
  | zero => exact absurd rfl hn
  | succ n => simp [Builtin.clear_, run_und hu, zeroValue, typeInfo, hi, hz, hs]

/-- 'clear(s[len(s):h])': what lies behind the elements. -/
theorem clear_own {t ty e : TypeId} {sz bytes : Nat} {z : List Value} (hT : ElemT P t e sz bytes z) (hz : z.all plainV = true) {v : SlV} {vs : List Value} {seg : HList} (X Y : HList) (own : Own v sz e vs seg) (hL : L = X ++ seg ++ Y) {h : Nat} (h1 : v.len ≤ h) (h2 : h ≤ v.cap)
    {s : SlV} (hs : s = slcV v v.len h v.cap sz) {k : RsV [] → HP} (hk : ∀ seg', Own v sz e vs seg' → k () (X ++ seg' ++ Y)) : smW P (Builtin.clear_ #[t] ty #[.slice s.a s.len s.cap]) [] k L := by
  subst hL hs
  obtain ⟨i, hi, his, hib, zv, hzv, hzl⟩ := hT.info
  subst his
  have hsl : (slcV v v.len h v.cap i.size).len = h - v.len := by simp only [slcV, Int.toNat_natCast]
  intro E F w hw
  by_cases hn : h - v.len = 0
  · exact ⟨_, w, _, run_clear_none hT.und (.inr (by rw [hsl]; exact hn)) w, hw, (), rfl, hk seg own⟩
  · rcases own.row with ⟨ha, hc, rfl⟩ | ⟨b, off, c, fz, ha, rfl, hsz, hfz, hcell⟩
    · omega
    · have haa : (slcV v v.len h v.cap i.size).a = some ⟨b, off + v.len * i.size, none⟩ := by
        simp only [slcV, Int.toNat_natCast]
        rw [if_neg (by omega), ha, Option.map_some, addr_add rfl]
      have hlen := own.len
      have hle := Nat.mul_le_mul_right i.size h2
      have hle1 := Nat.mul_le_mul_right i.size h1
      have hzs : zv.cells.size = i.size := by rw [← hT.zlen, ← hzl]; simp
      have hzlen : (Builtin.zeroCells zv.cells (h - v.len)).toList.length = (h - v.len) * i.size := by
        rw [Array.length_toList, zeroCells_size, hzs]
      have hsub : (h - v.len) * i.size = h * i.size - v.len * i.size := Nat.sub_mul ..
      have hpl : (Builtin.zeroCells zv.cells (h - v.len)).toList.all plainV = true := by
        rw [List.all_eq_true] at hz ⊢
        intro x hx
        refine hz x ?_
        rw [← hzl]
        unfold Builtin.zeroCells at hx
        simp only [Array.toList_map, List.mem_map] at hx
        obtain ⟨l, _, rfl⟩ := hx
        have hlt : l % zv.cells.size < zv.cells.size := Nat.mod_lt _ (by rw [hzs]; exact hT.pos)
        rw [getElem!_pos zv.cells _ hlt]
        simp
      obtain ⟨w', hr, hw'⟩ := run_storeCells (P := P) (E := E) (A := X) (B := Y) (F := F) (b := b) (T := e) (fz := fz) (Builtin.zeroCells zv.cells (h - v.len)).toList c (off + v.len * i.size) 0 w hpl (by simpa using hw) (by rw [hzlen]; omega) (by rw [hzlen]; intro j hj; omega)
      refine ⟨_, w', X ++ [(b, Obj.cells (wr c (off + v.len * i.size + 0) (Builtin.zeroCells zv.cells (h - v.len)).toList) e fz)] ++ Y, ?_, by simpa using hw', (), rfl, hk _ ⟨hlen, own.cap, .inr ⟨b, off, _, fz, ha, rfl, by rw [wr_size]; exact hsz, by rw [wr_size]; exact hfz, fun j u hu => ?_⟩⟩⟩
      · rw [haa, hsl]
        exact run_clear_some hT.und hi hzv hn hr
      · have hj := (List.getElem?_eq_some_iff.1 hu).1
        rw [wr_get _ _ _ _ (by rw [hzlen]; omega), if_neg (by omega)]
        exact hcell j u hu
theorem Ends.app {K : Value → HP} {v : Value} {J L : HList} (h : Ends K v L) : Ends K v (J ++ L) := by
  obtain ⟨A, J', hp, hK⟩ := h
  refine ⟨A, J' ++ J, ?_, hK⟩
  have h1 : (J ++ L).Perm (L ++ J) := List.perm_append_comm
  exact h1.trans (by simpa [List.append_assoc] using hp.append_right J)
theorem Ends.cons {K : Value → HP} {v : Value} {p : Nat × Obj} {L : HList} (h : Ends K v L) : Ends K v (p :: L) := Ends.app (J := [p]) h
/-- A store over a whole block. -/
theorem wr_all (c : Array Value) (vs : List Value) (h : vs.length = c.size) : wr c 0 vs = vs.toArray := by
  apply Array.ext_getElem?
  intro i
  rw [wr_get _ _ _ _ (by omega)]
  split
  · simp
  · rename_i hi
    rw [Array.getElem?_eq_none (by omega), List.getElem?_toArray, List.getElem?_eq_none (by omega)]
end
end Go.HL
