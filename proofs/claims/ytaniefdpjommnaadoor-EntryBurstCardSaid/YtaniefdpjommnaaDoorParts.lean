/-
  It is proved what a list of byte slices is. There are no further conditions than those that each theorem names.
-/
import Derived.Test.YtaniefdpjommnaaDoorHL22
import Derived.Test.YtaniefdpjommnaaDoorWire
set_option linter.unusedVariables false
set_option linter.unusedSimpArgs false
namespace Go.Proofs.YtaniefdpjommnaaDoor
open Go.HL

abbrev tPs : TypeId := 26
theorem undPs : PP.underlying tPs = some (.slice tB) := by kernel_rfl
theorem elemPs : ElemT PP tPs tB 1 24 [.slice none 0 0] := elemT_of (by kernel_rfl) (by kernel_rfl) rfl (by decide) (by decide)
theorem srcPs : SrcT PP tPs := .inl ⟨tB, by kernel_rfl⟩
/-- Bytes with their own place. -/
structure PG where
  v : SlV
  seg : HList
  l : List UInt8
def PG.Ok (g : PG) : Prop := Own g.v 1 eB (bvs g.l) g.seg
def PG.val (g : PG) : Value := .slice g.v.a g.v.len g.v.cap
def pgs (l : List PG) : HList := l.flatMap PG.seg
theorem pgs_append (a b : List PG) : pgs (a ++ b) = pgs a ++ pgs b := List.flatMap_append
theorem pgs_cons (a : PG) (b : List PG) : pgs (a :: b) = a.seg ++ pgs b := rfl
theorem pgs_one (a : PG) : pgs [a] = a.seg := by simp [pgs]
theorem vals_plain (l : List PG) : (l.map PG.val).all plainV = true := by
  induction l with
  | nil => rfl
  | cons e r ih => rw [List.map_cons, List.all_cons, ih]; rfl
def pg0 : PG := ⟨⟨none, 0, 0⟩, [], []⟩
theorem pg0_ok : pg0.Ok := own_nil
/-- Bytes that are read. -/
abbrev PV := SlV × List UInt8
def pvV (x : PV) : Value := .slice x.1.a x.1.len x.1.cap
def pvs (l : List PG) : List PV := l.map fun g => (g.v, g.l)
theorem pvs_val (l : List PG) : (pvs l).map pvV = l.map PG.val := by unfold pvs; rw [List.map_map]; rfl
def catL (l : List PV) : List UInt8 := l.flatMap Prod.snd
structure Parts (L : HList) (v : SlV) (l : List PV) : Prop where
  sl : Sl L v 1 (l.map pvV)
  val : ∀ x ∈ l, BSl L x.1 x.2
theorem Parts.mono {L R : HList} {v : SlV} {l : List PV} (h : Parts L v l) (hs : ∀ p ∈ L, p ∈ R) : Parts R v l := ⟨h.sl.mono hs, fun x hx => Sl.mono (h.val x hx) hs⟩
theorem Parts.len {L : HList} {v : SlV} {l : List PV} (h : Parts L v l) : v.len = l.length := by have := h.sl.len; rw [List.length_map] at this; omega
theorem Parts.at' {L : HList} {v : SlV} {l : List PV} (h : Parts L v l) {i : Nat} (hi : i < l.length) : ∃ a, v.a = some a ∧ LdAt (Addr.add a ((i : Int).toNat * 1)) [pvV l[i]] L := by
  have hl := h.len
  obtain ⟨a, ha, hld⟩ := h.sl.at' (i := i) (by omega) (by decide)
  refine ⟨a, ha, ?_⟩
  rw [Int.toNat_natCast, Nat.mul_one]
  exact hld.one i (by rw [List.getElem?_map, List.getElem?_eq_getElem hi]; rfl)
theorem parts_of {L : HList} {v : SlV} {gs : List PG} {seg : HList} (own : Own v 1 tB (gs.map PG.val) seg) (hg : ∀ g ∈ gs, g.Ok) (h1 : ∀ x ∈ seg, x ∈ L) (h2 : ∀ x ∈ pgs gs, x ∈ L) : Parts L v (pvs gs) := by
  refine ⟨by rw [pvs_val]; exact own.sl.mono h1, fun x hx => ?_⟩
  obtain ⟨g, hgm, rfl⟩ := List.mem_map.1 hx
  exact Sl.mono (hg g hgm).sl fun y hy => h2 y (List.mem_flatMap.2 ⟨g, hgm, hy⟩)
theorem catL_take_le (l : List PV) (i : Nat) : (catL (l.take i)).length ≤ (catL l).length := by
  conv => rhs; rw [← List.take_append_drop i l]
  unfold catL
  rw [List.flatMap_append, List.length_append]; omega
theorem catL_succ (l : List PV) {i : Nat} (hi : i < l.length) : catL (l.take (i + 1)) = catL (l.take i) ++ l[i].2 := by
  unfold catL
  rw [List.take_succ_eq_append_getElem hi, List.flatMap_append, List.flatMap_singleton]
end Go.Proofs.YtaniefdpjommnaaDoor
