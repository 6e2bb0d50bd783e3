/-
  It is proved what the document's answer for the layer queue computes. There are no further conditions than those that each theorem names.
-/
import Derived.Test.YtefllmfoneocaaaQueueLaws
set_option linter.unusedVariables false
set_option linter.unusedSimpArgs false
namespace Go.Proofs.Ytefllmfoneocaaa
open Go.HL

abbrev tYg : TypeId := 63
abbrev eYg : TypeId := 138
def yEnc (e : QE) : List Value := [.string e.key, .slice e.v.a e.v.len e.v.cap, .int .i64 e.freq]
theorem yEnc_len (e : QE) : (yEnc e).length = 3 := rfl
theorem elemYg : ElemT PP tYg eYg 3 48 [.string ByteArray.empty, .slice none 0 0, .int .i64 0] := elemT_of (by kernel_rfl) (by kernel_rfl) rfl (by decide) (by decide)
theorem srcYg : SrcT PP tYg := .inl ⟨eYg, by kernel_rfl⟩
theorem yEnc_plain (l : List QE) : (l.flatMap yEnc).all plainV = true := by
  induction l with
  | nil => rfl
  | cons e r ih => rw [List.flatMap_cons, List.all_append, ih]; rfl
def rO (m : Nat) (room : Int) (s : SlV) : Nat × Obj := (m, Obj.cells #[.int .i64 room, .slice s.a s.len s.cap] 65)
def RQ (m : Nat) (room : Int) (l : List QE) (A : HList) : Prop := ∃ (s : SlV) (seg : HList), A = rO m room s :: (seg ++ segs l) ∧ Own s 3 eYg (l.flatMap yEnc) seg ∧ QOk l
section
variable {L : HList} {m : Nat} {room : Int} {s : SlV}
theorem r_room (h : rO m room s ∈ L) : LdAt ⟨m, 0, none⟩ [.int .i64 room] L := ldB (by unfold rO at h; exact h) rfl
theorem r_l (h : rO m room s ∈ L) : LdAt ⟨m, 1, none⟩ [.slice s.a s.len s.cap] L := ldB (by unfold rO at h; exact h) rfl
end
/-- Where a key stands. -/
def KeyAt (l : List QE) (k : ByteArray) (i : Int) : Prop := (i = -1 ∧ qfind l k = none) ∨ ∃ p e s, l = p ++ e :: s ∧ i = (p.length : Int) ∧ qfind l k = some e ∧ e.key = k ∧ qdrop l k = p ++ s
theorem key_hit {l : List QE} {k : ByteArray} {i : Nat} (hi : i < l.length) (hk : l[i].key = k) (hn : ∀ e ∈ l.take i, e.key ≠ k) : KeyAt l k i := by
  have hl : l = l.take i ++ l[i] :: l.drop (i + 1) := by rw [← List.drop_eq_getElem_cons hi, List.take_append_drop]
  refine .inr ⟨l.take i, l[i], l.drop (i + 1), hl, by rw [List.length_take]; omega, ?_, hk, ?_⟩
  · unfold qfind
    rw [List.find?_eq_some_iff_append]
    exact ⟨by simp [hk], l.take i, l.drop (i + 1), hl, fun a ha => by simpa using fun e => hn a ha e.symm⟩
  · unfold qdrop
    conv => lhs; rw [hl]
    rw [List.eraseP_append_right _ (fun b hb => by simpa using fun e => hn b hb e.symm), List.eraseP_cons_of_pos (p := fun e : QE => decide (k = e.key)) (by simp [hk])]
theorem rqat_cl (m : Nat) (room : Int) (l : List QE) (A : HList) (h : RQ m room l A) (k : ByteArray) :
    CallF PP 84 #[.pointer (some ⟨m, 0, none⟩), .string k] A fun r L' => L' = A ∧ ∃ i, r = .int .i64 i ∧ KeyAt l k i := by
  obtain ⟨s, seg, rfl, own, ok⟩ := h
  refine CallF.of (args := [.pointer (some ⟨m, 0, none⟩), .string k]) noNum mixed Try.func84 (e84 (some ⟨m, 0, none⟩) k _) ?_
  unfold t84
  have hsl : Sl (rO m room s :: (seg ++ segs l)) s 3 (l.flatMap yEnc) := own.sl.left.cons
  have hlen := hsl.els_len yEnc_len (by decide)
  have hfew := ok.few
  refine lp_of (fun z' z L' => L' = rO m room s :: (seg ++ segs l) ∧ ∃ i : Nat, i ≤ l.length ∧ z' = l.length - i ∧ z = ((i : Int), ()) ∧ ∀ e ∈ l.take i, e.key ≠ k) l.length ⟨rfl, 0, by omega, by omega, rfl, by simp⟩ ?_
  rintro z' z L ⟨rfl, i, hi, rfl, rfl, hn⟩
  refine nilc_of rfl (ld_of s (r_l List.mem_cons_self) ?_)
  refine ifD_of (fun (hlt : (i : Int) < s.len) => ?_) (fun (hge : ¬ (i : Int) < s.len) => ?_)
  · have hi' : i < l.length := by omega
    obtain ⟨a, ha, hld⟩ := hsl.el yEnc_len (by decide) hi'
    have hkey : LdAt (Addr.add a ((i : Int).toNat * 3)) [.string l[i].key] (rO m room s :: (seg ++ segs l)) := by
      rw [Int.toNat_natCast]
      exact hld.pre fun j u hu => by cases j with | zero => exact hu | succ j => simp at hu
    refine nilc_of rfl (ld_of s (r_l List.mem_cons_self) (nilc_of ha (ixn_of (show (0 : Int) ≤ i by omega) hlt (ld_of l[i].key hkey ?_))))
    rw [str_beq]
    refine ifD_of (fun (he : l[i].key = k) => .of ⟨rfl, i, rfl, key_hit hi' he hn⟩) (fun (he : ¬ l[i].key = k) => ?_)
    refine ⟨l.length - (i + 1), by omega, rfl, i + 1, by omega, rfl, ?_, fun e hx => ?_⟩
    · rw [w64_id (by first | omega | (simp only; omega)) (by first | omega | (simp only; omega))]
      rfl
    · rw [List.take_succ_eq_append_getElem hi'] at hx
      rcases List.mem_append.1 hx with hx | hx
      · exact hn e hx
      · rw [List.mem_singleton.1 hx]; exact he
  · obtain rfl : i = l.length := by omega
    rw [List.take_length] at hn
    refine .of ⟨rfl, -1, rfl, .inl ⟨rfl, ?_⟩⟩
    unfold qfind
    rw [List.find?_eq_none]
    intro e he
    simpa using fun h2 => hn e he h2.symm
end Go.Proofs.Ytefllmfoneocaaa
