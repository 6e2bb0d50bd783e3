/-
  It is proved what the Reader of the layer wire and its document's answer compute. There are no further conditions than those that each theorem names.
-/
import Derived.Test.YtaniefdpjommnaaDoorWire2
set_option linter.unusedVariables false
set_option linter.unusedSimpArgs false
namespace Go.Proofs.YtaniefdpjommnaaDoor
open Go.HL

/-! ### the Reader -/
def RD (m : Nat) (b : List UInt8) (at' : Nat) (A : HList) : Prop := ∃ (s : SlV) (seg : HList), A = (m, Obj.cells #[.slice s.a s.len s.cap, .int .i64 at'] 76) :: seg ∧ Own s 1 eB (bvs b) seg ∧ at' ≤ b.length ∧ b.length ≤ 1000000
theorem rdnew_cl (A : HList) (v : SlV) (b : List UInt8) (hb : BSl A v b) (hl : b.length ≤ 1000000) :
    CallF PP 30 #[.slice v.a v.len v.cap] A fun r L' => ∃ m R, r = .pointer (some ⟨m, 0, none⟩) ∧ L' = R ++ A ∧ RD m b 0 R := by
  refine CallF.of (args := [.slice v.a v.len v.cap]) noNum mixed Tryd.func30 (e30 v _) ?_
  unfold t30
  have hlen := hb.len
  refine nw_of fun q _ => append_in elemB srcB [] A own_empty (by simp) (.sl hb.cons) (bvs_plain _) (by first | omega | (simp only; omega)) fun s seg hs own => ?_
  rw [List.nil_append] at own
  exact nw_of fun m _ => .of ⟨m, _ :: seg, rfl, by simp, s, seg, rfl, own, by omega, hl⟩
/-- What Num tells, and where the Reader is then. -/
def rdNext (b : List UInt8) (a : Nat) (w : Int) : Nat := if (wget b a w).2 = 0 then a + w.toNat else a
theorem rdNext_le {b : List UInt8} {a : Nat} {w : Int} (h : a ≤ b.length) : rdNext b a w ≤ b.length := by
  unfold rdNext
  split
  · rename_i h1
    have := (wget_rng b a w).2.2.2 h1
    omega
  · exact h
theorem num_cl (m : Nat) (b : List UInt8) (a : Nat) (A : HList) (h : RD m b a A) (w : Int) :
    CallF PP 33 #[.pointer (some ⟨m, 0, none⟩), .int .i64 w] A fun r L' => r = .tuple #[.int .i64 (wget b a w).1, .int .i64 (wget b a w).2] ∧ RD m b (rdNext b a w) L' := by
  obtain ⟨s, seg, rfl, own, ha, hl⟩ := h
  refine CallF.of (args := [.pointer (some ⟨m, 0, none⟩), .int .i64 w]) noNum mixed Tryd.func33 (e33 (some ⟨m, 0, none⟩) w _) ?_
  unfold t33
  have hsl : BSl ((m, Obj.cells #[.slice s.a s.len s.cap, .int .i64 a] 76) :: seg) s b := own.sl.cons
  refine ifF rfl (nilc_of rfl (nilc_of rfl (ld_of s (ldB List.mem_cons_self rfl) (ld_of (a : Int) (ldB List.mem_cons_self rfl) ?_))))
  have hr := wget_rng b a w
  have hn := rdNext_le (w := w) ha
  unfold rdNext at hn ⊢
  refine cl_rd (wget_rd _ s b hsl (by omega) a w) ((wget b a w).1, (wget b a w).2, ()) rfl ?_
  generalize wget b a w = g at hr hn ⊢
  refine ifE_of (fun (he : g.2 = 0) => ?_) (fun (he : g.2 ≠ 0) => .of ⟨rfl, by rw [if_neg he]; exact ⟨s, seg, rfl, own, ha, hl⟩⟩)
  obtain ⟨u, rfl⟩ : ∃ u : Nat, w = u := ⟨w.toNat, by have := hr.2.2.2 he; omega⟩
  have h7 := hr.2.2.2 he
  have hw : IntKind.i64.wrap ((a : Int) + u) = ((a + u : Nat) : Int) := by rw [w64_id (by omega) (by omega)]; omega
  refine nilc_of rfl (ld_of (a : Int) (ldB List.mem_cons_self rfl) (nilc_of rfl (st_of [] seg rfl rfl (by simp) (.inl (Nat.le_refl _)) #[.slice s.a s.len s.cap, .int .i64 ((a + u : Nat) : Int)] (by rw [hw]; rfl) (.of ⟨rfl, ?_⟩))))
  rw [if_pos he, Int.toNat_natCast] at hn ⊢
  exact ⟨s, seg, rfl, own, hn, hl⟩
theorem num_nil (L : HList) (w : Int) : Reads PP 33 #[.pointer none, .int .i64 w] L (.tuple #[.int .i64 0, .int .i64 1]) := by
  refine Reads.of (args := [.pointer none, .int .i64 w]) noNum mixed Tryd.func33 (e33 none w _) ?_
  unfold t33
  exact ifT rfl (.of ⟨rfl, rfl⟩)
theorem left_rd (m : Nat) (b : List UInt8) (a : Nat) (A : HList) (h : RD m b a A) : Reads PP 32 #[.pointer (some ⟨m, 0, none⟩)] A (.int .i64 ((b.length : Int) - a)) := by
  obtain ⟨s, seg, rfl, own, ha, hl⟩ := h
  refine Reads.of (args := [.pointer (some ⟨m, 0, none⟩)]) noNum mixed Tryd.func32 (e32 (some ⟨m, 0, none⟩) _) ?_
  unfold t32
  have hlen := own.sl.len
  rw [bvs_length, Nat.mul_one] at hlen
  refine ifF rfl (nilc_of rfl (nilc_of rfl (ld_of s (ldB List.mem_cons_self rfl) (ld_of (a : Int) (ldB List.mem_cons_self rfl) (.of ⟨?_, rfl⟩)))))
  rw [hlen, w64_id (by omega) (by omega)]
theorem left_nil (L : HList) : Reads PP 32 #[.pointer none] L (.int .i64 0) := by
  refine Reads.of (args := [.pointer none]) noNum mixed Tryd.func32 (e32 none _) ?_
  unfold t32
  exact ifT rfl (.of ⟨rfl, rfl⟩)

/-- What Text tells: the text, where the Reader is then, why not. -/
def wtext (b : List UInt8) (a : Nat) : List UInt8 × Nat × Int :=
  if (wget b a 4).2 ≠ 0 then ([], a, (wget b a 4).2) else if 65536 < (wget b a 4).1 then ([], a, 4) else if (b.length : Int) < a + 4 + (wget b a 4).1 then ([], a, 6)
  else ((b.drop (a + 4)).take (wget b a 4).1.toNat, a + 4 + (wget b a 4).1.toNat, 0)
def strOf (l : List UInt8) : Value := .string ⟨l.toArray⟩
theorem cut_sl {L : HList} {s : SlV} {b : List UInt8} (h : BSl L s b) {i j : Nat} (h1 : i ≤ j) (h2 : j ≤ b.length) : BSl L (slcV s i j s.cap 1) ((b.drop i).take (j - i)) := by
  have hl := h.len
  have hc := h.cap
  have := Sl.slc (m := s.cap) h (by omega) h1 (by omega) (by omega)
  rwa [bvs_slc] at this
theorem text_cl (m : Nat) (b : List UInt8) (a : Nat) (A : HList) (h : RD m b a A) :
    CallF PP 31 #[.pointer (some ⟨m, 0, none⟩)] A fun r L' => r = .tuple #[strOf (wtext b a).1, .int .i64 (wtext b a).2.2] ∧ RD m b (wtext b a).2.1 L' := by
  obtain ⟨s, seg, rfl, own, ha, hl⟩ := h
  refine CallF.of (args := [.pointer (some ⟨m, 0, none⟩)]) noNum mixed Tryd.func31 (e31 (some ⟨m, 0, none⟩) _) ?_
  unfold t31
  have hsl : ∀ {o : Obj}, BSl ((m, o) :: seg) s b := own.sl.cons
  have hlen := own.sl.len
  rw [bvs_length, Nat.mul_one] at hlen
  have hcap := own.cap
  refine ifF rfl (nilc_of rfl (nilc_of rfl (ld_of s (ldB List.mem_cons_self rfl) (ld_of (a : Int) (ldB List.mem_cons_self rfl) ?_))))
  have hr := wget_rng b a 4
  unfold wtext
  refine cl_rd (wget_rd _ s b hsl (by omega) a 4) ((wget b a 4).1, (wget b a 4).2, ()) rfl ?_
  generalize wget b a 4 = g at hr ⊢
  refine ifNe_of (fun (he : g.2 ≠ 0) => .of ?_) (fun (he : g.2 = 0) => ?_)
  · rw [if_pos he]; exact ⟨rfl, s, seg, rfl, own, ha, hl⟩
  have h4 := hr.2.2.2 he
  have hw : IntKind.i64.wrap ((a : Int) + 4) = ((a + 4 : Nat) : Int) := by rw [w64_id (by omega) (by omega)]; omega
  rw [if_neg (by omega)]
  refine nilc_of rfl (ld_of (a : Int) (ldB List.mem_cons_self rfl) ?_)
  simp only [hw]
  refine ifD_of (fun (h5 : g.1 > 65536) => .of ?_) (fun (h5 : ¬ g.1 > 65536) => ?_)
  · rw [if_pos h5]; exact ⟨rfl, s, seg, rfl, own, ha, hl⟩
  rw [if_neg h5]
  refine nilc_of rfl (ld_of s (ldB List.mem_cons_self rfl) ?_)
  rw [w64_id (n := (s.len : Int) - ((a + 4 : Nat) : Int)) (by omega) (by omega)]
  refine ifD_of (fun (h6 : g.1 > (s.len : Int) - ((a + 4 : Nat) : Int)) => .of ?_) (fun (h6 : ¬ g.1 > (s.len : Int) - ((a + 4 : Nat) : Int)) => ?_)
  · rw [if_pos (by omega)]; exact ⟨rfl, s, seg, rfl, own, ha, hl⟩
  rw [if_neg (by omega)]
  obtain ⟨u, hu⟩ : ∃ u : Nat, g.1 = u := ⟨g.1.toNat, by omega⟩
  have hw2 : IntKind.i64.wrap (((a + 4 : Nat) : Int) + g.1) = ((a + 4 + u : Nat) : Int) := by rw [hu, w64_id (by omega) (by omega)]; omega
  rw [hw2, hu, Int.toNat_natCast]
  refine nilc_of rfl (st_of [] seg rfl rfl (by simp) (.inl (Nat.le_refl _)) #[.slice s.a s.len s.cap, .int .i64 ((a + 4 + u : Nat) : Int)] rfl ?_)
  refine nilc_of rfl (nilc_of rfl (ld_of s (ldB List.mem_cons_self rfl) (ld_of ((a + 4 + u : Nat) : Int) (ldB List.mem_cons_self rfl) ?_)))
  refine slc_of (l' := a + 4) (h' := a + 4 + u) (m' := s.cap) rfl rfl rfl (by omega) (by omega) (Nat.le_refl _) ?_
  have hc := cut_sl (hsl (o := Obj.cells #[.slice s.a s.len s.cap, .int .i64 ((a + 4 + u : Nat) : Int)] 76)) (i := a + 4) (j := a + 4 + u) (by omega) (by omega)
  rw [show a + 4 + u - (a + 4) = u by omega] at hc
  exact b2s_of hc (.of ⟨rfl, s, seg, rfl, own, (show a + 4 + u ≤ b.length by omega), hl⟩)
theorem rtext_rd (L : HList) (v : SlV) (b : List UInt8) (hb : BSl L v b) (hl : b.length ≤ 1000000) (a : Nat) (ha : a ≤ b.length) :
    Reads PP 35 #[.slice v.a v.len v.cap, .int .i64 a] L (.tuple #[strOf (wtext b a).1, .int .i64 (wtext b a).2.1, .int .i64 (wtext b a).2.2]) := by
  refine Reads.of (args := [.slice v.a v.len v.cap, .int .i64 a]) noNum mixed Tryd.func35 (e35 v a _) ?_
  unfold t35
  have hlen := hb.len
  have hcap := hb.cap
  have hr := wget_rng b a 4
  unfold wtext
  refine cl_rd (rget_rd _ v b hb (by omega) a 4) ((wget b a 4).1, (wget b a 4).2, ()) rfl ?_
  generalize wget b a 4 = g at hr ⊢
  refine ifNe_of (fun (he : g.2 ≠ 0) => .of ?_) (fun (he : g.2 = 0) => ?_)
  · rw [if_pos he]; exact ⟨rfl, rfl⟩
  have h4 := hr.2.2.2 he
  have hw : IntKind.i64.wrap ((a : Int) + 4) = ((a + 4 : Nat) : Int) := by rw [w64_id (by omega) (by omega)]; omega
  rw [if_neg (by omega)]
  simp only [hw]
  refine ifD_of (fun (h5 : g.1 > 65536) => .of ?_) (fun (h5 : ¬ g.1 > 65536) => ?_)
  · rw [if_pos h5]; exact ⟨rfl, rfl⟩
  rw [if_neg h5, w64_id (n := (v.len : Int) - a) (by omega) (by omega), w64_id (n := (v.len : Int) - a - 4) (by omega) (by omega)]
  refine ifD_of (fun (h6 : (v.len : Int) - a - 4 < g.1) => .of ?_) (fun (h6 : ¬ (v.len : Int) - a - 4 < g.1) => ?_)
  · rw [if_pos (by omega)]; exact ⟨rfl, rfl⟩
  rw [if_neg (by omega)]
  obtain ⟨u, hu⟩ : ∃ u : Nat, g.1 = u := ⟨g.1.toNat, by omega⟩
  have hw2 : IntKind.i64.wrap (((a + 4 : Nat) : Int) + g.1) = ((a + 4 + u : Nat) : Int) := by rw [hu, w64_id (by omega) (by omega)]; omega
  simp only [hw2]
  simp only [hu, Int.toNat_natCast]
  refine slc_of (l' := a + 4) (h' := a + 4 + u) (m' := v.cap) rfl rfl rfl (by omega) (by omega) (Nat.le_refl _) ?_
  have hc := cut_sl hb (i := a + 4) (j := a + 4 + u) (by omega) (by omega)
  rw [show a + 4 + u - (a + 4) = u by omega] at hc
  exact b2s_of hc (.of ⟨rfl, rfl⟩)
end Go.Proofs.YtaniefdpjommnaaDoor
