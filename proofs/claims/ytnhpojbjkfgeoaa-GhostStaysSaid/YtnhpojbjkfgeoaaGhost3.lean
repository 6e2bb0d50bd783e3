/-
  It is proved what the document's answer for the layer ghost computes, and that the law of what a queue does returns true for every input. There are no further conditions than those that each theorem names.
-/
import Derived.Test.YtnhpojbjkfgeoaaGhost2
set_option linter.unusedVariables false
set_option linter.unusedSimpArgs false
namespace Go.Proofs.Ytnhpojbjkfgeoaa
open Go.HL

theorem gnew_cl (room : Int) : CallF PP 44 #[.int .i64 room] [] fun r L' => ∃ n o, r = .pointer (some ⟨n, 0, none⟩) ∧ L' = [(n, o)] ∧ GOb (imin (imax room 0) 64) [] o := by
  refine CallF.of (args := [.int .i64 room]) noNum mixed Try.func44 (e44 room _) ?_
  unfold t44
  refine nw_of fun n _ => .of ⟨n, _, rfl, rfl, _, 0, rfl, rfl, rfl, rfl, rfl, by omega, by simp, fun i x h => by simp at h⟩
theorem room_rng (room : Int) : 0 ≤ imin (imax room 0) 64 ∧ imin (imax room 0) 64 ≤ 64 := by unfold imin imax; split <;> split <;> omega
theorem gAdd_len {room : Int} {l : List Int} {x : Int} (h : (l.length : Int) ≤ room) : ((gAdd room l x).length : Int) ≤ room := by
  unfold gAdd
  have := erase_len l x
  have h2 : ((l.erase x ++ [x]).length : Int) = (l.erase x).length + 1 := by rw [List.length_append]; rfl
  split
  · rw [List.length_drop]; omega
  · omega

/-- The document's queue. -/
def RG (m : Nat) (room : Int) (l : List Int) (A : HList) : Prop := ∃ (s : SlV) (seg : HList), A = (m, Obj.cells #[.int .i64 room, .slice s.a s.len s.cap] 68) :: seg ∧ Own s 1 eU (ivs .u64 l) seg
theorem rgnew_cl (room : Int) : CallF PP 45 #[.int .i64 room] [] fun r L' => ∃ m, r = .pointer (some ⟨m, 0, none⟩) ∧ RG m (imin (imax room 0) 64) [] L' := by
  refine CallF.of (args := [.int .i64 room]) noNum mixed Try.func45 (e45 room _) ?_
  unfold t45
  exact nw_of fun n _ => .of ⟨n, rfl, ⟨none, 0, 0⟩, [], rfl, ⟨rfl, Nat.le_refl _, .inl ⟨rfl, rfl, rfl⟩⟩⟩
theorem rat_cl (m : Nat) (room : Int) (l : List Int) (A : HList) (h : RG m room l A) (hb : l.length ≤ 1000000) (x : Int) :
    CallF PP 65 #[.pointer (some ⟨m, 0, none⟩), .int .u64 x] A fun r L' => L' = A ∧ ∃ i, r = .int .i64 i ∧ Stands l x i := by
  obtain ⟨s, seg, rfl, own⟩ := h
  refine CallF.of (args := [.pointer (some ⟨m, 0, none⟩), .int .u64 x]) noNum mixed Try.func65 (e65 (some ⟨m, 0, none⟩) x _) ?_
  unfold t65
  have hsl : ISl ((m, Obj.cells #[.int .i64 room, .slice s.a s.len s.cap] 68) :: seg) s .u64 l := own.sl.cons
  have hlen := hsl.len
  refine lp_of (fun k z L' => L' = (m, Obj.cells #[.int .i64 room, .slice s.a s.len s.cap] 68) :: seg ∧ ∃ i, i ≤ l.length ∧ k = l.length - i ∧ z = ((i : Int), ()) ∧ x ∉ l.take i) l.length ⟨rfl, 0, by omega, by omega, rfl, by simp⟩ ?_
  rintro k z L ⟨rfl, i, hi, rfl, rfl, hn⟩
  refine nilc_of rfl (ld_of s (ldB List.mem_cons_self rfl) ?_)
  refine ifD_of (fun (hlt : (i : Int) < s.len) => ?_) (fun (hge : ¬ (i : Int) < s.len) => ?_)
  · have hi' : i < l.length := by omega
    obtain ⟨a, ha⟩ := hsl.some hi'
    refine nilc_of rfl (ld_of s (ldB List.mem_cons_self rfl) (nilc_of ha (ixn_of (show (0 : Int) ≤ i by omega) hlt (ld_of l[i] (hsl.rd hi' ha _ (by simp)) ?_))))
    refine ifE_of (fun (he : l[i] = x) => .of ⟨rfl, i, rfl, .inr ⟨i, rfl, hi', by rw [List.getElem?_eq_getElem hi', he], hn⟩⟩) (fun (he : l[i] ≠ x) => ?_)
    refine ⟨l.length - (i + 1), by omega, rfl, i + 1, by omega, rfl, ?_, not_take_succ hi' hn he⟩
    rw [w64_id (by first | omega | (simp only; omega)) (by first | omega | (simp only; omega))]
    rfl
  · obtain rfl : i = l.length := by omega
    rw [List.take_length] at hn
    exact .of ⟨rfl, -1, rfl, .inl ⟨rfl, hn⟩⟩
theorem rhas_rd (m : Nat) (room : Int) (l : List Int) (A : HList) (h : RG m room l A) (hb : l.length ≤ 1000000) (x : Int) :
    Reads PP 52 #[.pointer (some ⟨m, 0, none⟩), .int .u64 x] A (.bool (decide (x ∈ l))) := by
  refine Reads.of (args := [.pointer (some ⟨m, 0, none⟩), .int .u64 x]) noNum mixed Try.func52 (e52 (some ⟨m, 0, none⟩) x _) ?_
  unfold t52
  refine cl_in [] [] (rat_cl m room l A h hb x) (by simp) ?_
  rintro w A' - ⟨rfl, i, rfl, hst⟩
  refine ⟨(i, ()), rfl, .of ⟨?_, by simp⟩⟩
  congr 1
  exact decide_eq_decide.2 hst.mem
theorem own_empty {n : Nat} {e : TypeId} {k : IntKind} : Own ⟨some ⟨n, 0, none⟩, 0, 0⟩ 1 e (ivs k []) [(n, Obj.cells #[] e)] := ⟨rfl, Nat.le_refl _, .inr ⟨n, 0, #[], (0, 0), rfl, rfl, by simp, .inl (Nat.le_refl _), fun i u hu => by simp [ivs] at hu⟩⟩
theorem rdrop_cl (m : Nat) (room : Int) (l : List Int) (A : HList) (h : RG m room l A) (hb : l.length ≤ 1000000) (x : Int) :
    CallF PP 47 #[.pointer (some ⟨m, 0, none⟩), .int .u64 x] A fun r L' => r = .bool (decide (x ∈ l)) ∧ RG m room (l.erase x) L' := by
  refine CallF.of (args := [.pointer (some ⟨m, 0, none⟩), .int .u64 x]) noNum mixed Try.func47 (e47 (some ⟨m, 0, none⟩) x _) ?_
  unfold t47
  refine cl_in [] [] (rat_cl m room l A h hb x) (by simp) ?_
  rintro w A' - ⟨rfl, i, rfl, hst⟩
  refine ⟨(i, ()), rfl, ?_⟩
  obtain ⟨s, seg, rfl, own⟩ := h
  refine ifD_of (fun (h1 : i < 0) => ?_) (fun (h1 : ¬ i < 0) => ?_)
  · have hx : x ∉ l := fun e => by have := hst.mem.2 e; omega
    refine .of ⟨by rw [decide_eq_false hx], s, seg, by simp, by rw [List.erase_of_not_mem hx]; exact own⟩
  · rcases hst with ⟨rfl, _⟩ | ⟨k, rfl, hk, hx, hn⟩
    · omega
    · have hxl : x ∈ l := List.mem_of_getElem? hx
      have hlen := own.sl.len
      rw [ivs_length, Nat.mul_one] at hlen
      have hcap := own.cap
      have hw : IntKind.i64.wrap ((k : Int) + 1) = ((k + 1 : Nat) : Int) := by rw [w64_id (by omega) (by omega)]; omega
      simp only [hw, List.nil_append, List.append_nil]
      have hm : ∀ {Y : HList} , LdAt ⟨m, 1, none⟩ [.slice s.a s.len s.cap] ((m, Obj.cells #[.int .i64 room, .slice s.a s.len s.cap] 68) :: Y) := ldB List.mem_cons_self rfl
      refine nilc_of rfl (nilc_of rfl (ld_of s hm (slc_of (l' := 0) (h' := k) (m' := s.cap) rfl rfl rfl (by omega) (by omega) (Nat.le_refl _) (ld_of s hm (slc_of (l' := k + 1) (h' := s.len) (m' := s.cap) rfl rfl rfl (by omega) hcap (Nat.le_refl _) ?_)))))
      have src1 := Sl.slc (m := s.cap) own.sl (by omega) (l := 0) (h' := k) (by omega) (by omega) (by omega)
      have src2 := Sl.slc (m := s.cap) own.sl (by omega) (l := k + 1) (h' := s.len) (by omega) (Nat.le_refl _) hcap
      rw [ivs_slc] at src1 src2
      have e1 : (l.drop 0).take (k - 0) = l.take k := by simp
      have e2 : (l.drop (k + 1)).take (s.len - (k + 1)) = l.drop (k + 1) := by rw [hlen]; exact List.take_of_length_le (by rw [List.length_drop]; omega)
      rw [e1] at src1
      rw [e2] at src2
      refine nw_of fun q _ => append_in elemU srcU [] ((m, Obj.cells #[.int .i64 room, .slice s.a s.len s.cap] 68) :: seg) (own_empty (k := .u64)) rfl (.sl (src1.mono fun p hp => by simp [hp])) (ivs_plain _ _)
        (by simp only [slcV, Int.toNat_natCast]; omega) fun s1 seg1 hs1 own1 => ?_
      simp only [slcV, Int.toNat_natCast] at hs1
      refine keep_of (ldB (n := m) (c := #[.int .i64 room, .slice s.a s.len s.cap]) (T := 68) (fz := (0, 0)) (by simp) rfl) ?_
      refine append_in elemU srcU [] ((m, Obj.cells #[.int .i64 room, .slice s.a s.len s.cap] 68) :: seg) own1 rfl (.sl (src2.mono fun p hp => by simp [hp])) (ivs_plain _ _)
        (by simp only [slcV, Int.toNat_natCast]; omega) fun s2 seg2 hs2 own2 => ?_
      rw [← ivs_append, ← ivs_append, List.nil_append, ← Stands.erase hk hx hn] at own2
      refine nilc_of rfl (st_of (n := m) (off := 1) (c := #[.int .i64 room, .slice s.a s.len s.cap]) (T := 68) (fz := (0, 0)) seg2 seg rfl (by simp) (by simp) (.inl (Nat.le_refl _)) _ rfl ?_)
      refine .drop (A := (m, Obj.cells #[.int .i64 room, .slice s2.a s2.len s2.cap] 68) :: seg2) (J := seg) ⟨by rw [decide_eq_true hxl], s2, seg2, rfl, own2⟩ ?_
      exact List.perm_middle
theorem radd_cl (m : Nat) (room : Int) (l : List Int) (A : HList) (h : RG m room l A) (hb : l.length ≤ 1000000) (h0 : 0 ≤ room) (x : Int) :
    CallF PP 49 #[.pointer (some ⟨m, 0, none⟩), .int .u64 x] A fun r L' => r = .tuple #[] ∧ RG m room (gAdd room l x) L' := by
  refine CallF.of (args := [.pointer (some ⟨m, 0, none⟩), .int .u64 x]) noNum mixed Try.func49 (e49 (some ⟨m, 0, none⟩) x _) ?_
  unfold t49
  refine cl_in [] [] (rdrop_cl m room l A h hb x) (by simp) ?_
  rintro w A' - ⟨rfl, s, seg, rfl, own⟩
  refine ⟨(decide (x ∈ l), ()), rfl, ?_⟩
  have hel := erase_len l x
  unfold gAdd
  generalize l.erase x = e at own hel ⊢
  have hlen := own.sl.len
  rw [ivs_length, Nat.mul_one] at hlen
  simp only [List.nil_append, List.append_nil]
  refine nilc_of rfl (ld_of s (ldB List.mem_cons_self rfl) (nw_of fun q _ => ?_))
  refine append_in elemU srcU [(q, Obj.cells #[.int .u64 x] eU), (m, Obj.cells #[.int .i64 room, .slice s.a s.len s.cap] 68)] [] own (by simp [ivs]) (.sl (ISl.const (l := [x]) 1 (Nat.le_refl _) List.mem_cons_self)) (ivs_plain _ _)
    (by simp only [List.length_cons, List.length_nil]; omega) fun s1 seg1 hs1 own1 => ?_
  simp only [List.length_cons, List.length_nil] at hs1
  rw [← ivs_append] at own1
  have hcap1 := own1.cap
  refine nilc_of rfl (st_of (n := m) (off := 1) (c := #[.int .i64 room, .slice s.a s.len s.cap]) (T := 68) (fz := (0, 0)) [(q, Obj.cells #[.int .u64 x] eU)] (seg1 ++ []) rfl (by simp) (by simp) (.inl (Nat.le_refl _)) #[.int .i64 room, .slice s1.a s1.len s1.cap] rfl ?_)
  have hm : (m, Obj.cells #[.int .i64 room, .slice s1.a s1.len s1.cap] 68) ∈ [(q, Obj.cells #[.int .u64 x] eU)] ++ (m, Obj.cells #[.int .i64 room, .slice s1.a s1.len s1.cap] 68) :: (seg1 ++ []) := by simp
  refine nilc_of rfl (nilc_of rfl (ld_of s1 (ldB hm rfl) (ld_of room (ldB hm rfl) ?_)))
  have hll : ((e ++ [x]).length : Int) = s1.len := by rw [List.length_append]; simp only [List.length_cons, List.length_nil]; omega
  rw [hll]
  refine ifD_of (fun (hgt : (s1.len : Int) > room) => ?_) (fun (hgt : ¬ (s1.len : Int) > room) => ?_)
  · rw [if_pos hgt]
    refine nilc_of rfl (ld_of s1 (ldB hm rfl) (slc_of (l' := 1) (h' := s1.len) (m' := s1.cap) rfl rfl rfl (by omega) hcap1 (Nat.le_refl _) ?_))
    have own2 := own1.slc (l := 1) (h := s1.len) (by omega) (Nat.le_refl _)
    rw [ivs_slc] at own2
    have e2 : ((e ++ [x]).drop 1).take (s1.len - 1) = (e ++ [x]).drop 1 := List.take_of_length_le (by rw [List.length_drop]; omega)
    rw [e2] at own2
    refine nilc_of rfl (st_of (n := m) (off := 1) (c := #[.int .i64 room, .slice s1.a s1.len s1.cap]) (T := 68) (fz := (0, 0)) [(q, Obj.cells #[.int .u64 x] eU)] (seg1 ++ []) rfl rfl (by simp) (.inl (Nat.le_refl _)) #[.int .i64 room, .slice (slcV s1 (1 : Nat) s1.len s1.cap 1).a (slcV s1 (1 : Nat) s1.len s1.cap 1).len (slcV s1 (1 : Nat) s1.len s1.cap 1).cap] rfl ?_)
    refine .drop (A := (m, Obj.cells #[.int .i64 room, .slice (slcV s1 (1 : Nat) s1.len s1.cap 1).a (slcV s1 (1 : Nat) s1.len s1.cap 1).len (slcV s1 (1 : Nat) s1.len s1.cap 1).cap] 68) :: seg1) (J := [(q, Obj.cells #[.int .u64 x] eU)]) ⟨rfl, _, seg1, rfl, own2⟩ ?_
    simpa using (List.perm_append_comm (l₁ := [(q, Obj.cells #[.int .u64 x] eU)]) (l₂ := (m, Obj.cells #[.int .i64 room, .slice (slcV s1 (1 : Nat) s1.len s1.cap 1).a (slcV s1 (1 : Nat) s1.len s1.cap 1).len (slcV s1 (1 : Nat) s1.len s1.cap 1).cap] 68) :: seg1))
  · rw [if_neg hgt]
    refine .drop (A := (m, Obj.cells #[.int .i64 room, .slice s1.a s1.len s1.cap] 68) :: seg1) (J := [(q, Obj.cells #[.int .u64 x] eU)]) ⟨rfl, s1, seg1, rfl, own1⟩ ?_
    simpa using (List.perm_append_comm (l₁ := [(q, Obj.cells #[.int .u64 x] eU)]) (l₂ := (m, Obj.cells #[.int .i64 room, .slice s1.a s1.len s1.cap] 68) :: seg1))
end Go.Proofs.Ytnhpojbjkfgeoaa
