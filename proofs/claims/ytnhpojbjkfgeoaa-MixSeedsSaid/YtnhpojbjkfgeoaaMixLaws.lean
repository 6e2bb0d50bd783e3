/-
  It is proved that the laws about the layer mix return true for every input. There are no further conditions than those that each theorem names.
-/
import Derived.Test.YtnhpojbjkfgeoaaMix2
set_option linter.unusedVariables false
set_option linter.unusedSimpArgs false
namespace Go.Proofs.Ytnhpojbjkfgeoaa
open Go.HL

theorem law_MixTells (L : HList) (h : BitVec 64) (c : UInt8) (seed : Int) (s : ByteArray) (sets : Int) (h2 : sets ≤ 9223372036854775807) : Reads PP 7 #[.int .u64 h.toNat, .int .u8 c.toNat, .int .i64 seed, .string s, .int .i64 sets] L (.bool true) := by
  refine Reads.of (args := [.int .u64 h.toNat, .int .u8 c.toNat, .int .i64 seed, .string s, .int .i64 sets]) noNum mixed Try.func7 (e7 h.toNat c.toNat seed s sets _) ?_
  unfold t7
  refine ifD_of (fun (h1 : (s.size : Int) > 1000) => cl_rd (mixes_rd L) (true, ()) rfl (.of ⟨rfl, rfl⟩)) (fun (h1 : ¬ (s.size : Int) > 1000) => ?_)
  refine cl_rd (mstep_rd L h c) (_, ()) rfl (cl_rd (rstep_rd L h c) (_, ()) rfl (ifT (by simp) ?_))
  refine cl_rd (mundo_rd L h c) (_, ()) rfl (cl_rd (rundo_rd L h c) (_, ()) rfl (ifT (by simp) ?_))
  refine cl_rd (mhash_rd L seed s (by omega)) (_, ()) rfl (cl_rd (rhash_rd L seed s (by omega)) (_, ()) rfl (ifT (by simp) ?_))
  refine cl_rd (mset_rd L h sets h2) (_, ()) rfl (cl_rd (rset_rd L h sets h2) (_, ()) rfl (ifT (by simp) ?_))
  refine cl_rd (mpart_rd L h) (_, ()) rfl (cl_rd (rpart_rd L h) (_, ()) rfl (ifT (by simp) ?_))
  exact cl_rd (mixes_rd L) (true, ()) rfl (.of ⟨rfl, rfl⟩)

theorem law_MixBack (L : HList) (h : BitVec 64) (s : ByteArray) : Reads PP 8 #[.int .u64 h.toNat, .string s] L (.bool true) := by
  refine Reads.of (args := [.int .u64 h.toNat, .string s]) noNum mixed Try.func8 (e8 h.toNat s _) ?_
  unfold t8
  have hl := size_list s
  refine ifD_of (fun (h1 : (s.size : Int) > 300) => cl_rd (mixes_rd L) (true, ()) rfl (.of ⟨rfl, rfl⟩)) (fun (h1 : ¬ (s.size : Int) > 300) => ?_)
  refine lp_of (fun k z L' => L' = L ∧ ∃ i, i ≤ s.size ∧ k = s.size - i ∧ z = (((mixSteps h (s.data.toList.take i)).toNat : Int), (i : Int), ())) s.size ⟨rfl, 0, by omega, by omega, rfl⟩ ?_
  rintro k z L ⟨rfl, i, hi, rfl, rfl⟩
  refine ifD_of (fun (hlt : (i : Int) < s.size) => ?_) (fun (hge : ¬ (i : Int) < s.size) => ?_)
  · have hlt' : i < s.data.toList.length := by omega
    refine ixn_of (show (0 : Int) ≤ i by omega) hlt (ixn_of (show (0 : Int) ≤ i by omega) hlt ?_)
    simp only [byteAt_of s i hlt']
    refine cl_rd (mundo_rd _ _ _) (_, ()) rfl (cl_rd (mstep_rd _ _ _) (_, ()) rfl (ifF ?_ ?_))
    · rw [step_undo]
      simp only [bne_self_eq_false]
    refine ixn_of (show (0 : Int) ≤ i by omega) hlt (cl_rd (mstep_rd _ _ _) (_, ()) rfl ⟨s.size - (i + 1), by omega, rfl, i + 1, by omega, rfl, ?_⟩)
    rw [w64_id (by omega) (by omega), List.take_succ_eq_append_getElem hlt', mixSteps_snoc]
    rfl
  · obtain rfl : i = s.size := by omega
    refine lp_of (fun k z L' => L' = L ∧ k ≤ s.size ∧ z = (((mixSteps h (s.data.toList.take k)).toNat : Int), (k : Int) - 1, ())) s.size ⟨rfl, by omega, ?_⟩ ?_
    · rw [w64_id (by omega) (by omega)]
    rintro k z L ⟨rfl, hk, rfl⟩
    refine ifD_of (fun (hge : (k : Int) - 1 ≥ 0) => ?_) (fun (hlt : ¬ (k : Int) - 1 ≥ 0) => ?_)
    · obtain ⟨j, rfl⟩ : ∃ j, k = j + 1 := ⟨k - 1, by omega⟩
      have hj1 : ((j + 1 : Nat) : Int) - 1 = j := by omega
      simp only [hj1]
      have hlt' : j < s.data.toList.length := by omega
      simp only [byteAt_of s j hlt']
      refine ixn_of (by omega) (by omega) (cl_rd (mundo_rd _ _ _) (_, ()) rfl ⟨j, by omega, rfl, by omega, ?_⟩)
      rw [w64_id (by omega) (by omega), List.take_succ_eq_append_getElem hlt', mixSteps_snoc, undo_step]
    · obtain rfl : k = 0 := by omega
      refine ifT (by simp [mixSteps]) (cl_rd (mixes_rd _) (true, ()) rfl (.of ⟨rfl, rfl⟩))

theorem steps_inj : ∀ (l : List UInt8) (a b : BitVec 64), mixSteps a l = mixSteps b l → a = b
  | [], a, b, h => h
  | c :: r, a, b, h => by
    have h1 : mixStep a c = mixStep b c := steps_inj r _ _ h
    have h2 := congrArg (fun x => mixUndo x c) h1
    simpa only [undo_step] using h2
theorem fold32_inv (h : BitVec 64) : fold64 (fold64 h 32) 32 = h := by
  unfold fold64
  rw [BitVec.ushiftRight_xor_distrib, ← BitVec.shiftRight_add]
  apply BitVec.eq_of_getLsbD_eq
  intro i hi
  have h0 : h.getLsbD (64 + i) = false := BitVec.getLsbD_of_ge _ _ (by omega)
  simp only [BitVec.getLsbD_xor, BitVec.getLsbD_ushiftRight, h0, Nat.reduceAdd]
  cases h.getLsbD i <;> cases h.getLsbD (32 + i) <;> rfl
theorem odd_mul : 11400714819323198485#64 * 17428512612931826493#64 = 1#64 := by decide +kernel
theorem xor_inj {a b c : BitVec 64} (h : a ^^^ c = b ^^^ c) : a = b := by
  have := congrArg (fun x => x ^^^ c) h
  simpa only [xor_back] using this
theorem seed_inj {a b : Int} (ha : -9223372036854775808 ≤ a ∧ a ≤ 9223372036854775807) (hb : -9223372036854775808 ≤ b ∧ b ≤ 9223372036854775807) (h : BitVec.ofInt 64 a = BitVec.ofInt 64 b) : a = b := by
  have h1 := congrArg BitVec.toNat h
  simp only [BitVec.toNat_ofInt] at h1
  omega
theorem hash_inj (l : List UInt8) {a b : Int} (ha : -9223372036854775808 ≤ a ∧ a ≤ 9223372036854775807) (hb : -9223372036854775808 ≤ b ∧ b ≤ 9223372036854775807) (h : mixHash a l = mixHash b l) : a = b := by
  unfold mixHash at h
  have h1 := congrArg (fun x => fold64 x 32) h
  simp only [fold32_inv] at h1
  have h2 := congrArg (fun x => x * 17428512612931826493#64) h1
  simp only [BitVec.mul_assoc, odd_mul, BitVec.mul_one] at h2
  exact seed_inj ha hb (xor_inj (steps_inj l _ _ (xor_inj h2)))
theorem hash_eq (l : List UInt8) {a b : Int} (ha : -9223372036854775808 ≤ a ∧ a ≤ 9223372036854775807) (hb : -9223372036854775808 ≤ b ∧ b ≤ 9223372036854775807) :
    ((((mixHash a l).toNat : Int) == (mixHash b l).toNat) == (a == b)) = true := by
  by_cases h : a = b
  · subst h; simp
  · have : ((mixHash a l).toNat : Int) ≠ (mixHash b l).toNat := fun e => h (hash_inj l ha hb (BitVec.eq_of_toNat_eq (by omega)))
    rw [beq_eq_false_iff_ne.2 this, beq_eq_false_iff_ne.2 h]
    rfl
theorem law_MixSeeds (L : HList) (a b : Int) (ha : -9223372036854775808 ≤ a ∧ a ≤ 9223372036854775807) (hb : -9223372036854775808 ≤ b ∧ b ≤ 9223372036854775807) (s : ByteArray) (sets : Int) (h2 : sets ≤ 9223372036854775807) :
    Reads PP 9 #[.int .i64 a, .int .i64 b, .string s, .int .i64 sets] L (.bool true) := by
  refine Reads.of (args := [.int .i64 a, .int .i64 b, .string s, .int .i64 sets]) noNum mixed Try.func9 (e9 a b s sets _) ?_
  unfold t9
  refine ifD_of (fun (h1 : (s.size : Int) > 300) => cl_rd (mixes_rd L) (true, ()) rfl (.of ⟨rfl, rfl⟩)) (fun (h1 : ¬ (s.size : Int) > 300) => ?_)
  refine cl_rd (mhash_rd L a s (by omega)) (_, ()) rfl (cl_rd (mset_rd L _ sets h2) (mixSet (mixHash a s.data.toList) sets, ()) rfl (cl_rd (mpart_rd L _) (mixPart (mixHash a s.data.toList), ()) rfl (cl_rd (mhash_rd L b s (by omega)) (_, ()) rfl ?_)))
  refine ifT (hash_eq _ ha hb) ?_
  generalize mixHash a s.data.toList = h
  have hp : 0 ≤ mixPart h ∧ mixPart h < 65536 := by unfold mixPart; have := h.isLt; omega
  have hs : 0 ≤ mixSet h sets ∧ (mixSet h sets < sets ∨ sets < 1 ∧ mixSet h sets = 0) := by
    unfold mixSet
    split
    · rename_i h1; exact ⟨by omega, .inr ⟨h1, rfl⟩⟩
    · exact ⟨Int.emod_nonneg _ (by omega), .inl (Int.emod_lt_of_pos _ (by omega))⟩
  generalize mixPart h = q at hp ⊢
  generalize mixSet h sets = z at hs ⊢
  refine ifT (decide_eq_true hs.1) ?_
  refine ifD_of (fun (h3 : z < sets) => ?_) (fun (h3 : ¬ z < sets) => ifT (decide_eq_true (hs.2.resolve_left h3).1) (ifT (beq_iff_eq.2 (hs.2.resolve_left h3).2) ?_)) <;>
  · refine ifT (show decide ((q : Int) ≥ 0) = true from decide_eq_true hp.1) ?_
    refine ifT (show decide ((q : Int) < 65536) = true from decide_eq_true hp.2) ?_
    exact cl_rd (mixes_rd L) (true, ()) rfl (.of ⟨rfl, rfl⟩)

theorem row_MixTells (W : World) (a0 : Int) (w0 : intWf .u64 a0) (a1 : Int) (w1 : intWf .u8 a1) (a2 : Int) (w2 : intWf .i64 a2) (a3 : ByteArray) (w3 : a3.size ≤ maxLen) (a4 : Int) (w4 : intWf .i64 a4) :
    Reads PP 7 #[.int .u64 a0, .int .u8 a1, .int .i64 a2, .string a3, .int .i64 a4] (allB W) (.bool true) := by
  obtain ⟨a, rfl⟩ := wf_u64 w0
  obtain ⟨c, rfl⟩ := wf_u8 w1
  exact law_MixTells _ a c a2 a3 a4 (wf_i64 w4).2
theorem row_MixBack (W : World) (a0 : Int) (w0 : intWf .u64 a0) (a1 : ByteArray) (w1 : a1.size ≤ maxLen) :
    Reads PP 8 #[.int .u64 a0, .string a1] (allB W) (.bool true) := by
  obtain ⟨a, rfl⟩ := wf_u64 w0
  exact law_MixBack _ a a1
theorem row_MixSeeds (W : World) (a0 : Int) (w0 : intWf .i64 a0) (a1 : Int) (w1 : intWf .i64 a1) (a2 : ByteArray) (w2 : a2.size ≤ maxLen) (a3 : Int) (w3 : intWf .i64 a3) :
    Reads PP 9 #[.int .i64 a0, .int .i64 a1, .string a2, .int .i64 a3] (allB W) (.bool true) :=
  law_MixSeeds _ a0 a1 (wf_i64 w0) (wf_i64 w1) a2 a3 (wf_i64 w3).2
end Go.Proofs.Ytnhpojbjkfgeoaa
