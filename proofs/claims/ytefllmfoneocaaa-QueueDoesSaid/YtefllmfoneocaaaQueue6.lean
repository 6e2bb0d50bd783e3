/-
  It is proved what a list of acts of a queue is, and what Few tells. There are no further conditions than those that each theorem names.
-/
import Derived.Test.YtefllmfoneocaaaQueue5
set_option linter.unusedVariables false
set_option linter.unusedSimpArgs false
namespace Go.Proofs.Ytefllmfoneocaaa
open Go.HL

abbrev QAct := Int × ByteArray × (SlV × List UInt8) × Unit
def qactEnc (x : QAct) : List Value := [.int .i64 x.1, .string x.2.1, .slice x.2.2.1.1.a x.2.2.1.1.len x.2.2.1.1.cap]
theorem qact_len (x : QAct) : (qactEnc x).length = 3 := rfl
/-- A list of acts that came in. -/
structure QActs (L : HList) (v : SlV) (l : List QAct) : Prop where
  sl : Sl L v 3 (l.flatMap qactEnc)
  val : ∀ x ∈ l, BSl L x.2.2.1.1 x.2.2.1.2
theorem QActs.right {L R : HList} {v : SlV} {l : List QAct} (h : QActs L v l) : QActs (R ++ L) v l := ⟨h.sl.right, fun x hx => (h.val x hx).right⟩
theorem QActs.len {L : HList} {v : SlV} {l : List QAct} (h : QActs L v l) : v.len = l.length := h.sl.els_len qact_len (by decide)
theorem QActs.at' {L : HList} {v : SlV} {l : List QAct} (h : QActs L v l) {i : Nat} (hi : i < l.length) : ∃ a, v.a = some a ∧ LdAt (Addr.add a ((i : Int).toNat * 3)) [.int .i64 l[i].1] L ∧ LdAt (Addr.add (Addr.add a ((i : Int).toNat * 3)) 1) [.string l[i].2.1] L ∧
    LdAt (Addr.add (Addr.add a ((i : Int).toNat * 3)) 2) [.slice l[i].2.2.1.1.a l[i].2.2.1.1.len l[i].2.2.1.1.cap] L ∧ LdAt (Addr.add a ((i : Int).toNat * 3)) [.int .i64 l[i].1, .string l[i].2.1, .slice l[i].2.2.1.1.a l[i].2.2.1.1.len l[i].2.2.1.1.cap] L := by
  obtain ⟨a, ha, hl⟩ := h.sl.el qact_len (by decide) hi
  rw [Int.toNat_natCast]
  exact ⟨a, ha, hl.pre fun i u hu => by cases i with | zero => exact hu | succ i => simp at hu, hl.one 1 rfl, hl.one 2 rfl, hl⟩
def qfew (l : List QAct) (most bytes : Int) : Bool := decide ((∀ x ∈ l, (x.2.1.size : Int) ≤ bytes ∧ (x.2.2.1.2.length : Int) ≤ bytes) ∧ (l.length : Int) ≤ most)
/-- Where 'Few' says yes: few acts of few bytes. -/
theorem few_cl (L : HList) (v : SlV) (l : List QAct) (h : QActs L v l) (hl : l.length ≤ 9223372036854775807) (most bytes : Int) :
    CallF PP 27 #[.slice v.a v.len v.cap, .int .i64 most, .int .i64 bytes] L fun r L' => L' = L ∧ ∃ b, r = .bool b ∧ (b = true → (l.length : Int) ≤ most ∧ ∀ x ∈ l, (x.2.1.size : Int) ≤ bytes ∧ (x.2.2.1.2.length : Int) ≤ bytes) := by
  refine CallF.of (args := [.slice v.a v.len v.cap, .int .i64 most, .int .i64 bytes]) noNum mixed Try.func27 (e27 v most bytes _) ?_
  unfold t27
  have hlen := h.len
  refine lp_of (fun k z L' => L' = L ∧ ∃ i : Nat, i ≤ l.length ∧ k = l.length - i ∧ z = ((i : Int), ()) ∧ ∀ x ∈ l.take i, (x.2.1.size : Int) ≤ bytes ∧ (x.2.2.1.2.length : Int) ≤ bytes) l.length ⟨rfl, 0, by omega, by omega, rfl, by simp⟩ ?_
  rintro k z L ⟨rfl, i, hi, rfl, rfl, hall⟩
  refine ifD_of (fun (hlt : (i : Int) < v.len) => ?_) (fun (hge : ¬ (i : Int) < v.len) => ?_)
  · have hi' : i < l.length := by omega
    refine ifD_of (fun (hle : (i : Int) ≤ most) => ?_) (fun (hle : ¬ (i : Int) ≤ most) => .of ⟨rfl, _, rfl, fun hb => ?_⟩)
    · obtain ⟨a, ha, _, l1, l2, _⟩ := h.at' hi'
      have h0 : (0 : Int) ≤ (i : Int) := by omega
      have hb := (h.val l[i] (List.getElem_mem hi')).len
      refine nilc_of ha (ixn_of h0 hlt (ld_of l[i].2.1 l1 ?_))
      refine ifD_of (fun (h3 : (l[i].2.1.size : Int) > bytes) => .of ⟨rfl, false, rfl, fun h => by cases h⟩) (fun (h3 : ¬ (l[i].2.1.size : Int) > bytes) => ?_)
      refine nilc_of ha (ixn_of h0 hlt (ld_of l[i].2.2.1.1 l2 ?_))
      refine ifD_of (fun (h4 : (l[i].2.2.1.1.len : Int) > bytes) => .of ⟨rfl, false, rfl, fun h => by cases h⟩) (fun (h4 : ¬ (l[i].2.2.1.1.len : Int) > bytes) => ?_)
      refine ⟨l.length - (i + 1), by omega, rfl, i + 1, by omega, rfl, ?_, fun x hx => ?_⟩
      · rw [w64_id (by first | omega | (simp only; omega)) (by first | omega | (simp only; omega))]
        rfl
      · rw [List.take_succ_eq_append_getElem hi'] at hx
        rcases List.mem_append.1 hx with hx | hx
        · exact hall x hx
        · rw [List.mem_singleton.1 hx]; omega
    · have := of_decide_eq_true hb
      omega
  · obtain rfl : i = l.length := by omega
    rw [List.take_length] at hall
    refine .of ⟨rfl, _, rfl, fun hb => ⟨?_, hall⟩⟩
    have := of_decide_eq_true hb
    omega
end Go.Proofs.Ytefllmfoneocaaa
