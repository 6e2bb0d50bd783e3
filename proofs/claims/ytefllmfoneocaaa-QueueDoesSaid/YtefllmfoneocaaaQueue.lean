/-
  It is proved what the functions of the layer queue compute: finding and unlinking. There are no further conditions than those that each theorem names.
-/
import Derived.Test.YtefllmfoneocaaaHL20
import Derived.Test.YtefllmfoneocaaaT
set_option linter.unusedVariables false
set_option linter.unusedSimpArgs false
namespace Go.Proofs.Ytefllmfoneocaaa
open Go.HL

abbrev tyB : TypeId := 22
abbrev tyb : TypeId := 5
/-- An entry of the list: its block, its key, its value, how often it was got. -/
structure QE where
  id : Nat
  key : ByteArray
  val : List UInt8
  freq : Int
  v : SlV
  seg : HList
def pt (o : Option Nat) : Option Addr := o.map fun n => ⟨n, 0, none⟩
def nodeO (e : QE) (prev next : Option Nat) : Obj := .cells #[.string e.key, .slice e.v.a e.v.len e.v.cap, .int .i64 e.freq, .pointer (pt prev), .pointer (pt next)] 134
def headId : List QE → Option Nat → Option Nat
  | [], n => n
  | e :: _, _ => some e.id
def lastId : Option Nat → List QE → Option Nat
  | p, [] => p
  | _, e :: r => lastId (some e.id) r
def nodes : Option Nat → List QE → Option Nat → HList
  | _, [], _ => []
  | p, e :: r, n => (e.id, nodeO e p (headId r n)) :: nodes (some e.id) r n
theorem headId_append (p s : List QE) (n : Option Nat) : headId (p ++ s) n = headId p (headId s n) := by cases p <;> rfl
theorem lastId_append : ∀ (p s : List QE) (q : Option Nat), lastId q (p ++ s) = lastId (lastId q p) s
  | [], s, q => rfl
  | e :: r, s, q => lastId_append r s (some e.id)
theorem nodes_append : ∀ (p s : List QE) (q n : Option Nat), nodes q (p ++ s) n = nodes q p (headId s n) ++ nodes (lastId q p) s n
  | [], s, q, n => rfl
  | e :: r, s, q, n => by
    show (e.id, nodeO e q (headId (r ++ s) n)) :: nodes (some e.id) (r ++ s) n = _
    rw [headId_append, nodes_append r s]
    rfl
def segs (l : List QE) : HList := l.flatMap QE.seg
def qsum (l : List QE) : Nat := (l.map fun e => e.key.size + e.val.length).sum
def qmap (l : List QE) : List (ByteArray × Value) := l.map fun e => (e.key, .pointer (pt (some e.id)))
structure QOk (l : List QE) : Prop where
  own : ∀ e ∈ l, Own e.v 1 tyb (bvs e.val) e.seg
  small : ∀ e ∈ l, e.key.size ≤ 100000 ∧ e.val.length ≤ 100000
  few : l.length ≤ 100000
  nd : (l.map QE.key).Nodup
  fr : ∀ e ∈ l, 0 ≤ e.freq ∧ e.freq ≤ 3
def qO (room : Int) (l : List QE) (mk : Nat) (bytes : Int) : Obj := .cells #[.int .i64 room, .int .i64 bytes, .pointer (pt (headId l none)), .pointer (pt (lastId none l)), .map (some mk)] 132
/-- A queue's objects. -/
def QL (m : Nat) (room : Int) (l : List QE) (mk : Nat) (mes : Array MapEntry) (clock : Nat) : HList :=
  (m, qO room l mk (qsum l)) :: (mk, Obj.map mes clock) :: (nodes none l none ++ segs l)
def QH (m : Nat) (room : Int) (l : List QE) (A : HList) : Prop := ∃ mk mes clock, A = QL m room l mk mes clock ∧ Mp Value.string mes (qmap l) ∧ QOk l
theorem qsum_append (p s : List QE) : qsum (p ++ s) = qsum p + qsum s := by simp [qsum]
theorem qsum_le {l : List QE} (h : ∀ e ∈ l, e.key.size ≤ 100000 ∧ e.val.length ≤ 100000) : qsum l ≤ l.length * 200000 := by
  induction l with
  | nil => simp [qsum]
  | cons e r ih =>
    have h1 := h e List.mem_cons_self
    have h2 := ih fun x hx => h x (List.mem_cons_of_mem _ hx)
    simp only [qsum, List.map_cons, List.sum_cons, List.length_cons] at h2 ⊢
    omega
theorem QOk.sum {l : List QE} (h : QOk l) : qsum l ≤ 20000000000 := by
  have h1 := qsum_le h.small
  have h2 := h.few
  have : l.length * 200000 ≤ 100000 * 200000 := Nat.mul_le_mul_right _ h2
  omega
theorem QOk.sub {p s : List QE} {e : QE} (h : QOk (p ++ e :: s)) : QOk (p ++ s) := by
  have hs : ∀ x, x ∈ p ++ s → x ∈ p ++ e :: s := fun x hx => by
    rcases List.mem_append.1 hx with h1 | h1
    · exact List.mem_append_left _ h1
    · exact List.mem_append_right _ (List.mem_cons_of_mem _ h1)
  have hsub : (p ++ s).Sublist (p ++ e :: s) := List.Sublist.append_left (List.sublist_cons_self e s) p
  refine ⟨fun x hx => h.own x (hs x hx), fun x hx => h.small x (hs x hx), ?_, h.nd.sublist (hsub.map QE.key), fun x hx => h.fr x (hs x hx)⟩
  have := h.few
  rw [List.length_append, List.length_cons] at this
  rw [List.length_append]; omega

abbrev tyM : TypeId := 129
theorem mapQ : MapT PP tyM 9 130 Value.string (.pointer none) := mapT_of (by kernel_rfl) (keyStr (by kernel_rfl)) (by kernel_rfl)
/-- Which entry has a key. -/
def qfind (l : List QE) (k : ByteArray) : Option QE := l.find? fun e => decide (k = e.key)
theorem mget_qmap (l : List QE) (k : ByteArray) : (mget (qmap l) k).getD (.pointer none) = .pointer (pt ((qfind l k).map QE.id)) := by
  induction l with
  | nil => rfl
  | cons e r ih =>
    unfold mget qfind qmap at *
    rw [List.map_cons]
    by_cases h : k = e.key
    · rw [List.find?_cons_of_pos (by simpa using h), List.find?_cons_of_pos (by simpa using h)]; rfl
    · rw [List.find?_cons_of_neg (by simpa using h), List.find?_cons_of_neg (by simpa using h)]; exact ih
theorem find_rd (m : Nat) (room : Int) (l : List QE) (A : HList) (h : QH m room l A) (k : ByteArray) :
    Reads PP 82 #[.pointer (some ⟨m, 0, none⟩), .string k] A (.pointer (pt ((qfind l k).map QE.id))) := by
  obtain ⟨mk, mes, clock, rfl, hm, ok⟩ := h
  refine Reads.of (args := [.pointer (some ⟨m, 0, none⟩), .string k]) noNum mixed Try.func82 (e82 (some ⟨m, 0, none⟩) k _) ?_
  unfold t82
  refine ifF rfl (nilc_of rfl (ld_of (some mk) (ldB (c := #[.int .i64 room, .int .i64 (qsum l), .pointer (pt (headId l none)), .pointer (pt (lastId none l)), .map (some mk)]) (T := 132) (fz := (0, 0)) List.mem_cons_self rfl) ?_))
  refine ⟨(pt ((qfind l k).map QE.id), ()), ?_, .of ⟨rfl, rfl⟩⟩
  have := lookup_rd (P := PP) (L := QL m room l mk mes clock) mapQ (r := mk) (es := mes) (clock := clock) (m := qmap l) (by unfold QL; simp) hm k
  rw [mget_qmap] at this
  exact this
theorem find_nil (L : HList) (k : ByteArray) : Reads PP 82 #[.pointer none, .string k] L (.pointer none) := by
  refine Reads.of (args := [.pointer none, .string k]) noNum mixed Try.func82 (e82 none k _) ?_
  unfold t82
  exact ifT rfl (.of ⟨rfl, rfl⟩)
theorem size_rd (L : HList) (e : QE) (p n : Option Nat) (hm : (e.id, nodeO e p n) ∈ L) (hv : e.v.len = e.val.length) (hs : e.key.size ≤ 100000 ∧ e.val.length ≤ 100000) :
    Reads PP 81 #[.pointer (some ⟨e.id, 0, none⟩)] L (.int .i64 ((e.key.size + e.val.length : Nat) : Int)) := by
  refine Reads.of (args := [.pointer (some ⟨e.id, 0, none⟩)]) noNum mixed Try.func81 (e81 (some ⟨e.id, 0, none⟩) _) ?_
  unfold t81
  unfold nodeO at hm
  refine nilc_of rfl (nilc_of rfl (ld_of e.key (ldB hm rfl) (ld_of e.v (ldB hm rfl) (.of ⟨?_, rfl⟩))))
  rw [hv, w64_id (by first | omega | (simp only; omega)) (by first | omega | (simp only; omega))]
  congr 1
end Go.Proofs.Ytefllmfoneocaaa
