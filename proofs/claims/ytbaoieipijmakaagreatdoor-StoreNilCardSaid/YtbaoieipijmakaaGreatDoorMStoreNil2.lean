/-
  It is proved what the functions that the law StoreNil reaches compute, part 2. There are no further conditions than those that each theorem names.
-/
import Derived.Test.YtbaoieipijmakaaGreatDoorMStoreNil1
import Derived.KernelRfl
import Derived.SizedLaws
set_option linter.unusedVariables false
set_option linter.unusedSimpArgs false
namespace Go.Proofs.YtbaoieipijmakaaGreatDoor
def Ct2 (c : BitVec 32) : BitVec 32 := (c >>> 1) ^^^ (2197175160#32 &&& -(c &&& 1#32))
def Bk2 : Nat -> BitVec 32 -> BitVec 32
 | 0, c => c
 | n + 1, c => Ct2 (Bk2 n c)
def B99 (c : BitVec 32) (b : UInt8) : BitVec 32 := Bk2 8 (c ^^^ BitVec.ofNat 32 b.toNat)
def U1 (c : BitVec 32) (l : List UInt8) : BitVec 32 := l.foldl B99 c
theorem A50 (c : BitVec 32) (l : List UInt8) (b : UInt8) : U1 c (l ++ [b]) = B99 (U1 c l) b := by simp [U1]
open Go.HL
theorem shr1 (d : BitVec 32) : Int.fdiv (d.toNat : Int) (2 ^ (min (1 : Int).toNat IntKind.u32.bits)) = ((d >>> 1).toNat : Int) := by
 have : (2 : Int) ^ (min (1 : Int).toNat IntKind.u32.bits) = 2 := rfl
 rw [this, BitVec.toNat_ushiftRight, Nat.shiftRight_eq_div_pow, Int.fdiv_eq_ediv_of_nonneg _ (by omega)]
 rfl
theorem neg32 (d : BitVec 32) : IntKind.u32.wrap (0 - (d.toNat : Int)) = ((-d).toNat : Int) := by
 rw [Bl3]
 congr 2
 rw [Int.zero_sub, BitVec.ofInt_neg, An1]
theorem Bv8 (d : BitVec 32) : Ag7 .xor .u32 (Int.fdiv (d.toNat : Int) (2 ^ (min (1 : Int).toNat IntKind.u32.bits))) (Ag7 .and .u32 2197175160 (IntKind.u32.wrap (0 - Ag7 .and .u32 d.toNat 1))) = ((Ct2 d).toNat : Int) := by
 rw [shr1, show (1 : Int) = ((1#32 : BitVec 32).toNat : Int) from rfl, (Ca8 _ _).2.1, neg32, show (2197175160 : Int) = ((2197175160#32 : BitVec 32).toNat : Int) from rfl, (Ca8 _ _).2.1, (Ca8 _ _).1]
 rfl
theorem Ce3 (L : A4) (v : SlV) (l : List UInt8) (h : BSl L v l) (hb : l.length <= 1000000) (c : BitVec 32) : Reads PP 291 #[.int .u32 c.toNat, .slice v.a v.len v.cap] L (.int .u32 (U1 c l).toNat) := by
 refine Reads.of (args := [.int .u32 c.toNat, .slice v.a v.len v.cap]) B5 B6 Tryz.func291 (e291 c.toNat v _) ?_
 unfold t291
 have hlen := h.len
 refine G0 (fun k z L' => L' = L /\ ∃ i, i <= l.length /\ k = l.length - i /\ z = (((U1 c (l.take i)).toNat : Int), (i : Int), ())) l.length ⟨rfl, 0, by omega, by omega, rfl⟩ ?_
 rintro k z L ⟨rfl, i, hi, rfl, rfl⟩
 refine B9 (fun (hlt : (i : Int) < v.len) => ?_) (fun (hge : ¬ (i : Int) < v.len) => ?_)
 ·have hlt' : i < l.length := by omega
  obtain ⟨ad, ha⟩ := h.some hlt'
  refine A5 ha (E0 (show (0 : Int) <= i by omega) hlt (A6 (l[i].toNat : Int) (h.rd hlt' ha _ (by simp)) ?_))
  refine G0 (fun k z L' => L' = L /\ ∃ j, j <= 8 /\ k = 8 - j /\ z = (((Bk2 j (U1 c (l.take i) ^^^ BitVec.ofNat 32 l[i].toNat)).toNat : Int), (j : Int), ())) 8 ⟨rfl, 0, by omega, by omega, ?_⟩ ?_
  ·simp only [Bl3]
   rw [show (BitVec.ofInt 32 (l[i].toNat : Int)) = BitVec.ofNat 32 l[i].toNat from rfl, (Ca8 _ _).1]
   rfl
  ·rintro k z L ⟨rfl, j, hj, rfl, rfl⟩
   refine B9 (fun (hlt : (j : Int) < 8) => ?_) (fun (hge : ¬ (j : Int) < 8) => ?_)
   ·refine Y3 (by decide) ⟨8 - (j + 1), by omega, rfl, j + 1, by omega, rfl, ?_⟩
    rw [C1 (by simp only; omega) (by simp only; omega)]
    exact Prod.ext (Bv8 _) rfl
   ·refine ⟨l.length - (i + 1), by omega, rfl, i + 1, by omega, rfl, ?_⟩
    obtain rfl : j = 8 := by omega
    rw [C1 (by simp only; omega) (by simp only; omega), List.take_succ_eq_append_getElem hlt', A50]
    rfl
 ·refine .of ⟨?_, rfl⟩
  obtain rfl : i = l.length := by omega
  rw [List.take_length]
def Cj4 (n : Int) : BitVec 32 := BitVec.ofInt 32 n
def Ad0 (n : Int) (l : List UInt8) : Int := ((~~~ U1 (~~~ Cj4 n) l).toNat : Int)
def K0 (l : List UInt8) : Int := Ad0 0 l
theorem R7 (n : Int) (l : List UInt8) : 0 <= Ad0 n l /\ Ad0 n l < 4294967296 := by
 unfold Ad0
 have := (~~~ U1 (~~~ Cj4 n) l).isLt
 omega
theorem not32 (d : BitVec 32) : Ag7 .xor .u32 IntKind.u32.max (d.toNat : Int) = ((~~~ d).toNat : Int) := by
 rw [show (IntKind.u32.max : Int) = ((BitVec.allOnes 32).toNat : Int) from rfl, (Ca8 _ _).1, BitVec.allOnes_xor]
theorem Cz8 (L : A4) (v : SlV) (l : List UInt8) (h : BSl L v l) (hb : l.length <= 1000000) (n : Int) : Reads PP 234 #[.i n, .slice v.a v.len v.cap] L (.i (Ad0 n l)) := by
 refine Reads.of (args := [.i n, .slice v.a v.len v.cap]) B5 B6 Tryz.func234 (e234 n v _) ?_
 unfold t234
 rw [Bl3, not32]
 refine B3 (Ce3 L v l h hb (~~~ Cj4 n)) (((U1 (~~~ Cj4 n) l).toNat : Int), ()) rfl ?_
 refine .of ⟨?_, rfl⟩
 have := R7 n l
 simp only [not32]
 rw [C1 (by have := R7 n l; unfold Ad0 at this; omega) (by have := R7 n l; unfold Ad0 at this; omega)]
 rfl
theorem By4 (L : A4) (v : SlV) (l : List UInt8) (h : BSl L v l) (hb : l.length <= 1000000) : Reads PP 179 #[.slice v.a v.len v.cap] L (.i (K0 l)) := by
 refine Reads.of (args := [.slice v.a v.len v.cap]) B5 B6 Tryz.func179 (e179 v _) ?_
 unfold t179
 refine B3 (Cz8 L v l h hb 0) (Ad0 0 l, ()) rfl ?_
 exact .of ⟨rfl, rfl⟩
theorem Bq4 (L : A4) (v : SlV) (l : List UInt8) (h : BSl L v l) (hb : l.length <= 1000000) (n : Int) : Reads PP 237 #[.slice v.a v.len v.cap, .i n] L (.bool (K0 l == n)) := by
 refine Reads.of (args := [.slice v.a v.len v.cap, .i n]) B5 B6 Tryz.func237 (e237 v n _) ?_
 unfold t237
 refine B3 (By4 L v l h hb) (K0 l, ()) rfl ?_
 exact .of ⟨rfl, rfl⟩
def szd (n : Int) : Bool := decide (64 <= n /\ n <= 512)
def D7 (n : Int) : Int := if 64 <= n /\ n <= 512 then n - 16 else 0
theorem As1 (L : A4) (n : Int) : Reads PP 129 #[.i n] L (.bool (szd n)) := by
 refine Reads.of (args := [.i n]) B5 B6 Tryz.func129 (e129 n _) ?_
 unfold t129
 refine B9 (fun (h : n ≥ 64) => .of ⟨?_, rfl⟩) (fun (h : ¬ n ≥ 64) => .of ⟨?_, rfl⟩)
 ·unfold szd; congr 1; rw [decide_eq_decide]; omega
 ·unfold szd; rw [decide_eq_false (by omega)]
theorem Cv2 {n : Int} (h : szd n = true) : 64 <= n /\ n <= 512 := of_decide_eq_true h
theorem Cv3 {n : Int} (h : szd n = false) : ¬ (64 <= n /\ n <= 512) := of_decide_eq_false h
theorem Ad8 (L : A4) (n : Int) : Reads PP 62 #[.i n] L (.i (D7 n)) := by
 refine Reads.of (args := [.i n]) B5 B6 Tryz.func62 (e62 n _) ?_
 unfold t62
 refine B3 (As1 _ n) (szd n, ()) rfl ?_
 cases h : szd n with
 | false => exact ifT rfl (.of ⟨by unfold D7; rw [if_neg (Cv3 h)], rfl⟩)
 | true =>
  have := Cv2 h
  refine ifF rfl (.of ⟨?_, rfl⟩)
  unfold D7; rw [if_pos this, C1 (by omega) (by omega)]
abbrev Hd := Int × Int × Int × Int × Int × Unit
def hEnc (h : Hd) : List Value := [.i h.1, .i h.2.1, .i h.2.2.1, .i h.2.2.2.1, .i h.2.2.2.2.1]
def Am3 (h : Hd) : Int := if h.1 < 1 \/ h.1 > 4 then 16 else if h.2.2.1 < 1 \/ h.2.2.1 > 16 \/ h.2.1 < 0 \/ h.2.1 ≥ h.2.2.1 \/ h.2.2.2.1 < 1 \/ h.2.2.2.1 > 1073741824 \/ h.2.2.2.2.1 < 0 \/ h.2.2.2.2.1 > 15 then 3 else 0
theorem Cs0 {h : Hd} (c : h.1 < 1 \/ h.1 > 4) : Am3 h = 16 := by unfold Am3; rw [if_pos c]
theorem Am2 {h : Hd} (c : ¬ (h.1 < 1 \/ h.1 > 4)) (d : h.2.2.1 < 1 \/ h.2.2.1 > 16 \/ h.2.1 < 0 \/ h.2.1 ≥ h.2.2.1 \/ h.2.2.2.1 < 1 \/ h.2.2.2.1 > 1073741824 \/ h.2.2.2.2.1 < 0 \/ h.2.2.2.2.1 > 15) : Am3 h = 3 := by unfold Am3; rw [if_neg c, if_pos d]
theorem hErr_0 {h : Hd} (c : ¬ (h.1 < 1 \/ h.1 > 4)) (d : ¬ (h.2.2.1 < 1 \/ h.2.2.1 > 16 \/ h.2.1 < 0 \/ h.2.1 ≥ h.2.2.1 \/ h.2.2.2.1 < 1 \/ h.2.2.2.1 > 1073741824 \/ h.2.2.2.2.1 < 0 \/ h.2.2.2.2.1 > 15)) : Am3 h = 0 := by unfold Am3; rw [if_neg c, if_neg d]
theorem Ag4 {h : Hd} (e : Am3 h = 0) : 1 <= h.1 /\ h.1 <= 4 /\ 1 <= h.2.2.1 /\ h.2.2.1 <= 16 /\ 0 <= h.2.1 /\ h.2.1 < h.2.2.1 /\ 1 <= h.2.2.2.1 /\ h.2.2.2.1 <= 1073741824 /\ 0 <= h.2.2.2.2.1 /\ h.2.2.2.2.1 <= 15 := by
 unfold Am3 at e
 split at e
 ·cases e
 ·split at e
  ·cases e
  ·omega
theorem A97 (L : A4) (h : Hd) : Reads PP 239 #[.agg #[.i h.1, .i h.2.1, .i h.2.2.1, .i h.2.2.2.1, .i h.2.2.2.2.1]] L (.i (Am3 h)) := by
 refine Reads.of (args := [.agg #[.i h.1, .i h.2.1, .i h.2.2.1, .i h.2.2.2.1, .i h.2.2.2.2.1]]) B5 B6 Tryz.func239 (e239 h _) ?_
 unfold t239
 refine C3 fun n1 _ => ?_
 generalize ho : (n1, Obj.cells #[.i h.1, .i h.2.1, .i h.2.2.1, .i h.2.2.2.1, .i h.2.2.2.2.1] 272) = o1
 have l0 : D0 ⟨n1, 0, none⟩ [.i h.1] (o1 :: L) := by subst ho; exact ldB List.mem_cons_self rfl
 have l1 : D0 (Addr.add ⟨n1, 0, none⟩ 1) [.i h.2.1] (o1 :: L) := by subst ho; exact ldB List.mem_cons_self rfl
 have l2 : D0 (Addr.add ⟨n1, 0, none⟩ 2) [.i h.2.2.1] (o1 :: L) := by subst ho; exact ldB List.mem_cons_self rfl
 have l3 : D0 (Addr.add ⟨n1, 0, none⟩ 3) [.i h.2.2.2.1] (o1 :: L) := by subst ho; exact ldB List.mem_cons_self rfl
 have l4 : D0 (Addr.add ⟨n1, 0, none⟩ 4) [.i h.2.2.2.2.1] (o1 :: L) := by subst ho; exact ldB List.mem_cons_self rfl
 clear ho
 refine A6 h.1 l0 (B9 (fun (c : h.1 < 1) => .cons (.of ⟨by rw [Cs0 (.inl c)], rfl⟩)) (fun (c1 : ¬ h.1 < 1) => ?_))
 refine A6 h.1 l0 (B9 (fun (c : h.1 > 4) => .cons (.of ⟨by rw [Cs0 (.inr c)], rfl⟩)) (fun (c2 : ¬ h.1 > 4) => ?_))
 refine A6 h.2.2.1 l2 (B9 (fun (c : h.2.2.1 < 1) => .cons (.of ⟨by rw [Am2 (by omega) (by omega)], rfl⟩)) (fun (c3 : ¬ h.2.2.1 < 1) => ?_))
 refine A6 h.2.2.1 l2 (B9 (fun (c : h.2.2.1 > 16) => .cons (.of ⟨by rw [Am2 (by omega) (by omega)], rfl⟩)) (fun (c4 : ¬ h.2.2.1 > 16) => ?_))
 refine A6 h.2.1 l1 (B9 (fun (c : h.2.1 < 0) => .cons (.of ⟨by rw [Am2 (by omega) (by omega)], rfl⟩)) (fun (c5 : ¬ h.2.1 < 0) => ?_))
 refine A6 h.2.1 l1 (A6 h.2.2.1 l2 (B9 (fun (c : h.2.1 ≥ h.2.2.1) => .cons (.of ⟨by rw [Am2 (by omega) (by omega)], rfl⟩)) (fun (c6 : ¬ h.2.1 ≥ h.2.2.1) => ?_)))
 refine A6 h.2.2.2.1 l3 (B9 (fun (c : h.2.2.2.1 < 1) => .cons (.of ⟨by rw [Am2 (by omega) (by omega)], rfl⟩)) (fun (c7 : ¬ h.2.2.2.1 < 1) => ?_))
 refine A6 h.2.2.2.1 l3 (B9 (fun (c : h.2.2.2.1 > 1073741824) => .cons (.of ⟨by rw [Am2 (by omega) (by omega)], rfl⟩)) (fun (c8 : ¬ h.2.2.2.1 > 1073741824) => ?_))
 refine A6 h.2.2.2.2.1 l4 (B9 (fun (c : h.2.2.2.2.1 < 0) => .cons (.of ⟨by rw [Am2 (by omega) (by omega)], rfl⟩)) (fun (c9 : ¬ h.2.2.2.2.1 < 0) => ?_))
 refine A6 h.2.2.2.2.1 l4 (B9 (fun (c : h.2.2.2.2.1 ≥ 16) => .cons (.of ⟨by rw [Am2 (by omega) (by omega)], rfl⟩)) (fun (c10 : ¬ h.2.2.2.2.1 ≥ 16) => .cons (.of ⟨by rw [hErr_0 (by omega) (by omega)], rfl⟩)))
abbrev Co6 := Int × Int × Unit
def Ch9 (x : Co6) : List Value := [.i x.1, .i x.2.1]
theorem A93 (x : Co6) : (Ch9 x).length = 2 := rfl
def Ak4 (b : List UInt8) (l : List Co6) : List UInt8 := l.foldl (fun b x => (Ap7 b x.1 x.2.1).1) b
theorem Bt5 (b : List UInt8) (l : List Co6) (x : Co6) : Ak4 b (l ++ [x]) = (Ap7 (Ak4 b l) x.1 x.2.1).1 := by simp [Ak4]
theorem Cd4 (b : List UInt8) (n w : Int) : (Ap7 b n w).1.length <= b.length + 7 := by
 unfold Ap7
 split
 ·simp
 ·split
  ·simp
  ·simp only [List.length_append, Aa1]; omega
theorem B20 (b : List UInt8) (l : List Co6) : (Ak4 b l).length <= b.length + 7 * l.length := by
 induction l generalizing b with
 | nil => simp [Ak4]
 | cons x r ih =>
  have h1 := ih (Ap7 b x.1 x.2.1).1
  have h2 := Cd4 b x.1 x.2.1
  have h3 : Ak4 b (x :: r) = Ak4 (Ap7 b x.1 x.2.1).1 r := rfl
  rw [h3, List.length_cons]; omega
theorem B23 (A : A4) (v : SlV) (b : List UInt8) (hb : BSl A v b) (hl : b.length <= 1000) (u : SlV) (l : List Co6) (hu : Sl A u 2 (l.flatMap Ch9)) (hne : 0 < l.length) (hl2 : l.length <= 100) (hn : ∀ x ∈ l, x.1 <= 9223372036854775807) :
  CallF PP 301 #[.slice v.a v.len v.cap, .slice u.a u.len u.cap] A fun r L' => ∃ (s : SlV) (seg : A4), r = .slice s.a s.len s.cap /\ L' = seg ++ A /\ Own s 1 eB (bvs (Ak4 b l)) seg := by
 refine CallF.of (args := [.slice v.a v.len v.cap, .slice u.a u.len u.cap]) B5 B6 Tryz.func301 (e301 v u _) ?_
 unfold t301
 have hul := hu.els_len A93 (by decide)
 refine G0 (fun k z L' => ∃ (i : Nat) (s : SlV) (J : A4), i <= l.length /\ k = l.length - i /\ z = (s, (i : Int), ()) /\ L' = J ++ A /\ BSl L' s (Ak4 b (l.take i)) /\ (0 < i -> ∃ (seg J' : A4), J = seg ++ J' /\ Own s 1 eB (bvs (Ak4 b (l.take i))) seg)) l.length
  ⟨0, v, [], by omega, by omega, rfl, rfl, hb, fun h => by omega⟩ ?_
 rintro k z L' ⟨i, s, J, hi, rfl, rfl, rfl, hs, hown⟩
 refine B9 (fun (hlt : (i : Int) < u.len) => ?_) (fun (hge : ¬ (i : Int) < u.len) => ?_)
 ·have hi' : i < l.length := by omega
  obtain ⟨a, ha, la⟩ := (hu.right (R := J)).el A93 (by decide) hi'
  refine A5 ha (E0 (show (0 : Int) <= (i : Int) by omega) hlt (A6 l[i] (by rw [Int.toNat_natCast]; exact la) ?_))
  have hbl := B20 b (l.take i)
  rw [List.length_take, Nat.min_eq_left hi] at hbl
  have hsn := Bt5 b (l.take i) l[i]
  rw [<- List.take_succ_eq_append_getElem hi'] at hsn
  have hnx := hn _ (List.getElem_mem hi')
  generalize l[i] = x at hsn hnx ⊢
  refine C3 fun n1 _ => E3 [] _ rfl rfl (by simp) (.inl (Nat.le_refl _)) #[.i x.1, .i x.2.1] rfl ?_
  rw [List.nil_append]
  refine A6 x.1 (ldB List.mem_cons_self rfl) (A6 x.2.1 (ldB List.mem_cons_self rfl) ?_)
  generalize (n1, Obj.cells #[.i x.1, .i x.2.1] 399) = o1
  refine H4 [] [] (A06 (o1 :: (J ++ A)) s _ hs.cons (by omega) x.1 x.2.1 hnx) (by simp) ?_
  rintro _ _ - ⟨s', seg, rfl, rfl, own⟩
  rw [List.append_nil, List.nil_append]
  rw [<- hsn] at own
  refine ⟨(s', _, ()), rfl, l.length - (i + 1), by omega, i + 1, s', seg ++ (o1 :: J), by omega, rfl, ?_, by simp, own.sl.left, fun _ => ⟨seg, o1 :: J, rfl, own⟩⟩
  show (s', IntKind.i64.wrap ((i : Int) + 1), ()) = _
  rw [C1 (by omega) (by omega)]
  rfl
 ·obtain rfl : i = l.length := by omega
  rw [List.take_length] at hown
  obtain ⟨seg, J', rfl, own⟩ := hown hne
  refine .drop (A := seg ++ A) (J := J') ⟨s, seg, rfl, rfl, own⟩ ?_
  rw [List.append_assoc, List.append_assoc]
  exact List.Perm.append_left _ List.perm_append_comm
def Az3 (h : Hd) (n : Nat) : List UInt8 := V6 h.1.toNat 1 ++ V6 h.2.1.toNat 1 ++ V6 h.2.2.1.toNat 1 ++ V6 165 1 ++ V6 h.2.2.2.1.toNat 4 ++ V6 h.2.2.2.2.1.toNat 1 ++ V6 0 1 ++ V6 n 2
theorem U5 (h : Hd) (n : Nat) : (Az3 h n).length = 12 := by simp [Az3, Aa1]
def A40 (h : Hd) (p : List UInt8) (size : Nat) : List UInt8 := Az3 h p.length ++ p ++ List.replicate (size - 16 - p.length) 0
theorem B69 {h : Hd} {p : List UInt8} {size : Nat} (h1 : 16 <= size) (h2 : p.length <= size - 16) : (A40 h p size).length = size - 4 := by
 unfold A40
 rw [List.length_append, List.length_append, U5, List.length_replicate]; omega
def iAll (h : Hd) (p : List UInt8) (size : Nat) : List UInt8 := A40 h p size ++ V6 (K0 (A40 h p size)).toNat 4
def At7 (h : Hd) (p : List UInt8) (size : Int) : List UInt8 × Int :=
 if ¬ (64 <= size /\ size <= 512) then ([], 2) else if Am3 h ≠ 0 then ([], Am3 h) else if (p.length : Int) > size - 16 then ([], 4) else (iAll h p size.toNat, 0)
def C45 (h : Hd) (p : List UInt8) (size : Int) (A : A4) (v : Value) (L' : A4) : Prop := ∃ (s : SlV) (seg : A4), v = .tuple #[.slice s.a s.len s.cap, .i (At7 h p size).2] /\ L' = seg ++ A /\ Own s 1 eB (bvs (At7 h p size).1) seg
theorem C45.err {h : Hd} {p : List UInt8} {size : Int} {A : A4} {e : Int} (he : At7 h p size = ([], e)) : C45 h p size A (.tuple #[.slice none 0 0, .i e]) A := ⟨⟨none, 0, 0⟩, [], by rw [he], rfl, by rw [he]; exact F7⟩
theorem Az7 (l : List UInt8) : 0 <= K0 l /\ K0 l < 4294967296 := R7 0 l
def nums (h : Hd) (n : Nat) : List Co6 := [(h.1, 1, ()), (h.2.1, 1, ()), (h.2.2.1, 1, ()), (165, 1, ()), (h.2.2.2.1, 4, ()), (h.2.2.2.2.1, 1, ()), (0, 1, ()), ((n : Int), 2, ())]
theorem Ax3 (b : List UInt8) {n : Int} (h0 : 0 <= n) (h1 : n < 256) : (Ap7 b n 1).1 = b ++ V6 n.toNat 1 := by
 rw [Af7 (by decide) (by omega) (by show n.toNat < 256; omega)]; rfl
theorem Cp0 (b : List UInt8) {n : Int} (h0 : 0 <= n) (h1 : n < 4294967296) : (Ap7 b n 4).1 = b ++ V6 n.toNat 4 := by
 rw [Af7 (by decide) (by omega) (by show n.toNat < 4294967296; omega)]; rfl
theorem wput_2 (b : List UInt8) {n : Int} (h0 : 0 <= n) (h1 : n < 65536) : (Ap7 b n 2).1 = b ++ V6 n.toNat 2 := by
 rw [Af7 (by decide) (by omega) (by show n.toNat < 65536; omega)]; rfl
theorem B19 {h : Hd} (e : Am3 h = 0) {n : Nat} (hn : n < 65536) : Ak4 [] (nums h n) = Az3 h n := by
 have := Ag4 e
 unfold nums Ak4
 simp only [List.foldl_cons, List.foldl_nil]
 rw [Ax3 (n := h.1) _ (by omega) (by omega), Ax3 (n := h.2.1) _ (by omega) (by omega), Ax3 (n := h.2.2.1) _ (by omega) (by omega), Ax3 (n := 165) _ (by omega) (by omega), Cp0 (n := h.2.2.2.1) _ (by omega) (by omega), Ax3 (n := h.2.2.2.2.1) _ (by omega) (by omega), Ax3 (n := 0) _ (by omega) (by omega), wput_2 (n := (n : Int)) _ (by omega) (by omega)]
 unfold Az3
 simp
theorem Ch6 (b : List UInt8) : Ak4 b [(K0 b, 4, ())] = b ++ V6 (K0 b).toNat 4 := by
 have := Az7 b
 exact Cp0 (n := K0 b) b (by omega) (by omega)
theorem Cn5 {h : Hd} {p : List UInt8} {S : Nat} (h1 : 64 <= S) (h2 : p.length <= S - 16) :
  Aw0 (Aw0 (Ab1 [.int .u8 0] (S - 4)) 0 (bvs (Az3 h p.length))) (12 * 1) (bvs p) = bvs (A40 h p S) := by
 rw [A64, A52, A52]
 congr 1
 unfold A40
 rw [List.take_zero, List.nil_append, U5, Nat.zero_add, Nat.mul_one, List.take_left' (U5 h _), <- List.drop_drop, List.drop_left' (U5 h _), List.drop_drop, List.drop_replicate]
 congr 2
 omega
theorem B25 (A : A4) (h : Hd) (v : SlV) (p : List UInt8) (hv : BSl A v p) (size : Int) (hs : -9223372036854775808 <= size /\ size <= 9223372036854775807) :
  CallF PP 256 #[.agg #[.i h.1, .i h.2.1, .i h.2.2.1, .i h.2.2.2.1, .i h.2.2.2.2.1], .slice v.a v.len v.cap, .i size] A (C45 h p size A) := by
 refine CallF.of (args := [.agg #[.i h.1, .i h.2.1, .i h.2.2.1, .i h.2.2.2.1, .i h.2.2.2.2.1], .slice v.a v.len v.cap, .i size]) B5 B6 Tryz.func256 (e256 h v size _) ?_
 unfold t256
 have hvl := hv.len
 refine C3 fun n1 _ => ?_
 generalize ho : (n1, Obj.cells #[.i h.1, .i h.2.1, .i h.2.2.1, .i h.2.2.2.1, .i h.2.2.2.2.1] 272) = o1
 have lh : D0 ⟨n1, 0, none⟩ (hEnc h) (o1 :: A) := by subst ho; exact ldB List.mem_cons_self rfl
 clear ho
 refine B3 (As1 _ size) (szd size, ()) rfl ?_
 cases hsz : szd size with
 | false => exact ifT rfl (.cons (.of (C45.err (by unfold At7; rw [if_pos (Cv3 hsz)]))))
 | true =>
  have hS := Cv2 hsz
  refine ifF rfl (A6 h lh (B3 (A97 _ h) (Am3 h, ()) rfl ?_))
  refine N1 (fun (he : Am3 h ≠ 0) => .cons (.of (C45.err (by unfold At7; rw [if_neg (by simpa using hS), if_pos he])))) (fun (he : Am3 h = 0) => ?_)
  refine B3 (Ad8 _ size) (D7 size, ()) rfl ?_
  have hroom : D7 size = size - 16 := by unfold D7; rw [if_pos hS]
  rw [hroom]
  refine B9 (fun (hl : (v.len : Int) > size - 16) => .cons (.of (C45.err (by unfold At7; rw [if_neg (by simpa using hS), if_neg (by simpa using he), if_pos (by omega)])))) (fun (hl : ¬ (v.len : Int) > size - 16) => ?_)
  obtain ⟨S, rfl⟩ : ∃ S : Nat, size = S := ⟨size.toNat, by omega⟩
  have himg : At7 h p S = (iAll h p S, 0) := by
   unfold At7
   rw [if_neg (by simpa using hS), if_neg (by simpa using he), if_neg (by omega), Int.toNat_natCast]
  unfold C45
  rw [himg]
  refine A6 h.1 (lh.pre fun i u hu => by cases i with | zero => exact hu | succ i => exact absurd (show (none : Option Value) = some u from hu) (by simp)) (A6 h.2.1 (lh.one 1 rfl) (A6 h.2.2.1 (lh.one 2 rfl) (A6 h.2.2.2.1 (lh.one 3 rfl) (A6 h.2.2.2.2.1 (lh.one 4 rfl) (C3 fun n2 _ => ?_)))))
  have hvl' : ((v.len : Nat) : Int) = ((p.length : Nat) : Int) := by omega
  rw [hvl']
  have hnsl : Sl ((n2, Obj.cells #[.i h.1, .i 1, .i h.2.1, .i 1, .i h.2.2.1, .i 1, .i 165, .i 1, .i h.2.2.2.1, .i 4, .i h.2.2.2.2.1, .i 1, .i 0, .i 1, .i ((p.length : Nat) : Int), .i 2] 399) :: o1 :: A) ⟨some ⟨n2, 0, none⟩, 8, 8⟩ 2 ((nums h p.length).flatMap Ch9) :=
   ⟨rfl, Nat.le_refl _, .inr ⟨_, rfl, ldB List.mem_cons_self rfl⟩⟩
  have hok := Ag4 he
  generalize (n2, Obj.cells #[.i h.1, .i 1, .i h.2.1, .i 1, .i h.2.2.1, .i 1, .i 165, .i 1, .i h.2.2.2.1, .i 4, .i h.2.2.2.2.1, .i 1, .i 0, .i 1, .i ((p.length : Nat) : Int), .i 2] 399) = o2 at hnsl ⊢
  refine H4 [] [] (B23 (o2 :: o1 :: A) ⟨none, 0, 0⟩ [] (Sl.nil 1) (by decide) ⟨some ⟨n2, 0, none⟩, 8, 8⟩ (nums h p.length) hnsl (by show 0 < 8; decide) (by show 8 <= 100; decide) ?_) (by simp) ?_
  ·intro x hx
   unfold nums at hx
   simp only [List.mem_cons, List.not_mem_nil, or_false] at hx
   rcases hx with rfl | rfl | rfl | rfl | rfl | rfl | rfl | rfl <;> simp only <;> omega
  rintro _ _ - ⟨s4, seg4, rfl, rfl, own4⟩
  rw [B19 he (by omega)] at own4
  rw [List.append_nil, List.nil_append]
  have hs4 := own4.sl.len
  rw [E6, U5] at hs4
  refine ⟨(s4, ()), rfl, ?_⟩
  have hw : IntKind.i64.wrap ((S : Int) - 4) = ((S - 4 : Nat) : Int) := by rw [C1 (by omega) (by omega)]; omega
  simp only [hw]
  refine At0 Aj0 (l := S - 4) (c := S - 4) (Nat.le_refl _) (by omega) fun n7 ob own7 _ _ => ?_
  refine Ap2 (T := eB) (sz := 1) (l := 0) (a := ⟨n7, 0, none⟩) undB (by kernel_rfl) [] (seg4 ++ (o2 :: o1 :: A)) own7 rfl rfl rfl (by simp) (.cons (own4.sl.left)) (K4 _) fun seg7 own7' => ?_
  have hm1 : min s4.len (S - 4) = 12 := by omega
  simp only [hm1, Nat.mul_one, List.nil_append] at own7' ⊢
  rw [List.take_of_length_le (by rw [E6, U5]; omega)] at own7'
  refine J5 (l' := 12) (h' := S - 4) (m' := S - 4) rfl rfl rfl (by omega) (by omega) (Nat.le_refl _) ?_
  have hd : (N9 ⟨some ⟨n7, 0, none⟩, S - 4, S - 4⟩ ((12 : Nat) : Int) ((S - 4 : Nat) : Int) ((S - 4 : Nat) : Int) 1).a = some (Addr.add ⟨n7, 0, none⟩ (12 * 1)) := by
   simp only [N9, Int.toNat_natCast]
   rw [if_neg (by omega)]
   rfl
  have hdl : (N9 ⟨some ⟨n7, 0, none⟩, S - 4, S - 4⟩ ((12 : Nat) : Int) ((S - 4 : Nat) : Int) ((S - 4 : Nat) : Int) 1).len = S - 16 := by
   simp only [N9, Int.toNat_natCast]; omega
  generalize N9 ⟨some ⟨n7, 0, none⟩, S - 4, S - 4⟩ ((12 : Nat) : Int) ((S - 4 : Nat) : Int) ((S - 4 : Nat) : Int) 1 = d at hd hdl ⊢
  refine Ap2 (T := eB) (sz := 1) (l := 12) (a := ⟨n7, 0, none⟩) undB (by kernel_rfl) [] (seg4 ++ (o2 :: o1 :: A)) own7' rfl rfl hd (by simp only; omega) (hv.cons.cons.right.right) (K4 _) fun seg8 own8 => ?_
  have hm2 : min v.len d.len = p.length := by omega
  simp only [hm2, Nat.mul_one, List.nil_append] at own8 ⊢
  rw [List.take_of_length_le (by rw [E6]; omega), Cn5 (by omega) (by omega)] at own8
  have hbl := B69 (h := h) (p := p) (size := S) (by omega) (by omega)
  have hallE : iAll h p S = A40 h p S ++ V6 (K0 (A40 h p S)).toNat 4 := rfl
  rw [hallE]
  generalize A40 h p S = body at own8 hbl ⊢
  refine B3 (By4 _ ⟨some ⟨n7, 0, none⟩, S - 4, S - 4⟩ body own8.sl.left (by omega)) (K0 body, ()) rfl (C3 fun n3 _ => ?_)
  have hcs := Az7 body
  have hsl3 : Sl ((n3, Obj.cells #[.i (K0 body), .i 4] 399) :: (seg8 ++ (seg4 ++ (o2 :: o1 :: A)))) ⟨some ⟨n3, 0, none⟩, 1, 1⟩ 2 ([((K0 body, 4, ()) : Co6)].flatMap Ch9) := ⟨rfl, Nat.le_refl _, .inr ⟨_, rfl, ldB List.mem_cons_self rfl⟩⟩
  refine H4 [] [] (B23 ((n3, Obj.cells #[.i (K0 body), .i 4] 399) :: (seg8 ++ (seg4 ++ (o2 :: o1 :: A)))) ⟨some ⟨n7, 0, none⟩, S - 4, S - 4⟩ body own8.sl.left.cons (by omega) ⟨some ⟨n3, 0, none⟩, 1, 1⟩ _ hsl3 (by show 0 < 1; decide) (by show 1 <= 100; decide) (fun x hx => by rw [List.mem_singleton.1 hx]; simp only; omega)) (by simp) ?_
  rintro _ _ - ⟨s9, seg9, rfl, rfl, own9⟩
  rw [Ch6] at own9
  rw [List.append_nil, List.nil_append]
  refine ⟨(s9, ()), rfl, .drop (A := seg9 ++ A) (J := (n3, Obj.cells #[.i (K0 body), .i 4] 399) :: (seg8 ++ (seg4 ++ [o2, o1]))) ⟨s9, seg9, rfl, rfl, own9⟩ ?_⟩
  classical
  rw [List.perm_iff_count]
  intro x
  simp only [List.append_eq, List.cons_append, List.count_append, List.count_cons, List.count_nil]
  omega
def hOf (b : List UInt8) : Hd := ((b.getD 0 0).toNat, (b.getD 1 0).toNat, (b.getD 2 0).toNat, num ((b.drop 4).take 4), (b.getD 8 0).toNat, ())
def nOf (b : List UInt8) : Nat := num ((b.drop 10).take 2)
def Ag1 (b : List UInt8) : List UInt8 := (b.drop (12 + nOf b)).take (b.length - 4 - (12 + nOf b))
def B26 (b : List UInt8) : List UInt8 := (b.drop 12).take (nOf b)
def pbad (b : List UInt8) : Bool := decide (b.getD 3 0 ≠ 165) || decide (b.getD 9 0 ≠ 0) || decide (nOf b > b.length - 16) || decide (Am3 (hOf b) ≠ 0) || (Ag1 b).any fun x => decide (x ≠ 0)
def S6 (b : List UInt8) : Bool := b.all fun x => decide (x = 255)
def hz : Hd := (0, 0, 0, 0, 0, ())
def H5 (b : List UInt8) : Hd × List UInt8 × Int :=
 if ¬ (64 <= b.length /\ b.length <= 512) then (hz, [], 2) else if S6 b = true then (hz, [], 15) else if K0 (b.take (b.length - 4)) ≠ (num (b.drop (b.length - 4)) : Int) then (hz, [], 12) else if pbad b = true then (hz, [], 5) else (hOf b, B26 b, 0)
theorem nOf_lt (b : List UInt8) : nOf b < 65536 := by
 have h1 := B32 ((b.drop 10).take 2)
 have h2 : 256 ^ ((b.drop 10).take 2).length <= 256 ^ 2 := Nat.pow_le_pow_right (by omega) (by rw [List.length_take]; omega)
 unfold nOf
 omega
theorem ne255 (x : UInt8) : ((x.toNat : Int) ≠ 255) ↔ x ≠ 255 := by
 constructor
 ·rintro h rfl; exact h rfl
 ·intro h e
  apply h
  apply UInt8.toNat_inj.1
  show x.toNat = 255
  omega
theorem C28 (x : UInt8) (n : Nat) (hn : n < 256) : ((x.toNat : Int) = n) ↔ x = UInt8.ofNat n := by
 constructor
 ·intro h; apply UInt8.toNat_inj.1; simp; omega
 ·rintro rfl; simp; omega
theorem A98 (L : A4) (v : SlV) (b : List UInt8) (hb : BSl L v b) (hl : b.length <= 1000000) : Reads PP 236 #[.slice v.a v.len v.cap] L (.bool (S6 b)) := by
 refine Reads.of (args := [.slice v.a v.len v.cap]) B5 B6 Tryz.func236 (e236 v _) ?_
 unfold t236
 have hlen := hb.len
 refine G0 (fun k z L' => L' = L /\ ∃ i : Nat, i <= b.length /\ k = b.length - i /\ z = ((i : Int), ()) /\ ∀ x ∈ b.take i, x = 255) b.length ⟨rfl, 0, by omega, by omega, rfl, by simp⟩ ?_
 rintro k z L' ⟨rfl, i, hi, rfl, rfl, hall⟩
 refine B9 (fun (hlt : (i : Int) < v.len) => ?_) (fun (hge : ¬ (i : Int) < v.len) => ?_)
 ·have hi' : i < b.length := by omega
  obtain ⟨a, ha⟩ := hb.some hi'
  refine A5 ha (E0 (show (0 : Int) <= i by omega) hlt (A6 (b[i].toNat : Int) (hb.rd hi' ha _ (by simp)) ?_))
  refine N1 (fun hne => .of ⟨?_, rfl⟩) (fun he => ⟨b.length - (i + 1), by omega, rfl, i + 1, by omega, rfl, ?_, fun x hx => ?_⟩)
  ·have : S6 b = false := by
    unfold S6
    rw [List.all_eq_false]
    exact ⟨b[i], List.getElem_mem hi', by simpa using (ne255 _).1 hne⟩
   rw [this]
  ·rw [C1 (by first | omega | (simp only; omega)) (by first | omega | (simp only; omega))]
   rfl
  ·rw [List.take_succ_eq_append_getElem hi'] at hx
   rcases List.mem_append.1 hx with hx | hx
   ·exact hall x hx
   ·rw [List.mem_singleton.1 hx]
    exact Decidable.byContradiction fun hc => (ne255 _).2 hc he
 ·obtain rfl : i = b.length := by omega
  rw [List.take_length] at hall
  refine .of ⟨?_, rfl⟩
  have : S6 b = true := by
   unfold S6
   rw [List.all_eq_true]
   intro x hx
   simpa using hall x hx
  rw [this]
theorem B27 (L : A4) (v : SlV) (b : List UInt8) (hb : BSl L v b) (hl : b.length <= 1000000) (a w : Int) : Reads PP 238 #[.slice v.a v.len v.cap, .i a, .i w] L (.i (T2 b a w).1) := by
 refine Reads.of (args := [.slice v.a v.len v.cap, .i a, .i w]) B5 B6 Tryz.func238 (e238 v a w _) ?_
 unfold t238
 exact B3 (A07 _ v b hb (by omega) a w) ((T2 b a w).1, (T2 b a w).2, ()) rfl (.of ⟨rfl, rfl⟩)
def ParK (b : List UInt8) (A : A4) (v : Value) (L' : A4) : Prop := ∃ (s : SlV) (seg : A4), v = .tuple #[.agg #[.i (H5 b).1.1, .i (H5 b).1.2.1, .i (H5 b).1.2.2.1, .i (H5 b).1.2.2.2.1, .i (H5 b).1.2.2.2.2.1], .slice s.a s.len s.cap, .i (H5 b).2.2] /\ L' = seg ++ A /\ Own s 1 eB (bvs (H5 b).2.1) seg
theorem ParK.err {b : List UInt8} {A : A4} {e : Int} (he : H5 b = (hz, [], e)) : ParK b A (.tuple #[.agg #[.i 0, .i 0, .i 0, .i 0, .i 0], .slice none 0 0, .i e]) A := ⟨⟨none, 0, 0⟩, [], by rw [he]; rfl, rfl, by rw [he]; exact F7⟩
theorem Bf6 {b : List UInt8} {a w : Nat} (h : 1 <= w) (h7 : w <= 7) (h2 : a + w <= b.length) : (T2 b (a : Int) (w : Int)).1 = (num ((b.drop a).take w) : Int) := by rw [Bf5 h h7 h2]
theorem Ac7 {b : List UInt8} {i : Nat} (h : i < b.length) : b.getD i 0 = b[i] := by simp [List.getD_eq_getElem?_getD, h]
theorem B29 {b : List UInt8} (h : ¬ (64 <= b.length /\ b.length <= 512)) : H5 b = (hz, [], 2) := by unfold H5; rw [if_pos h]
theorem Bu1 {b : List UInt8} (h : 64 <= b.length /\ b.length <= 512) (h2 : S6 b = true) : H5 b = (hz, [], 15) := by unfold H5; rw [if_neg (by simpa using h), if_pos h2]
theorem Ci2 {b : List UInt8} (h : 64 <= b.length /\ b.length <= 512) (h2 : S6 b = false) (h3 : K0 (b.take (b.length - 4)) ≠ (num (b.drop (b.length - 4)) : Int)) : H5 b = (hz, [], 12) := by
 unfold H5; rw [if_neg (by simpa using h), if_neg (by rw [h2]; decide), if_pos h3]
theorem Ah8 {b : List UInt8} (h : 64 <= b.length /\ b.length <= 512) (h2 : S6 b = false) (h3 : K0 (b.take (b.length - 4)) = (num (b.drop (b.length - 4)) : Int)) (h4 : pbad b = true) : H5 b = (hz, [], 5) := by
 unfold H5; rw [if_neg (by simpa using h), if_neg (by rw [h2]; decide), if_neg (by simpa using h3), if_pos h4]
theorem Cy9 {b : List UInt8} (h : 64 <= b.length /\ b.length <= 512) (h2 : S6 b = false) (h3 : K0 (b.take (b.length - 4)) = (num (b.drop (b.length - 4)) : Int)) (h4 : pbad b = false) : H5 b = (hOf b, B26 b, 0) := by
 unfold H5; rw [if_neg (by simpa using h), if_neg (by rw [h2]; decide), if_neg (by simpa using h3), if_neg (by rw [h4]; decide)]
theorem Z8 (b : List UInt8) : pbad b = true ↔ b.getD 3 0 ≠ 165 \/ b.getD 9 0 ≠ 0 \/ nOf b > b.length - 16 \/ Am3 (hOf b) ≠ 0 \/ ∃ x ∈ Ag1 b, x ≠ 0 := by
 unfold pbad
 simp only [Bool.or_eq_true, decide_eq_true_iff, List.any_eq_true]
 constructor
 ·rintro ((((h | h) | h) | h) | h)
  ·exact .inl h
  ·exact .inr (.inl h)
  ·exact .inr (.inr (.inl h))
  ·exact .inr (.inr (.inr (.inl h)))
  ·exact .inr (.inr (.inr (.inr h)))
 ·rintro (h | h | h | h | h)
  ·exact .inl (.inl (.inl (.inl h)))
  ·exact .inl (.inl (.inl (.inr h)))
  ·exact .inl (.inl (.inr h))
  ·exact .inl (.inr h)
  ·exact .inr h
theorem pbad_f {b : List UInt8} (h1 : b.getD 3 0 = 165) (h2 : b.getD 9 0 = 0) (h3 : nOf b <= b.length - 16) (h4 : Am3 (hOf b) = 0) (h5 : ∀ x ∈ Ag1 b, x = 0) : pbad b = false := by
 rw [Bool.eq_false_iff]
 intro h
 rcases (Z8 b).1 h with h | h | h | h | ⟨x, hx, h⟩
 ·exact h h1
 ·exact h h2
 ·omega
 ·exact h h4
 ·exact h (h5 x hx)
section
variable {b : List UInt8} {A : A4} {n1 : Nat} {e : Int}
theorem Ac3 (X : A4) (he : H5 b = (hz, [], e)) :
  (st ⟨n1, 0, none⟩ [.i 0, .i 0, .i 0, .i 0, .i 0] <|
   ld ⟨n1, 0, none⟩ (.agg [.int .i64, .int .i64, .int .i64, .int .i64, .int .i64]) fun v1 =>
   HL.Ends (ParK b A) (.tuple #[.agg #[.i v1.1, .i v1.2.1, .i v1.2.2.1, .i v1.2.2.2.1, .i v1.2.2.2.2.1], .slice none 0 0, .i e])) (X ++ (n1, Obj.cells #[.i 0, .i 0, .i 0, .i 0, .i 0] 272) :: A) := by
 refine E3 X A rfl rfl (by simp) (.inl (Nat.le_refl _)) #[.i 0, .i 0, .i 0, .i 0, .i 0] rfl ?_
 exact A6 (0, 0, 0, 0, 0, ()) (ldB (n := n1) (c := #[.i 0, .i 0, .i 0, .i 0, .i 0]) (T := 272) (fz := (0, 0)) (by simp) rfl) (.app (.cons (.of (ParK.err he))))
end
theorem Cy8 {b : List UInt8} {A : A4} {n1 : Nat} {h : Hd} {q : List UInt8} (hok : H5 b = (h, q, 0)) {s : SlV} {seg : A4} (own : Own s 1 eB (bvs q) seg) (Y X : A4) :
  (st ⟨n1, 0, none⟩ [.i h.1, .i h.2.1, .i h.2.2.1, .i h.2.2.2.1, .i h.2.2.2.2.1] <|
   ld ⟨n1, 0, none⟩ (.agg [.int .i64, .int .i64, .int .i64, .int .i64, .int .i64]) fun v1 =>
   HL.Ends (ParK b A) (.tuple #[.agg #[.i v1.1, .i v1.2.1, .i v1.2.2.1, .i v1.2.2.2.1, .i v1.2.2.2.2.1], .slice s.a s.len s.cap, .i 0])) (Y ++ seg ++ (X ++ (n1, Obj.cells #[.i 0, .i 0, .i 0, .i 0, .i 0] 272) :: A)) := by
 obtain ⟨k, pa, ps, ep, pg, u⟩ := h
 simp only
 refine E3 (n := n1) (off := 0) (c := #[.i 0, .i 0, .i 0, .i 0, .i 0]) (T := 272) (fz := (0, 0)) (Y ++ seg ++ X) A rfl (by simp) (by simp) (.inl (Nat.le_refl _)) #[.i k, .i pa, .i ps, .i ep, .i pg] rfl ?_
 have lh : D0 ⟨n1, 0, none⟩ [.i k, .i pa, .i ps, .i ep, .i pg] (Y ++ seg ++ X ++ (n1, Obj.cells #[.i k, .i pa, .i ps, .i ep, .i pg] 272) :: A) := ldB (n := n1) (c := #[.i k, .i pa, .i ps, .i ep, .i pg]) (T := 272) (fz := (0, 0)) (by simp) rfl
 refine A6 (k, pa, ps, ep, pg, ()) lh ?_
 refine .drop (A := seg ++ A) (J := Y ++ X ++ [(n1, Obj.cells #[.i k, .i pa, .i ps, .i ep, .i pg] 272)]) ⟨s, seg, by rw [hok], rfl, by rw [hok]; exact own⟩ ?_
 classical
 rw [List.perm_iff_count]
 intro x
 simp only [List.append_eq, List.cons_append, List.count_append, List.count_cons, List.count_nil]
 omega
theorem As2 (A : A4) (v : SlV) (b : List UInt8) (hb : BSl A v b) (hl : b.length <= 1000000) :
  CallF PP 182 #[.slice v.a v.len v.cap] A (ParK b A) := by
 refine CallF.of (args := [.slice v.a v.len v.cap]) B5 B6 Tryz.func182 (e182 v _) ?_
 unfold t182
 have hlen := hb.len
 have hcap := hb.cap
 refine C3 fun n1 _ => ?_
 have hb1 : ∀ {X : A4}, BSl (X ++ (n1, Obj.cells #[.i 0, .i 0, .i 0, .i 0, .i 0] 272) :: A) v b := fun {X} => hb.cons.right
 have hvl : ((v.len : Nat) : Int) = ((b.length : Nat) : Int) := by omega
 refine B3 (As1 _ v.len) (szd v.len, ()) rfl ?_
 cases hsz : szd v.len with
 | false => exact ifT rfl (Ac3 [] (B29 (b := b) (by have := Cv3 hsz; omega)))
 | true =>
  have hS : 64 <= b.length /\ b.length <= 512 := by have := Cv2 hsz; omega
  refine ifF rfl (B3 (A98 _ v b (hb1 (X := [])) hl) (S6 b, ()) rfl ?_)
  cases hbk : S6 b with
  | true => exact ifT rfl (Ac3 [] (Bu1 hS hbk))
  | false =>
   refine ifF rfl ?_
   have hw : IntKind.i64.wrap ((v.len : Int) - 4) = ((b.length - 4 : Nat) : Int) := by rw [C1 (by omega) (by omega)]; omega
   simp only [hw]
   refine J5 (l' := 0) (h' := b.length - 4) (m' := v.cap) rfl rfl rfl (by omega) (by omega) (Nat.le_refl _) ?_
   have hs1 : BSl ((n1, Obj.cells #[.i 0, .i 0, .i 0, .i 0, .i 0] 272) :: A) (N9 v ((0 : Nat) : Int) ((b.length - 4 : Nat) : Int) v.cap 1) (b.take (b.length - 4)) := by
    have := Sl.slc (m := v.cap) (hb1 (X := [])) (by omega) (l := 0) (h' := b.length - 4) (by omega) (by omega) (by omega)
    rw [Ad2] at this
    simpa using this
   have hnum : (T2 b ((b.length - 4 : Nat) : Int) 4).1 = (num (b.drop (b.length - 4)) : Int) := by
    have e := Bf6 (b := b) (a := b.length - 4) (w := 4) (by decide) (by decide) (by omega)
    rw [List.take_of_length_le (by rw [List.length_drop]; omega)] at e
    exact e
   refine B3 (B27 _ v b (hb1 (X := [])) hl _ 4) ((T2 b ((b.length - 4 : Nat) : Int) 4).1, ()) rfl ?_
   rw [hnum]
   refine B3 (Bq4 _ _ _ hs1 (by rw [List.length_take]; omega) _) (K0 (b.take (b.length - 4)) == (num (b.drop (b.length - 4)) : Int), ()) rfl ?_
   clear hs1
   by_cases hcs : K0 (b.take (b.length - 4)) = (num (b.drop (b.length - 4)) : Int)
   ·refine ifF (by simp [hcs]) ?_
    obtain ⟨a, ha⟩ := hb.some (show 0 < b.length by omega)
    have hrd : ∀ {X : A4} (i : Nat) (hi : i < b.length) (j : Nat), j = i * 1 -> D0 (a.add j) [.int .u8 (b[i].toNat : Int)] (X ++ (n1, Obj.cells #[.i 0, .i 0, .i 0, .i 0, .i 0] 272) :: A) := fun {X} i hi j hj => (hb1 (X := X)).rd hi ha j hj
    refine A5 ha (E0 (by decide) (by omega) (A5 ha (E0 (by decide) (by omega) (A5 ha (E0 (by decide) (by omega) (A5 ha (E0 (by decide) (by omega) ?_)))))))
    refine A6 (b[0].toNat : Int) (hrd (X := []) 0 (by omega) _ rfl) (A6 (b[1].toNat : Int) (hrd (X := []) 1 (by omega) _ rfl) (A6 (b[2].toNat : Int) (hrd (X := []) 2 (by omega) _ rfl) (A6 (b[8].toNat : Int) (hrd (X := []) 8 (by omega) _ rfl) ?_)))
    refine B3 (B27 _ v b (hb1 (X := [])) hl 4 4) ((num ((b.drop 4).take 4) : Int), ()) (by rw [<- Bf6 (by decide) (by decide) (by omega)]; rfl) ?_
    refine E9 (hrd (X := []) 8 (by omega) _ rfl) (E9 (hrd (X := []) 2 (by omega) _ rfl) (E9 (hrd (X := []) 1 (by omega) _ rfl) (E9 (hrd (X := []) 0 (by omega) _ rfl) ?_)))
    have hu : ∀ x : UInt8, IntKind.i64.wrap (x.toNat : Int) = (x.toNat : Int) := fun x => by have := x.toNat_lt; exact C1 (by omega) (by omega)
    have hh : hOf b = ((b[0].toNat : Int), (b[1].toNat : Int), (b[2].toNat : Int), (num ((b.drop 4).take 4) : Int), (b[8].toNat : Int), ()) := by
     unfold hOf
     rw [Ac7 (show 0 < b.length by omega), Ac7 (show 1 < b.length by omega), Ac7 (show 2 < b.length by omega), Ac7 (show 8 < b.length by omega)]
    simp only [hu]
    refine C3 fun n2 _ => E3 [] _ rfl rfl (by simp) (.inl (Nat.le_refl _)) #[.i b[0].toNat, .i b[1].toNat, .i b[2].toNat, .i (num ((b.drop 4).take 4)), .i b[8].toNat] rfl ?_
    rw [List.nil_append]
    have l2 : ∀ {X : A4}, D0 ⟨n2, 0, none⟩ (hEnc (hOf b)) (X ++ (n2, Obj.cells #[.i b[0].toNat, .i b[1].toNat, .i b[2].toNat, .i (num ((b.drop 4).take 4)), .i b[8].toNat] 272) :: (n1, Obj.cells #[.i 0, .i 0, .i 0, .i 0, .i 0] 272) :: A) := fun {X} => by
     rw [hh]
     exact ldB (n := n2) (c := #[.i b[0].toNat, .i b[1].toNat, .i b[2].toNat, .i (num ((b.drop 4).take 4)), .i b[8].toNat]) (T := 272) (fz := (0, 0)) (by simp) rfl
    generalize (n2, Obj.cells #[.i b[0].toNat, .i b[1].toNat, .i b[2].toNat, .i (num ((b.drop 4).take 4)), .i b[8].toNat] 272) = o2 at l2 ⊢
    clear hu hh
    have hn : nOf b < 65536 := nOf_lt b
    refine B3 (B27 _ v b (hb1 (X := [o2])) hl 10 2) ((nOf b : Int), ()) (by unfold nOf; rw [<- Bf6 (by decide) (by decide) (by omega)]; rfl) ?_
    refine A5 ha (E0 (by decide) (by omega) (A6 (b[3].toNat : Int) (hrd (X := [o2]) 3 (by omega) _ rfl) ?_))
    refine N1 (fun hne => Ac3 [o2] (Ah8 hS hbk hcs ((Z8 b).2 (.inl ?_)))) (fun h3 => ?_)
    ·rw [Ac7 (show 3 < b.length by omega)]
     rintro e
     rw [e] at hne
     exact hne rfl
    have h3' : b.getD 3 0 = 165 := by rw [Ac7 (show 3 < b.length by omega)]; exact (C28 _ 165 (by decide)).1 h3
    refine A5 ha (E0 (by decide) (by omega) (A6 (b[9].toNat : Int) (hrd (X := [o2]) 9 (by omega) _ rfl) ?_))
    refine N1 (fun hne => Ac3 [o2] (Ah8 hS hbk hcs ((Z8 b).2 (.inr (.inl ?_))))) (fun h9 => ?_)
    ·rw [Ac7 (show 9 < b.length by omega)]
     rintro e
     rw [e] at hne
     exact hne rfl
    have h9' : b.getD 9 0 = 0 := by rw [Ac7 (show 9 < b.length by omega)]; exact (C28 _ 0 (by decide)).1 h9
    clear h3 h9
    have hroom : D7 (v.len : Int) = ((b.length - 16 : Nat) : Int) := by unfold D7; rw [if_pos (by omega)]; omega
    refine B3 (Ad8 _ v.len) (D7 v.len, ()) rfl ?_
    rw [hroom]
    refine B9 (fun (hbig : (nOf b : Int) > ((b.length - 16 : Nat) : Int)) => Ac3 [o2] (Ah8 hS hbk hcs ((Z8 b).2 (.inr (.inr (.inl (by omega))))))) (fun (hsm : ¬ (nOf b : Int) > ((b.length - 16 : Nat) : Int)) => ?_)
    refine A6 (hOf b) (l2 (X := [])) (B3 (A97 _ (hOf b)) (Am3 (hOf b), ()) rfl ?_)
    refine N1 (fun (he : Am3 (hOf b) ≠ 0) => Ac3 [o2] (Ah8 hS hbk hcs ((Z8 b).2 (.inr (.inr (.inr (.inl he))))))) (fun (he : Am3 (hOf b) = 0) => ?_)
    have hwn : IntKind.i64.wrap (12 + (nOf b : Int)) = ((12 + nOf b : Nat) : Int) := by rw [C1 (by omega) (by omega)]; omega
    simp only [hwn]
    refine J5 (l' := 12 + nOf b) (h' := b.length - 4) (m' := v.cap) rfl rfl rfl (by omega) (by omega) (Nat.le_refl _) ?_
    have hs2 : BSl (o2 :: (n1, Obj.cells #[.i 0, .i 0, .i 0, .i 0, .i 0] 272) :: A) (N9 v ((12 + nOf b : Nat) : Int) ((b.length - 4 : Nat) : Int) v.cap 1) (Ag1 b) := by
     have := Sl.slc (m := v.cap) (hb1 (X := [o2])) (by omega) (l := 12 + nOf b) (h' := b.length - 4) (by omega) (by omega) (by omega)
     rw [Ad2] at this
     exact this
    generalize N9 v ((12 + nOf b : Nat) : Int) ((b.length - 4 : Nat) : Int) v.cap 1 = s2 at hs2 ⊢
    have hl2 := hs2.len
    have hpl : (Ag1 b).length <= b.length := by unfold Ag1; rw [List.length_take, List.length_drop]; omega
    refine G0 (fun k z L' => L' = o2 :: (n1, Obj.cells #[.i 0, .i 0, .i 0, .i 0, .i 0] 272) :: A /\ ∃ i : Nat, i <= (Ag1 b).length /\ k = (Ag1 b).length - i /\ z = ((i : Int), ()) /\ ∀ x ∈ (Ag1 b).take i, x = 0) (Ag1 b).length ⟨rfl, 0, by omega, by omega, rfl, by simp⟩ ?_
    rintro k z L' ⟨rfl, i, hi, rfl, rfl, hall⟩
    refine B9 (fun (hlt : (i : Int) < s2.len) => ?_) (fun (hge : ¬ (i : Int) < s2.len) => ?_)
    ·have hi' : i < (Ag1 b).length := by omega
     obtain ⟨a2, ha2⟩ := hs2.some hi'
     refine A5 ha2 (E0 (show (0 : Int) <= i by omega) hlt (A6 ((Ag1 b)[i].toNat : Int) (hs2.rd hi' ha2 _ (by simp)) ?_))
     refine N1 (fun hne => Ac3 [o2] (Ah8 hS hbk hcs ((Z8 b).2 (.inr (.inr (.inr (.inr ⟨(Ag1 b)[i], List.getElem_mem hi', ?_⟩))))))) (fun h0 => ⟨(Ag1 b).length - (i + 1), by omega, rfl, i + 1, by omega, rfl, ?_, fun x hx => ?_⟩)
     ·rintro e
      rw [e] at hne
      exact hne rfl
     ·rw [C1 (by first | omega | (simp only; omega)) (by first | omega | (simp only; omega))]
      rfl
     ·rw [List.take_succ_eq_append_getElem hi'] at hx
      rcases List.mem_append.1 hx with hx | hx
      ·exact hall x hx
      ·rw [List.mem_singleton.1 hx]
       exact (C28 _ 0 (by decide)).1 h0
    ·obtain rfl : i = (Ag1 b).length := by omega
     rw [List.take_length] at hall
     have hok := Cy9 hS hbk hcs (pbad_f h3' h9' (by omega) he hall)
     refine J5 (l' := 12) (h' := 12 + nOf b) (m' := v.cap) rfl rfl rfl (by omega) (by omega) (Nat.le_refl _) ?_
     have hs3 : ∀ {o : Nat × Obj}, BSl (o :: o2 :: (n1, Obj.cells #[.i 0, .i 0, .i 0, .i 0, .i 0] 272) :: A) (N9 v ((12 : Nat) : Int) ((12 + nOf b : Nat) : Int) v.cap 1) (B26 b) := by
      intro o
      have := Sl.slc (m := v.cap) (hb1 (X := [o, o2])) (by omega) (l := 12) (h' := 12 + nOf b) (by omega) (by omega) (by omega)
      rw [Ad2, Nat.add_sub_cancel_left] at this
      exact this
     have hsl3 : (N9 v ((12 : Nat) : Int) ((12 + nOf b : Nat) : Int) v.cap 1).len = nOf b := by simp only [N9, Int.toNat_natCast]; omega
     generalize N9 v ((12 : Nat) : Int) ((12 + nOf b : Nat) : Int) v.cap 1 = s3 at hs3 hsl3 ⊢
     refine A6 (hOf b) (l2 (X := [])) (C3 fun n3 _ => E5 Aj0 Ce8 [] (o2 :: (n1, Obj.cells #[.i 0, .i 0, .i 0, .i 0, .i 0] 272) :: A) Ac4 rfl (.sl hs3) (K4 _) (by first | omega | (simp only; omega)) fun s4 seg4 hs4 own4 => E9 l2 ?_)
     rw [List.nil_append] at own4
     exact Cy8 hok own4 [] [o2]
   ·exact ifT (by simp [hcs]) (Ac3 [] (Ci2 hS hbk hcs))
abbrev It := Int × Int × Int × Unit
def N7 (x : It) : List Value := [.i x.1, .i x.2.1, .i x.2.2.1]
theorem E1 (x : It) : (N7 x).length = 3 := rfl
def itV (x : It) : Value := .agg #[.i x.1, .i x.2.1, .i x.2.2.1]
theorem Bb4 (l : List It) : (l.flatMap N7).all Q4 = true := by
 induction l with
 | nil => rfl
 | cons e r ih => rw [List.flatMap_cons, List.all_append, ih]; rfl
abbrev tItm : TypeId := 152
abbrev Bv6 : TypeId := 215
abbrev tPlc : TypeId := 55
abbrev Av5 : TypeId := 102
theorem Bk1 : S2 PP tItm Bv6 3 24 [.i 0, .i 0, .i 0] := M0 (by kernel_rfl) (by kernel_rfl) rfl (by decide) (by decide)
theorem By8 : Ao1 PP tItm := .inl ⟨Bv6, by kernel_rfl⟩
theorem Al4 : S2 PP tPlc Av5 3 24 [.i 0, .i 0, .i 0] := M0 (by kernel_rfl) (by kernel_rfl) rfl (by decide) (by decide)
theorem Bl7 : Ao1 PP tPlc := .inl ⟨Av5, by kernel_rfl⟩
theorem Cp3 : Aw4 PP Av5 = true := by kernel_rfl
def Bx5 (n : Int) : UInt8 := UInt8.ofNat n.toNat
def inB (l : List Int) : Prop := ∀ n ∈ l, 0 <= n /\ n <= 255
theorem Cu8 {n : Int} (h0 : 0 <= n) (h1 : n <= 255) : IntKind.u8.wrap n = ((Bx5 n).toNat : Int) := by
 rw [w8_id h0 h1]
 unfold Bx5
 rw [UInt8.toNat_ofNat', Nat.mod_eq_of_lt (by omega)]
 omega
theorem Bq5 (A : A4) (v : SlV) (b : List UInt8) (seg : A4) (own : Own v 1 eB (bvs b) seg) (hb : b.length <= 1000000) (u : SlV) (l : List Int) (hu : ISl A u .i64 l) (hl : l.length <= 1000) :
  CallF PP 131 #[.slice v.a v.len v.cap, .slice u.a u.len u.cap] (seg ++ A) fun r L' => ∃ seg', L' = seg' ++ A /\ ((inB l /\ ∃ v' : SlV, r = .tuple #[.slice v'.a v'.len v'.cap, .bool true] /\ Own v' 1 eB (bvs (b ++ l.map Bx5)) seg') \/ (¬ inB l /\ r = .tuple #[.slice none 0 0, .bool false])) := by
 refine CallF.of (args := [.slice v.a v.len v.cap, .slice u.a u.len u.cap]) B5 B6 Tryz.func131 (e131 v u _) ?_
 unfold t131
 have hul := hu.len
 refine G0 (fun z' z L' => ∃ (i : Nat) (s : SlV) (sg J : A4), i <= l.length /\ z' = l.length - i /\ z = (s, (i : Int), ()) /\ L' = J ++ (sg ++ A) /\ Own s 1 eB (bvs (b ++ (l.take i).map Bx5)) sg /\ inB (l.take i)) l.length ⟨0, v, seg, [], by omega, by omega, rfl, rfl, by simpa using own, by intro n hn; simp at hn⟩ ?_
 rintro z' z _ ⟨i, s, sg, J, hi, rfl, rfl, rfl, owns, hin⟩
 refine B9 (fun (hlt : (i : Int) < (u.len : Int)) => ?_) (fun (hge : ¬ (i : Int) < (u.len : Int)) => ?_)
 ·have hi' : i < l.length := by omega
  obtain ⟨a, ha⟩ := hu.some hi'
  have hld := hu.rd hi' ha ((i : Int).toNat * 1) (by rw [Int.toNat_natCast])
  have hsl := owns.sl.len
  rw [E6, List.length_append, List.length_map, List.length_take] at hsl
  refine A5 ha (E0 (show (0 : Int) <= (i : Int) by omega) hlt (A6 l[i] (hld.mono fun x hx => by simp [hx]) ?_))
  have hno : ¬ (0 <= l[i] /\ l[i] <= 255) -> HL.Ends (fun r L' => ∃ seg', L' = seg' ++ A /\ ((inB l /\ ∃ v' : SlV, r = .tuple #[.slice v'.a v'.len v'.cap, .bool true] /\ Own v' 1 eB (bvs (b ++ l.map Bx5)) seg') \/ (¬ inB l /\ r = .tuple #[.slice none 0 0, .bool false]))) (.tuple #[.slice none 0 0, .bool false]) (J ++ (sg ++ A)) :=
   fun h => .app (.of ⟨sg, rfl, .inr ⟨fun hh => h (hh _ (List.getElem_mem hi')), rfl⟩⟩)
  refine B9 (fun (h1 : l[i] < 0) => hno (by omega)) (fun (h1 : ¬ l[i] < 0) => B9 (fun (h2 : l[i] > 255) => hno (by omega)) (fun (h2 : ¬ l[i] > 255) => ?_))
  refine C3 fun n1 _ => ?_
  rw [Cu8 (by omega) (by omega)]
  refine E5 Aj0 Ce8 ((n1, Obj.cells #[.int .u8 ((Bx5 l[i]).toNat : Int)] 5) :: J) A owns (by simp) (n := 1) (ws := bvs [Bx5 l[i]]) (x := .slice (some ⟨n1, 0, none⟩) 1 1) (Src.sl (v := ⟨some ⟨n1, 0, none⟩, 1, 1⟩) ⟨rfl, Nat.le_refl _, .inr ⟨_, rfl, ldB List.mem_cons_self rfl⟩⟩) rfl (by omega) fun s' sg' hs' own' => ?_
  refine ⟨l.length - (i + 1), by omega, i + 1, s', sg', _, by omega, rfl, ?_, List.append_assoc .., ?_, ?_⟩
  ·rw [C1 (by first | omega | (simp only; omega)) (by first | omega | (simp only; omega))]
   rfl
  ·rw [<- Ae2] at own'
   rw [List.take_succ_eq_append_getElem hi', List.map_append, <- List.append_assoc]
   exact own'
  ·intro n hn
   rw [List.take_succ_eq_append_getElem hi'] at hn
   rcases List.mem_append.1 hn with h3 | h3
   ·exact hin n h3
   ·rw [List.mem_singleton.1 h3]; omega
 ·obtain rfl : i = l.length := by omega
  rw [List.take_length] at owns hin
  exact .app (.of ⟨sg, rfl, .inl ⟨hin, s, rfl, owns⟩⟩)
def T4 (x : It) : Prop := 0 <= x.1 /\ x.1 <= 15 /\ 0 <= x.2.1 /\ x.2.1 <= 15 /\ 1 <= x.2.2.1 /\ x.2.2.1 <= 1073741824
instance (x : It) : Decidable (T4 x) := by unfold T4; infer_instance
theorem A86 (L : A4) (x : It) : Reads PP 130 #[.agg #[.i x.1, .i x.2.1, .i x.2.2.1]] L (.bool (decide (T4 x))) := by
 refine Reads.of (args := [.agg #[.i x.1, .i x.2.1, .i x.2.2.1]]) B5 B6 Tryz.func130 (e130 x _) ?_
 unfold t130
 refine C3 fun n1 _ => ?_
 generalize ho : (n1, Obj.cells #[.i x.1, .i x.2.1, .i x.2.2.1] 102) = o1
 have lc : D0 ⟨n1, 0, none⟩ [.i x.1, .i x.2.1, .i x.2.2.1] (o1 :: L) := ldB (by rw [<- ho]; exact List.mem_cons_self) rfl
 clear ho
 have lB : D0 ⟨n1, 0, none⟩ [.i x.1] (o1 :: L) := lc.pre fun i u hu => by cases i with | zero => exact hu | succ i => exact absurd (show (none : Option Value) = some u from hu) (by simp)
 have hno : ¬ T4 x -> HL.Ends (fun v' L' => v' = Value.bool (decide (T4 x)) /\ L' = L) (.bool false) (o1 :: L) := fun h => .cons (.of ⟨by rw [decide_eq_false h], rfl⟩)
 refine A6 x.1 lB (B9 (fun (h1 : x.1 ≥ 0) => ?_) (fun (h1 : ¬ x.1 ≥ 0) => hno (by unfold T4; omega)))
 refine A6 x.1 lB (B9 (fun (h2 : x.1 < 16) => ?_) (fun (h2 : ¬ x.1 < 16) => hno (by unfold T4; omega)))
 refine A6 x.2.1 (lc.one 1 rfl) (B9 (fun (h3 : x.2.1 ≥ 0) => ?_) (fun (h3 : ¬ x.2.1 ≥ 0) => hno (by unfold T4; omega)))
 refine A6 x.2.1 (lc.one 1 rfl) (B9 (fun (h4 : x.2.1 < 16) => ?_) (fun (h4 : ¬ x.2.1 < 16) => hno (by unfold T4; omega)))
 refine A6 x.2.2.1 (lc.one 2 rfl) (B9 (fun (h5 : x.2.2.1 ≥ 1) => ?_) (fun (h5 : ¬ x.2.2.1 ≥ 1) => hno (by unfold T4; omega)))
 refine A6 x.2.2.1 (lc.one 2 rfl) (.cons (.of ⟨?_, rfl⟩))
 congr 1
 rw [decide_eq_decide]
 exact ⟨fun h => ⟨by omega, by omega, by omega, by omega, by omega, h⟩, fun h => h.2.2.2.2.2⟩
def kb (x : It) : List UInt8 := [Bx5 x.1, Bx5 x.2.1] ++ V6 x.2.2.1.toNat 4
theorem kb_len (x : It) : (kb x).length = 6 := by simp [kb, Aa1]
def allR (l : List It) : Prop := ∀ x ∈ l, T4 x
instance (l : List It) : Decidable (allR l) := by unfold allR; infer_instance
def V0 (l : List It) : List UInt8 × Int := if allR l then (l.flatMap kb, 0) else ([], 3)
theorem C03 (l : List It) : (l.flatMap kb).length = l.length * 6 := by
 induction l with
 | nil => rfl
 | cons x r ih => rw [List.flatMap_cons, List.length_append, kb_len, ih, List.length_cons]; omega
def Cu1 (p : List UInt8 × Int) (A : A4) (r : Value) (L' : A4) : Prop := ∃ g : PG, r = .tuple #[g.val, .i p.2] /\ L' = g.seg ++ A /\ g.Ok /\ g.l = p.1
theorem Bj2 (A : A4) (v : SlV) (l : List It) (h : Sl A v 3 (l.flatMap N7)) (hl : l.length <= 1000) : CallF PP 63 #[.slice v.a v.len v.cap] A (Cu1 (V0 l) A) := by
 refine CallF.of (args := [.slice v.a v.len v.cap]) B5 B6 Tryz.func63 (e63 v _) ?_
 unfold t63
 have hvl := h.els_len E1 (by decide)
 refine G0 (fun z' z L' => ∃ (i : Nat) (s : SlV) (sg J : A4), i <= l.length /\ z' = l.length - i /\ z = (s, (i : Int), ()) /\ L' = sg ++ (J ++ A) /\ Own s 1 eB (bvs ((l.take i).flatMap kb)) sg /\ allR (l.take i)) l.length ⟨0, ⟨none, 0, 0⟩, [], [], by omega, by omega, rfl, rfl, F7, by intro n hn; simp at hn⟩ ?_
 rintro z' z _ ⟨i, s, sg, J, hi, rfl, rfl, rfl, own, hall⟩
 refine B9 (fun (hlt : (i : Int) < (v.len : Int)) => ?_) (fun (hge : ¬ (i : Int) < (v.len : Int)) => ?_)
 ·have hi' : i < l.length := by omega
  obtain ⟨a, ha, l1⟩ := h.el E1 (by decide) hi'
  refine A5 ha (E0 (show (0 : Int) <= (i : Int) by omega) hlt (A6 (l[i] : It) (by rw [Int.toNat_natCast]; exact l1.mono fun x hx => by simp [hx]) (C3 fun n1 _ => ?_)))
  refine E3 (n := n1) (off := 0) (c := #[.i 0, .i 0, .i 0]) (T := Av5) (fz := (0, 0)) [] (sg ++ (J ++ A)) rfl rfl (by simp) (.inl (Nat.le_refl _)) #[.i l[i].1, .i l[i].2.1, .i l[i].2.2.1] rfl ?_
  rw [List.nil_append]
  generalize ho : ((n1, Obj.cells #[.i l[i].1, .i l[i].2.1, .i l[i].2.2.1] Av5) : Nat × Obj) = o1
  have lc : ∀ L : A4, o1 ∈ L -> D0 ⟨n1, 0, none⟩ [.i l[i].1, .i l[i].2.1, .i l[i].2.2.1] L := fun L hm => ldB (by rw [<- ho] at hm; exact hm) rfl
  clear ho
  refine A6 (l[i] : It) (lc _ List.mem_cons_self) (B3 (A86 _ l[i]) (decide (T4 l[i]), ()) rfl ?_)
  by_cases hr : T4 l[i]
  case neg =>
   rw [decide_eq_false hr]
   have hk : V0 l = ([], 3) := by unfold V0; rw [if_neg (fun hh => hr (hh _ (List.getElem_mem hi')))]
   refine ifT rfl (.cons (.app (.app (.of ⟨pg0, by rw [hk]; rfl, rfl, A96, by rw [hk]; rfl⟩))))
  rw [decide_eq_true hr]
  have hr' := hr
  unfold T4 at hr'
  have hkl := C03 (l.take i)
  rw [List.length_take] at hkl
  refine ifF rfl (A6 l[i].1 ((lc _ List.mem_cons_self).pre fun i u hu => by cases i with | zero => exact hu | succ i => exact absurd (show (none : Option Value) = some u from hu) (by simp)) (A6 l[i].2.1 ((lc _ List.mem_cons_self).one 1 rfl) (C3 fun n2 _ => ?_)))
  generalize ho2 : ((n2, Obj.cells #[.i l[i].1, .i l[i].2.1] 3) : Nat × Obj) = o2
  have hi2 : ISl (o2 :: o1 :: (J ++ A)) ⟨some ⟨n2, 0, none⟩, 2, 2⟩ .i64 [l[i].1, l[i].2.1] := ⟨rfl, Nat.le_refl _, .inr ⟨_, rfl, ldB (n := n2) (off := 0) (T := 3) (fz := (0, 0)) (c := #[.i l[i].1, .i l[i].2.1]) (by rw [ho2]; exact List.mem_cons_self) rfl⟩⟩
  refine G9 (Bq5 (o2 :: o1 :: (J ++ A)) s _ sg own (by omega) ⟨some ⟨n2, 0, none⟩, 2, 2⟩ [l[i].1, l[i].2.1] hi2 (by simp)) (R := []) ?_ ?_
  ·classical
   rw [List.perm_iff_count]
   intro x
   simp only [List.append_eq, List.cons_append, List.count_append, List.count_cons, List.count_nil]
   omega
  rintro _ _ ⟨sg2, rfl, ⟨-, s2, rfl, own2⟩ | ⟨hn, -⟩⟩
  case inr => exact absurd (show inB [l[i].1, l[i].2.1] by intro n hn; simp at hn; omega) hn
  refine ⟨sg2 ++ (o2 :: o1 :: (J ++ A)), by rw [List.append_nil], (s2, true, ()), rfl, A6 l[i].2.2.1 ((lc _ (by simp)).one 2 rfl) ?_⟩
  have hl2 := own2.sl.len
  rw [E6, List.length_append, List.length_map] at hl2
  refine H4 [] [] (A06 (sg2 ++ (o2 :: o1 :: (J ++ A))) s2 _ own2.sl.left (by rw [List.length_append, List.length_map]; simp only [List.length_cons, List.length_nil]; omega) l[i].2.2.1 4 (by omega)) (by simp) ?_
  rintro _ _ - ⟨s3, sg3, rfl, rfl, own3⟩
  rw [Af7 (by decide) (by omega) (by show l[i].2.2.1.toNat < 4294967296; omega)] at own3 ⊢
  rw [List.nil_append, List.append_nil]
  refine ⟨(s3, 0, ()), rfl, l.length - (i + 1), by omega, i + 1, s3, sg3, sg2 ++ (o2 :: o1 :: J), by omega, rfl, ?_, by simp, ?_, ?_⟩
  ·rw [C1 (by first | omega | (simp only; omega)) (by first | omega | (simp only; omega))]
   rfl
  ·rw [List.take_succ_eq_append_getElem hi', List.flatMap_append, List.flatMap_singleton]
   unfold kb
   rw [<- List.append_assoc]
   exact own3
  ·intro n hn
   rw [List.take_succ_eq_append_getElem hi'] at hn
   rcases List.mem_append.1 hn with h3 | h3
   ·exact hall n h3
   ·rw [List.mem_singleton.1 h3]; exact hr
 ·obtain rfl : i = l.length := by omega
  rw [List.take_length] at own hall
  have hk : V0 l = (l.flatMap kb, 0) := by unfold V0; rw [if_pos hall]
  unfold Cu1
  rw [hk]
  refine .drop (A := sg ++ A) (J := J) ⟨⟨s, sg, _⟩, rfl, rfl, own, rfl⟩ ?_
  classical
  rw [List.perm_iff_count]
  intro x
  simp only [List.append_eq, List.cons_append, List.count_append, List.count_cons, List.count_nil]
  omega
def A94 (p : List UInt8) (i : Nat) : It := (((p.getD (i * 6) 0).toNat : Int), ((p.getD (i * 6 + 1) 0).toNat : Int), (num ((p.drop (i * 6 + 2)).take 4) : Int), ())
def pls (p : List UInt8) (n : Nat) : List It := (List.range n).map (A94 p)
theorem Bn1 (p : List UInt8) (n : Nat) : pls p (n + 1) = pls p n ++ [A94 p n] := by simp [pls, List.range_succ]
theorem B24 (p : List UInt8) (n : Nat) : (pls p n).length = n := by simp [pls]
def Y5 (p : List UInt8) : List It × Int := if p.length % 6 ≠ 0 then ([], 5) else if allR (pls p (p.length / 6)) then (pls p (p.length / 6), 0) else ([], 5)
def ItsK (e : TypeId) (q : List It × Int) (A : A4) (r : Value) (L' : A4) : Prop := ∃ (v : SlV) (seg : A4), r = .tuple #[.slice v.a v.len v.cap, .i q.2] /\ L' = seg ++ A /\ Own v 3 e (q.1.flatMap N7) seg
theorem ItsK.err {e : TypeId} {q : List It × Int} {A : A4} {z : Int} (h : q = ([], z)) : ItsK e q A (.tuple #[.slice none 0 0, .i z]) A := ⟨⟨none, 0, 0⟩, [], by rw [h], rfl, by rw [h]; exact F7⟩
theorem Au2 {b : List UInt8} {i : Nat} (h : i < b.length) : b.getD i 0 = b[i] := by simp [List.getD_eq_getElem?_getD, h]
theorem Bx6 (x : UInt8) : IntKind.i64.wrap (x.toNat : Int) = (x.toNat : Int) := by
 have := x.toNat_lt
 exact C1 (by omega) (by omega)
theorem Ck1 (A : A4) (v : SlV) (p : List UInt8) (h : BSl A v p) (hl : p.length <= 10000) : CallF PP 170 #[.slice v.a v.len v.cap] A (ItsK Av5 (Y5 p) A) := by
 refine CallF.of (args := [.slice v.a v.len v.cap]) B5 B6 Tryz.func170 (e170 v _) ?_
 unfold t170
 have hvl := h.len
 have htm : Int.tmod (v.len : Int) 6 = ((p.length % 6 : Nat) : Int) := by rw [Int.tmod_eq_emod_of_nonneg (by omega), hvl]; omega
 refine Y3 (by decide) ?_
 rw [htm]
 refine N1 (fun (h6 : ((p.length % 6 : Nat) : Int) ≠ 0) => .of (ItsK.err (by unfold Y5; rw [if_pos (by omega)]))) (fun (h6 : ((p.length % 6 : Nat) : Int) = 0) => ?_)
 obtain ⟨n, hn⟩ : ∃ n, p.length = n * 6 := ⟨p.length / 6, by omega⟩
 have hdiv : p.length / 6 = n := by omega
 refine G0 (fun z' z L' => ∃ (i : Nat) (s b : SlV) (sg J : A4), i <= n /\ z' = n - i /\ z = (s, b, ()) /\ L' = J ++ (sg ++ A) /\ Own s 3 Av5 ((pls p i).flatMap N7) sg /\ allR (pls p i) /\ BSl A b (p.drop (i * 6))) n ⟨0, ⟨none, 0, 0⟩, v, [], [], by omega, by omega, rfl, rfl, F7, by intro n hn; simp [pls] at hn, by simpa using h⟩ ?_
 rintro z' z _ ⟨i, s, b, sg, J, hi, rfl, rfl, rfl, own, hall, hb⟩
 have hbl := hb.len
 rw [List.length_drop] at hbl
 have hbcap := hb.cap
 have hs1 := own.sl.els_len E1 (by decide)
 rw [B24] at hs1
 refine B9 (fun (hgt : (b.len : Int) > 0) => ?_) (fun (hle : ¬ (b.len : Int) > 0) => ?_)
 ·have hi' : i < n := by omega
  have hB : BSl (J ++ (sg ++ A)) b (p.drop (i * 6)) := hb.right.right
  have hlen6 : 6 <= (p.drop (i * 6)).length := by rw [List.length_drop]; omega
  refine B3 (A07 _ b _ hB (by rw [List.length_drop]; omega) 2 4) ((T2 (p.drop (i * 6)) 2 4).1, (T2 (p.drop (i * 6)) 2 4).2, ()) rfl ?_
  have hwg : (T2 (p.drop (i * 6)) 2 4).1 = (num ((p.drop (i * 6 + 2)).take 4) : Int) := by
   have := Bf5 (b := p.drop (i * 6)) (a := 2) (w := 4) (by decide) (by decide) (by omega)
   rw [List.drop_drop] at this
   exact congrArg Prod.fst this
  rw [hwg]
  obtain ⟨a, ha⟩ := hB.some (i := 0) (by omega)
  have e0 : (p.drop (i * 6))[0]'(by omega) = p.getD (i * 6) 0 := by rw [Au2 (by omega), List.getElem_drop]; simp
  have e1 : (p.drop (i * 6))[1]'(by omega) = p.getD (i * 6 + 1) 0 := by rw [Au2 (by omega), List.getElem_drop]
  have l0 := hB.rd (i := 0) (by omega) ha ((0 : Int).toNat * 1) rfl
  have l1 := hB.rd (i := 1) (by omega) ha ((1 : Int).toNat * 1) rfl
  rw [e0] at l0
  rw [e1] at l1
  refine A5 ha (E0 (by decide) (show (0 : Int) < (b.len : Int) by omega) (A5 ha (E0 (by decide) (show (1 : Int) < (b.len : Int) by omega) (A6 ((p.getD (i * 6) 0).toNat : Int) l0 (A6 ((p.getD (i * 6 + 1) 0).toNat : Int) l1 (C3 fun n1 _ => ?_))))))
  rw [Bx6, Bx6]
  refine E3 (n := n1) (off := 0) (c := #[.i 0, .i 0, .i 0]) (T := Av5) (fz := (0, 0)) [] (J ++ (sg ++ A)) rfl rfl (by simp) (.inl (Nat.le_refl _)) #[.i (A94 p i).1, .i (A94 p i).2.1, .i (A94 p i).2.2.1] rfl ?_
  rw [List.nil_append]
  refine A6 (A94 p i) (ldB List.mem_cons_self rfl) (B3 (A86 _ (A94 p i)) (decide (T4 (A94 p i)), ()) rfl ?_)
  by_cases hr : T4 (A94 p i)
  case neg =>
   rw [decide_eq_false hr]
   have hk : Y5 p = ([], 5) := by
    unfold Y5
    rw [if_neg (by omega), hdiv, if_neg (fun hh => hr (hh _ (List.mem_map.2 ⟨i, List.mem_range.2 hi', rfl⟩)))]
   exact ifT rfl (.cons (.app (.app (.of (ItsK.err hk)))))
  rw [decide_eq_true hr]
  refine ifF rfl (A6 (A94 p i) (ldB List.mem_cons_self rfl) (C3 fun n2 _ => ?_))
  generalize ((n1, Obj.cells #[.i (A94 p i).1, .i (A94 p i).2.1, .i (A94 p i).2.2.1] Av5) : Nat × Obj) = o1
  refine E5 Al4 Bl7 ((n2, Obj.cells #[.i (A94 p i).1, .i (A94 p i).2.1, .i (A94 p i).2.2.1] Av5) :: o1 :: J) A own (by simp) (n := 1) (ws := N7 (A94 p i)) (x := .slice (some ⟨n2, 0, none⟩) 1 1) (Src.sl (v := ⟨some ⟨n2, 0, none⟩, 1, 1⟩) ⟨rfl, Nat.le_refl _, .inr ⟨_, rfl, ldB List.mem_cons_self rfl⟩⟩) rfl (by omega) fun s2 sg2 hs2 own2 => ?_
  refine J5 (l' := 6) (h' := b.len) (m' := b.cap) rfl rfl rfl (by omega) (by omega) (Nat.le_refl _) ?_
  have hcut : BSl A (N9 b ((6 : Nat) : Int) (b.len : Int) (b.cap : Int) 1) (p.drop ((i + 1) * 6)) := by
   have h0 := Sl.slc (m := b.cap) hb (by decide) (l := 6) (h' := b.len) (by omega) (by omega) (by omega)
   rw [Ad2, List.take_of_length_le (by rw [List.length_drop, List.length_drop]; omega), List.drop_drop] at h0
   rw [show (i + 1) * 6 = i * 6 + 6 by omega]
   exact h0
  refine ⟨n - (i + 1), by omega, i + 1, s2, _, sg2, _, by omega, rfl, rfl, List.append_assoc .., ?_, ?_, hcut⟩
  ·rw [Bn1, List.flatMap_append, List.flatMap_singleton]; exact own2
  ·intro x hx
   rw [Bn1] at hx
   rcases List.mem_append.1 hx with h3 | h3
   ·exact hall x h3
   ·rw [List.mem_singleton.1 h3]; exact hr
 ·obtain rfl : i = n := by omega
  have hk : Y5 p = (pls p i, 0) := by unfold Y5; rw [if_neg (by omega), hdiv, if_pos hall]
  exact .app (.of ⟨s, sg, by rw [hk], rfl, by rw [hk]; exact own⟩)
def Z7 (ps : List (List UInt8)) (at' : Int) (h : Hd) : Option (List UInt8) :=
 if 0 <= at' /\ at' < 16 then match ps[at'.toNat]? with
  | some b => if (H5 b).2.2 = 0 /\ (H5 b).1 = h then some (H5 b).2.1 else none
  | none => none
 else none
def A35 (ps : List (List UInt8)) : Nat -> Nat
 | 0 => 0
 | n + 1 => if S6 (ps.getD (n + 1) []) then A35 ps n else n + 1
def K7 (ps : List (List UInt8)) : Nat := A35 ps (min ps.length 16 - 1)
theorem A34 (ps : List (List UInt8)) : ∀ n, A35 ps n <= n
 | 0 => Nat.le_refl _
 | n + 1 => by
  unfold A35
  split
  ·exact Nat.le_succ_of_le (A34 ps n)
  ·exact Nat.le_refl _
def H0 (p : List UInt8) (i : Nat) : It := (((p.getD (i * 3) 0).toNat : Int), ((p.getD (i * 3 + 1) 0).toNat : Int), ((p.getD (i * 3 + 2) 0).toNat : Int), ())
def Ah3 (p : List UInt8) : Nat -> Nat -> Int -> Option (List It × Int)
 | 0, _, nx => some ([], nx)
 | n + 1, i, nx => if ((H0 p i).1 = 2 \/ (H0 p i).1 = 3) /\ (H0 p i).2.2.1 ≠ 0 /\ (H0 p i).2.1 = nx then (Ah3 p n (i + 1) (nx + (H0 p i).2.2.1)).map fun y => (H0 p i :: y.1, y.2) else none
def Av7 (p : List UInt8) (last : Nat) : Option (List It) :=
 if p.length % 3 ≠ 0 then none else match Ah3 p (p.length / 3) 0 1 with
 | some y => if y.2 = last then some y.1 else none
 | none => none
def O0 (ps : List (List UInt8)) (ep : Int) (at' : Nat) : Option It :=
 match ps[at']? with
 | some b => if (H5 b).2.2 = 0 /\ ((H5 b).1.1 = 2 \/ (H5 b).1.1 = 3) then
   if (List.range (H5 b).1.2.2.1.toNat).all (fun i => (Z7 ps ((at' : Int) + i) ((H5 b).1.1, i, (H5 b).1.2.2.1, ep, (at' : Int) + i, ())).isSome) = true then some ((H5 b).1.1, at', (H5 b).1.2.2.1, ()) else none
  else none
 | none => none
def Ac8 (f : Nat -> Option It) (last : Nat) : Nat -> Nat -> List It
 | 0, _ => []
 | k + 1, p => if p <= last then match f p with
  | some x => x :: Ac8 f last k (p + x.2.2.1.toNat)
  | none => Ac8 f last k (p + 1)
  else []
def A10 (ps : List (List UInt8)) (ep : Int) : Option (List It) := (Z7 ps (K7 ps) (4, 0, 1, ep, K7 ps, ())).bind fun p => Av7 p (K7 ps)
def epR (ps : List (List UInt8)) : Int := (H5 (ps.getD 0 [])).1.2.2.2.1
def S0 (ps : List (List UInt8)) : (Int × Bool × List It) × Bool :=
 if ps = [] then ((0, false, []), false) else
 match Z7 ps 0 (1, 0, 1, epR ps, 0, ()) with
 | some [] => match (if K7 ps > 0 then A10 ps (epR ps) else none) with
  | some l => ((epR ps, true, l), true)
  | none => ((epR ps, false, Ac8 (O0 ps (epR ps)) (K7 ps) 17 1), true)
 | _ => ((0, false, []), false)
theorem Bn3 {b : List UInt8} (h : (H5 b).2.2 = 0) : Am3 (H5 b).1 = 0 := by
 unfold H5 at h ⊢
 split at h
 ·exact absurd h (by simp)
 ·rename_i h1
  split at h
  ·exact absurd h (by simp)
  ·rename_i h2
   split at h
   ·exact absurd h (by simp)
   ·rename_i h3
    split at h
    ·exact absurd h (by simp)
    ·rename_i h4
     rw [if_neg h1, if_neg h2, if_neg h3, if_neg h4]
     simp only
     by_cases he : Am3 (hOf b) = 0
     ·exact he
     ·exact absurd ((Z8 b).2 (.inr (.inr (.inr (.inl he))))) h4
theorem Ao8 (b : List UInt8) : (H5 b).2.1.length <= b.length := by
 unfold H5
 split
 ·exact Nat.zero_le _
 ·split
  ·exact Nat.zero_le _
  ·split
   ·exact Nat.zero_le _
   ·split
    ·exact Nat.zero_le _
    ·show (B26 b).length <= b.length
     unfold B26
     rw [List.length_take, List.length_drop]; omega
abbrev tIm : TypeId := 373
abbrev eIm : TypeId := 377
theorem elemIm : S2 PP tIm eIm 7 72 [.i 0, .i 0, .i 0, .i 0, .i 0, .slice none 0 0, .bool false] := M0 (by kernel_rfl) (by kernel_rfl) rfl (by decide) (by decide)
theorem srcIm : Ao1 PP tIm := .inl ⟨eIm, by kernel_rfl⟩
structure IM where
 h : Hd
 g : PG
 fine : Bool
def IM.enc (x : IM) : List Value := [.i x.h.1, .i x.h.2.1, .i x.h.2.2.1, .i x.h.2.2.2.1, .i x.h.2.2.2.2.1, x.g.val, .bool x.fine]
theorem IM.enc_len (x : IM) : x.enc.length = 7 := rfl
def IM.dat (x : IM) : Hd × List UInt8 × Bool := (x.h, x.g.l, x.fine)
def imOf (b : List UInt8) : Hd × List UInt8 × Bool := ((H5 b).1, (H5 b).2.1, decide ((H5 b).2.2 = 0))
def T6 (l : List IM) : A4 := l.flatMap fun x => x.g.seg
theorem A38 (a b : List IM) : T6 (a ++ b) = T6 a ++ T6 b := List.flatMap_append
theorem Bv0 (a : IM) : T6 [a] = a.g.seg := by simp [T6]
def sO (m : Nat) (sv : SlV) (ep last : Int) : Nat × Obj := (m, .cells #[.slice sv.a sv.len sv.cap, .i ep, .i last] 375)
structure SHs (ps : List (List UInt8)) (sv : SlV) (seg : A4) (ims : List IM) : Prop where
 own : Own sv 7 eIm (ims.flatMap IM.enc) seg
 ok : ∀ x ∈ ims, x.g.Ok
 dat : ims.map IM.dat = (ps.take 16).map imOf
 len : ∀ b ∈ ps, b.length <= 1000000
def SH (m : Nat) (ps : List (List UInt8)) (ep : Int) (last : Nat) (A : A4) : Prop := ∃ sv seg ims, A = sO m sv ep last :: (seg ++ T6 ims) /\ SHs ps sv seg ims
section
variable {L : A4} {m : Nat} {sv : SlV} {ep last : Int} {ps : List (List UInt8)} {seg : A4} {ims : List IM}
theorem Cq1 (h : sO m sv ep last ∈ L) : D0 ⟨m, 0, none⟩ [.slice sv.a sv.len sv.cap] L := ldB (by unfold sO at h; exact h) rfl
theorem s_ep (h : sO m sv ep last ∈ L) : D0 ⟨m, 1, none⟩ [.i ep] L := ldB (by unfold sO at h; exact h) rfl
theorem s_la (h : sO m sv ep last ∈ L) : D0 ⟨m, 2, none⟩ [.i last] L := ldB (by unfold sO at h; exact h) rfl
theorem SHs.ilen (h : SHs ps sv seg ims) : ims.length = min 16 ps.length := by
 have := congrArg List.length h.dat
 rwa [List.length_map, List.length_map, List.length_take] at this
theorem SHs.im (h : SHs ps sv seg ims) {i : Nat} (hi : i < ims.length) : ∃ hp : i < ps.length, ims[i].h = (H5 ps[i]).1 /\ ims[i].g.l = (H5 ps[i]).2.1 /\ ims[i].fine = decide ((H5 ps[i]).2.2 = 0) := by
 have hl := h.ilen
 have hp : i < ps.length := by omega
 refine ⟨hp, ?_⟩
 have h1 : (ims.map IM.dat)[i]? = ((ps.take 16).map imOf)[i]? := by rw [h.dat]
 rw [List.getElem?_map, List.getElem?_map, List.getElem?_eq_getElem hi, List.getElem?_take_of_lt (by omega), List.getElem?_eq_getElem hp] at h1
 have h2 := Option.some.inj h1
 unfold IM.dat imOf at h2
 simp only [Prod.mk.injEq] at h2
 exact h2
end
theorem undHd2 : Aw4 PP 272 = true := by kernel_rfl
theorem neHd2 {L : A4} (x y : Hd) {k : ShV (.lf .bool) -> HP} (hk : k (!decide (x = y)) L) :
  smP PP (binOp .neq 272 (.agg #[.i x.1, .i x.2.1, .i x.2.2.1, .i x.2.2.2.1, .i x.2.2.2.2.1]) (.agg #[.i y.1, .i y.2.1, .i y.2.2.1, .i y.2.2.2.1, .i y.2.2.2.2.1])) (.lf .bool) k L := by
 refine Cr2 (r := (x.1 == y.1 && (x.2.1 == y.2.1 && (x.2.2.1 == y.2.2.1 && (x.2.2.2.1 == y.2.2.2.1 && (x.2.2.2.2.1 == y.2.2.2.2.1 && true)))))) undHd2 (by kernel_rfl) ?_
 have e : decide (x = y) = (x.1 == y.1 && (x.2.1 == y.2.1 && (x.2.2.1 == y.2.2.1 && (x.2.2.2.1 == y.2.2.2.1 && (x.2.2.2.2.1 == y.2.2.2.2.1 && true))))) := by
  obtain ⟨a, b, c, d, f, ⟨⟩⟩ := x
  obtain ⟨a', b', c', d', f', ⟨⟩⟩ := y
  rw [Bool.eq_iff_iff]; simp
 rw [e] at hk; exact hk
theorem B60 (L : A4) (n : Int) : Reads PP 320 #[.i n] L (.bool (decide (n = 2 \/ n = 3))) := by
 refine Reads.of (args := [.i n]) B5 B6 Tryz.func320 (e320 n _) ?_
 unfold t320
 refine W7 (fun (h : n = 2) => .of ⟨by rw [decide_eq_true (.inl h)], rfl⟩) (fun (h : n ≠ 2) => .of ⟨?_, rfl⟩)
 congr 1
 by_cases h3 : n = 3
 ·rw [h3]; rfl
 ·rw [decide_eq_false (by omega), beq_eq_false_iff_ne]; exact h3
theorem C00 (A : A4) (v : SlV) (l : List PV) (h : U3 A v l) (hl : l.length <= 1000000) (hb : ∀ x ∈ l, x.2.length <= 1000000) :
  CallF PP 283 #[.slice v.a v.len v.cap] A fun r L' => ∃ m B, r = .pointer (some ⟨m, 0, none⟩) /\ L' = B ++ A /\ SH m (l.map Prod.snd) 0 (K7 (l.map Prod.snd)) B := by
 refine CallF.of (args := [.slice v.a v.len v.cap]) B5 B6 Tryz.func283 (e283 v _) ?_
 unfold t283
 have hvl := h.len
 have hcap := h.sl.cap
 refine C3 fun m _ => ?_
 have him : Y1 (v.len : Int) 16 = ((min l.length 16 : Nat) : Int) := by unfold Y1; omega
 simp only [him]
 refine J5 (l' := 0) (h' := min l.length 16) (m' := v.cap) rfl rfl rfl (by omega) (by omega) (Nat.le_refl _) ?_
 have hs : Sl A (N9 v ((0 : Nat) : Int) ((min l.length 16 : Nat) : Int) (v.cap : Int) 1) 1 ((l.take (min l.length 16)).map pvV) := by
  have h0 := Sl.slc (m := v.cap) h.sl (by decide) (l := 0) (h' := min l.length 16) (by omega) (by omega) (by omega)
  rw [Nat.zero_mul, List.drop_zero, Nat.sub_zero, Nat.mul_one, <- List.map_take] at h0
  exact h0
 generalize N9 v ((0 : Nat) : Int) ((min l.length 16 : Nat) : Int) (v.cap : Int) 1 = s at hs ⊢
 have hsl := hs.len
 rw [List.length_map, List.length_take] at hsl
 have hm0 : ((m, Obj.cells #[.slice none 0 0, .i 0, .i 0] 375) : Nat × Obj) = sO m ⟨none, 0, 0⟩ 0 ((0 : Nat) : Int) := rfl
 rw [hm0]
 obtain ⟨n, hn⟩ : ∃ n, n = min l.length 16 := ⟨_, rfl⟩
 have hpl : (l.map Prod.snd).length = l.length := List.length_map _
 refine G0 (fun z' z L' => ∃ (i last : Nat) (sv : SlV) (seg : A4) (ims : List IM) (J X Y : A4), i <= n /\ z' = n - i /\ z = ((i : Int), ()) /\ L' = X ++ sO m sv 0 last :: (seg ++ Y) /\ (X ++ Y).Perm (T6 ims ++ (J ++ A)) /\ Own sv 7 eIm (ims.flatMap IM.enc) seg /\ (∀ x ∈ ims, x.g.Ok) /\ ims.map IM.dat = ((l.map Prod.snd).take i).map imOf /\ last = A35 (l.map Prod.snd) (i - 1)) n
  ⟨0, 0, ⟨none, 0, 0⟩, [], [], [], [], A, by omega, by omega, rfl, rfl, List.Perm.refl _, F7, by simp, rfl, rfl⟩ ?_
 rintro z' z _ ⟨i, last, sv, seg, ims, J, X, Y, hi, rfl, rfl, rfl, hp, own, hok, hdat, hlast⟩
 have hsub : ∀ x ∈ A, x ∈ X ++ sO m sv 0 last :: (seg ++ Y) := by
  intro x hx
  have h5 : x ∈ X ++ Y := (hp.mem_iff (a := x)).2 (by simp [hx])
  have h6 : x ∈ X \/ x ∈ Y := by simpa using h5
  rcases h6 with h6 | h6 <;> simp [h6]
 have hil : ims.length = i := by
  have := congrArg List.length hdat
  rw [List.length_map, List.length_map, List.length_take] at this; omega
 have hvl2 := own.sl.els_len IM.enc_len (by decide)
 refine B9 (fun (hlt : (i : Int) < (s.len : Int)) => ?_) (fun (hge : ¬ (i : Int) < (s.len : Int)) => ?_)
 ·have hi' : i < l.length := by omega
  obtain ⟨a, ha, hld⟩ := hs.at' (i := i) (by omega) (by decide)
  have hld1 : D0 (a.add ((i : Int).toNat * 1)) [pvV l[i]] A := by
   rw [Int.toNat_natCast, Nat.mul_one]
   exact hld.one i (by rw [List.getElem?_map, List.getElem?_take_of_lt (by omega), List.getElem?_eq_getElem hi']; rfl)
  have hbv := h.val _ (List.getElem_mem hi')
  have hbl := hb _ (List.getElem_mem hi')
  refine A5 ha (E0 (show (0 : Int) <= (i : Int) by omega) hlt (A6 l[i].1 (hld1.mono hsub) ?_))
  refine H4 [] [] (As2 (X ++ sO m sv 0 last :: (seg ++ Y)) l[i].1 l[i].2 (Sl.mono hbv hsub) hbl) (by simp) ?_
  rintro _ _ - ⟨s2, sg2, rfl, rfl, own2⟩
  rw [List.nil_append, List.append_nil]
  refine ⟨((H5 l[i].2).1, s2, (H5 l[i].2).2.2, ()), rfl, C3 fun n2 _ => ?_⟩
  refine E3 (n := n2) (off := 0) (c := #[.i 0, .i 0, .i 0, .i 0, .i 0]) (T := 272) (fz := (0, 0)) [] _ rfl rfl (by simp) (.inl (Nat.le_refl _)) #[.i (H5 l[i].2).1.1, .i (H5 l[i].2).1.2.1, .i (H5 l[i].2).1.2.2.1, .i (H5 l[i].2).1.2.2.2.1, .i (H5 l[i].2).1.2.2.2.2.1] rfl ?_
  rw [List.nil_append]
  refine A6 sv (Cq1 (m := m) (ep := 0) (last := last) (by simp)) (A6 ((H5 l[i].2).1 : Hd) (ldB List.mem_cons_self rfl) (C3 fun n3 _ => ?_))
  generalize ((n2, Obj.cells #[.i (H5 l[i].2).1.1, .i (H5 l[i].2).1.2.1, .i (H5 l[i].2).1.2.2.1, .i (H5 l[i].2).1.2.2.2.1, .i (H5 l[i].2).1.2.2.2.2.1] 272) : Nat × Obj) = o2
  have hfine : ((H5 l[i].2).2.2 == 0) = decide ((H5 l[i].2).2.2 = 0) := by
   by_cases he : (H5 l[i].2).2.2 = 0
   ·rw [he]; rfl
   ·rw [decide_eq_false he, beq_eq_false_iff_ne]; exact he
  simp only [hfine]
  refine E5 elemIm srcIm ((n3, Obj.cells #[.i (H5 l[i].2).1.1, .i (H5 l[i].2).1.2.1, .i (H5 l[i].2).1.2.2.1, .i (H5 l[i].2).1.2.2.2.1, .i (H5 l[i].2).1.2.2.2.2.1, .slice s2.a s2.len s2.cap, .bool (decide ((H5 l[i].2).2.2 = 0))] eIm) :: o2 :: (sg2 ++ (X ++ [sO m sv 0 last]))) Y own (by simp)
   (n := 1) (ws := IM.enc ⟨(H5 l[i].2).1, ⟨s2, sg2, (H5 l[i].2).2.1⟩, decide ((H5 l[i].2).2.2 = 0)⟩) (x := .slice (some ⟨n3, 0, none⟩) 1 1) (Src.sl (v := ⟨some ⟨n3, 0, none⟩, 1, 1⟩) ⟨rfl, Nat.le_refl _, .inr ⟨_, rfl, ldB List.mem_cons_self rfl⟩⟩) rfl (by omega) fun v8 seg8 hv8 own8 => ?_
  generalize ((n3, Obj.cells #[.i (H5 l[i].2).1.1, .i (H5 l[i].2).1.2.1, .i (H5 l[i].2).1.2.2.1, .i (H5 l[i].2).1.2.2.2.1, .i (H5 l[i].2).1.2.2.2.2.1, .slice s2.a s2.len s2.cap, .bool (decide ((H5 l[i].2).2.2 = 0))] eIm) : Nat × Obj) = o3
  refine E3 (n := m) (off := 0) (c := #[.slice sv.a sv.len sv.cap, .i 0, .i last]) (T := 375) (fz := (0, 0)) (o3 :: o2 :: (sg2 ++ X)) (seg8 ++ Y) rfl (by simp [sO]) (by simp) (.inl (Nat.le_refl _)) #[.slice v8.a v8.len v8.cap, .i 0, .i last] rfl ?_
  have hm1 : ((m, Obj.cells #[.slice v8.a v8.len v8.cap, .i 0, .i last] 375) : Nat × Obj) = sO m v8 0 last := rfl
  rw [hm1]
  have hsub2 : ∀ x ∈ A, x ∈ (o3 :: o2 :: (sg2 ++ X)) ++ sO m v8 0 last :: (seg8 ++ Y) := by
   intro x hx
   have h5 : x ∈ X ++ Y := (hp.mem_iff (a := x)).2 (by simp [hx])
   have h6 : x ∈ X \/ x ∈ Y := by simpa using h5
   rcases h6 with h6 | h6 <;> simp [h6]
  refine B3 (A98 _ l[i].1 l[i].2 (Sl.mono hbv hsub2) hbl) (S6 l[i].2, ()) rfl ?_
  have hgd : (l.map Prod.snd).getD i [] = l[i].2 := by rw [List.getD_eq_getElem?_getD, List.getElem?_map, List.getElem?_eq_getElem hi']; rfl
  have hpm : ((o3 :: o2 :: (sg2 ++ X)) ++ Y).Perm (T6 (ims ++ [⟨(H5 l[i].2).1, ⟨s2, sg2, (H5 l[i].2).2.1⟩, decide ((H5 l[i].2).2.2 = 0)⟩]) ++ ((o3 :: o2 :: J) ++ A)) := by
   rw [A38, Bv0]
   classical
   rw [List.perm_iff_count] at hp ⊢
   intro z
   have := hp z
   simp only [List.append_eq, List.cons_append, List.count_append, List.count_cons, List.count_nil] at this ⊢
   omega
  have hgo : ∀ (last' : Nat), last' = A35 (l.map Prod.snd) i -> (fun (x' : RsV [lI]) (L'' : A4) => ∃ k', k' < n - i /\ ∃ (i last : Nat) (sv : SlV) (seg : A4) (ims : List IM) (J X Y : A4), i <= n /\ k' = n - i /\ x' = ((i : Int), ()) /\ L'' = X ++ sO m sv 0 last :: (seg ++ Y) /\ (X ++ Y).Perm (T6 ims ++ (J ++ A)) /\ Own sv 7 eIm (ims.flatMap IM.enc) seg /\ (∀ x ∈ ims, x.g.Ok) /\ ims.map IM.dat = ((l.map Prod.snd).take i).map imOf /\ last = A35 (l.map Prod.snd) (i - 1)) (IntKind.i64.wrap ((i : Int) + 1), ()) ((o3 :: o2 :: (sg2 ++ X)) ++ sO m v8 0 last' :: (seg8 ++ Y)) := by
   intro last' hl'
   refine ⟨n - (i + 1), by omega, i + 1, last', v8, seg8, ims ++ [⟨(H5 l[i].2).1, ⟨s2, sg2, (H5 l[i].2).2.1⟩, decide ((H5 l[i].2).2.2 = 0)⟩], o3 :: o2 :: J, o3 :: o2 :: (sg2 ++ X), Y, by omega, rfl, ?_, rfl, hpm, ?_, ?_, ?_, hl'⟩
   ·rw [C1 (by first | omega | (simp only; omega)) (by first | omega | (simp only; omega))]
    rfl
   ·rw [List.flatMap_append, List.flatMap_singleton]; exact own8
   ·intro z hz
    rcases List.mem_append.1 hz with h5 | h5
    ·exact hok z h5
    ·rw [List.mem_singleton.1 h5]; exact own2
   ·rw [List.map_append, hdat, List.take_succ_eq_append_getElem (by rw [hpl]; exact hi'), List.map_append, List.getElem_map]
    rfl
  cases hbk : S6 l[i].2 with
  | true =>
   refine ifF rfl (hgo last ?_)
   rw [hlast]
   cases i with
   | zero => rfl
   | succ j =>
    rw [Nat.add_sub_cancel]
    show _ = if S6 ((l.map Prod.snd).getD (j + 1) []) then A35 (l.map Prod.snd) j else j + 1
    rw [hgd, hbk, if_pos rfl]
  | false =>
   refine ifT rfl ?_
   refine E3 (n := m) (off := 2) (c := #[.slice v8.a v8.len v8.cap, .i 0, .i last]) (T := 375) (fz := (0, 0)) (o3 :: o2 :: (sg2 ++ X)) (seg8 ++ Y) rfl rfl (by simp) (.inl (Nat.le_refl _)) #[.slice v8.a v8.len v8.cap, .i 0, .i i] rfl ?_
   refine hgo i ?_
   cases i with
   | zero => rfl
   | succ j =>
    show _ = if S6 ((l.map Prod.snd).getD (j + 1) []) then A35 (l.map Prod.snd) j else j + 1
    rw [hgd, hbk, if_neg (by decide)]
 ·obtain rfl : i = n := by omega
  refine .drop (A := (sO m sv 0 last :: (seg ++ T6 ims)) ++ A) (J := J) ⟨m, _, rfl, rfl, sv, seg, ims, ?_, own, hok, ?_, ?_⟩ ?_
  ·have : K7 (l.map Prod.snd) = last := by rw [hlast]; unfold K7; rw [hpl, hn]
   rw [this]
  ·rw [hdat]
   congr 1
   rcases Nat.le_total l.length 16 with h16 | h16
   ·rw [List.take_of_length_le (by omega), List.take_of_length_le (by omega)]
   ·rw [show i = 16 by omega]
  ·intro b hb'
   obtain ⟨x, hx, rfl⟩ := List.mem_map.1 hb'
   exact hb x hx
  ·classical
   rw [List.perm_iff_count] at hp ⊢
   intro z
   have := hp z
   simp only [List.append_eq, List.cons_append, List.count_append, List.count_cons, List.count_nil] at this ⊢
   omega
theorem Bh0 (L B : A4) (m : Nat) (ps : List (List UInt8)) (ep : Int) (last : Nat) (hB : SH m ps ep last B) (hs : ∀ x ∈ B, x ∈ L) (at' : Int) (h : Hd) :
  CallF PP 284 #[.pointer (some ⟨m, 0, none⟩), .i at', .agg #[.i h.1, .i h.2.1, .i h.2.2.1, .i h.2.2.2.1, .i h.2.2.2.2.1]] L fun r L' => L' = L /\
   ((Z7 ps at' (h.1, h.2.1, h.2.2.1, ep, at', ()) = none /\ r = .tuple #[.slice none 0 0, .bool false]) \/ ∃ (v : SlV) (p : List UInt8), Z7 ps at' (h.1, h.2.1, h.2.2.1, ep, at', ()) = some p /\ r = .tuple #[.slice v.a v.len v.cap, .bool true] /\ BSl L v p /\ p.length <= 1000000) := by
 obtain ⟨sv, seg, ims, rfl, hh⟩ := hB
 refine CallF.of (args := [.pointer (some ⟨m, 0, none⟩), .i at', .agg #[.i h.1, .i h.2.1, .i h.2.2.1, .i h.2.2.2.1, .i h.2.2.2.2.1]]) B5 B6 Tryz.func284 (e284 (some ⟨m, 0, none⟩) at' h _) ?_
 unfold t284
 have hmO : sO m sv ep last ∈ L := hs _ List.mem_cons_self
 have hsl : Sl L sv 7 (ims.flatMap IM.enc) := Sl.mono hh.own.sl fun x hx => hs x (by simp [hx])
 have hvl := hsl.els_len IM.enc_len (by decide)
 have hil := hh.ilen
 refine C3 fun n1 _ => A5 rfl (A6 ep ((s_ep hmO).mono fun x hx => List.mem_cons_of_mem _ hx) ?_)
 refine E3 (n := n1) (off := 3) (c := #[.i h.1, .i h.2.1, .i h.2.2.1, .i h.2.2.2.1, .i h.2.2.2.2.1]) (T := 272) (fz := (0, 0)) [] L rfl rfl (by simp) (.inl (Nat.le_refl _)) #[.i h.1, .i h.2.1, .i h.2.2.1, .i ep, .i h.2.2.2.2.1] rfl ?_
 refine E3 (n := n1) (off := 4) (T := 272) (fz := (0, 0)) [] L rfl rfl (by simp) (.inl (Nat.le_refl _)) #[.i h.1, .i h.2.1, .i h.2.2.1, .i ep, .i at'] rfl ?_
 rw [List.nil_append]
 generalize hH : ((h.1, h.2.1, h.2.2.1, ep, at', ()) : Hd) = H
 have lH : D0 ⟨n1, 0, none⟩ [.i H.1, .i H.2.1, .i H.2.2.1, .i H.2.2.2.1, .i H.2.2.2.2.1] ((n1, Obj.cells #[.i h.1, .i h.2.1, .i h.2.2.1, .i ep, .i at'] 272) :: L) := ldB List.mem_cons_self (by rw [<- hH]; rfl)
 generalize (n1, Obj.cells #[.i h.1, .i h.2.1, .i h.2.2.1, .i ep, .i at'] 272) = o1 at lH
 have hup : ∀ x ∈ L, x ∈ o1 :: L := fun x hx => List.mem_cons_of_mem _ hx
 have hno : Z7 ps at' H = none -> HL.Ends (fun r L' => L' = L /\ ((Z7 ps at' H = none /\ r = .tuple #[.slice none 0 0, .bool false]) \/ ∃ (v : SlV) (p : List UInt8), Z7 ps at' H = some p /\ r = .tuple #[.slice v.a v.len v.cap, .bool true] /\ BSl L v p /\ p.length <= 1000000)) (.tuple #[.slice none 0 0, .bool false]) (o1 :: L) := fun hx => .cons (.of ⟨rfl, .inl ⟨hx, rfl⟩⟩)
 refine B9 (fun (h1 : at' < 0) => hno (by unfold Z7; rw [if_neg (by omega)])) (fun (h1 : ¬ at' < 0) => ?_)
 obtain ⟨i, rfl⟩ : ∃ i : Nat, at' = i := ⟨at'.toNat, by omega⟩
 refine A5 rfl (A6 sv ((Cq1 hmO).mono hup) (B9 (fun (h2 : (i : Int) ≥ (sv.len : Int)) => hno ?_) (fun (h2 : ¬ (i : Int) ≥ (sv.len : Int)) => ?_)))
 ·unfold Z7
  by_cases h16 : i < 16
  ·rw [if_pos (by omega), Int.toNat_natCast, List.getElem?_eq_none (by omega)]
  ·rw [if_neg (by omega)]
 have hi : i < ims.length := by omega
 obtain ⟨hip, i1, i2, i3⟩ := hh.im hi
 obtain ⟨a, ha, hld⟩ := hsl.el IM.enc_len (by decide) hi
 have hld' : D0 (a.add ((i : Int).toNat * 7)) ims[i].enc (o1 :: L) := by rw [Int.toNat_natCast]; exact hld.mono hup
 have g0 : (0 : Int) <= (i : Int) := by omega
 have g1 : (i : Int) < (sv.len : Int) := by omega
 have hsr : Z7 ps (i : Int) H = if (H5 ps[i]).2.2 = 0 /\ (H5 ps[i]).1 = H then some (H5 ps[i]).2.1 else none := by
  unfold Z7
  rw [if_pos (by omega), Int.toNat_natCast, List.getElem?_eq_getElem hip]
 refine A5 rfl (A6 sv ((Cq1 hmO).mono hup) (A5 ha (E0 g0 g1 (A6 ims[i].fine (hld'.one 6 rfl) ?_))))
 rw [i3]
 by_cases hf : (H5 ps[i]).2.2 = 0
 case neg => rw [decide_eq_false hf]; exact ifT rfl (hno (by rw [hsr, if_neg (fun hx => hf hx.1)]))
 rw [decide_eq_true hf]
 refine ifF rfl (A5 rfl (A6 sv ((Cq1 hmO).mono hup) (A5 ha (E0 g0 g1 (A6 ims[i].h (hld'.pre fun j u hu => ?_) (A6 H lH (neHd2 _ _ ?_)))))))
 ·match j, hu with
  | 0, hu => exact hu
  | 1, hu => exact hu
  | 2, hu => exact hu
  | 3, hu => exact hu
  | 4, hu => exact hu
  | j + 5, hu => exact absurd (show (none : Option Value) = some u from hu) (by simp)
 rw [i1]
 by_cases he : (H5 ps[i]).1 = H
 case neg => rw [decide_eq_false he]; exact ifT rfl (hno (by rw [hsr, if_neg (fun hx => he hx.2)]))
 rw [decide_eq_true he]
 refine ifF rfl (A5 rfl (A6 sv ((Cq1 hmO).mono hup) (A5 ha (E0 g0 g1 (A6 ims[i].g.v (hld'.one 5 rfl) (.cons (.of ⟨rfl, .inr ⟨ims[i].g.v, ims[i].g.l, by rw [hsr, if_pos ⟨hf, he⟩, i2], rfl, ?_, ?_⟩⟩)))))))
 ·exact Sl.mono (hh.ok _ (List.getElem_mem hi)).sl fun x hx => hs x (List.mem_cons_of_mem _ (List.mem_append_right _ (List.mem_flatMap.2 ⟨_, List.getElem_mem hi, hx⟩)))
 ·rw [i2]
  have := Ao8 ps[i]
  have := hh.len _ (List.getElem_mem hip)
  omega
def Bk9 (o : Option (List It)) (A : A4) (r : Value) (L' : A4) : Prop :=
 (o = none /\ L' = A /\ ∃ v : SlV, r = .tuple #[.slice v.a v.len v.cap, .bool false]) \/ ∃ (l : List It) (v : SlV) (seg : A4), o = some l /\ r = .tuple #[.slice v.a v.len v.cap, .bool true] /\ L' = seg ++ A /\ Own v 3 Bv6 (l.flatMap N7) seg
theorem Bk9.no {o : Option (List It)} {A : A4} (h : o = none) : Bk9 o A (.tuple #[.slice none 0 0, .bool false]) A := .inl ⟨h, rfl, ⟨none, 0, 0⟩, rfl⟩
theorem Bt0 (p : List UInt8) (n i : Nat) (nx : Int) : Ah3 p (n + 1) i nx = if ((H0 p i).1 = 2 \/ (H0 p i).1 = 3) /\ (H0 p i).2.2.1 ≠ 0 /\ (H0 p i).2.1 = nx then (Ah3 p n (i + 1) (nx + (H0 p i).2.2.1)).map fun y => (H0 p i :: y.1, y.2) else none := rfl
theorem B05 (p : List UInt8) (i : Nat) : 0 <= (H0 p i).2.2.1 /\ (H0 p i).2.2.1 <= 255 := by
 unfold H0
 have := (p.getD (i * 3 + 2) 0).toNat_lt
 simp only
 omega
theorem Cw6 (L B : A4) (m : Nat) (ps : List (List UInt8)) (ep : Int) (hB : SH m ps ep (K7 ps) B) (hs : ∀ x ∈ B, x ∈ L) : CallF PP 285 #[.pointer (some ⟨m, 0, none⟩)] L (Bk9 (A10 ps ep) L) := by
 refine CallF.of (args := [.pointer (some ⟨m, 0, none⟩)]) B5 B6 Tryz.func285 (e285 (some ⟨m, 0, none⟩) _) ?_
 unfold t285
 have hB0 := hB
 obtain ⟨sv, seg, ims, hBe, hh⟩ := hB
 have hmO : sO m sv ep (K7 ps) ∈ L := hs _ (by rw [hBe]; exact List.mem_cons_self)
 refine A5 rfl (A6 (K7 ps : Int) (s_la hmO) ?_)
 refine H4 [] [] (Bh0 L B m ps ep (K7 ps) hB0 hs (K7 ps) (4, 0, 1, 0, 0, ())) (by simp) ?_
 rintro _ L1 - ⟨hL1, ⟨hn, rfl⟩ | ⟨v, p, hsm, rfl, hp, hpl⟩⟩
 ·rw [List.nil_append, List.append_nil, hL1]
  exact ⟨(⟨none, 0, 0⟩, false, ()), rfl, ifT rfl (.of (Bk9.no (by unfold A10; rw [hn]; rfl)))⟩
 rw [List.nil_append, List.append_nil, hL1]
 clear hL1 L1
 refine ⟨(v, true, ()), rfl, ifF rfl (Y3 (by decide) ?_)⟩
 have hS : A10 ps ep = Av7 p (K7 ps) := by unfold A10; rw [hsm]; rfl
 rw [hS]
 have hvl := hp.len
 have htm : Int.tmod (v.len : Int) 3 = ((p.length % 3 : Nat) : Int) := by rw [Int.tmod_eq_emod_of_nonneg (by omega), hvl]; omega
 rw [htm]
 refine N1 (fun (h3 : ((p.length % 3 : Nat) : Int) ≠ 0) => .of (Bk9.no (by unfold Av7; rw [if_pos (by omega)]))) (fun (h3 : ((p.length % 3 : Nat) : Int) = 0) => ?_)
 obtain ⟨n, hn⟩ : ∃ n, p.length = n * 3 := ⟨p.length / 3, by omega⟩
 have hdiv : p.length / 3 = n := by omega
 have hR1 : ∀ y, Ah3 p n 0 1 = some y -> Av7 p (K7 ps) = if y.2 = K7 ps then some y.1 else none := by
  intro y hy
  unfold Av7
  rw [if_neg (by omega), hdiv, hy]
 have hR0 : Ah3 p n 0 1 = none -> Av7 p (K7 ps) = none := by
  intro hy
  unfold Av7
  rw [if_neg (by omega), hdiv, hy]
 refine G0 (fun z' z L' => ∃ (i : Nat) (b s : SlV) (nx : Int) (ds : List It) (sg J : A4), i <= n /\ z' = n - i /\ z = (b, s, nx, ()) /\ L' = J ++ (sg ++ L) /\ Own s 3 Bv6 (ds.flatMap N7) sg /\ ds.length = i /\ BSl L b (p.drop (i * 3)) /\ 1 <= nx /\ nx <= 1 + 255 * i /\ Ah3 p n 0 1 = (Ah3 p (n - i) i nx).map fun y => (ds ++ y.1, y.2)) n
  ⟨0, v, ⟨none, 0, 0⟩, 1, [], [], [], by omega, by omega, rfl, rfl, F7, rfl, by simpa using hp, by omega, by omega, by simp⟩ ?_
 rintro z' z _ ⟨i, b, s, nx, ds, sg, J, hi, rfl, rfl, rfl, own, hdl, hb, hnx0, hnx1, hG⟩
 have hbl := hb.len
 rw [List.length_drop] at hbl
 have hbcap := hb.cap
 have hs1 := own.sl.els_len E1 (by decide)
 refine B9 (fun (hgt : (b.len : Int) > 0) => ?_) (fun (hle : ¬ (b.len : Int) > 0) => ?_)
 ·have hi' : i < n := by omega
  have hB : BSl (J ++ (sg ++ L)) b (p.drop (i * 3)) := hb.right.right
  have hl3 : 3 <= (p.drop (i * 3)).length := by rw [List.length_drop]; omega
  obtain ⟨a, ha⟩ := hB.some (i := 0) (by omega)
  have e0 : (p.drop (i * 3))[0]'(by omega) = p.getD (i * 3) 0 := by rw [Au2 (by omega), List.getElem_drop]; simp
  have e1 : (p.drop (i * 3))[1]'(by omega) = p.getD (i * 3 + 1) 0 := by rw [Au2 (by omega), List.getElem_drop]
  have e2 : (p.drop (i * 3))[2]'(by omega) = p.getD (i * 3 + 2) 0 := by rw [Au2 (by omega), List.getElem_drop]
  have l0 := hB.rd (i := 0) (by omega) ha ((0 : Int).toNat * 1) rfl
  have l1 := hB.rd (i := 1) (by omega) ha ((1 : Int).toNat * 1) rfl
  have l2 := hB.rd (i := 2) (by omega) ha ((2 : Int).toNat * 1) rfl
  rw [e0] at l0
  rw [e1] at l1
  rw [e2] at l2
  refine A5 ha (E0 (by decide) (show (0 : Int) < (b.len : Int) by omega) (A5 ha (E0 (by decide) (show (1 : Int) < (b.len : Int) by omega) (A5 ha (E0 (by decide) (show (2 : Int) < (b.len : Int) by omega) (A6 ((p.getD (i * 3) 0).toNat : Int) l0 (A6 ((p.getD (i * 3 + 1) 0).toNat : Int) l1 (A6 ((p.getD (i * 3 + 2) 0).toNat : Int) l2 (C3 fun n1 _ => ?_)))))))))
  rw [Bx6, Bx6, Bx6]
  refine E3 (n := n1) (off := 0) (c := #[.i 0, .i 0, .i 0]) (T := Bv6) (fz := (0, 0)) [] (J ++ (sg ++ L)) rfl rfl (by simp) (.inl (Nat.le_refl _)) #[.i (H0 p i).1, .i (H0 p i).2.1, .i (H0 p i).2.2.1] rfl ?_
  rw [List.nil_append]
  generalize ho : ((n1, Obj.cells #[.i (H0 p i).1, .i (H0 p i).2.1, .i (H0 p i).2.2.1] Bv6) : Nat × Obj) = o1
  have lc : D0 ⟨n1, 0, none⟩ [.i (H0 p i).1, .i (H0 p i).2.1, .i (H0 p i).2.2.1] (o1 :: (J ++ (sg ++ L))) := ldB (by rw [<- ho]; exact List.mem_cons_self) rfl
  clear ho
  have hsu : Ah3 p (n - i) i nx = if ((H0 p i).1 = 2 \/ (H0 p i).1 = 3) /\ (H0 p i).2.2.1 ≠ 0 /\ (H0 p i).2.1 = nx then (Ah3 p (n - (i + 1)) (i + 1) (nx + (H0 p i).2.2.1)).map fun y => (H0 p i :: y.1, y.2) else none := by
   rw [show n - i = (n - (i + 1)) + 1 by omega, Bt0]
  have hno : ¬ (((H0 p i).1 = 2 \/ (H0 p i).1 = 3) /\ (H0 p i).2.2.1 ≠ 0 /\ (H0 p i).2.1 = nx) -> HL.Ends (Bk9 (Av7 p (K7 ps)) L) (.tuple #[.slice none 0 0, .bool false]) (o1 :: (J ++ (sg ++ L))) := by
   intro hx
   rw [hsu, if_neg hx] at hG
   exact .cons (.app (.app (.of (Bk9.no (hR0 (by rw [hG]; rfl))))))
  refine A6 (H0 p i).1 (lc.pre fun i u hu => by cases i with | zero => exact hu | succ i => exact absurd (show (none : Option Value) = some u from hu) (by simp)) (B3 (B60 _ (H0 p i).1) (decide ((H0 p i).1 = 2 \/ (H0 p i).1 = 3), ()) rfl ?_)
  by_cases hk : (H0 p i).1 = 2 \/ (H0 p i).1 = 3
  case neg => rw [decide_eq_false hk]; exact ifT rfl (hno fun h => hk h.1)
  rw [decide_eq_true hk]
  refine ifF rfl (A6 (H0 p i).2.2.1 (lc.one 2 rfl) (W7 (fun (hz : (H0 p i).2.2.1 = 0) => hno fun h => h.2.1 hz) (fun (hz : (H0 p i).2.2.1 ≠ 0) => ?_)))
  refine A6 (H0 p i).2.1 (lc.one 1 rfl) (N1 (fun (hx : (H0 p i).2.1 ≠ nx) => hno fun h => hx h.2.2) (fun (hx : (H0 p i).2.1 = nx) => ?_))
  have hr := B05 p i
  refine A6 (H0 p i).2.2.1 (lc.one 2 rfl) (A6 (H0 p i) lc (C3 fun n2 _ => ?_))
  refine E5 Bk1 By8 ((n2, Obj.cells #[.i (H0 p i).1, .i (H0 p i).2.1, .i (H0 p i).2.2.1] Bv6) :: o1 :: J) L own (by simp) (n := 1) (ws := N7 (H0 p i)) (x := .slice (some ⟨n2, 0, none⟩) 1 1) (Src.sl (v := ⟨some ⟨n2, 0, none⟩, 1, 1⟩) ⟨rfl, Nat.le_refl _, .inr ⟨_, rfl, ldB List.mem_cons_self rfl⟩⟩) rfl (by omega) fun s2 sg2 hs2 own2 => ?_
  refine J5 (l' := 3) (h' := b.len) (m' := b.cap) rfl rfl rfl (by omega) (by omega) (Nat.le_refl _) ?_
  have hcut : BSl L (N9 b ((3 : Nat) : Int) (b.len : Int) (b.cap : Int) 1) (p.drop ((i + 1) * 3)) := by
   have h0 := Sl.slc (m := b.cap) hb (by decide) (l := 3) (h' := b.len) (by omega) (by omega) (by omega)
   rw [Ad2, List.take_of_length_le (by rw [List.length_drop, List.length_drop]; omega), List.drop_drop] at h0
   rw [show (i + 1) * 3 = i * 3 + 3 by omega]
   exact h0
  refine ⟨n - (i + 1), by omega, i + 1, _, s2, nx + (H0 p i).2.2.1, ds ++ [H0 p i], sg2, _, by omega, rfl, ?_, List.append_assoc .., ?_, by simp [hdl], hcut, by omega, by omega, ?_⟩
  ·rw [C1 (by first | omega | (simp only; omega)) (by first | omega | (simp only; omega))]
  ·rw [List.flatMap_append, List.flatMap_singleton]; exact own2
  ·rw [hG, hsu, if_pos ⟨hk, hz, hx⟩, Option.map_map]
   have : ∀ y : List It × Int, (ds ++ (H0 p i :: y.1), y.2) = (ds ++ [H0 p i] ++ y.1, y.2) := fun y => by simp
   exact congrArg (fun f => Option.map f _) (funext this)
 ·obtain rfl : i = n := by omega
  rw [Nat.sub_self] at hG
  have hG' : Ah3 p i 0 1 = some (ds, nx) := by rw [hG]; simp [Ah3]
  refine A5 rfl (A6 (K7 ps : Int) ((s_la hmO).mono fun x hx => by simp [hx]) ?_)
  by_cases hl : nx = K7 ps
  ·have hb2 : (nx == (K7 ps : Int)) = true := by simp [hl]
   simp only [hb2]
   refine .app (.of (.inr ⟨ds, s, sg, ?_, rfl, rfl, own⟩))
   rw [hR1 _ hG', if_pos hl]
  ·have hb2 : (nx == (K7 ps : Int)) = false := by rw [beq_eq_false_iff_ne]; exact hl
   simp only [hb2]
   refine .app (.app (.of (.inl ⟨?_, rfl, s, rfl⟩)))
   rw [hR1 _ hG', if_neg hl]
theorem at_cl (L B : A4) (m : Nat) (ps : List (List UInt8)) (ep : Int) (last : Nat) (hB : SH m ps ep last B) (hs : ∀ x ∈ B, x ∈ L) (q : Nat) (hq : q < min ps.length 16) :
  CallF PP 287 #[.pointer (some ⟨m, 0, none⟩), .i q] L fun r L' => L' = L /\ ((O0 ps ep q = none /\ r = .tuple #[.agg #[.i 0, .i 0, .i 0], .bool false]) \/ ∃ x : It, O0 ps ep q = some x /\ r = .tuple #[itV x, .bool true]) := by
 have hB0 := hB
 obtain ⟨sv, seg, ims, hBe, hh⟩ := hB
 refine CallF.of (args := [.pointer (some ⟨m, 0, none⟩), .i q]) B5 B6 Tryz.func287 (e287 (some ⟨m, 0, none⟩) q _) ?_
 unfold t287
 have hmO : sO m sv ep last ∈ L := hs _ (by rw [hBe]; exact List.mem_cons_self)
 have hsl : Sl L sv 7 (ims.flatMap IM.enc) := Sl.mono hh.own.sl fun x hx => hs x (by rw [hBe]; simp [hx])
 have hvl := hsl.els_len IM.enc_len (by decide)
 have hil := hh.ilen
 have hi : q < ims.length := by omega
 obtain ⟨hip, i1, i2, i3⟩ := hh.im hi
 obtain ⟨a, ha, hld⟩ := hsl.el IM.enc_len (by decide) hi
 refine C3 fun n1 _ => A5 rfl (A6 sv ((Cq1 hmO).mono fun x hx => List.mem_cons_of_mem _ hx) (A5 ha (E0 (show (0 : Int) <= (q : Int) by omega) (show (q : Int) < (sv.len : Int) by omega) ?_)))
 refine A6 (ims[q].h.1, ims[q].h.2.1, ims[q].h.2.2.1, ims[q].h.2.2.2.1, ims[q].h.2.2.2.2.1, ims[q].g.v, ims[q].fine, ()) (by rw [Int.toNat_natCast]; exact hld.mono fun x hx => List.mem_cons_of_mem _ hx) (C3 fun n2 _ => ?_)
 have hsz : wr #[.i 0, .i 0, .i 0, .i 0, .i 0, .slice none 0 0, .bool false] 0 [.i ims[q].h.1, .i ims[q].h.2.1, .i ims[q].h.2.2.1, .i ims[q].h.2.2.2.1, .i ims[q].h.2.2.2.2.1, .slice ims[q].g.v.a ims[q].g.v.len ims[q].g.v.cap, .bool ims[q].fine] = #[.i ims[q].h.1, .i ims[q].h.2.1, .i ims[q].h.2.2.1, .i ims[q].h.2.2.2.1, .i ims[q].h.2.2.2.2.1, .slice ims[q].g.v.a ims[q].g.v.len ims[q].g.v.cap, .bool ims[q].fine] := Co8 _ _ rfl
 refine E3 (n := n2) (off := 0) (c := #[.i 0, .i 0, .i 0, .i 0, .i 0, .slice none 0 0, .bool false]) (T := eIm) (fz := (0, 0)) [] _ rfl rfl (by simp) (.inl (Nat.le_refl _)) _ hsz ?_
 rw [List.nil_append]
 generalize ho2 : ((n2, Obj.cells #[.i ims[q].h.1, .i ims[q].h.2.1, .i ims[q].h.2.2.1, .i ims[q].h.2.2.2.1, .i ims[q].h.2.2.2.2.1, .slice ims[q].g.v.a ims[q].g.v.len ims[q].g.v.cap, .bool ims[q].fine] eIm) : Nat × Obj) = o2
 have lc : ∀ Z : A4, o2 ∈ Z -> D0 ⟨n2, 0, none⟩ [.i ims[q].h.1, .i ims[q].h.2.1, .i ims[q].h.2.2.1, .i ims[q].h.2.2.2.1, .i ims[q].h.2.2.2.2.1, .slice ims[q].g.v.a ims[q].g.v.len ims[q].g.v.cap, .bool ims[q].fine] Z := fun Z hm => ldB (by rw [<- ho2] at hm; exact hm) rfl
 clear ho2 hsz
 have lk : ∀ Z : A4, o2 ∈ Z -> D0 ⟨n2, 0, none⟩ [.i ims[q].h.1] Z := fun Z hm => (lc Z hm).pre fun i u hu => by cases i with | zero => exact hu | succ i => exact absurd (show (none : Option Value) = some u from hu) (by simp)
 have hfr : O0 ps ep q = if (H5 ps[q]).2.2 = 0 /\ ((H5 ps[q]).1.1 = 2 \/ (H5 ps[q]).1.1 = 3) then
   if (List.range (H5 ps[q]).1.2.2.1.toNat).all (fun i => (Z7 ps ((q : Int) + i) ((H5 ps[q]).1.1, i, (H5 ps[q]).1.2.2.1, ep, (q : Int) + i, ())).isSome) = true then some ((H5 ps[q]).1.1, ((q : Nat) : Int), (H5 ps[q]).1.2.2.1, ()) else none
  else none := by unfold O0; rw [List.getElem?_eq_getElem hip]
 generalize hz0 : ((n1, Obj.cells #[.i 0, .i 0, .i 0] 215) : Nat × Obj) = o1
 have hzz : ∀ (Z : A4), O0 ps ep q = none -> st ⟨n1, 0, none⟩ [.i 0, .i 0, .i 0] (ld ⟨n1, 0, none⟩ (.agg [.int .i64, .int .i64, .int .i64]) fun v4 => HL.Ends (fun r L' => L' = L /\ ((O0 ps ep q = none /\ r = .tuple #[.agg #[.i 0, .i 0, .i 0], .bool false]) \/ ∃ x : It, O0 ps ep q = some x /\ r = .tuple #[itV x, .bool true])) (.tuple #[.agg #[.i v4.1, .i v4.2.1, .i v4.2.2.1], .bool false])) (o2 :: o1 :: L) := by
  intro Z hx
  refine E3 (n := n1) (off := 0) (c := #[.i 0, .i 0, .i 0]) (T := 215) (fz := (0, 0)) [o2] L rfl (by rw [<- hz0]; rfl) (by simp) (.inl (Nat.le_refl _)) #[.i 0, .i 0, .i 0] rfl ?_
  exact A6 (0, 0, 0, ()) (ldB (n := n1) (off := 0) (c := #[.i 0, .i 0, .i 0]) (T := 215) (fz := (0, 0)) (by simp) rfl) (.cons (.cons (.of ⟨rfl, .inl ⟨hx, rfl⟩⟩)))
 have hm2 : o2 ∈ o2 :: o1 :: L := List.mem_cons_self
 refine A6 ims[q].fine ((lc _ hm2).one 6 rfl) ?_
 rw [i3]
 by_cases hf : (H5 ps[q]).2.2 = 0
 case neg => rw [decide_eq_false hf]; exact ifT rfl (hzz [] (by rw [hfr, if_neg (fun h => hf h.1)]))
 rw [decide_eq_true hf]
 refine ifF rfl (A6 ims[q].h.1 (lk _ hm2) (B3 (B60 _ ims[q].h.1) (decide (ims[q].h.1 = 2 \/ ims[q].h.1 = 3), ()) rfl ?_))
 by_cases hk : ims[q].h.1 = 2 \/ ims[q].h.1 = 3
 case neg => rw [decide_eq_false hk]; exact ifT rfl (hzz [] (by rw [hfr, if_neg (fun h => hk (by rw [i1]; exact h.2))]))
 rw [decide_eq_true hk]
 rw [i1] at lc lk hk
 simp only [i1]
 have hok := Ag4 (Bn3 hf)
 generalize hH : (H5 ps[q]).1 = H at *
 refine ifF rfl (A6 H.2.2.1 ((lc _ hm2).one 2 rfl) ?_)
 refine G0 (fun z' z L' => L' = o2 :: o1 :: L /\ ∃ i : Nat, (i : Int) <= H.2.2.1 /\ z' = H.2.2.1.toNat - i /\ z = ((i : Int), ()) /\ ∀ j, j < i -> (Z7 ps ((q : Int) + j) (H.1, j, H.2.2.1, ep, (q : Int) + j, ())).isSome = true) H.2.2.1.toNat ⟨rfl, 0, by omega, by omega, rfl, by omega⟩ ?_
 rintro z' z _ ⟨rfl, i, hi, rfl, rfl, hall⟩
 refine B9 (fun (hlt : (i : Int) < H.2.2.1) => ?_) (fun (hge : ¬ (i : Int) < H.2.2.1) => ?_)
 ·refine A6 H.1 (lk _ hm2) (A6 H.2.2.1 ((lc _ hm2).one 2 rfl) ?_)
  have hwi : IntKind.i64.wrap ((q : Int) + (i : Int)) = (q : Int) + i := C1 (by omega) (by omega)
  simp only [hwi]
  refine H4 [] [] (Bh0 (o2 :: o1 :: L) B m ps ep last hB0 (fun x hx => List.mem_cons_of_mem _ (List.mem_cons_of_mem _ (hs x hx))) ((q : Int) + i) (H.1, i, H.2.2.1, 0, 0, ())) (by simp) ?_
  rintro _ L1 - ⟨hL1, ⟨hn, rfl⟩ | ⟨v, p, hsm, rfl, -, -⟩⟩
  ·rw [List.nil_append, List.append_nil, hL1]
   refine ⟨(⟨none, 0, 0⟩, false, ()), rfl, ifT rfl (hzz [] ?_)⟩
   rw [hfr, if_pos ⟨hf, hk⟩, if_neg]
   intro hx
   rw [List.all_eq_true] at hx
   have := hx i (List.mem_range.2 (by omega))
   rw [hn] at this
   cases this
  ·rw [List.nil_append, List.append_nil, hL1]
   refine ⟨(v, true, ()), rfl, ifF rfl ⟨H.2.2.1.toNat - (i + 1), by omega, rfl, i + 1, by omega, rfl, ?_, fun j hj => ?_⟩⟩
   ·rw [C1 (by first | omega | (simp only; omega)) (by first | omega | (simp only; omega))]
    rfl
   ·rcases Nat.lt_or_ge j i with h5 | h5
    ·exact hall j h5
    ·obtain rfl : j = i := by omega
     rw [hsm]; rfl
 ·refine A6 H.1 (lk _ hm2) (A6 H.2.2.1 ((lc _ hm2).one 2 rfl) ?_)
  refine E3 (n := n1) (off := 0) (c := #[.i 0, .i 0, .i 0]) (T := 215) (fz := (0, 0)) [o2] L rfl (by rw [<- hz0]; rfl) (by simp) (.inl (Nat.le_refl _)) #[.i H.1, .i q, .i H.2.2.1] rfl ?_
  refine A6 (H.1, (q : Int), H.2.2.1, ()) (ldB (n := n1) (off := 0) (c := #[.i H.1, .i q, .i H.2.2.1]) (T := 215) (fz := (0, 0)) (by simp) rfl) (.cons (.cons (.of ⟨rfl, .inr ⟨(H.1, (q : Int), H.2.2.1, ()), ?_, rfl⟩⟩)))
  rw [hfr, if_pos ⟨hf, hk⟩, if_pos]
  rw [List.all_eq_true]
  intro j hj
  exact hall j (by have := List.mem_range.1 hj; omega)
end Go.Proofs.YtbaoieipijmakaaGreatDoor
namespace Go.HL
section
variable {P : Program} {w : World}
end
section
variable {P : Program} {L : A4}
theorem An3 {t t2 ty e : TypeId} {i : TypeInfo} {z : Value} {ik : IntKind} (ht : P.underlying t = some (.slice e)) (h2 : P.underlying t2 = some (.int ik)) (hi : P.info? e = some i) (hz : i.zero = some z) (hs : 0 < i.size) {n : Nat} (h0 : 0 < n) (h63 : (n : Int) <= 9223372036854775807) (hb : n * i.bytes <= 281474976710656) (w : World) :
  (Builtin.append_ #[t, t2] ty #[.slice none 0 0, .int .i64 (n : Int)]).run P w =
   .ok (.slice (some ⟨w.heap.size, 0, none⟩) n (grownCap w n 0 e)) (w.drew.alloc (.cells (#[] ++ Builtin.zeroCells z.cells n ++ Builtin.zeroCells z.cells (grownCap w n 0 e - n)) e)) := by
 have hw : IntKind.i64.wrap (n : Int) = n := C1 (by omega) (by omega)
 have h1 : ¬ ((n : Int) < 0) := by omega
 have hbi : ¬ (281474976710656 < (n : Int) * (i.bytes : Int)) := by
  have : ((n * i.bytes : Nat) : Int) <= 281474976710656 := by omega
  rw [Int.natCast_mul] at this
  omega
 have hn : n ≠ 0 := by omega
 have hns : n * i.size ≠ 0 := Nat.mul_ne_zero hn (by omega)
 have hns2 : ¬ (n = 0 \/ i.size = 0) := by omega
 have h48' : ¬ (281474976710656 < Builtin.nextslicecap n 0 * i.bytes) := by rw [nextslicecap_zero h0]; omega
 have h63' : ¬ (9223372036854775807 < (n : Int)) := by omega
 have hs0 : i.size ≠ 0 := by omega
 simp [Builtin.append_, run_underlying ht, run_underlying h2, sizeOf, typeInfo, zeroValue, hi, hz, asInt, asIntOf, hw, h1, hbi, hn, hs0, hns, hns2, h48', h63', Question.forced, run_firstCells_none, newRow, grownCap]
theorem Cl4 {t t2 ty e : TypeId} {sz bytes : Nat} {z : List Value} {ik : IntKind} (hT : S2 P t e sz bytes z) (h2 : P.underlying t2 = some (.int ik)) {n : Nat} (h0 : 0 < n) (hb : n * bytes <= 140737488355328) {k : RsV [.lf .sl] -> HP}
  (hk : ∀ q cap ob, n <= cap -> Own ⟨some ⟨q, 0, none⟩, 0, cap⟩ sz e [] [(q, ob)] -> k (⟨some ⟨q, 0, none⟩, n, cap⟩, ()) ((q, ob) :: L)) :
  smW P (Builtin.append_ #[t, t2] ty #[.slice none 0 0, .int .i64 (n : Int)]) [.lf .sl] k L := by
 obtain ⟨i, hi, his, hib, zv, hz, hzl⟩ := hT.info
 subst his hib
 intro E F w hw
 have hle : n <= n * i.bytes := Nat.le_mul_of_pos_right _ hT.bpos
 have hzs : zv.cells.size = i.size := by rw [<- hT.zlen, <- hzl]; simp
 have hr := An3 (ty := ty) hT.und h2 hi hz hT.pos h0 (by omega) (by omega) w
 have hge := grownCap_ge w n 0 e
 refine ⟨_, _, (w.heap.size, Obj.cells (#[] ++ Builtin.zeroCells zv.cells n ++ Builtin.zeroCells zv.cells (grownCap w n 0 e - n)) e) :: L, hr, ?_, (⟨some ⟨w.heap.size, 0, none⟩, n, grownCap w n 0 e⟩, ()), rfl, ?_⟩
 ·exact (hw.drew _).push (.cells (#[] ++ Builtin.zeroCells zv.cells n ++ Builtin.zeroCells zv.cells (grownCap w n 0 e - n)) e)
 ·refine hk _ _ _ hge ⟨by simp, Nat.zero_le _, .inr ⟨w.heap.size, 0, _, (0, 0), rfl, rfl, ?_, .inl (Nat.le_refl _), fun j u hu => by simp at hu⟩⟩
  simp only [Array.size_append, W8, hzs]
  simp only [List.size_toArray, List.length_nil, Nat.zero_add, <- Nat.add_mul]
  rw [show n + (grownCap w n 0 e - n) = grownCap w n 0 e by omega]
  simp
end
def Fr (R : A4) (N' N : HP) : Prop := ∀ L L2 J, N' L -> L2.Perm (L ++ (R ++ J)) -> N L2
def elp (a : Option Addr) (len : Nat) (i : Int) (sz : Nat) (k : Addr -> HP) : HP := A9 a fun ad => ixn i len (k (ad.add (i.toNat * sz)))
def w64 (e : Int) (k : Int -> HP) : HP := k (IntKind.i64.wrap e)
def apv (P : Program) (t t2 ty e : TypeId) (v : SlV) (n : Nat) (ws : List Value) (k : SlV -> HP) : HP := fun L =>
 ∀ m, Ap5 P (Builtin.append_ #[t, t2] ty #[.slice v.a v.len v.cap, .slice (some ⟨m, 0, none⟩) n n]) (fun r L' => ∃ s L0, r = .slice s.a s.len s.cap /\ L'.Perm ((m, Obj.cells ws.toArray e) :: L0) /\ k s L0) ((m, Obj.cells ws.toArray e) :: L)
def ldX (sh : Sh) (cs : List Value) (off : Nat) : Option (ShV sh) :=
 match sh with
 | .lf l => match cs.drop off with | v :: _ => l.of v | [] => none
 | .agg ls => B50 ls ((cs.drop off).take ls.length)
def wrO : List Value -> Nat -> List Value -> Option (List Value)
 | cs, 0, [] => some cs
 | c :: cs, 0, w :: ws => match wrO cs 0 ws with | some r => some (w :: r) | none => none
 | c :: cs, i + 1, ws => match wrO cs i ws with | some r => some (c :: r) | none => none
 | [], _, _ => none
def Cc7 : A4 -> Nat -> Option (Nat × Obj)
 | p :: r, 0 => some p
 | p :: r, i + 1 => Cc7 r i
 | [], _ => none
def setO : A4 -> Nat -> Nat × Obj -> Option A4
 | p :: r, 0, x => some (x :: r)
 | p :: r, i + 1, x => match setO r i x with | some r' => some (p :: r') | none => none
 | [], _, _ => none
def delO : A4 -> Nat -> Option A4
 | p :: r, 0 => some r
 | p :: r, i + 1 => match delO r i with | some r' => some (p :: r') | none => none
 | [], _ => none
theorem Y9 : ∀ {R : A4} {i : Nat} {p : Nat × Obj}, Cc7 R i = some p -> ∃ A B, R = A ++ p :: B /\ (∀ x R', setO R i x = some R' -> R' = A ++ x :: B) /\ (∀ R', delO R i = some R' -> R' = A ++ B)
 | p :: r, 0, q, h => by
  simp only [Cc7, Option.some.injEq] at h; subst h
  exact ⟨[], r, rfl, fun x R' h => by simp only [setO, Option.some.injEq] at h; exact h.symm, fun R' h => by simp only [delO, Option.some.injEq] at h; exact h.symm⟩
 | p :: r, i + 1, q, h => by
  simp only [Cc7] at h
  obtain ⟨A, B, rfl, h1, h2⟩ := Y9 h
  refine ⟨p :: A, B, rfl, fun x R' h => ?_, fun R' h => ?_⟩
  ·simp only [setO] at h
   split at h
   ·rename_i r' hr; obtain rfl := Option.some.inj h; rw [h1 _ _ hr]; rfl
   ·cases h
  ·simp only [delO] at h
   split at h
   ·rename_i r' hr; obtain rfl := Option.some.inj h; rw [h2 _ hr]; rfl
   ·cases h
 | [], _, _, h => by simp [Cc7] at h
theorem Cj9 {sh : Sh} {cs : List Value} {off : Nat} {x : ShV sh} (h : ldX sh cs off = some x) : ∀ (i : Nat) (v : Value), (sh.vals x)[i]? = some v -> cs[off + i]? = some v := by
 intro i v hv
 cases sh with
 | lf l =>
  simp only [ldX] at h
  split at h
  ·rename_i u r hu
   have := Lf.of_spec h
   cases i with
   | zero =>
    have h2 : l.val x = v := by simpa [Sh.vals] using hv
    have h3 : (cs.drop off)[0]? = some u := by rw [hu]; rfl
    rw [List.getElem?_drop] at h3
    rw [h3, <- this, h2]
   | succ i => simp [Sh.vals] at hv
  ·cases h
 | agg ls =>
  simp only [ldX] at h
  have h1 := Ak9 h
  have h3 : ((cs.drop off).take ls.length)[i]? = some v := by rw [<- h1]; exact hv
  rw [List.getElem?_take] at h3
  split at h3
  ·rwa [List.getElem?_drop] at h3
  ·cases h3
theorem A05 : ∀ (cs : List Value) (off : Nat) (ws cs' : List Value), wrO cs off ws = some cs' -> off + ws.length <= cs.length /\ wr cs.toArray off ws = cs'.toArray
 | cs, 0, [], cs', h => by cases cs <;> simp only [wrO, Option.some.injEq] at h <;> subst h <;> exact ⟨by simp, rfl⟩
 | c :: cs, 0, w :: ws, cs', h => by
  simp only [wrO] at h
  split at h
  ·rename_i r hr
   obtain rfl := Option.some.inj h
   obtain ⟨h1, h2⟩ := A05 cs 0 ws r hr
   have hl : (0 : Nat) + (w :: ws).length <= (c :: cs).length := by simp only [List.length_cons] at *; omega
   refine ⟨hl, ?_⟩
   apply Array.ext_getElem?
   intro j
   rw [Aa6 _ _ _ _ (by simpa using hl)]
   cases j with
   | zero => simp
   | succ j =>
    have h3 := Aa6 ws cs.toArray 0 j (by simpa using h1)
    rw [h2] at h3
    simp only [List.getElem?_toArray, List.getElem?_cons_succ, List.length_cons, Nat.zero_add, Nat.sub_zero, Nat.zero_le, true_and] at h3 ⊢
    rw [h3]
    by_cases hj : j < ws.length
    ·rw [if_pos hj, if_pos (by omega)]
    ·rw [if_neg hj, if_neg (by omega)]
  ·cases h
 | c :: cs, i + 1, ws, cs', h => by
  simp only [wrO] at h
  split at h
  ·rename_i r hr
   obtain rfl := Option.some.inj h
   obtain ⟨h1, h2⟩ := A05 cs i ws r hr
   have hl : i + 1 + ws.length <= (c :: cs).length := by simp only [List.length_cons]; omega
   refine ⟨hl, ?_⟩
   apply Array.ext_getElem?
   intro j
   rw [Aa6 _ _ _ _ (by simpa using hl)]
   cases j with
   | zero => simp
   | succ j =>
    have h3 := Aa6 ws cs.toArray i j (by simpa using h1)
    rw [h2] at h3
    simp only [List.getElem?_toArray, List.getElem?_cons_succ] at h3 ⊢
    rw [h3]
    by_cases hj : i <= j /\ j < i + ws.length
    ·rw [if_pos hj, if_pos (by omega), show j + 1 - (i + 1) = j - i by omega]
    ·rw [if_neg hj, if_neg (by omega)]
  ·cases h
 | [], 0, w :: ws, _, h => by simp [wrO] at h
 | [], i + 1, ws, _, h => by simp [wrO] at h
theorem Cj0 {A2 B2 L A B J : A4} {x y : Nat × Obj} (hp : (A2 ++ x :: B2).Perm (L ++ (A ++ x :: B ++ J))) : (A2 ++ y :: B2).Perm (L ++ (A ++ y :: B ++ J)) := by
 classical
 rw [List.perm_iff_count]
 intro z
 have := hp.count_eq z
 simp only [List.count_append, List.count_cons] at this ⊢
 omega
theorem Bi6 {L A B J : A4} {x : Nat × Obj} : x ∈ L ++ (A ++ x :: B ++ J) := List.mem_append_right _ (List.mem_append_left _ (List.mem_append_right _ List.mem_cons_self))
theorem Sat.sub {L L2 G : A4} (h : Sat L2) (hp : L2.Perm (L ++ G)) : Sat L := by
 obtain ⟨E, F, w, hw⟩ := h
 exact ⟨E, G ++ F, w, by rw [<- List.append_assoc]; exact hw.perm (hp.append_right F)⟩
theorem D0.perm {ad : Addr} {vs : List Value} {L L2 G : A4} (h : D0 ad vs L) (hp : L2.Perm (L ++ G)) : D0 ad vs L2 := h.mono fun p hq => hp.symm.subset (List.mem_append_left _ hq)
section
variable {P : Program} {R : A4}
theorem D3 {a b : HP} {L : A4} (h : Fr [] a b) (ha : a L) : b L := h L L [] ha (by simp)
theorem A7 {K : Value -> HP} {v : Value} : Fr R (Ends K v) (Ends K v) := by
 rintro L L2 J ⟨A, B, hp, hK⟩ h2
 exact ⟨A, B ++ (R ++ J), by rw [<- List.append_assoc]; exact h2.trans (hp.append_right _), hK⟩
theorem fr_ff {N : HP} : Fr R ff N := fun _ _ _ h => h.elim
theorem Q1 {o : Obj} {k' k : Nat -> HP} (h : ∀ n, Fr R (k' n) (k n)) : Fr R (nw o k') (nw o k) := fun L L2 J hN hp n hs =>
 h n _ _ J (hN n (hs.sub (G := R ++ J) (hp.cons _))) (hp.cons _)
theorem D6 {o : Obj} {k' : HP} {k : Nat -> HP} (h : ∀ n, Fr ((n, o) :: R) k' (k n)) : Fr R k' (nw o k) := fun L L2 J hN hp n hs =>
 h n L _ J hN ((hp.cons _).trans List.perm_middle.symm)
theorem B8 {ad : Addr} {sh : Sh} {k' k : ShV sh -> HP} (h : ∀ x, Fr R (k' x) (k x)) : Fr R (ld ad sh k') (ld ad sh k) := fun L L2 J ⟨x, hx, hk⟩ hp => ⟨x, hx.perm hp, h x _ _ J hk hp⟩
theorem B4 (i off : Nat) {ad : Addr} {sh : Sh} {k' : HP} {k : ShV sh -> HP} {n : Nat} {cs : List Value} {T : TypeId} {fz : Nat × Nat} {x : ShV sh} (hi : Cc7 R i = some (n, Obj.cells cs.toArray T fz)) (had : ad = ⟨n, off, none⟩) (hx : ldX sh cs off = some x) (h : Fr R k' (k x)) : Fr R k' (ld ad sh k) := by
 intro L L2 J hk hp
 obtain ⟨A, B, rfl, _⟩ := Y9 hi
 subst had
 refine ⟨x, ⟨_, T, fz, hp.symm.subset Bi6, rfl, fun j v hv => ?_⟩, h _ _ J hk hp⟩
 simpa using Cj9 hx j v hv
theorem Z0 {ad : Addr} {ws : List Value} {k' k : HP} (h : Fr R k' k) : Fr R (st ad ws k') (st ad ws k) := by
 rintro L L2 J ⟨A, B, c, T, fz, rfl, hs, h1, h2, hk⟩ hp
 obtain ⟨A2, B2, rfl⟩ := List.append_of_mem (hp.symm.subset (show (ad.block, Obj.cells c T fz) ∈ (A ++ (ad.block, Obj.cells c T fz) :: B) ++ (R ++ J) by simp))
 refine ⟨A2, B2, c, T, fz, rfl, hs, h1, h2, h _ _ J hk ?_⟩
 have h3 : (A2 ++ B2).Perm (A ++ (B ++ (R ++ J))) := by
  have h4 : ((ad.block, Obj.cells c T fz) :: (A2 ++ B2)).Perm ((ad.block, Obj.cells c T fz) :: (A ++ (B ++ (R ++ J)))) := by
   refine List.perm_middle.symm.trans (hp.trans ?_)
   rw [List.append_assoc, List.cons_append]
   exact List.perm_middle
  exact (List.perm_cons _).1 h4
 refine List.perm_middle.trans (((h3.cons _)).trans ?_)
 rw [List.append_assoc, List.cons_append]
 exact List.perm_middle.symm
theorem F4 (i off : Nat) {ad : Addr} {ws cs cs' : List Value} {k' k : HP} {n : Nat} {T : TypeId} {R' : A4} (hi : Cc7 R i = some (n, Obj.cells cs.toArray T (0, 0))) (had : ad = ⟨n, off, none⟩) (hw : wrO cs off ws = some cs') (hs : setO R i (n, Obj.cells cs'.toArray T (0, 0)) = some R') (h : Fr R' k' k) : Fr R k' (st ad ws k) := by
 intro L L2 J hk hp
 obtain ⟨A, B, rfl, hset, _⟩ := Y9 hi
 obtain rfl := hset _ _ hs
 subst had
 obtain ⟨h1, h2⟩ := A05 _ _ _ _ hw
 obtain ⟨A2, B2, rfl⟩ := List.append_of_mem (hp.symm.subset (Bi6 (L := L)))
 refine ⟨A2, B2, _, T, (0, 0), rfl, rfl, by simpa using h1, fun j hj => by simp, ?_⟩
 simp only [h2]
 exact h _ _ J hk (Cj0 hp)
theorem C21 {R' : A4} {a b : HP} (hp : R.Perm R') (h : Fr R' a b) : Fr R a b := fun L L2 J ha h2 => h L L2 J ha (h2.trans ((hp.append_right J).append_left L))
theorem G8 (i : Nat) {a b : HP} {p : Nat × Obj} {R' : A4} (hi : Cc7 R i = some p) (hd : delO R i = some R') (h : Fr (p :: R') a b) : Fr R a b := by
 obtain ⟨A, B, rfl, _, hdel⟩ := Y9 hi
 obtain rfl := hdel _ hd
 exact C21 List.perm_middle h
theorem G4 {R' G : A4} {a b : HP} (h : Fr R' a b) (hR : R = R' ++ G) : Fr R a b := by
 subst hR
 intro L L2 J ha hp
 exact h L L2 (G ++ J) ha (by rw [List.append_assoc] at hp; exact hp)
theorem O7 {ad : Addr} {vs : List Value} {k' k : HP} (h : Fr R k' k) : Fr R (keep (D0 ad vs) k') (keep (D0 ad vs) k) := fun L L2 J ⟨h1, h2⟩ hp => ⟨h1.perm hp, h _ _ J h2 hp⟩
theorem RdV.perm {s : Sem Value} {v : Value} {L L2 G : A4} (h : RdV P s v L) (hp : L2.Perm (L ++ G)) : RdV P s v L2 := fun E F w hw => h E (G ++ F) w (by rw [<- List.append_assoc]; exact hw.perm (hp.append_right F))
theorem Ap5.fr {s : Sem Value} {K : Value -> HP} {L L2 G : A4} (h : Ap5 P s K L) (hp : L2.Perm (L ++ G)) : Ap5 P s (fun v L' => ∃ L0, L' = L0 ++ G /\ K v L0) L2 := by
 intro E F w hw
 obtain ⟨v, w', L', h1, h2, h3⟩ := h E (G ++ F) w (by rw [<- List.append_assoc]; exact hw.perm (hp.append_right F))
 exact ⟨v, w', L' ++ G, h1, by rw [List.append_assoc]; exact h2, L', rfl, h3⟩
theorem Ap5.mono {s : Sem Value} {K K' : Value -> HP} {L : A4} (h : Ap5 P s K L) (hk : ∀ v L', K v L' -> K' v L') : Ap5 P s K' L := by
 intro E F w hw
 obtain ⟨v, w', L', h1, h2, h3⟩ := h E F w hw
 exact ⟨v, w', L', h1, h2, hk _ _ h3⟩
theorem K5 (i off : Nat) {ad : Addr} {vs cs : List Value} {k' k : HP} {n : Nat} {T : TypeId} {fz : Nat × Nat} (hi : Cc7 R i = some (n, Obj.cells cs.toArray T fz)) (had : ad = ⟨n, off, none⟩) (hx : (cs.drop off).take vs.length = vs) (h : Fr R k' k) : Fr R k' (keep (D0 ad vs) k) := by
 intro L L2 J hk hp
 obtain ⟨A, B, rfl, _⟩ := Y9 hi
 subst had
 exact ⟨ldB (hp.symm.subset Bi6) (by simpa using hx), h _ _ J hk hp⟩
theorem CallF.fr {f : FuncId} {args : Array Value} {K : Value -> HP} {L L2 G : A4} (h : CallF P f args L K) (hp : L2.Perm (L ++ G)) : CallF P f args L2 fun v L' => ∃ L0, L' = L0 ++ G /\ K v L0 := CallF.perm hp.symm (CallF.frame (R := G) h)
theorem B0 {f : FuncId} {args : Array Value} {rs : List Sh} {k' k : RsV rs -> HP} (h : ∀ r, Fr R (k' r) (k r)) : Fr R (cl P f args rs k') (cl P f args rs k) := fun L L2 J hc hp =>
 CallF.mono (CallF.fr hc hp) (by rintro v L' - ⟨L0, rfl, r, hr, hk⟩; exact ⟨r, hr, h r _ _ J hk (List.Perm.refl _)⟩)
theorem Az5 {f : Fn} {args captured : Array Value} {rs : List Sh} {k' k : RsV rs -> HP} (h : ∀ r, Fr R (k' r) (k r)) : Fr R (clv P f args captured rs k') (clv P f args captured rs k) := fun L L2 J ⟨g, h1, h2, hc⟩ hp =>
 ⟨g, h1, h2, CallF.mono (CallF.fr hc hp) (by rintro v L' - ⟨L0, rfl, r, hr, hk⟩; exact ⟨r, hr, h r _ _ J hk (List.Perm.refl _)⟩)⟩
theorem C4 {t : Bool} {A' A B' B : HP} (h1 : Fr R A' A) (h2 : Fr R B' B) : Fr R (ifB t A' B') (ifB t A B) := by cases t <;> assumption
theorem H3 {t : Bool} {A' A B' B : HP} (h1 : Fr R A' A) (h2 : Fr R B' B) : Fr R (ifB t B' A') (ifB (!t) A B) := by cases t <;> assumption
theorem E2 {x y : Int} {A' A B' B : HP} (h1 : Fr R A' A) (h2 : Fr R B' B) : Fr R (ifB (decide (x = y)) A' B') (ifB (x == y) A B) := by
 by_cases h : x = y
 ·rw [decide_eq_true h, beq_iff_eq.2 h]; exact h1
 ·rw [decide_eq_false h, beq_eq_false_iff_ne.2 h]; exact h2
theorem E4 {x y : Int} {A' A B' B : HP} (h1 : Fr R A' A) (h2 : Fr R B' B) : Fr R (ifB (decide (x = y)) B' A') (ifB (x != y) A B) := by
 by_cases h : x = y
 ·rw [decide_eq_true h]; simp only [bne, beq_iff_eq.2 h, Bool.not_true]; exact h2
 ·rw [decide_eq_false h]; simp only [bne, beq_eq_false_iff_ne.2 h, Bool.not_false]; exact h1
theorem B78 {x y : ByteArray} {A' A B' B : HP} (h1 : Fr R A' A) (h2 : Fr R B' B) : Fr R (ifB (decide (x = y)) A' B') (ifB (x.toList == y.toList) A B) := by rw [Cv5]; exact C4 h1 h2
theorem C2 {p : Option Addr} {k' k : Addr -> HP} (h : ∀ a, p = some a -> Fr R (k' a) (k a)) : Fr R (A9 p k') (A9 p k) := by
 cases p with
 | none => exact fr_ff
 | some a => exact h a rfl
theorem B1 {p : Option Addr} {a : Addr} {k' : HP} {k : Addr -> HP} (hp : p = some a) (h : Fr R k' (k a)) : Fr R k' (A9 p k) := by subst hp; exact h
theorem fr_req {p : Prop} {k' k : HP} (h : Fr R k' k) : Fr R (req p k') (req p k) := fun L L2 J ⟨h1, h2⟩ hp => ⟨h1, h _ _ J h2 hp⟩
theorem C20 {p : Prop} {k' k : HP} (hq : p) (h : Fr R k' k) : Fr R k' (req p k) := fun L L2 J h2 hp => ⟨hq, h _ _ J h2 hp⟩
theorem H2 {a : Option Addr} {len : Nat} {i : Int} {sz : Nat} {k' : Addr -> HP} {k : Addr -> HP} (h : ∀ b, (a = some b /\ 0 <= i /\ i < len) -> Fr R (k' (b.add (i.toNat * sz))) (k b)) : Fr R (elp a len i sz k') (A9 a fun b => ixn i len (k b)) := by
 cases a with
 | none => exact fr_ff
 | some b =>
  rintro L L2 J ⟨h1, h2⟩ hp
  exact ⟨h1, h _ ⟨rfl, h1⟩ _ _ J h2 hp⟩
theorem C22 {a : Option Addr} {len : Nat} {i : Int} {b : Addr} {k' : HP} {k : Addr -> HP} (he : a = some b /\ 0 <= i /\ i < len) (h : Fr R k' (k b)) : Fr R k' (A9 a fun b => ixn i len (k b)) := by
 obtain ⟨rfl, h1⟩ := he
 intro L L2 J h2 hp
 exact ⟨h1, h _ _ J h2 hp⟩
theorem Au4 {v : SlV} {l h' m : Int} {sz : Nat} {k' k : SlV -> HP} (h : ∀ s, Fr R (k' s) (k s)) : Fr R (slc v l h' m sz k') (slc v l h' m sz k) := fr_req (h _)
theorem D2 {e : Int} {k' : Int -> HP} {N : HP} (h : Fr R (k' (IntKind.i64.wrap e)) N) : Fr R (w64 e k') N := h
theorem B77 {s : Sem Value} {sh : Sh} {k' k : ShV sh -> HP} (h : ∀ r, Fr R (k' r) (k r)) : Fr R (smP P s sh k') (smP P s sh k) := fun L L2 J ⟨r, h1, h2⟩ hp => ⟨r, h1, h r _ _ J h2 hp⟩
theorem Bc1 {s : Sem Value} {sh : List Sh} {k' k : RsV sh -> HP} (h : ∀ r, Fr R (k' r) (k r)) : Fr R (smR P s sh k') (smR P s sh k) := fun L L2 J ⟨r, h1, h2⟩ hp => ⟨r, h1.perm hp, h r _ _ J h2 hp⟩
theorem Af4 {s : Sem Value} {sh : List Sh} {k' k : RsV sh -> HP} (h : ∀ r, Fr R (k' r) (k r)) : Fr R (smW P s sh k') (smW P s sh k) := fun L L2 J hc hp =>
 (Ap5.fr hc hp).mono (by rintro v L' ⟨L0, rfl, r, hr, hk⟩; exact ⟨r, hr, h r _ _ J hk (List.Perm.refl _)⟩)
theorem Bp1 {s : Sem Unit} {k' k : HP} (h : Fr R k' k) : Fr R (smU P s k') (smU P s k) := by
 intro L L2 J hc hp E F w hw
 obtain ⟨w', L', h1, h2, h3⟩ := hc E ((R ++ J) ++ F) w (by rw [<- List.append_assoc]; exact hw.perm (hp.append_right F))
 exact ⟨w', L' ++ (R ++ J), h1, by rw [List.append_assoc]; exact h2, h _ _ J h3 (List.Perm.refl _)⟩
theorem Z2 (i : Nat) {t t2 ty e : TypeId} {v : SlV} {n m : Nat} {ws : List Value} {k' : SlV -> HP} {k : RsV [.lf .sl] -> HP} (hi : Cc7 R i = some (m, Obj.cells ws.toArray e (0, 0))) (h : ∀ s : SlV, Fr R (k' s) (k (s, ()))) :
  Fr R (apv P t t2 ty e v n ws k') (smW P (Builtin.append_ #[t, t2] ty #[.slice v.a v.len v.cap, .slice (some ⟨m, 0, none⟩) n n]) [.lf .sl] k) := by
 intro L L2 J hc hp
 obtain ⟨A, B, rfl, _⟩ := Y9 hi
 have hp2 : L2.Perm (((m, Obj.cells ws.toArray e (0, 0)) :: L) ++ (A ++ B ++ J)) := hp.trans (by
  classical
  rw [List.perm_iff_count]
  intro z
  simp only [List.count_append, List.count_cons]
  omega)
 refine (Ap5.fr (hc m) hp2).mono ?_
 rintro r L' ⟨L0, rfl, s, L1, rfl, hp3, hk⟩
 refine ⟨(s, ()), rfl, h s L1 _ J hk ?_⟩
 classical
 rw [List.perm_iff_count]
 intro z
 have := hp3.count_eq z
 simp only [List.count_append, List.count_cons] at this ⊢
 omega
theorem Cm1 {sh sh' : List Sh} {x0 : RsV sh} {x0' : RsV sh'} {body : RsV sh -> (RsV sh -> HP) -> HP} {body' : RsV sh' -> (RsV sh' -> HP) -> HP} {C : A4} (M : RsV sh' -> A4) (pr : RsV sh' -> RsV sh) (hx : pr x0' = x0) (hR : R = M x0' ++ C)
  (h : ∀ (go' : RsV sh' -> HP) (go : RsV sh -> HP), (∀ x, Fr (M x ++ C) (go' x) (go (pr x))) -> ∀ x, Fr (M x ++ C) (body' x go') (body (pr x) go)) : Fr R (lp sh' x0' body') (lp sh x0 body) := by
 rintro L L2 J ⟨I, ⟨k0, hI0⟩, hI⟩ hp
 subst hx hR
 refine ⟨fun k x L2 => ∃ x' L1 J1, pr x' = x /\ L2.Perm (L1 ++ ((M x' ++ C) ++ J1)) /\ I k x' L1, ⟨k0, x0', L, J, rfl, hp, hI0⟩, ?_⟩
 rintro k _ L2 ⟨x', L1, J1, rfl, hp1, hI1⟩
 refine h (fun x L'' => ∃ k', k' < k /\ I k' x L'') _ ?_ x' L1 L2 J1 (hI k x' L1 hI1) hp1
 rintro x L3 L4 J3 ⟨k', hk', h3⟩ hp3
 exact ⟨k', hk', x, L3, J3, rfl, hp3, h3⟩
theorem K6 {sh : List Sh} {x0 : RsV sh} {body body' : RsV sh -> (RsV sh -> HP) -> HP}
  (h : ∀ (go' go : RsV sh -> HP), (∀ x, Fr R (go' x) (go x)) -> ∀ x, Fr R (body' x go') (body x go)) : Fr R (lp sh x0 body') (lp sh x0 body) :=
 Cm1 (C := R) (fun _ => []) id rfl rfl h
theorem Z1 {α : Type} {b b' : α -> HP} {r r' : (α -> HP) -> HP}
 (hb : ∀ y, Fr R (b' y) (b y)) (hr : ∀ (j' j : α -> HP), (∀ y, Fr R (j' y) (j y)) -> Fr R (r' j') (r j)) : Fr R (jn b' r') (jn b r) := hr b' b hb
end
section
variable {P : Program} {L A : A4}
theorem D9 {e : Int} {k : Int -> HP} (h : -9223372036854775808 <= e /\ e <= 9223372036854775807) (hk : k e L) : w64 e k L := by
 unfold w64; rw [C1 h.1 h.2]; exact hk
theorem elp_of {v : SlV} {sz : Nat} {vs : List Value} (h : Sl L v sz vs) (hsz : 0 < sz) {i : Int} {n : Nat} (hi : i = n) (hn : n < v.len) {k : Addr -> HP} (hk : ∀ a, D0 a ((vs.drop (n * sz)).take sz) L -> k a L) : elp v.a v.len i sz k L := by
 subst hi
 obtain ⟨a, ha, hl⟩ := h.at' hn hsz
 refine A5 ha (E0 (by omega) (by omega) (hk _ ?_))
 rw [Int.toNat_natCast]
 refine hl.sub (n * sz) fun j u hu => ?_
 rw [List.getElem?_take] at hu
 split at hu
 ·rwa [List.getElem?_drop] at hu
 ·cases hu
theorem V5 {α : Type} {enc : α -> List Value} {sz : Nat} (hsz : ∀ x, (enc x).length = sz) (hpos : 0 < sz) {v : SlV} {l : List α} (h : Sl L v sz (l.flatMap enc)) {i : Int} {n : Nat} (hi : i = n) (hn : n < l.length) {k : Addr -> HP} (hk : ∀ a, D0 a (enc l[n]) L -> k a L) : elp v.a v.len i sz k L := by
 subst hi
 obtain ⟨a, ha, hl⟩ := h.el hsz hpos hn
 refine A5 ha (E0 (by omega) (by have := h.els_len hsz hpos; omega) (hk _ ?_))
 rw [Int.toNat_natCast]; exact hl
theorem elp_i {v : SlV} {ik : IntKind} {l : List Int} (h : ISl L v ik l) {i : Int} {n : Nat} (hi : i = n) (hn : n < l.length) {k : Addr -> HP} (hk : ∀ a, D0 a [.int ik l[n]] L -> k a L) : elp v.a v.len i 1 k L := by
 subst hi
 obtain ⟨a, ha⟩ := h.some hn
 refine A5 ha (E0 (by omega) (by have := h.len; omega) (hk _ (h.rd hn ha _ (by rw [Int.toNat_natCast]))))
theorem Cm7 {v : SlV} {vs : List Value} (h : Sl L v 1 vs) {i : Int} {n : Nat} (hi : i = n) (hn : n < vs.length) {k : Addr -> HP} (hk : ∀ a, D0 a [vs[n]] L -> k a L) : elp v.a v.len i 1 k L := by
 have hl := h.len
 refine elp_of h (by decide) hi (by omega) fun a ha => hk a ?_
 have e : (vs.drop (n * 1)).take 1 = [vs[n]] := by rw [Nat.mul_one, List.drop_eq_getElem_cons hn]; rfl
 rw [<- e]; exact ha
theorem slc_sl {v : SlV} {sz : Nat} {vs : List Value} (h : Sl A v sz vs) (hsz : 0 < sz) {i j m : Int} {i' j' m' : Nat} (hi : i = i') (hj : j = j') (hm : m = m') (h1 : i' <= j') (h2 : j' <= v.len) (h3 : j' <= m') (h4 : m' <= v.cap) {k : SlV -> HP}
  (hk : ∀ s : SlV, s.len = j' - i' -> s.cap = m' - i' -> Sl A s sz ((vs.drop (i' * sz)).take ((j' - i') * sz)) -> k s L) : slc v i j m sz k L :=
 J5 hi hj hm h1 h3 h4 (hk _ (by simp [N9]) (by simp [N9]) (Sl.slc h hsz h1 h2 h3))
theorem slc_el {α : Type} {enc : α -> List Value} {sz : Nat} (hsz : ∀ x, (enc x).length = sz) (hpos : 0 < sz) {v : SlV} {l : List α} (h : Sl A v sz (l.flatMap enc)) {i j m : Int} {i' j' m' : Nat} (hi : i = i') (hj : j = j') (hm : m = m') (h1 : i' <= j') (h2 : j' <= l.length) (h3 : j' <= m') (h4 : m' <= v.cap) {k : SlV -> HP}
  (hk : ∀ s : SlV, s.len = j' - i' -> s.cap = m' - i' -> Sl A s sz (((l.drop i').take (j' - i')).flatMap enc) -> k s L) : slc v i j m sz k L :=
 slc_sl h hpos hi hj hm h1 (by rw [h.els_len hsz hpos]; exact h2) h3 h4 fun s a b c => hk s a b (by rw [Ap1 hsz] at c; exact c)
theorem Cb4 {t t2 ty e : TypeId} {sz bytes : Nat} {z : List Value} (hT : S2 P t e sz bytes z) (h2 : Ao1 P t2) {v : SlV} {vs ws : List Value} {n : Nat} {seg : A4} (X Y : A4) (own : Own v sz e vs seg) (hL : L = X ++ seg ++ Y) (hn : n * sz = ws.length) (hws : ws.all Q4 = true)
  (hb : (v.len + n) * bytes <= 140737488355328) {k : SlV -> HP} (hk : ∀ v' seg', v'.len = v.len + n -> Own v' sz e (vs ++ ws) seg' -> k v' (X ++ seg' ++ Y)) : apv P t t2 ty e v n ws k L := by
 subst hL
 intro m
 refine Ap5.mono (E5 hT h2 ((m, Obj.cells ws.toArray e) :: X) Y own (by simp) (n := n) (ws := ws) (Src.sl (v := ⟨some ⟨m, 0, none⟩, n, n⟩) ⟨hn, Nat.le_refl _, .inr ⟨_, rfl, ldB List.mem_cons_self (by simp)⟩⟩) hws hb (k := fun r L' => ∃ L0, L' = (m, Obj.cells ws.toArray e) :: L0 /\ k r.1 L0) fun v' seg' h1 h2 => ⟨_, rfl, hk v' seg' h1 h2⟩) ?_
 rintro r L' ⟨x, rfl, L0, rfl, hk0⟩
 exact ⟨x.1, L0, rfl, List.Perm.refl _, hk0⟩
open Classical in
noncomputable def cnt (L : A4) (z : Nat × Obj) : Nat := L.count z
open Classical in
noncomputable def cn1 (p z : Nat × Obj) : Nat := if p == z then 1 else 0
open Classical in
theorem B7 (X Y : A4) (z : Nat × Obj) : cnt (X ++ Y) z = cnt X z + cnt Y z := by unfold cnt; exact List.count_append
open Classical in
theorem C5 (p : Nat × Obj) (Y : A4) (z : Nat × Obj) : cnt (p :: Y) z = cnt Y z + cn1 p z := by unfold cnt cn1; exact List.count_cons
open Classical in
theorem D8 (z : Nat × Obj) : cnt [] z = 0 := by unfold cnt; exact List.count_nil
theorem pc {X Y : A4} (h : ∀ z, cnt X z = cnt Y z) : X.Perm Y := by
 classical
 rw [List.perm_iff_count]
 intro z
 have := h z
 unfold cnt at this
 exact this
open Classical in
theorem pcn {X Y : A4} (h : X.Perm Y) (z : Nat × Obj) : cnt X z = cnt Y z := by
 unfold cnt
 exact h.count_eq z
theorem Bt6 {Y : A4} (h : L.Perm (A ++ Y)) : ∀ p ∈ A, p ∈ L := fun p hp => h.symm.subset (by simp [hp])
theorem Af6 {t t2 ty e : TypeId} {sz bytes : Nat} {z : List Value} (hT : S2 P t e sz bytes z) (h2 : Ao1 P t2) {v : SlV} {vs ws : List Value} {n : Nat} {seg Y : A4} (own : Own v sz e vs seg) (hL : L.Perm (seg ++ Y)) (hn : n * sz = ws.length) (hws : ws.all Q4 = true)
  (hb : (v.len + n) * bytes <= 140737488355328) {k : SlV -> HP} (hk : ∀ v' seg', v'.len = v.len + n -> Own v' sz e (vs ++ ws) seg' -> k v' (seg' ++ Y)) : apv P t t2 ty e v n ws k L := fun m =>
 Ap5.permL (hL.cons _) (Cb4 hT h2 [] Y own rfl hn hws hb hk m)
theorem app_pm {t t2 ty e : TypeId} {sz bytes : Nat} {z : List Value} (hT : S2 P t e sz bytes z) (h2 : Ao1 P t2) {v : SlV} {vs ws : List Value} {x : Value} {n : Nat} {seg Y : A4} (own : Own v sz e vs seg) (hL : L.Perm (seg ++ Y)) (src : Src L x sz n ws) (hws : ws.all Q4 = true)
  (hb : (v.len + n) * bytes <= 140737488355328) {k : RsV [.lf .sl] -> HP} (hk : ∀ v' seg', v'.len = v.len + n -> Own v' sz e (vs ++ ws) seg' -> k (v', ()) (seg' ++ Y)) : smW P (Builtin.append_ #[t, t2] ty #[.slice v.a v.len v.cap, x]) [.lf .sl] k L := by
 refine Ap5.permL hL (E5 hT h2 [] Y own rfl (n := n) (ws := ws) ?_ hws hb hk)
 cases src with
 | sl h => exact .sl (h.mono fun p hq => hL.subset hq)
 | str s => exact .str s
theorem Bs2 {ad : Addr} {ws : List Value} {k : HP} {n off : Nat} {c : Array Value} {T : TypeId} {fz : Nat × Nat} {Y : A4} (hL : L.Perm ((n, Obj.cells c T fz) :: Y)) (had : ad = ⟨n, off, none⟩) (hsz : off + ws.length <= c.size)
  (hfz : fz.2 <= fz.1 \/ c.size <= fz.1) (c' : Array Value) (hc : wr c off ws = c') (hk : ∀ L', L'.Perm ((n, Obj.cells c' T fz) :: Y) -> k L') : st ad ws k L := by
 obtain ⟨A2, B2, rfl⟩ := List.append_of_mem (hL.symm.subset (List.mem_cons_self))
 exact E3 A2 B2 had rfl hsz hfz c' hc (hk _ (List.perm_middle.trans (((List.perm_cons _).1 (List.perm_middle.symm.trans hL)).cons _)))
theorem Aw8 {f : FuncId} {args : Array Value} {rs : List Sh} {k : RsV rs -> HP} {K : Value -> HP} (h : CallF P f args A K) (hp : L.Perm A) (hk : ∀ v L', K v L' -> ∃ r, v = Ab9 rs r /\ k r L') : cl P f args rs k L :=
 Q2 (CallF.perm hp.symm h) fun v L' _ hK => hk v L' hK
theorem A65 {n : Int} (h : -9223372036854775808 <= n /\ n <= 9223372036854775807) : W1 .i64 n := by
 show (Lit.int .i64 n).wf = true
 simp only [Lit.wf, Bool.and_eq_true, decide_eq_true_eq]
 exact h
theorem A26 {X : A4} : ∀ p ∈ A, p ∈ X ++ A := fun _ h => List.mem_append_right _ h
theorem mem_l {X : A4} : ∀ p ∈ A, p ∈ A ++ X := fun _ h => List.mem_append_left _ h
theorem C0 {p : Prop} [Decidable p] {A B : HP} (h1 : p -> A L) (h2 : ¬ p -> B L) : ifB (decide p) A B L := B9 h1 h2
end
set_option maxRecDepth 100000
end Go.HL
namespace Go.Proofs.YtbaoieipijmakaaGreatDoor
open Go.HL
def s6 (x0 : ShV (.agg [.int .i64, .str, .sl, .int .i64, .int .i64])) (K : Value -> HP) : HP :=
 jn (fun y1 : RsV [] =>
 cl PP 24 #[.pointer none, .i x0.2.2.2.1] [] fun r3 =>
 cl PP 25 #[.pointer none, .string x0.2.1] [.lf .sl, lI] fun r4 =>
 cl PP 20 #[.pointer none, .string x0.2.1] [.lf .sl, lI] fun r5 =>
 cl PP 26 #[.pointer none, .string x0.2.1] [.lf .bool, lI] fun r6 =>
 cl PP 17 #[.pointer none, .string x0.2.1, .sv x0.2.2.1] [lI] fun r7 =>
 ifB (decide ((r7.1 : Int) = 1)) (
 ifB (decide ((r4.2.1 : Int) = 1)) (
 ifB (decide ((r5.2.1 : Int) = 1)) (
 ifB r6.1 (
 K (.bool false)) (
 ifB (decide ((r6.2.1 : Int) = 1)) (
 cl PP 27 #[.pointer none] [lI] fun r8 =>
 ifB (decide ((r8.1 : Int) = 1)) (
 cl PP 19 #[.pointer none, .string x0.2.1] [lI] fun r9 =>
 cl PP 28 #[.pointer none, .string x0.2.1] [lI] fun r10 =>
 w64 (r9.1 + r10.1) fun i1 =>
 cl PP 29 #[.pointer none] [lI] fun r11 =>
 w64 (i1 + r11.1) fun i2 =>
 cl PP 30 #[.pointer none] [lI] fun r12 =>
 w64 (i2 + r12.1) fun i3 =>
 cl PP 14 #[.pointer none] [lI] fun r13 =>
 w64 (i3 + r13.1) fun i4 =>
 cl PP 23 #[.pointer none] [lI] fun r14 =>
 w64 (i4 + r14.1) fun i5 =>
 cl PP 31 #[.pointer none] [.lf .sl] fun r15 =>
 w64 (i5 + r15.1.len) fun i6 =>
 ifB (decide ((i6 : Int) = 0)) (
 cl PP 13 #[.pointer none, .string x0.2.1] [.lf .bool] fun r16 =>
 ifB r16.1 (
 K (.bool false)) (
 cl PP 10 #[] [.lf .bool] fun r17 =>
 K (.bool r17.1))) (
 K (.bool false))) (
 K (.bool false))) (
 K (.bool false)))) (
 K (.bool false))) (
 K (.bool false))) (
 K (.bool false))) fun j1 =>
 ifB (decide ((x0.2.1.size : Int) > 700)) (
 cl PP 10 #[] [.lf .bool] fun r1 =>
 K (.bool r1.1)) (
 ifB (decide ((x0.2.2.1.len : Int) > 700)) (
 cl PP 10 #[] [.lf .bool] fun r2 =>
 K (.bool r2.1)) (
 j1 (())))
theorem c6 (x0 : ShV (.agg [.int .i64, .str, .sl, .int .i64, .int .i64])) {K : Value -> HP} {L : A4} (h : s6 x0 (HL.Ends K) L) : CallF PP 6 #[.agg #[.i x0.1, .string x0.2.1, .sv x0.2.2.1, .i x0.2.2.2.1, .i x0.2.2.2.2.1]] L K := by
 refine CallF.of (args := [.agg #[.i x0.1, .string x0.2.1, .sv x0.2.2.1, .i x0.2.2.2.1, .i x0.2.2.2.2.1]]) B5 B6 Tryz.func6 (e6 x0 _) (D3 ?_ h)
 unfold s6 t6
 refine D6 fun n1 => ?_
 refine Z1 (fun y1 => ?_) fun j1' j1 hj1 => ?_
 ·refine B4 0 3 rfl rfl rfl <| B0 fun r3 => B4 0 1 rfl rfl rfl <| B0 fun r4 => B4 0 1 rfl rfl rfl <| B0 fun r5 => B4 0 1 rfl rfl rfl <| B0 fun r6 => B4 0 1 rfl rfl rfl <| B4 0 2 rfl rfl rfl <| B0 fun r7 => ?_
  refine E2 ?_ ?_
  ·refine E2 ?_ ?_
   ·refine E2 ?_ ?_
    ·refine H3 ?_ ?_
     ·refine E2 ?_ ?_
      ·refine B0 fun r8 => ?_
       refine E2 ?_ ?_
       ·refine B4 0 1 rfl rfl rfl <| B4 0 1 rfl rfl rfl <| B0 fun r9 => K5 0 1 rfl rfl rfl <| B0 fun r10 => D2 <| B0 fun r11 => D2 <| B0 fun r12 => D2 <| B0 fun r13 => D2 <| B0 fun r14 => D2 <| B0 fun r15 => D2 ?_
        refine E2 ?_ ?_
        ·refine B4 0 1 rfl rfl rfl <| B0 fun r16 => ?_
         refine H3 ?_ ?_
         ·exact B0 fun r17 => A7
         ·exact A7
        ·exact A7
       ·exact A7
      ·exact A7
     ·exact A7
    ·exact A7
   ·exact A7
  ·exact A7
 ·refine B4 0 1 rfl rfl rfl ?_
  refine C4 ?_ ?_
  ·exact B0 fun r1 => A7
  ·refine B4 0 2 rfl rfl rfl ?_
   refine C4 ?_ ?_
   ·exact B0 fun r2 => A7
   ·exact G4 (hj1 _) rfl
def s10 (K : Value -> HP) : HP :=
 cl PP 37 #[] [.agg [.int .i64, .int .i64, .int .i64, .int .i64, .int .i64, .int .i64, .int .i64, .int .i64, .int .i64, .int .i64, .int .i64]] fun r1 =>
 cl PP 35 #[.agg #[.i r1.1.1, .i r1.1.2.1, .i r1.1.2.2.1, .i r1.1.2.2.2.1]] [.lf .ptr, lI] fun r2 =>
 cl PP 37 #[] [.agg [.int .i64, .int .i64, .int .i64, .int .i64, .int .i64, .int .i64, .int .i64, .int .i64, .int .i64, .int .i64, .int .i64]] fun r3 =>
 cl PP 36 #[.agg #[.i r3.1.1, .i r3.1.2.1, .i r3.1.2.2.1, .i r3.1.2.2.2.1, .i r3.1.2.2.2.2.1, .i r3.1.2.2.2.2.2.1, .i r3.1.2.2.2.2.2.2.1, .i r3.1.2.2.2.2.2.2.2.1, .i r3.1.2.2.2.2.2.2.2.2.1, .i r3.1.2.2.2.2.2.2.2.2.2.1, .i r3.1.2.2.2.2.2.2.2.2.2.2.1], .pointer r2.1, .i 0] [.lf .ptr, lI] fun r4 =>
 cl PP 37 #[] [.agg [.int .i64, .int .i64, .int .i64, .int .i64, .int .i64, .int .i64, .int .i64, .int .i64, .int .i64, .int .i64, .int .i64]] fun r5 =>
 cl PP 36 #[.agg #[.i r5.1.1, .i r5.1.2.1, .i r5.1.2.2.1, .i r5.1.2.2.2.1, .i r5.1.2.2.2.2.1, .i r5.1.2.2.2.2.2.1, .i r5.1.2.2.2.2.2.2.1, .i r5.1.2.2.2.2.2.2.2.1, .i r5.1.2.2.2.2.2.2.2.2.1, .i r5.1.2.2.2.2.2.2.2.2.2.1, .i r5.1.2.2.2.2.2.2.2.2.2.2.1], .pointer none, .i 0] [.lf .ptr, lI] fun r6 =>
 jn (fun y1 : RsV [] =>
 cl PP 24 #[.pointer r4.1, .i 9] [] fun r7 =>
 nw (.cells #[.int .u8 49, .int .u8 50, .int .u8 51, .int .u8 52, .int .u8 53] 5) fun n1 =>
 smW PP (convert 27 27 (.slice (some ⟨n1, 0, none⟩) 5 5)) [.lf .sl] fun v1 =>
 cl PP 17 #[.pointer r4.1, .string (ByteArray.mk #[97]), .sv v1.1] [lI] fun r8 =>
 nw (.cells #[.int .u8 49, .int .u8 50, .int .u8 51, .int .u8 52, .int .u8 53] 5) fun n2 =>
 smW PP (convert 27 27 (.slice (some ⟨n2, 0, none⟩) 5 5)) [.lf .sl] fun v2 =>
 cl PP 17 #[.pointer r4.1, .string (ByteArray.mk #[98]), .sv v2.1] [lI] fun r9 =>
 nw (.cells #[.int .u8 49] 5) fun n3 =>
 smW PP (convert 27 27 (.slice (some ⟨n3, 0, none⟩) 1 1)) [.lf .sl] fun v3 =>
 cl PP 17 #[.pointer r4.1, .string (ByteArray.mk #[99]), .sv v3.1] [lI] fun r10 =>
 cl PP 13 #[.pointer r4.1, .string (ByteArray.mk #[97])] [.lf .bool] fun r11 =>
 cl PP 19 #[.pointer r4.1, .string (ByteArray.mk #[98])] [lI] fun r12 =>
 nw (.cells #[.int .u8 49] 5) fun n4 =>
 smW PP (convert 27 27 (.slice (some ⟨n4, 0, none⟩) 1 1)) [.lf .sl] fun v4 =>
 cl PP 17 #[.pointer r4.1, .string (ByteArray.mk #[97]), .sv v4.1] [lI] fun r13 =>
 cl PP 25 #[.pointer r4.1, .string (ByteArray.mk #[97])] [.lf .sl, lI] fun r14 =>
 cl PP 26 #[.pointer r4.1, .string (ByteArray.mk #[97])] [.lf .bool, lI] fun r15 =>
 cl PP 31 #[.pointer r4.1] [.lf .sl] fun r16 =>
 cl PP 27 #[.pointer r4.1] [lI] fun r17 =>
 cl PP 25 #[.pointer r4.1, .string (ByteArray.mk #[97])] [.lf .sl, lI] fun r18 =>
 ifB (decide ((r8.1 : Int) = 0)) (
 ifB (decide ((r9.1 : Int) = 0)) (
 ifB (decide ((r10.1 : Int) = 0)) (
 ifB r11.1 (
 ifB (decide ((r12.1 : Int) = 1)) (
 ifB (decide ((r13.1 : Int) = 0)) (
 smR PP (Conv.bytesToString (.sv r14.1)) [.lf .str] fun v5 =>
 ifB (decide (v5.1 = (ByteArray.mk #[49]))) (
 ifB (decide ((r14.2.1 : Int) = 0)) (
 ifB r15.1 (
 ifB (decide ((r15.2.1 : Int) = 0)) (
 ifB (decide ((r16.1.len : Int) = 1)) (
 ifB (decide ((r17.1 : Int) = 0)) (
 cl PP 31 #[.pointer r4.1] [.lf .sl] fun r19 =>
 ifB (decide ((r19.1.len : Int) = 0)) (
 ifB (decide ((r18.2.1 : Int) = 8)) (
 cl PP 27 #[.pointer none] [lI] fun r20 =>
 ifB (decide ((r20.1 : Int) = 1)) (
 cl PP 30 #[.pointer r4.1] [lI] fun r21 =>
 ifB (decide ((r21.1 : Int) = 2)) (
 cl PP 29 #[.pointer r4.1] [lI] fun r22 =>
 ifB (decide ((r22.1 : Int) = 0)) (
 cl PP 14 #[.pointer r4.1] [lI] fun r23 =>
 K (.bool ((r23.1 : Int) == 3808))) (
 K (.bool false))) (
 K (.bool false))) (
 K (.bool false))) (
 K (.bool false))) (
 K (.bool false))) (
 K (.bool false))) (
 K (.bool false))) (
 K (.bool false))) (
 K (.bool false))) (
 K (.bool false))) (
 K (.bool false))) (
 K (.bool false))) (
 K (.bool false))) (
 K (.bool false))) (
 K (.bool false))) (
 K (.bool false))) (
 K (.bool false))) fun j1 =>
 ifB (decide ((r2.2.1 : Int) = 0)) (
 ifB (decide ((r4.2.1 : Int) = 0)) (
 ifB (decide ((r6.2.1 : Int) = 1)) (
 j1 (())) (
 K (.bool false))) (
 K (.bool false))) (
 K (.bool false))
theorem c10 {K : Value -> HP} {L : A4} (h : s10 (HL.Ends K) L) : CallF PP 10 #[] L K := by
 refine CallF.of (args := []) B5 B6 Tryz.func10 (e10 _) (D3 ?_ h)
 unfold s10 t10
 refine B0 fun r1 => B0 fun r2 => B0 fun r3 => B0 fun r4 => B0 fun r5 => B0 fun r6 => ?_
 refine Z1 (fun y1 => ?_) fun j1' j1 hj1 => ?_
 ·refine B0 fun r7 => Q1 fun n1 => Af4 fun v1 => B0 fun r8 => Q1 fun n2 => Af4 fun v2 => B0 fun r9 => Q1 fun n3 => Af4 fun v3 => B0 fun r10 => B0 fun r11 => B0 fun r12 => Q1 fun n4 => Af4 fun v4 => B0 fun r13 => B0 fun r14 => B0 fun r15 => B0 fun r16 => B0 fun r17 => B0 fun r18 => ?_
  refine E2 ?_ ?_
  ·refine E2 ?_ ?_
   ·refine E2 ?_ ?_
    ·refine C4 ?_ ?_
     ·refine E2 ?_ ?_
      ·refine E2 ?_ ?_
       ·refine Bc1 fun v5 => ?_
        refine B78 ?_ ?_
        ·refine E2 ?_ ?_
         ·refine C4 ?_ ?_
          ·refine E2 ?_ ?_
           ·refine E2 ?_ ?_
            ·refine E2 ?_ ?_
             ·refine B0 fun r19 => ?_
              refine E2 ?_ ?_
              ·refine E2 ?_ ?_
               ·refine B0 fun r20 => ?_
                refine E2 ?_ ?_
                ·refine B0 fun r21 => ?_
                 refine E2 ?_ ?_
                 ·refine B0 fun r22 => ?_
                  refine E2 ?_ ?_
                  ·exact B0 fun r23 => A7
                  ·exact A7
                 ·exact A7
                ·exact A7
               ·exact A7
              ·exact A7
             ·exact A7
            ·exact A7
           ·exact A7
          ·exact A7
         ·exact A7
        ·exact A7
       ·exact A7
      ·exact A7
     ·exact A7
    ·exact A7
   ·exact A7
  ·exact A7
 ·refine E4 ?_ ?_
  ·exact A7
  ·refine E4 ?_ ?_
   ·exact A7
   ·refine E4 ?_ ?_
    ·exact A7
    ·exact G4 (hj1 _) rfl
def s13 (x0 : Option Addr) (x1 : ByteArray) (K : Value -> HP) : HP :=
 cl PP 39 #[.pointer x0, .string x1] [lI] fun r1 =>
 ifB (decide ((r1.1 : Int) = 0)) (
 A9 x0 fun a1 =>
 ld (Addr.add (a1.add 19) 1) (.lf .ptr) fun v1 =>
 cl PP 41 #[.pointer x0, .string x1] [.lf (.int .u64)] fun r2 =>
 keep (D0 (Addr.add (a1.add 19) 1) [.pointer v1]) <|
 cl PP 40 #[.pointer v1, .int .u64 r2.1] [.lf .bool] fun r3 =>
 K (.bool r3.1)) (
 K (.bool false))
theorem c13 (x0 : Option Addr) (x1 : ByteArray) {K : Value -> HP} {L : A4} (h : s13 x0 x1 (HL.Ends K) L) : CallF PP 13 #[.pointer x0, .string x1] L K := by
 refine CallF.of (args := [.pointer x0, .string x1]) B5 B6 Tryz.func13 (e13 x0 x1 _) (D3 ?_ h)
 unfold s13 t13
 refine B0 fun r1 => ?_
 refine E2 ?_ ?_
 ·exact C2 fun a1 ha1 => B8 fun v1 => B0 fun r2 => O7 <| B0 fun r3 => A7
 ·exact A7
def s14 (x0 : Option Addr) (K : Value -> HP) : HP :=
 nw (.cells #[.pointer x0] 28) fun n1 =>
 ld ⟨n1, 0, none⟩ (.lf .ptr) fun v1 =>
 cl PP 42 #[.pointer v1, .func (.func 43) #[] #[.pointer (some ⟨n1, 0, none⟩)]] [lI] fun r1 =>
 K (.i r1.1)
theorem c14 (x0 : Option Addr) {K : Value -> HP} {L : A4} (h : s14 x0 (HL.Ends K) L) : CallF PP 14 #[.pointer x0] L K := by
 refine CallF.of (args := [.pointer x0]) B5 B6 Tryz.func14 (e14 x0 _) (D3 ?_ h)
 unfold s14 t14
 exact Q1 fun n1 => B8 fun v1 => B0 fun r1 => A7
set_option maxRecDepth 100000
def s17 (x0 : Option Addr) (x1 : ByteArray) (x2 : SlV) (K : Value -> HP) : HP :=
 cl PP 39 #[.pointer x0, .string x1] [lI] fun r1 =>
 ifB (decide ((r1.1 : Int) = 0)) (
 ifB (decide ((x2.len : Int) > 65536)) (
 K (.i 4)) (
 cl PP 46 #[.pointer x0, .string x1] [.lf .bool] fun r2 =>
 A9 x0 fun a1 =>
 ld a1 (.agg [.int .i64, .int .i64, .int .i64, .int .i64]) fun v1 =>
 cl PP 47 #[.i x1.size, .i x2.len, .agg #[.i v1.1, .i v1.2.1, .i v1.2.2.1, .i v1.2.2.2.1]] [lI] fun r3 =>
 ifB (decide ((r3.1 : Int) = 0)) (
 K (.i 14)) (
 jn (fun y1 : RsV [] =>
 ld (a1.add 19) (.lf .ptr) fun v3 =>
 cl PP 50 #[.pointer v3, .string x1, .slice x2.a x2.len x2.cap] [] fun r7 =>
 cl PP 51 #[.pointer x0] [lI] fun r8 =>
 K (.i r8.1)) fun j1 =>
 ld (Addr.add (a1.add 19) 1) (.lf .ptr) fun v2 =>
 cl PP 41 #[.pointer x0, .string x1] [.lf (.int .u64)] fun r4 =>
 keep (D0 (Addr.add (a1.add 19) 1) [.pointer v2]) <|
 cl PP 48 #[.pointer v2, .int .u64 r4.1] [.lf .bool] fun r5 =>
 ifB r5.1 (
 cl PP 49 #[.pointer x0, .string x1, .slice x2.a x2.len x2.cap] [lI] fun r6 =>
 ifB (decide ((r6.1 : Int) = 0)) (
 K (.i r6.1)) (
 ifB (decide ((r6.1 : Int) = 11)) (
 K (.i r6.1)) (
 j1 (())))) (
 j1 (()))))) (
 K (.i r1.1))
theorem c17 (x0 : Option Addr) (x1 : ByteArray) (x2 : SlV) {K : Value -> HP} {L : A4} (h : s17 x0 x1 x2 (HL.Ends K) L) : CallF PP 17 #[.pointer x0, .string x1, .slice x2.a x2.len x2.cap] L K := by
 refine CallF.of (args := [.pointer x0, .string x1, .slice x2.a x2.len x2.cap]) B5 B6 Tryz.func17 (e17 x0 x1 x2 _) (D3 ?_ h)
 unfold s17 t17
 refine B0 fun r1 => ?_
 refine E4 ?_ ?_
 ·exact A7
 ·refine C4 ?_ ?_
  ·exact A7
  ·refine B0 fun r2 => C2 fun a1 ha1 => B8 fun v1 => B0 fun r3 => ?_
   refine E2 ?_ ?_
   ·exact A7
   ·refine Z1 (fun y1 => ?_) fun j1' j1 hj1 => ?_
    ·exact B1 ha1 <| B8 fun v3 => B0 fun r7 => B0 fun r8 => A7
    ·refine B1 ha1 <| B8 fun v2 => B0 fun r4 => O7 <| B0 fun r5 => ?_
     refine C4 ?_ ?_
     ·refine B0 fun r6 => ?_
      refine E2 ?_ ?_
      ·exact A7
      ·refine E2 ?_ ?_
       ·exact A7
       ·exact G4 (hj1 _) rfl
     ·exact G4 (hj1 _) rfl
def s19 (x0 : Option Addr) (x1 : ByteArray) (K : Value -> HP) : HP :=
 cl PP 39 #[.pointer x0, .string x1] [lI] fun r1 =>
 ifB (decide ((r1.1 : Int) = 0)) (
 A9 x0 fun a1 =>
 ld (a1.add 19) (.lf .ptr) fun v1 =>
 cl PP 52 #[.pointer v1, .string x1] [.lf .bool] fun r2 =>
 ifB r2.1 (
 K (.i 1)) (
 cl PP 53 #[.pointer x0, .string x1] [.agg [.int .i64, .int .i64, .int .i64], .lf .sl, .lf .bool] fun r3 =>
 ifB r3.2.2.1 (
 K (.i 2)) (
 K (.i 0)))) (
 K (.i 0))
theorem c19 (x0 : Option Addr) (x1 : ByteArray) {K : Value -> HP} {L : A4} (h : s19 x0 x1 (HL.Ends K) L) : CallF PP 19 #[.pointer x0, .string x1] L K := by
 refine CallF.of (args := [.pointer x0, .string x1]) B5 B6 Tryz.func19 (e19 x0 x1 _) (D3 ?_ h)
 unfold s19 t19
 refine B0 fun r1 => ?_
 refine E4 ?_ ?_
 ·exact A7
 ·refine C2 fun a1 ha1 => B8 fun v1 => B0 fun r2 => ?_
  refine C4 ?_ ?_
  ·exact A7
  ·refine B0 fun r3 => D6 fun n1 => F4 0 0 rfl rfl rfl rfl ?_
   refine C4 ?_ ?_
   ·exact A7
   ·exact A7
def s20 (x0 : Option Addr) (x1 : ByteArray) (K : Value -> HP) : HP :=
 cl PP 39 #[.pointer x0, .string x1] [lI] fun r1 =>
 ifB (decide ((r1.1 : Int) = 0)) (
 A9 x0 fun a1 =>
 ld (a1.add 19) (.lf .ptr) fun v1 =>
 cl PP 54 #[.pointer v1, .string x1] [.lf .sl, .lf .bool] fun r2 =>
 ifB r2.2.1 (
 K (.tuple #[.sv r2.1, .i 0])) (
 cl PP 53 #[.pointer x0, .string x1] [.agg [.int .i64, .int .i64, .int .i64], .lf .sl, .lf .bool] fun r3 =>
 ifB r3.2.2.1 (
 K (.tuple #[.sv r3.2.1, .i 0])) (
 K (.tuple #[.slice none 0 0, .i 8])))) (
 K (.tuple #[.slice none 0 0, .i r1.1]))
theorem c20 (x0 : Option Addr) (x1 : ByteArray) {K : Value -> HP} {L : A4} (h : s20 x0 x1 (HL.Ends K) L) : CallF PP 20 #[.pointer x0, .string x1] L K := by
 refine CallF.of (args := [.pointer x0, .string x1]) B5 B6 Tryz.func20 (e20 x0 x1 _) (D3 ?_ h)
 unfold s20 t20
 refine B0 fun r1 => ?_
 refine E4 ?_ ?_
 ·exact A7
 ·refine C2 fun a1 ha1 => B8 fun v1 => B0 fun r2 => ?_
  refine C4 ?_ ?_
  ·exact A7
  ·refine B0 fun r3 => D6 fun n1 => F4 0 0 rfl rfl rfl rfl ?_
   refine H3 ?_ ?_
   ·exact A7
   ·exact A7
def s23 (x0 : Option Addr) (K : Value -> HP) : HP :=
 nw (.cells #[.pointer x0] 28) fun n1 =>
 ld ⟨n1, 0, none⟩ (.lf .ptr) fun v1 =>
 cl PP 42 #[.pointer v1, .func (.func 55) #[] #[.pointer (some ⟨n1, 0, none⟩)]] [lI] fun r1 =>
 K (.i r1.1)
theorem c23 (x0 : Option Addr) {K : Value -> HP} {L : A4} (h : s23 x0 (HL.Ends K) L) : CallF PP 23 #[.pointer x0] L K := by
 refine CallF.of (args := [.pointer x0]) B5 B6 Tryz.func23 (e23 x0 _) (D3 ?_ h)
 unfold s23 t23
 exact Q1 fun n1 => B8 fun v1 => B0 fun r1 => A7
def s24 (x0 : Option Addr) (x1 : Int) (K : Value -> HP) : HP :=
 cl PP 57 #[.pointer x0] [.lf .bool] fun r1 =>
 ifB r1.1 (
 A9 x0 fun a1 =>
 ld (Addr.add (a1.add 11) 2) (.lf .ptr) fun v1 =>
 cl PP 58 #[.pointer v1, .i x1] [] fun r2 =>
 K (.tuple #[])) (
 K (.tuple #[]))
theorem c24 (x0 : Option Addr) (x1 : Int) {K : Value -> HP} {L : A4} (h : s24 x0 x1 (HL.Ends K) L) : CallF PP 24 #[.pointer x0, .i x1] L K := by
 refine CallF.of (args := [.pointer x0, .i x1]) B5 B6 Tryz.func24 (e24 x0 x1 _) (D3 ?_ h)
 unfold s24 t24
 refine B0 fun r1 => ?_
 refine C4 ?_ ?_
 ·exact C2 fun a1 ha1 => B8 fun v1 => B0 fun r2 => A7
 ·exact A7
def s25 (x0 : Option Addr) (x1 : ByteArray) (K : Value -> HP) : HP :=
 cl PP 39 #[.pointer x0, .string x1] [lI] fun r1 =>
 ifB (decide ((r1.1 : Int) = 0)) (
 A9 x0 fun a1 =>
 ld (a1.add 19) (.lf .ptr) fun v1 =>
 cl PP 59 #[.pointer v1, .string x1] [.lf .sl, .lf .bool] fun r2 =>
 ifB r2.2.1 (
 K (.tuple #[.sv r2.1, .i 0])) (
 cl PP 53 #[.pointer x0, .string x1] [.agg [.int .i64, .int .i64, .int .i64], .lf .sl, .lf .bool] fun r3 =>
 ifB r3.2.2.1 (
 ld (Addr.add (a1.add 19) 2) (.lf .ptr) fun v2 =>
 cl PP 41 #[.pointer x0, .string x1] [.lf (.int .u64)] fun r4 =>
 keep (D0 (Addr.add (a1.add 19) 2) [.pointer v2]) <|
 cl PP 60 #[.pointer v2, .int .u64 r4.1, .agg #[.i r3.1.1, .i r3.1.2.1, .i r3.1.2.2.1]] [.lf .bool] fun r5 =>
 K (.tuple #[.sv r3.2.1, .i 0])) (
 K (.tuple #[.slice none 0 0, .i 8])))) (
 K (.tuple #[.slice none 0 0, .i r1.1]))
theorem c25 (x0 : Option Addr) (x1 : ByteArray) {K : Value -> HP} {L : A4} (h : s25 x0 x1 (HL.Ends K) L) : CallF PP 25 #[.pointer x0, .string x1] L K := by
 refine CallF.of (args := [.pointer x0, .string x1]) B5 B6 Tryz.func25 (e25 x0 x1 _) (D3 ?_ h)
 unfold s25 t25
 refine B0 fun r1 => ?_
 refine E4 ?_ ?_
 ·exact A7
 ·refine C2 fun a1 ha1 => B8 fun v1 => B0 fun r2 => ?_
  refine C4 ?_ ?_
  ·exact A7
  ·refine B0 fun r3 => D6 fun n1 => F4 0 0 rfl rfl rfl rfl ?_
   refine H3 ?_ ?_
   ·exact A7
   ·exact B1 ha1 <| B8 fun v2 => B4 0 0 rfl rfl rfl <| B0 fun r4 => K5 0 0 rfl rfl rfl <| O7 <| B0 fun r5 => A7
def s26 (x0 : Option Addr) (x1 : ByteArray) (K : Value -> HP) : HP :=
 cl PP 39 #[.pointer x0, .string x1] [lI] fun r1 =>
 ifB (decide ((r1.1 : Int) = 0)) (
 cl PP 46 #[.pointer x0, .string x1] [.lf .bool] fun r2 =>
 K (.tuple #[.bool r2.1, .i 0])) (
 K (.tuple #[.bool false, .i r1.1]))
theorem c26 (x0 : Option Addr) (x1 : ByteArray) {K : Value -> HP} {L : A4} (h : s26 x0 x1 (HL.Ends K) L) : CallF PP 26 #[.pointer x0, .string x1] L K := by
 refine CallF.of (args := [.pointer x0, .string x1]) B5 B6 Tryz.func26 (e26 x0 x1 _) (D3 ?_ h)
 unfold s26 t26
 refine B0 fun r1 => ?_
 refine E4 ?_ ?_
 ·exact A7
 ·exact B0 fun r2 => A7
def s27 (x0 : Option Addr) (K : Value -> HP) : HP :=
 ifB (Option.isNone x0) (
 K (.i 1)) (
 A9 x0 fun a1 =>
 ld (Addr.add (a1.add 11) 7) (.lf .bool) fun v1 =>
 ifB v1 (
 K (.i 11)) (
 lp [] (()) fun z1 go1 =>
 ld (Addr.add (a1.add 11) 6) (.lf .sl) fun v2 =>
 ifB (decide ((v2.len : Int) > 0)) (
 cl PP 61 #[.pointer x0, .i 1] [lI] fun r1 =>
 ifB (decide ((r1.1 : Int) = 0)) (
 ld (Addr.add (a1.add 11) 6) (.lf .sl) fun v3 =>
 ld (a1.add 2) (lI) fun v4 =>
 cl PP 62 #[.i v4] [lI] fun r2 =>
 keep (D0 (Addr.add (a1.add 11) 6) [.sv v3]) <|
 w64 (Int.tdiv r2.1 6) fun i1 =>
 ifB (decide ((Y1 v3.len i1 : Int) = 0)) (
 K (.i 0)) (
 ld (Addr.add (a1.add 11) 6) (.lf .sl) fun v5 =>
 slc v5 0 (Y1 v3.len i1) v5.cap 3 fun s1 =>
 cl PP 63 #[.sv s1] [.lf .sl, lI] fun r3 =>
 ifB (decide ((r3.2.1 : Int) = 0)) (
 nw (.cells #[.slice r3.1.a r3.1.len r3.1.cap] 27) fun n1 =>
 cl PP 64 #[.pointer (some (a1.add 11)), .i 3, .slice (some ⟨n1, 0, none⟩) 1 1] [.agg [.int .i64, .int .i64, .int .i64], lI] fun r4 =>
 ifB (decide ((r4.2.1 : Int) = 0)) (
 ld (Addr.add (a1.add 11) 6) (.lf .sl) fun v6 =>
 cl PP 65 #[.sv v6, .i 0, .i (Y1 v3.len i1)] [.lf .sl] fun r5 =>
 st (Addr.add (a1.add 11) 6) [.slice r5.1.a r5.1.len r5.1.cap] <|
 go1 (())) (
 K (.i r4.2.1))) (
 K (.i r3.2.1)))) (
 K (.i r1.1))) (
 K (.i 0))))
theorem c27 (x0 : Option Addr) {K : Value -> HP} {L : A4} (h : s27 x0 (HL.Ends K) L) : CallF PP 27 #[.pointer x0] L K := by
 refine CallF.of (args := [.pointer x0]) B5 B6 Tryz.func27 (e27 x0 _) (D3 ?_ h)
 unfold s27 t27
 refine C4 ?_ ?_
 ·exact A7
 ·refine C2 fun a1 ha1 => B8 fun v1 => ?_
  refine C4 ?_ ?_
  ·exact A7
  ·refine K6 fun go1' go1 hgo1 z1 => B1 ha1 <| B8 fun v2 => ?_
   refine C4 ?_ ?_
   ·refine B0 fun r1 => ?_
    refine E4 ?_ ?_
    ·exact A7
    ·refine B1 ha1 <| B1 ha1 <| B8 fun v3 => B8 fun v4 => B0 fun r2 => O7 <| C20 (by decide) <| D2 ?_
     refine E2 ?_ ?_
     ·exact A7
     ·refine B1 ha1 <| B8 fun v5 => Au4 fun s1 => B0 fun r3 => ?_
      refine E4 ?_ ?_
      ·exact A7
      ·refine B1 ha1 <| Q1 fun n1 => B0 fun r4 => D6 fun n2 => F4 0 0 rfl rfl rfl rfl ?_
       refine E4 ?_ ?_
       ·exact A7
       ·exact B1 ha1 <| B8 fun v6 => B0 fun r5 => B1 ha1 <| Z0 <| G4 (hgo1 _) rfl
   ·exact A7
def s28 (x0 : Option Addr) (x1 : ByteArray) (K : Value -> HP) : HP :=
 cl PP 39 #[.pointer x0, .string x1] [lI] fun r1 =>
 ifB (decide ((r1.1 : Int) = 0)) (
 A9 x0 fun a1 =>
 ld (Addr.add (a1.add 19) 2) (.lf .ptr) fun v1 =>
 cl PP 41 #[.pointer x0, .string x1] [.lf (.int .u64)] fun r2 =>
 keep (D0 (Addr.add (a1.add 19) 2) [.pointer v1]) <|
 cl PP 66 #[.pointer v1, .int .u64 r2.1] [lI] fun r3 =>
 K (.i r3.1)) (
 K (.i 0))
theorem c28 (x0 : Option Addr) (x1 : ByteArray) {K : Value -> HP} {L : A4} (h : s28 x0 x1 (HL.Ends K) L) : CallF PP 28 #[.pointer x0, .string x1] L K := by
 refine CallF.of (args := [.pointer x0, .string x1]) B5 B6 Tryz.func28 (e28 x0 x1 _) (D3 ?_ h)
 unfold s28 t28
 refine B0 fun r1 => ?_
 refine E4 ?_ ?_
 ·exact A7
 ·exact C2 fun a1 ha1 => B8 fun v1 => B0 fun r2 => O7 <| B0 fun r3 => A7
def s29 (x0 : Option Addr) (K : Value -> HP) : HP :=
 nw (.cells #[.pointer x0] 28) fun n1 =>
 ld ⟨n1, 0, none⟩ (.lf .ptr) fun v1 =>
 cl PP 42 #[.pointer v1, .func (.func 67) #[] #[.pointer (some ⟨n1, 0, none⟩)]] [lI] fun r1 =>
 K (.i r1.1)
theorem c29 (x0 : Option Addr) {K : Value -> HP} {L : A4} (h : s29 x0 (HL.Ends K) L) : CallF PP 29 #[.pointer x0] L K := by
 refine CallF.of (args := [.pointer x0]) B5 B6 Tryz.func29 (e29 x0 _) (D3 ?_ h)
 unfold s29 t29
 exact Q1 fun n1 => B8 fun v1 => B0 fun r1 => A7
def s30 (x0 : Option Addr) (K : Value -> HP) : HP :=
 nw (.cells #[.pointer x0] 28) fun n1 =>
 ld ⟨n1, 0, none⟩ (.lf .ptr) fun v1 =>
 cl PP 42 #[.pointer v1, .func (.func 69) #[] #[.pointer (some ⟨n1, 0, none⟩)]] [lI] fun r1 =>
 K (.i r1.1)
theorem c30 (x0 : Option Addr) {K : Value -> HP} {L : A4} (h : s30 x0 (HL.Ends K) L) : CallF PP 30 #[.pointer x0] L K := by
 refine CallF.of (args := [.pointer x0]) B5 B6 Tryz.func30 (e30 x0 _) (D3 ?_ h)
 unfold s30 t30
 exact Q1 fun n1 => B8 fun v1 => B0 fun r1 => A7
def s31 (x0 : Option Addr) (K : Value -> HP) : HP :=
 cl PP 57 #[.pointer x0] [.lf .bool] fun r1 =>
 ifB r1.1 (
 A9 x0 fun a1 =>
 ld (Addr.add (a1.add 11) 6) (.lf .sl) fun v1 =>
 cl PP 71 #[.sv v1] [.lf .sl] fun r2 =>
 K (.sv r2.1)) (
 K (.slice none 0 0))
theorem c31 (x0 : Option Addr) {K : Value -> HP} {L : A4} (h : s31 x0 (HL.Ends K) L) : CallF PP 31 #[.pointer x0] L K := by
 refine CallF.of (args := [.pointer x0]) B5 B6 Tryz.func31 (e31 x0 _) (D3 ?_ h)
 unfold s31 t31
 refine B0 fun r1 => ?_
 refine H3 ?_ ?_
 ·exact A7
 ·exact C2 fun a1 ha1 => B8 fun v1 => B0 fun r2 => A7
def s36 (x0 : ShV (.agg [.int .i64, .int .i64, .int .i64, .int .i64, .int .i64, .int .i64, .int .i64, .int .i64, .int .i64, .int .i64, .int .i64])) (x1 : Option Addr) (x2 : Int) (K : Value -> HP) : HP :=
 ifB (Option.isNone x1) (
 K (.tuple #[.pointer none, .i 1])) (
 cl PP 92 #[.i x0.2.2.2.2.1, .i x0.2.2.2.2.2.1] [.lf .ptr, lI] fun r1 =>
 jn (fun y1 : RsV [] =>
 cl PP 95 #[.pointer x1] [.agg [.sl, .sl, .int .i64], lI] fun r4 =>
 ifB (decide ((r4.2.1 : Int) = 0)) (
 cl PP 96 #[.i x0.2.2.2.2.2.2.2.2.1, .i x0.2.2.2.2.2.2.2.2.2.1, .i x2, .i 0] [.lf .ptr] fun r5 =>
 cl PP 97 #[.i x0.2.2.2.2.2.2.1] [.lf .ptr] fun r6 =>
 cl PP 98 #[.i x0.2.2.2.2.2.2.2.1] [.lf .ptr] fun r7 =>
 nw (.map #[] 0) fun n3 =>
 nw (.cells #[.i x0.1, .i x0.2.1, .i x0.2.2.1, .i x0.2.2.2.1, .i x0.2.2.2.2.1, .i x0.2.2.2.2.2.1, .i x0.2.2.2.2.2.2.1, .i x0.2.2.2.2.2.2.2.1, .i x0.2.2.2.2.2.2.2.2.1, .i x0.2.2.2.2.2.2.2.2.2.1, .i x0.2.2.2.2.2.2.2.2.2.2.1, .pointer x1, .pointer none, .pointer r5.1, .map (some n3), .pointer none, .i r4.1.2.2.1, .slice none 0 0, .bool false, .pointer r6.1, .pointer r7.1, .pointer r1.1] 89) fun n4 =>
 lp [.lf .sl, lI] (⟨none, 0, 0⟩, 0, ()) fun z1 go1 =>
 ifB (decide ((z1.2.1 : Int) < r4.1.1.len)) (
 elp r4.1.1.a r4.1.1.len z1.2.1 3 fun a1 =>
 ld a1 (.agg [.int .i64, .int .i64, .sl]) fun v2 =>
 apv PP 49 49 49 3 z1.1 1 [.i v2.1] fun s1 =>
 ld (Addr.add (Addr.add ⟨n4, 0, none⟩ 11) 3) (.lf .map) fun v3 =>
 nw (.cells #[.i v2.1, .i v2.2.1, .i 0, .slice v2.2.2.1.a v2.2.2.1.len v2.2.2.1.cap] 156) fun n7 =>
 smU PP (Instr.mapUpdate 79 (.map v3) (.i v2.1) (.pointer (some ⟨n7, 0, none⟩))) <|
 w64 (z1.2.1 + 1) fun i1 =>
 go1 (s1, i1, ())) (
 cl PP 100 #[.pointer x1] [.lf .sl] fun r8 =>
 cl PP 99 #[.sv r8.1, .sv z1.1] [.lf .ptr, lI] fun r9 =>
 st (Addr.add (Addr.add ⟨n4, 0, none⟩ 11) 1) [.pointer r9.1] <|
 ifB (decide ((r9.2.1 : Int) = 0)) (
 lp [lI] (0, ()) fun z2 go2 =>
 ifB (decide ((z2.1 : Int) < r4.1.2.1.len)) (
 elp r4.1.2.1.a r4.1.2.1.len z2.1 4 fun a2 =>
 ld a2 (.agg [.str, .int .i64, .int .i64, .int .i64]) fun v4 =>
 cl PP 101 #[.pointer (some ⟨n4, 0, none⟩), .string v4.1, .agg #[.i v4.2.1, .i v4.2.2.1, .i v4.2.2.2.1]] [] fun r10 =>
 w64 (z2.1 + 1) fun i2 =>
 go2 (i2, ())) (
 K (.tuple #[.pointer (some ⟨n4, 0, none⟩), .i 0]))) (
 K (.tuple #[.pointer none, .i r9.2.1])))) (
 K (.tuple #[.pointer none, .i r4.2.1]))) fun j1 =>
 cl PP 93 #[.pointer x1] [.agg [.int .i64, .int .i64, .int .i64, .int .i64]] fun r2 =>
 smP PP (binOp .neq 23 (.agg #[.i r2.1.1, .i r2.1.2.1, .i r2.1.2.2.1, .i r2.1.2.2.2.1]) (.agg #[.i x0.1, .i x0.2.1, .i x0.2.2.1, .i x0.2.2.2.1])) (.lf .bool) fun v1 =>
 ifB v1 (
 K (.tuple #[.pointer none, .i 30])) (
 ifB (decide ((r1.2.1 : Int) = 0)) (
 cl PP 94 #[.agg #[.i x0.1, .i x0.2.1, .i x0.2.2.1, .i x0.2.2.2.1, .i x0.2.2.2.2.1, .i x0.2.2.2.2.2.1, .i x0.2.2.2.2.2.2.1, .i x0.2.2.2.2.2.2.2.1, .i x0.2.2.2.2.2.2.2.2.1, .i x0.2.2.2.2.2.2.2.2.2.1, .i x0.2.2.2.2.2.2.2.2.2.2.1]] [.lf .bool] fun r3 =>
 ifB r3.1 (
 j1 (())) (
 K (.tuple #[.pointer none, .i 30]))) (
 K (.tuple #[.pointer none, .i 30]))))
theorem c36 (x0 : ShV (.agg [.int .i64, .int .i64, .int .i64, .int .i64, .int .i64, .int .i64, .int .i64, .int .i64, .int .i64, .int .i64, .int .i64])) (x1 : Option Addr) (x2 : Int) {K : Value -> HP} {L : A4} (h : s36 x0 x1 x2 (HL.Ends K) L) : CallF PP 36 #[.agg #[.i x0.1, .i x0.2.1, .i x0.2.2.1, .i x0.2.2.2.1, .i x0.2.2.2.2.1, .i x0.2.2.2.2.2.1, .i x0.2.2.2.2.2.2.1, .i x0.2.2.2.2.2.2.2.1, .i x0.2.2.2.2.2.2.2.2.1, .i x0.2.2.2.2.2.2.2.2.2.1, .i x0.2.2.2.2.2.2.2.2.2.2.1], .pointer x1, .i x2] L K := by
 refine CallF.of (args := [.agg #[.i x0.1, .i x0.2.1, .i x0.2.2.1, .i x0.2.2.2.1, .i x0.2.2.2.2.1, .i x0.2.2.2.2.2.1, .i x0.2.2.2.2.2.2.1, .i x0.2.2.2.2.2.2.2.1, .i x0.2.2.2.2.2.2.2.2.1, .i x0.2.2.2.2.2.2.2.2.2.1, .i x0.2.2.2.2.2.2.2.2.2.2.1], .pointer x1, .i x2]) B5 B6 Tryz.func36 (e36 x0 x1 x2 _) (D3 ?_ h)
 unfold s36 t36
 refine D6 fun n1 => ?_
 refine C4 ?_ ?_
 ·exact A7
 ·refine B4 0 4 rfl rfl rfl <| B4 0 5 rfl rfl rfl <| B0 fun r1 => ?_
  refine Z1 (fun y1 => ?_) fun j1' j1 hj1 => ?_
  ·refine B0 fun r4 => D6 fun n2 => F4 0 0 rfl rfl rfl rfl ?_
   refine E4 ?_ ?_
   ·exact A7
   ·refine B4 1 0 rfl rfl rfl <| B4 1 8 rfl rfl rfl <| B4 1 9 rfl rfl rfl <| B4 0 2 rfl rfl rfl <| B4 1 6 rfl rfl rfl <| B4 1 7 rfl rfl rfl <| B0 fun r5 => K5 1 7 rfl rfl rfl <| K5 1 6 rfl rfl rfl <| K5 0 2 rfl rfl rfl <| K5 1 0 rfl rfl rfl <| B0 fun r6 => K5 1 7 rfl rfl rfl <| K5 0 2 rfl rfl rfl <| K5 1 0 rfl rfl rfl <| B0 fun r7 => K5 0 2 rfl rfl rfl <| K5 1 0 rfl rfl rfl <| Q1 fun n3 => Q1 fun n4 => B4 0 0 rfl rfl rfl <| K6 fun go1' go1 hgo1 z1 => ?_
    refine C4 ?_ ?_
    ·exact H2 fun a1 ha1 => B8 fun v2 => D6 fun n5 => F4 0 0 rfl rfl rfl rfl <| B4 0 0 rfl rfl rfl <| D6 fun n6 => Z2 (v := _) 0 rfl fun s1 => B8 fun v3 => B4 1 0 rfl rfl rfl <| B4 1 0 rfl rfl rfl <| B4 1 1 rfl rfl rfl <| B4 1 2 rfl rfl rfl <| Q1 fun n7 => Bp1 <| D2 <| G8 3 rfl rfl <| G8 3 rfl rfl <| G4 (hgo1 _) rfl
    ·refine B0 fun r8 => B0 fun r9 => Z0 ?_
     refine E4 ?_ ?_
     ·exact A7
     ·refine B4 0 1 rfl rfl rfl <| K6 fun go2' go2 hgo2 z2 => ?_
      refine C4 ?_ ?_
      ·exact H2 fun a2 ha2 => B8 fun v4 => D6 fun n8 => F4 0 0 rfl rfl rfl rfl <| B4 0 0 rfl rfl rfl <| B4 0 1 rfl rfl rfl <| B0 fun r10 => D2 <| G8 2 rfl rfl <| G8 2 rfl rfl <| G4 (hgo2 _) rfl
      ·exact A7
  ·refine B4 0 0 rfl rfl rfl <| B0 fun r2 => K5 0 0 rfl rfl rfl <| B77 fun v1 => ?_
   refine C4 ?_ ?_
   ·exact A7
   ·refine E4 ?_ ?_
    ·exact A7
    ·refine B4 0 0 rfl rfl rfl <| B0 fun r3 => ?_
     refine H3 ?_ ?_
     ·exact A7
     ·exact G4 (hj1 _) rfl
def s37 (K : Value -> HP) : HP :=
 K (.agg #[.i 4, .i 8, .i 64, .i 1000, .i 4, .i 4, .i 12, .i 8, .i 1000, .i 4000, .i 0])
theorem c37 {K : Value -> HP} {L : A4} (h : s37 (HL.Ends K) L) : CallF PP 37 #[] L K := by
 refine CallF.of (args := []) B5 B6 Tryz.func37 (e37 _) (D3 ?_ h)
 unfold s37 t37
 exact D6 fun n1 => F4 0 0 rfl rfl rfl rfl <| B4 0 0 rfl rfl rfl <| A7
def s39 (x0 : Option Addr) (x1 : ByteArray) (K : Value -> HP) : HP :=
 ifB (Option.isNone x0) (
 K (.i 1)) (
 A9 x0 fun a1 =>
 ld (Addr.add (a1.add 11) 7) (.lf .bool) fun v1 =>
 ifB v1 (
 K (.i 11)) (
 ifB (decide (x1 = (ByteArray.mk #[]))) (
 K (.i 2)) (
 ifB (decide ((x1.size : Int) > 255)) (
 K (.i 2)) (
 K (.i 0)))))
theorem c39 (x0 : Option Addr) (x1 : ByteArray) {K : Value -> HP} {L : A4} (h : s39 x0 x1 (HL.Ends K) L) : CallF PP 39 #[.pointer x0, .string x1] L K := by
 refine CallF.of (args := [.pointer x0, .string x1]) B5 B6 Tryz.func39 (e39 x0 x1 _) (D3 ?_ h)
 unfold s39 t39
 refine C4 ?_ ?_
 ·exact A7
 ·refine C2 fun a1 ha1 => B8 fun v1 => ?_
  refine C4 ?_ ?_
  ·exact A7
  ·refine B78 ?_ ?_
   ·exact A7
   ·refine C4 ?_ ?_
    ·exact A7
    ·exact A7
set_option maxRecDepth 100000
def s41 (x0 : Option Addr) (x1 : ByteArray) (K : Value -> HP) : HP :=
 A9 x0 fun a1 =>
 ld (a1.add 10) (lI) fun v1 =>
 cl PP 104 #[.i v1, .string x1] [.lf (.int .u64)] fun r1 =>
 K (.int .u64 r1.1)
theorem c41 (x0 : Option Addr) (x1 : ByteArray) {K : Value -> HP} {L : A4} (h : s41 x0 x1 (HL.Ends K) L) : CallF PP 41 #[.pointer x0, .string x1] L K := by
 refine CallF.of (args := [.pointer x0, .string x1]) B5 B6 Tryz.func41 (e41 x0 x1 _) (D3 ?_ h)
 unfold s41 t41
 exact C2 fun a1 ha1 => B8 fun v1 => B0 fun r1 => A7
def s42 (x0 : Option Addr) (x1 : FnV) (K : Value -> HP) : HP :=
 cl PP 57 #[.pointer x0] [.lf .bool] fun r1 =>
 ifB r1.1 (
 clv PP x1.fn (x1.first ++ #[]) x1.captured [lI] fun r2 =>
 K (.i r2.1)) (
 K (.i 0))
theorem c42 (x0 : Option Addr) (x1 : FnV) {K : Value -> HP} {L : A4} (h : s42 x0 x1 (HL.Ends K) L) : CallF PP 42 #[.pointer x0, .func x1.fn x1.first x1.captured] L K := by
 refine CallF.of (args := [.pointer x0, .func x1.fn x1.first x1.captured]) B5 B6 Tryz.func42 (e42 x0 x1 _) (D3 ?_ h)
 unfold s42 t42
 refine B0 fun r1 => ?_
 refine H3 ?_ ?_
 ·exact A7
 ·exact Az5 fun r2 => A7
def s43 (x0 : Option Addr) (K : Value -> HP) : HP :=
 A9 x0 fun a1 =>
 ld a1 (.lf .ptr) fun v1 =>
 A9 v1 fun a2 =>
 ld (Addr.add (a2.add 11) 2) (.lf .ptr) fun v2 =>
 cl PP 44 #[.pointer v2] [lI] fun r1 =>
 K (.i r1.1)
theorem c43 (x0 : Option Addr) {K : Value -> HP} {L : A4} (h : s43 x0 (HL.Ends K) L) : CallF PP 43 #[.pointer x0] L K := by
 refine CallF.of (args := [.pointer x0]) B5 B6 Tryz.func43 (e43 x0 _) (D3 ?_ h)
 unfold s43 t43
 exact C2 fun a1 ha1 => B8 fun v1 => C2 fun a2 ha2 => B8 fun v2 => B0 fun r1 => A7
def s46 (x0 : Option Addr) (x1 : ByteArray) (K : Value -> HP) : HP :=
 A9 x0 fun a1 =>
 ld (a1.add 19) (.lf .ptr) fun v1 =>
 cl PP 105 #[.pointer v1, .string x1] [.lf .bool] fun r1 =>
 cl PP 53 #[.pointer x0, .string x1] [.agg [.int .i64, .int .i64, .int .i64], .lf .sl, .lf .bool] fun r2 =>
 ifB r2.2.2.1 (
 ld (Addr.add (a1.add 19) 2) (.lf .ptr) fun v2 =>
 cl PP 41 #[.pointer x0, .string x1] [.lf (.int .u64)] fun r3 =>
 keep (D0 (Addr.add (a1.add 19) 2) [.pointer v2]) <|
 cl PP 106 #[.pointer v2, .int .u64 r3.1, .agg #[.i r2.1.1, .i r2.1.2.1, .i r2.1.2.2.1]] [.lf .bool] fun r4 =>
 ld (Addr.add (a1.add 11) 6) (.lf .sl) fun v3 =>
 apv PP 55 55 55 102 v3 1 [.i r2.1.1, .i r2.1.2.1, .i r2.1.2.2.1] fun s1 =>
 st (Addr.add (a1.add 11) 6) [.slice s1.a s1.len s1.cap] <|
 ifB r1.1 (
 K (.bool true)) (
 K (.bool r2.2.2.1))) (
 ifB r1.1 (
 K (.bool true)) (
 K (.bool r2.2.2.1)))
theorem c46 (x0 : Option Addr) (x1 : ByteArray) {K : Value -> HP} {L : A4} (h : s46 x0 x1 (HL.Ends K) L) : CallF PP 46 #[.pointer x0, .string x1] L K := by
 refine CallF.of (args := [.pointer x0, .string x1]) B5 B6 Tryz.func46 (e46 x0 x1 _) (D3 ?_ h)
 unfold s46 t46
 refine C2 fun a1 ha1 => B8 fun v1 => B0 fun r1 => B0 fun r2 => D6 fun n1 => F4 0 0 rfl rfl rfl rfl ?_
 refine C4 ?_ ?_
 ·refine B1 ha1 <| B8 fun v2 => B4 0 0 rfl rfl rfl <| B0 fun r3 => K5 0 0 rfl rfl rfl <| O7 <| B0 fun r4 => B1 ha1 <| B8 fun v3 => B4 0 0 rfl rfl rfl <| D6 fun n2 => Z2 (v := _) 0 rfl fun s1 => B1 ha1 <| Z0 ?_
  refine C4 ?_ ?_
  ·exact A7
  ·exact A7
 ·refine C4 ?_ ?_
  ·exact A7
  ·exact A7
def s49 (x0 : Option Addr) (x1 : ByteArray) (x2 : SlV) (K : Value -> HP) : HP :=
 A9 x0 fun a1 =>
 ld a1 (.agg [.int .i64, .int .i64, .int .i64, .int .i64]) fun v1 =>
 cl PP 111 #[.string x1, .slice x2.a x2.len x2.cap, .agg #[.i v1.1, .i v1.2.1, .i v1.2.2.1, .i v1.2.2.2.1]] [.lf .sl, lI] fun r1 =>
 ifB (decide ((r1.2.1 : Int) = 0)) (
 cl PP 61 #[.pointer x0, .i r1.1.len] [lI] fun r2 =>
 ifB (decide ((r2.1 : Int) = 0)) (
 cl PP 64 #[.pointer (some (a1.add 11)), .i 2, .slice r1.1.a r1.1.len r1.1.cap] [.agg [.int .i64, .int .i64, .int .i64], lI] fun r3 =>
 ifB (decide ((r3.2.1 : Int) = 0)) (
 cl PP 101 #[.pointer x0, .string x1, .agg #[.i r3.1.1, .i r3.1.2.1, .i r3.1.2.2.1]] [] fun r4 =>
 K (.i r3.2.1)) (
 K (.i r3.2.1))) (
 K (.i r2.1))) (
 K (.i r1.2.1))
theorem c49 (x0 : Option Addr) (x1 : ByteArray) (x2 : SlV) {K : Value -> HP} {L : A4} (h : s49 x0 x1 x2 (HL.Ends K) L) : CallF PP 49 #[.pointer x0, .string x1, .slice x2.a x2.len x2.cap] L K := by
 refine CallF.of (args := [.pointer x0, .string x1, .slice x2.a x2.len x2.cap]) B5 B6 Tryz.func49 (e49 x0 x1 x2 _) (D3 ?_ h)
 unfold s49 t49
 refine C2 fun a1 ha1 => B8 fun v1 => B0 fun r1 => ?_
 refine E4 ?_ ?_
 ·exact A7
 ·refine B0 fun r2 => ?_
  refine E4 ?_ ?_
  ·exact A7
  ·refine B1 ha1 <| B0 fun r3 => D6 fun n1 => F4 0 0 rfl rfl rfl rfl ?_
   refine E2 ?_ ?_
   ·exact B4 0 0 rfl rfl rfl <| B0 fun r4 => A7
   ·exact A7
def s51 (x0 : Option Addr) (K : Value -> HP) : HP :=
 lp [] (()) fun z1 go1 =>
 A9 x0 fun a1 =>
 ld (a1.add 19) (.lf .ptr) fun v1 =>
 cl PP 113 #[.pointer v1] [.lf .bool] fun r1 =>
 ifB r1.1 (
 ld (a1.add 19) (.lf .ptr) fun v2 =>
 cl PP 114 #[.pointer v2] [.agg [.str, .sl, .int .i64], .lf .bool] fun r2 =>
 jn (fun y1 : RsV [lI] =>
 ifB (decide ((y1.1 : Int) = 0)) (
 go1 (())) (
 ifB (decide ((y1.1 : Int) = 11)) (
 K (.i y1.1)) (
 ld (Addr.add (a1.add 19) 1) (.lf .ptr) fun v3 =>
 cl PP 41 #[.pointer x0, .string r2.1.1] [.lf (.int .u64)] fun r4 =>
 keep (D0 (Addr.add (a1.add 19) 1) [.pointer v3]) <|
 cl PP 115 #[.pointer v3, .int .u64 r4.1] [] fun r5 =>
 go1 (())))) fun j1 =>
 ifB (decide ((r2.1.2.2.1 : Int) > 0)) (
 cl PP 49 #[.pointer x0, .string r2.1.1, .sv r2.1.2.1] [lI] fun r3 =>
 j1 (r3.1, ())) (
 j1 (8, ()))) (
 K (.i 0))
theorem c51 (x0 : Option Addr) {K : Value -> HP} {L : A4} (h : s51 x0 (HL.Ends K) L) : CallF PP 51 #[.pointer x0] L K := by
 refine CallF.of (args := [.pointer x0]) B5 B6 Tryz.func51 (e51 x0 _) (D3 ?_ h)
 unfold s51 t51
 refine K6 fun go1' go1 hgo1 z1 => C2 fun a1 ha1 => B8 fun v1 => B0 fun r1 => ?_
 refine C4 ?_ ?_
 ·refine B1 ha1 <| B8 fun v2 => B0 fun r2 => D6 fun n1 => F4 0 0 rfl rfl rfl rfl ?_
  refine Z1 (fun y1 => ?_) fun j1' j1 hj1 => ?_
  ·refine E2 ?_ ?_
   ·exact G4 (hgo1 _) rfl
   ·refine E2 ?_ ?_
    ·exact A7
    ·exact B1 ha1 <| B8 fun v3 => B4 0 0 rfl rfl rfl <| B0 fun r4 => O7 <| B0 fun r5 => G4 (hgo1 _) rfl
  ·refine B4 0 2 rfl rfl rfl ?_
   refine C4 ?_ ?_
   ·exact B4 0 0 rfl rfl rfl <| B4 0 1 rfl rfl rfl <| B0 fun r3 => G4 (hj1 _) rfl
   ·exact G4 (hj1 _) rfl
 ·exact A7
def s53 (x0 : Option Addr) (x1 : ByteArray) (K : Value -> HP) : HP :=
 A9 x0 fun a1 =>
 ld (Addr.add (a1.add 19) 2) (.lf .ptr) fun v1 =>
 cl PP 41 #[.pointer x0, .string x1] [.lf (.int .u64)] fun r1 =>
 keep (D0 (Addr.add (a1.add 19) 2) [.pointer v1]) <|
 cl PP 117 #[.pointer v1, .int .u64 r1.1] [.lf .sl] fun r2 =>
 lp [lI] (0, ()) fun z1 go1 =>
 ifB (decide ((z1.1 : Int) < r2.1.len)) (
 elp r2.1.a r2.1.len z1.1 3 fun a2 =>
 ld a2 (.agg [.int .i64, .int .i64, .int .i64]) fun v2 =>
 ld (a1.add 11) (.lf .ptr) fun v3 =>
 cl PP 118 #[.pointer v3, .agg #[.i v2.1, .i v2.2.1, .i v2.2.2.1]] [.lf .str, .lf .sl, lI] fun r3 =>
 ifB (decide ((r3.2.2.1 : Int) = 0)) (
 ifB (decide (r3.1 = x1)) (
 K (.tuple #[.agg #[.i v2.1, .i v2.2.1, .i v2.2.2.1], .sv r3.2.1, .bool true])) (
 w64 (z1.1 + 1) fun i1 =>
 go1 (i1, ()))) (
 w64 (z1.1 + 1) fun i2 =>
 go1 (i2, ()))) (
 K (.tuple #[.agg #[.i 0, .i 0, .i 0], .slice none 0 0, .bool false]))
theorem c53 (x0 : Option Addr) (x1 : ByteArray) {K : Value -> HP} {L : A4} (h : s53 x0 x1 (HL.Ends K) L) : CallF PP 53 #[.pointer x0, .string x1] L K := by
 refine CallF.of (args := [.pointer x0, .string x1]) B5 B6 Tryz.func53 (e53 x0 x1 _) (D3 ?_ h)
 unfold s53 t53
 refine D6 fun n1 => C2 fun a1 ha1 => B8 fun v1 => B0 fun r1 => O7 <| B0 fun r2 => K6 fun go1' go1 hgo1 z1 => ?_
 refine C4 ?_ ?_
 ·refine H2 fun a2 ha2 => B8 fun v2 => D6 fun n2 => F4 0 0 rfl rfl rfl rfl <| B1 ha1 <| B8 fun v3 => B4 0 0 rfl rfl rfl <| B0 fun r3 => ?_
  refine E2 ?_ ?_
  ·refine B78 ?_ ?_
   ·exact B4 0 0 rfl rfl rfl <| F4 1 0 rfl rfl rfl rfl <| B4 1 0 rfl rfl rfl <| A7
   ·exact D2 <| G8 1 rfl rfl <| G4 (hgo1 _) rfl
  ·exact D2 <| G8 1 rfl rfl <| G4 (hgo1 _) rfl
 ·exact F4 0 0 rfl rfl rfl rfl <| B4 0 0 rfl rfl rfl <| A7
def s57 (x0 : Option Addr) (K : Value -> HP) : HP :=
 ifB (Option.isNone x0) (
 K (.bool false)) (
 A9 x0 fun a1 =>
 ld (Addr.add (a1.add 11) 7) (.lf .bool) fun v1 =>
 K (.bool (!v1)))
theorem c57 (x0 : Option Addr) {K : Value -> HP} {L : A4} (h : s57 x0 (HL.Ends K) L) : CallF PP 57 #[.pointer x0] L K := by
 refine CallF.of (args := [.pointer x0]) B5 B6 Tryz.func57 (e57 x0 _) (D3 ?_ h)
 unfold s57 t57
 refine H3 ?_ ?_
 ·exact C2 fun a1 ha1 => B8 fun v1 => A7
 ·exact A7
def s61 (x0 : Option Addr) (x1 : Int) (K : Value -> HP) : HP :=
 lp [] (()) fun z1 go1 =>
 A9 x0 fun a1 =>
 nw (.cells #[.i x1] 3) fun n1 =>
 cl PP 126 #[.pointer (some (a1.add 11)), .slice (some ⟨n1, 0, none⟩) 1 1] [.lf .bool] fun r1 =>
 ifB r1.1 (
 nw (.cells #[.i x1] 3) fun n2 =>
 cl PP 128 #[.pointer (some (a1.add 11)), .slice (some ⟨n2, 0, none⟩) 1 1] [.lf .bool] fun r3 =>
 ifB r3.1 (
 K (.i 0)) (
 K (.i 13))) (
 cl PP 127 #[.pointer x0, .i x1] [lI] fun r2 =>
 ifB (decide ((r2.1 : Int) = 0)) (
 go1 (())) (
 K (.i r2.1)))
theorem c61 (x0 : Option Addr) (x1 : Int) {K : Value -> HP} {L : A4} (h : s61 x0 x1 (HL.Ends K) L) : CallF PP 61 #[.pointer x0, .i x1] L K := by
 refine CallF.of (args := [.pointer x0, .i x1]) B5 B6 Tryz.func61 (e61 x0 x1 _) (D3 ?_ h)
 unfold s61 t61
 refine K6 fun go1' go1 hgo1 z1 => C2 fun a1 ha1 => Q1 fun n1 => B0 fun r1 => ?_
 refine H3 ?_ ?_
 ·refine B0 fun r2 => ?_
  refine E4 ?_ ?_
  ·exact A7
  ·exact G4 (hgo1 _) rfl
 ·refine B1 ha1 <| Q1 fun n2 => B0 fun r3 => ?_
  refine H3 ?_ ?_
  ·exact A7
  ·exact A7
def s64 (x0 : Option Addr) (x1 : Int) (x2 : SlV) (K : Value -> HP) : HP :=
 A9 x0 fun a1 =>
 ld (a1.add 4) (.lf .ptr) fun v1 =>
 ld (a1.add 2) (.lf .ptr) fun v2 =>
 nw (.cells #[.i x2.len] 3) fun n2 =>
 cl PP 134 #[.pointer x0, .slice (some ⟨n2, 0, none⟩) 1 1] [lI] fun r1 =>
 keep (D0 (a1.add 2) [.pointer v2]) <|
 cl PP 133 #[.pointer v2, .i r1.1] [.lf .bool] fun r2 =>
 A9 v1 fun a2 =>
 ld a2 (lI) fun v3 =>
 ld (a2.add 2) (lI) fun v4 =>
 ld (a2.add 1) (lI) fun v5 =>
 ld a1 (.lf .ptr) fun v6 =>
 ld a2 (lI) fun v7 =>
 ld (a2.add 1) (lI) fun v8 =>
 ld (a2.add 2) (lI) fun v9 =>
 cl PP 135 #[.pointer v6, .i v7, .i v8, .i v9, .i x1, .sv x2] [lI] fun r3 =>
 ifB (decide ((r3.1 : Int) = 0)) (
 ld (a2.add 3) (.lf .sl) fun v10 =>
 ld (a2.add 2) (lI) fun v11 =>
 apv PP 152 152 152 215 v10 1 [.i x1, .i v11, .i x2.len] fun s1 =>
 st (a2.add 3) [.slice s1.a s1.len s1.cap] <|
 ld (a2.add 2) (lI) fun v12 =>
 w64 (v12 + x2.len) fun i1 =>
 st (a2.add 2) [.i i1] <|
 K (.tuple #[.agg #[.i v3, .i v4, .i v5], .i 0])) (
 cl PP 136 #[.pointer x0, .i r3.1] [lI] fun r4 =>
 K (.tuple #[.agg #[.i v3, .i v4, .i v5], .i r4.1]))
theorem c64 (x0 : Option Addr) (x1 : Int) (x2 : SlV) {K : Value -> HP} {L : A4} (h : s64 x0 x1 x2 (HL.Ends K) L) : CallF PP 64 #[.pointer x0, .i x1, .sv x2] L K := by
 refine CallF.of (args := [.pointer x0, .i x1, .sv x2]) B5 B6 Tryz.func64 (e64 x0 x1 x2 _) (D3 ?_ h)
 unfold s64 t64
 refine D6 fun n1 => C2 fun a1 ha1 => B8 fun v1 => B1 ha1 <| B8 fun v2 => Q1 fun n2 => B0 fun r1 => O7 <| B0 fun r2 => C2 fun a2 ha2 => B1 ha2 <| B1 ha2 <| B8 fun v3 => B8 fun v4 => B8 fun v5 => D6 fun n3 => F4 0 0 rfl rfl rfl rfl <| B1 ha1 <| B1 ha2 <| B1 ha2 <| B1 ha2 <| B8 fun v6 => B8 fun v7 => B8 fun v8 => B8 fun v9 => B0 fun r3 => ?_
 refine E4 ?_ ?_
 ·exact B4 0 0 rfl rfl rfl <| B0 fun r4 => K5 0 0 rfl rfl rfl <| F4 1 0 rfl rfl rfl rfl <| B4 1 0 rfl rfl rfl <| A7
 ·exact B1 ha2 <| B1 ha2 <| B8 fun v10 => B8 fun v11 => D6 fun n4 => Z2 (v := _) 0 rfl fun s1 => B1 ha2 <| Z0 <| B1 ha2 <| B8 fun v12 => D2 <| B1 ha2 <| Z0 <| B4 1 0 rfl rfl rfl <| F4 2 0 rfl rfl rfl rfl <| B4 2 0 rfl rfl rfl <| A7
def s65 (x0 : SlV) (x1 : Int) (x2 : Int) (K : Value -> HP) : HP :=
 slc x0 x1 x2 x0.len 3 fun s1 =>
 ifB (decide ((x1 : Int) = x2)) (
 K (.sv x0)) (
 slc x0 0 x1 x0.cap 3 fun s2 =>
 slc x0 x2 x0.len x0.cap 3 fun s3 =>
 smW PP (Builtin.append_ #[55, 55] 55 #[.sv s2, .sv s3]) [.lf .sl] fun v1 =>
 slc v1.1 v1.1.len x0.len v1.1.cap 3 fun s4 =>
 smW PP (Builtin.clear_ #[55] 0 #[.sv s4]) [] fun v2 =>
 K (.sv v1.1))
theorem c65 (x0 : SlV) (x1 : Int) (x2 : Int) {K : Value -> HP} {L : A4} (h : s65 x0 x1 x2 (HL.Ends K) L) : CallF PP 65 #[.sv x0, .i x1, .i x2] L K := by
 refine CallF.of (args := [.sv x0, .i x1, .i x2]) B5 B6 Tryz.func65 (e65 x0 x1 x2 _) (D3 ?_ h)
 unfold s65 t65
 refine Au4 fun s1 => ?_
 refine E2 ?_ ?_
 ·exact A7
 ·exact Au4 fun s2 => Au4 fun s3 => Af4 fun v1 => Au4 fun s4 => Af4 fun v2 => A7
def s67 (x0 : Option Addr) (K : Value -> HP) : HP :=
 A9 x0 fun a1 =>
 ld a1 (.lf .ptr) fun v1 =>
 A9 v1 fun a2 =>
 ld (Addr.add (a2.add 19) 2) (.lf .ptr) fun v2 =>
 cl PP 68 #[.pointer v2] [lI] fun r1 =>
 K (.i r1.1)
theorem c67 (x0 : Option Addr) {K : Value -> HP} {L : A4} (h : s67 x0 (HL.Ends K) L) : CallF PP 67 #[.pointer x0] L K := by
 refine CallF.of (args := [.pointer x0]) B5 B6 Tryz.func67 (e67 x0 _) (D3 ?_ h)
 unfold s67 t67
 exact C2 fun a1 ha1 => B8 fun v1 => C2 fun a2 ha2 => B8 fun v2 => B0 fun r1 => A7
def s69 (x0 : Option Addr) (K : Value -> HP) : HP :=
 A9 x0 fun a1 =>
 ld a1 (.lf .ptr) fun v1 =>
 A9 v1 fun a2 =>
 ld (a2.add 19) (.lf .ptr) fun v2 =>
 cl PP 70 #[.pointer v2] [lI] fun r1 =>
 K (.i r1.1)
theorem c69 (x0 : Option Addr) {K : Value -> HP} {L : A4} (h : s69 x0 (HL.Ends K) L) : CallF PP 69 #[.pointer x0] L K := by
 refine CallF.of (args := [.pointer x0]) B5 B6 Tryz.func69 (e69 x0 _) (D3 ?_ h)
 unfold s69 t69
 exact C2 fun a1 ha1 => B8 fun v1 => C2 fun a2 ha2 => B8 fun v2 => B0 fun r1 => A7
def s71 (x0 : SlV) (K : Value -> HP) : HP :=
 ifB (Option.isNone x0.a) (
 K (.slice none 0 0)) (
 nw (.cells #[] 102) fun n1 =>
 smW PP (Builtin.append_ #[55, 55] 55 #[.slice (some ⟨n1, 0, none⟩) 0 0, .slice x0.a x0.len x0.cap]) [.lf .sl] fun v1 =>
 K (.slice v1.1.a v1.1.len v1.1.cap))
theorem c71 (x0 : SlV) {K : Value -> HP} {L : A4} (h : s71 x0 (HL.Ends K) L) : CallF PP 71 #[.slice x0.a x0.len x0.cap] L K := by
 refine CallF.of (args := [.slice x0.a x0.len x0.cap]) B5 B6 Tryz.func71 (e71 x0 _) (D3 ?_ h)
 unfold s71 t71
 refine C4 ?_ ?_
 ·exact A7
 ·exact Q1 fun n1 => Af4 fun v1 => A7
set_option maxRecDepth 100000
def s94 (x0 : ShV (.agg [.int .i64, .int .i64, .int .i64, .int .i64, .int .i64, .int .i64, .int .i64, .int .i64, .int .i64, .int .i64, .int .i64])) (K : Value -> HP) : HP :=
 cl PP 164 #[.i x0.2.2.2.2.2.2.1, .i 65536] [.lf .bool] fun r1 =>
 ifB r1.1 (
 cl PP 164 #[.i x0.2.2.2.2.2.2.2.1, .i 64] [.lf .bool] fun r2 =>
 cl PP 164 #[.i x0.2.2.2.2.2.2.2.2.1, .i 1048576] [.lf .bool] fun r3 =>
 ifB r3.1 (
 cl PP 164 #[.i x0.2.2.2.2.2.2.2.2.2.1, .i 1073741824] [.lf .bool] fun r4 =>
 ifB r2.1 (
 ifB r4.1 (
 w64 (x0.2.1 - 2) fun i1 =>
 w64 (3 * i1) fun i2 =>
 cl PP 62 #[.i x0.2.2.1] [lI] fun r5 =>
 K (.bool (decide ((i2 : Int) <= r5.1)))) (
 K (.bool false))) (
 K (.bool false))) (
 ifB r2.1 (
 K (.bool false)) (
 K (.bool false)))) (
 cl PP 164 #[.i x0.2.2.2.2.2.2.2.2.1, .i 1048576] [.lf .bool] fun r6 =>
 ifB r6.1 (
 cl PP 164 #[.i x0.2.2.2.2.2.2.2.2.2.1, .i 1073741824] [.lf .bool] fun r7 =>
 K (.bool false)) (
 K (.bool false)))
theorem c94 (x0 : ShV (.agg [.int .i64, .int .i64, .int .i64, .int .i64, .int .i64, .int .i64, .int .i64, .int .i64, .int .i64, .int .i64, .int .i64])) {K : Value -> HP} {L : A4} (h : s94 x0 (HL.Ends K) L) : CallF PP 94 #[.agg #[.i x0.1, .i x0.2.1, .i x0.2.2.1, .i x0.2.2.2.1, .i x0.2.2.2.2.1, .i x0.2.2.2.2.2.1, .i x0.2.2.2.2.2.2.1, .i x0.2.2.2.2.2.2.2.1, .i x0.2.2.2.2.2.2.2.2.1, .i x0.2.2.2.2.2.2.2.2.2.1, .i x0.2.2.2.2.2.2.2.2.2.2.1]] L K := by
 refine CallF.of (args := [.agg #[.i x0.1, .i x0.2.1, .i x0.2.2.1, .i x0.2.2.2.1, .i x0.2.2.2.2.1, .i x0.2.2.2.2.2.1, .i x0.2.2.2.2.2.2.1, .i x0.2.2.2.2.2.2.2.1, .i x0.2.2.2.2.2.2.2.2.1, .i x0.2.2.2.2.2.2.2.2.2.1, .i x0.2.2.2.2.2.2.2.2.2.2.1]]) B5 B6 Tryz.func94 (e94 x0 _) (D3 ?_ h)
 unfold s94 t94
 refine D6 fun n1 => B4 0 6 rfl rfl rfl <| B0 fun r1 => ?_
 refine C4 ?_ ?_
 ·refine B4 0 7 rfl rfl rfl <| B0 fun r2 => B4 0 8 rfl rfl rfl <| B0 fun r3 => ?_
  refine C4 ?_ ?_
  ·refine B4 0 9 rfl rfl rfl <| B0 fun r4 => ?_
   refine C4 ?_ ?_
   ·refine C4 ?_ ?_
    ·exact B4 0 1 rfl rfl rfl <| D2 <| D2 <| B4 0 2 rfl rfl rfl <| B0 fun r5 => K5 0 1 rfl rfl rfl <| A7
    ·exact A7
   ·exact A7
  ·refine C4 ?_ ?_
   ·exact A7
   ·exact A7
 ·refine B4 0 8 rfl rfl rfl <| B0 fun r6 => ?_
  refine C4 ?_ ?_
  ·exact B4 0 9 rfl rfl rfl <| B0 fun r7 => A7
  ·exact A7
def s95 (x0 : Option Addr) (K : Value -> HP) : HP :=
 nw (.cells #[.pointer x0] 29) fun n1 =>
 ld ⟨n1, 0, none⟩ (.lf .ptr) fun v1 =>
 ifB (Option.isNone v1) (
 K (.tuple #[.agg #[.slice none 0 0, .slice none 0 0, .i 0], .i 1])) (
 ld ⟨n1, 0, none⟩ (.lf .ptr) fun v2 =>
 cl PP 18 #[.pointer v2] [.lf .bool] fun r1 =>
 ifB r1.1 (
 K (.tuple #[.agg #[.slice none 0 0, .slice none 0 0, .i 0], .i 11])) (
 ld ⟨n1, 0, none⟩ (.lf .ptr) fun v3 =>
 cl PP 165 #[.pointer v3] [.lf .sl, .lf .sl, lI] fun r2 =>
 nw (.cells #[.slice none 0 0] 243) fun n3 =>
 st ⟨n3, 0, none⟩ [.slice r2.2.1.a r2.2.1.len r2.2.1.cap] <|
 ifB (decide ((r2.2.2.1 : Int) = 0)) (
 lp [lI, lI] (0, 0, ()) fun z1 go1 =>   -- , n4.2
 ifB (decide ((z1.1 : Int) < r2.1.len)) (
 elp r2.1.a r2.1.len z1.1 3 fun a1 =>
 ld a1 (.agg [.int .i64, .int .i64, .sl]) fun v4 =>
 w64 (z1.1 + 1) fun i1 =>
 go1 (i1, Ab4 z1.2.1 v4.2.1, ())) (
 nw (.cells #[.slice none 0 0] 144) fun n6 =>
 nw (.map #[] 0) fun n7 =>
 nw (.cells #[.map none] 246) fun n8 =>
 st ⟨n8, 0, none⟩ [.map (some n7)] <|
 cl PP 166 #[.sv r2.1, .i 2, .func (.func 167) #[] #[.pointer (some ⟨n1, 0, none⟩), .pointer (some ⟨n6, 0, none⟩), .pointer (some ⟨n8, 0, none⟩)]] [] fun r3 =>
 nw (.map #[] 0) fun n9 =>
 nw (.cells #[.map none] 249) fun n10 =>
 st ⟨n10, 0, none⟩ [.map (some n9)] <|
 cl PP 166 #[.sv r2.1, .i 3, .func (.func 168) #[] #[.pointer (some ⟨n3, 0, none⟩), .pointer (some ⟨n10, 0, none⟩)]] [] fun r4 =>
 ld ⟨n6, 0, none⟩ (.lf .sl) fun v5 =>
 lp [lI] (0, ()) fun z2 go2 =>
 ifB (decide ((z2.1 : Int) < v5.len)) (
 elp v5.a v5.len z2.1 4 fun a2 =>
 ld a2 (.agg [.str, .int .i64, .int .i64, .int .i64]) fun v6 =>
 ld ⟨n10, 0, none⟩ (.lf .map) fun v7 =>
 ld ⟨n8, 0, none⟩ (.lf .map) fun v8 =>
 smR PP (Instr.lookup 246 (.map v8) (.string v6.1) false) [.agg [.int .i64, .int .i64, .int .i64]] fun v9 =>
 smR PP (Instr.lookup 249 (.map v7) (.agg #[.i v9.1.1, .i v9.1.2.1, .i v9.1.2.2.1]) false) [.lf .bool] fun v10 =>
 ifB v10.1 (
 ld ⟨n8, 0, none⟩ (.lf .map) fun v11 =>
 smW PP (Builtin.delete_ #[246, 9] 0 #[.map v11, .string v6.1]) [] fun v12 =>
 w64 (z2.1 + 1) fun i2 =>
 go2 (i2, ())) (
 w64 (z2.1 + 1) fun i3 =>
 go2 (i3, ()))) (
 ld ⟨n6, 0, none⟩ (.lf .sl) fun v13 =>
 lp [lI, .lf .sl, lI] (0, ⟨none, 0, 0⟩, z1.2.1, ()) fun z3 go3 =>   -- , n4.1, n4.2
 ifB (decide ((z3.1 : Int) < v13.len)) (
 elp v13.a v13.len z3.1 4 fun a3 =>
 ld a3 (.agg [.str, .int .i64, .int .i64, .int .i64]) fun v14 =>
 ld ⟨n8, 0, none⟩ (.lf .map) fun v15 =>
 smR PP (Instr.lookup 246 (.map v15) (.string v14.1) true) [.agg [.int .i64, .int .i64, .int .i64], .lf .bool] fun v16 =>
 ifB v16.2.1 (
 smP PP (binOp .eql 102 (.agg #[.i v16.1.1, .i v16.1.2.1, .i v16.1.2.2.1]) (.agg #[.i v14.2.1, .i v14.2.2.1, .i v14.2.2.2.1])) (.lf .bool) fun v17 =>
 ifB v17 (
 apv PP 144 144 144 162 z3.2.1 1 [.string v14.1, .i v14.2.1, .i v14.2.2.1, .i v14.2.2.2.1] fun s1 =>
 w64 (z3.1 + 1) fun i4 =>
 go3 (i4, s1, z3.2.2.1, ())) (
 w64 (z3.1 + 1) fun i5 =>
 go3 (i5, z3.2.1, z3.2.2.1, ()))) (
 w64 (z3.1 + 1) fun i6 =>
 go3 (i6, z3.2.1, z3.2.2.1, ()))) (
 K (.tuple #[.agg #[.sv r2.1, .sv z3.2.1, .i z3.2.2.1], .i 0]))))) (
 K (.tuple #[.agg #[.slice none 0 0, .slice none 0 0, .i 0], .i r2.2.2.1]))))
theorem c95 (x0 : Option Addr) {K : Value -> HP} {L : A4} (h : s95 x0 (HL.Ends K) L) : CallF PP 95 #[.pointer x0] L K := by
 refine CallF.of (args := [.pointer x0]) B5 B6 Tryz.func95 (e95 x0 _) (D3 ?_ h)
 unfold s95 t95
 refine Q1 fun n1 => D6 fun n2 => B8 fun v1 => ?_
 refine C4 ?_ ?_
 ·exact F4 0 0 rfl rfl rfl rfl <| B4 0 0 rfl rfl rfl <| A7
 ·refine B8 fun v2 => B0 fun r1 => ?_
  refine C4 ?_ ?_
  ·exact F4 0 0 rfl rfl rfl rfl <| B4 0 0 rfl rfl rfl <| A7
  ·refine B8 fun v3 => B0 fun r2 => Q1 fun n3 => Z0 ?_
   refine E4 ?_ ?_
   ·exact F4 0 0 rfl rfl rfl rfl <| B4 0 0 rfl rfl rfl <| A7
   ·refine D6 fun n4 => F4 0 0 rfl rfl rfl rfl <| Cm1 (fun z1 => [(n4, .cells #[.sv r2.1, .slice none 0 0, .i z1.2.1] 146 (0, 0))]) (fun z1 => (z1.1, ())) rfl rfl fun go1' go1 hgo1 z1 => ?_
    refine C4 ?_ ?_
    ·exact H2 fun a1 ha1 => B8 fun v4 => D6 fun n5 => F4 0 0 rfl rfl rfl rfl <| B4 1 2 rfl rfl rfl <| B4 0 1 rfl rfl rfl <| F4 1 2 rfl rfl rfl rfl <| D2 <| G8 2 rfl rfl <| G8 2 rfl rfl <| G4 (hgo1 _) rfl
    ·refine Q1 fun n6 => Q1 fun n7 => Q1 fun n8 => Z0 <| B0 fun r3 => Q1 fun n9 => Q1 fun n10 => Z0 <| B0 fun r4 => B8 fun v5 => K6 fun go2' go2 hgo2 z2 => ?_
     refine C4 ?_ ?_
     ·refine H2 fun a2 ha2 => B8 fun v6 => D6 fun n11 => F4 0 0 rfl rfl rfl rfl <| B8 fun v7 => B8 fun v8 => B4 0 0 rfl rfl rfl <| Bc1 fun v9 => Bc1 fun v10 => ?_
      refine C4 ?_ ?_
      ·exact B8 fun v11 => B4 0 0 rfl rfl rfl <| Af4 fun v12 => D2 <| G8 2 rfl rfl <| G8 2 rfl rfl <| G4 (hgo2 _) rfl
      ·exact D2 <| G8 2 rfl rfl <| G8 2 rfl rfl <| G4 (hgo2 _) rfl
     ·refine B8 fun v13 => Cm1 (fun z3 => [(n4, .cells #[.sv r2.1, .sv z3.2.1, .i z3.2.2.1] 146 (0, 0))]) (fun z3 => (z3.1, ())) rfl rfl fun go3' go3 hgo3 z3 => ?_
      refine C4 ?_ ?_
      ·refine H2 fun a3 ha3 => B8 fun v14 => D6 fun n12 => F4 0 0 rfl rfl rfl rfl <| B8 fun v15 => B4 0 0 rfl rfl rfl <| Bc1 fun v16 => D6 fun n13 => F4 0 0 rfl rfl rfl rfl ?_
       refine C4 ?_ ?_
       ·refine B4 0 0 rfl rfl rfl <| B4 1 1 rfl rfl rfl <| B77 fun v17 => ?_
        refine C4 ?_ ?_
        ·exact B4 2 1 rfl rfl rfl <| B4 1 0 rfl rfl rfl <| D6 fun n14 => Z2 (v := _) 0 rfl fun s1 => F4 3 1 rfl rfl rfl rfl <| D2 <| G8 4 rfl rfl <| G8 4 rfl rfl <| G4 (hgo3 _) rfl
        ·exact D2 <| G8 3 rfl rfl <| G8 3 rfl rfl <| G4 (hgo3 _) rfl
       ·exact D2 <| G8 3 rfl rfl <| G8 3 rfl rfl <| G4 (hgo3 _) rfl
      ·exact B4 0 0 rfl rfl rfl <| F4 1 0 rfl rfl rfl rfl <| B4 1 0 rfl rfl rfl <| A7
def s100 (x0 : Option Addr) (K : Value -> HP) : HP :=
 cl PP 93 #[.pointer x0] [.agg [.int .i64, .int .i64, .int .i64, .int .i64]] fun r1 =>
 lp [.lf .sl, lI] (⟨none, 0, 0⟩, 0, ()) fun z1 go1 =>
 ifB (decide ((z1.2.1 : Int) < r1.1.1)) (
 cl PP 16 #[.pointer x0, .i z1.2.1] [lI] fun r2 =>
 cl PP 15 #[.pointer x0, .i z1.2.1] [.lf .bool] fun r3 =>
 cl PP 82 #[.pointer x0, .i z1.2.1] [lI] fun r4 =>
 apv PP 159 159 159 194 z1.1 1 [.i r2.1, .bool r3.1, .bool ((r4.1 : Int) != 0)] fun s1 =>
 w64 (z1.2.1 + 1) fun i1 =>
 go1 (s1, i1, ())) (
 K (.sv z1.1))
theorem c100 (x0 : Option Addr) {K : Value -> HP} {L : A4} (h : s100 x0 (HL.Ends K) L) : CallF PP 100 #[.pointer x0] L K := by
 refine CallF.of (args := [.pointer x0]) B5 B6 Tryz.func100 (e100 x0 _) (D3 ?_ h)
 unfold s100 t100
 refine B0 fun r1 => K6 fun go1' go1 hgo1 z1 => ?_
 refine C4 ?_ ?_
 ·exact B0 fun r2 => B0 fun r3 => B0 fun r4 => D6 fun n1 => Z2 (v := _) 0 rfl fun s1 => D2 <| G4 (hgo1 _) rfl
 ·exact A7
def s101 (x0 : Option Addr) (x1 : ByteArray) (x2 : ShV (.agg [.int .i64, .int .i64, .int .i64])) (K : Value -> HP) : HP :=
 A9 x0 fun a1 =>
 ld (Addr.add (a1.add 19) 2) (.lf .ptr) fun v1 =>
 cl PP 41 #[.pointer x0, .string x1] [.lf (.int .u64)] fun r1 =>
 keep (D0 (Addr.add (a1.add 19) 2) [.pointer v1]) <|
 cl PP 173 #[.pointer v1, .int .u64 r1.1, .agg #[.i x2.1, .i x2.2.1, .i x2.2.2.1]] [.agg [.int .i64, .int .i64, .int .i64], .lf .bool] fun r2 =>
 ifB r2.2.1 (
 ld (Addr.add (a1.add 11) 6) (.lf .sl) fun v2 =>
 apv PP 55 55 55 102 v2 1 [.i r2.1.1, .i r2.1.2.1, .i r2.1.2.2.1] fun s1 =>
 st (Addr.add (a1.add 11) 6) [.slice s1.a s1.len s1.cap] <|
 K (.tuple #[])) (
 K (.tuple #[]))
theorem c101 (x0 : Option Addr) (x1 : ByteArray) (x2 : ShV (.agg [.int .i64, .int .i64, .int .i64])) {K : Value -> HP} {L : A4} (h : s101 x0 x1 x2 (HL.Ends K) L) : CallF PP 101 #[.pointer x0, .string x1, .agg #[.i x2.1, .i x2.2.1, .i x2.2.2.1]] L K := by
 refine CallF.of (args := [.pointer x0, .string x1, .agg #[.i x2.1, .i x2.2.1, .i x2.2.2.1]]) B5 B6 Tryz.func101 (e101 x0 x1 x2 _) (D3 ?_ h)
 unfold s101 t101
 refine D6 fun n1 => C2 fun a1 ha1 => B8 fun v1 => B4 0 0 rfl rfl rfl <| B0 fun r1 => K5 0 0 rfl rfl rfl <| O7 <| B0 fun r2 => D6 fun n2 => F4 0 0 rfl rfl rfl rfl ?_
 refine C4 ?_ ?_
 ·exact B1 ha1 <| B8 fun v2 => B4 0 0 rfl rfl rfl <| D6 fun n3 => Z2 (v := _) 0 rfl fun s1 => B1 ha1 <| Z0 <| A7
 ·exact A7
def s118 (x0 : Option Addr) (x1 : ShV (.agg [.int .i64, .int .i64, .int .i64])) (K : Value -> HP) : HP :=
 cl PP 181 #[.pointer x0, .i x1.1, .i 0] [.lf .sl, lI] fun r1 =>
 ifB (decide ((r1.2.1 : Int) = 0)) (
 lp [.lf .sl, lI] (⟨none, 0, 0⟩, 1, ()) fun z1 go1 =>
 ifB (decide ((z1.1.len : Int) < z1.2.1)) (
 w64 (x1.2.1 + z1.1.len) fun i1 =>
 cl PP 181 #[.pointer x0, .i x1.1, .i i1] [.lf .sl, lI] fun r2 =>
 ifB (decide ((r2.2.1 : Int) = 0)) (
 cl PP 182 #[.sv r2.1] [.agg [.int .i64, .int .i64, .int .i64, .int .i64, .int .i64], .lf .sl, lI] fun r3 =>
 ifB (decide ((r3.2.2.1 : Int) = 0)) (
 jn (fun y1 : RsV [lI] =>
 apv PP 96 96 96 27 z1.1 1 [.sv r3.2.1] fun s1 =>
 go1 (s1, y1.1, ())) fun j1 =>
 ifB (decide ((z1.1.len : Int) = 0)) (
 ifB (decide ((r3.1.1 : Int) = 2)) (
 ifB (decide ((r3.1.2.1 : Int) = 0)) (
 ifB (decide ((r3.1.2.2.2.1 : Int) = x1.2.2.1)) (
 ifB (decide ((r3.1.2.2.2.2.1 : Int) = x1.2.1)) (
 j1 (r3.1.2.2.1, ())) (
 K (.tuple #[.string (ByteArray.mk #[]), .slice none 0 0, .i 8]))) (
 K (.tuple #[.string (ByteArray.mk #[]), .slice none 0 0, .i 8]))) (
 K (.tuple #[.string (ByteArray.mk #[]), .slice none 0 0, .i 8]))) (
 K (.tuple #[.string (ByteArray.mk #[]), .slice none 0 0, .i 8]))) (
 j1 (z1.2.1, ()))) (
 K (.tuple #[.string (ByteArray.mk #[]), .slice none 0 0, .i 8]))) (
 K (.tuple #[.string (ByteArray.mk #[]), .slice none 0 0, .i 8]))) (
 cl PP 183 #[.sv z1.1] [.lf .str, .lf .sl, lI] fun r4 =>
 K (.tuple #[.string r4.1, .sv r4.2.1, .i r4.2.2.1]))) (
 K (.tuple #[.string (ByteArray.mk #[]), .slice none 0 0, .i r1.2.1]))
theorem c118 (x0 : Option Addr) (x1 : ShV (.agg [.int .i64, .int .i64, .int .i64])) {K : Value -> HP} {L : A4} (h : s118 x0 x1 (HL.Ends K) L) : CallF PP 118 #[.pointer x0, .agg #[.i x1.1, .i x1.2.1, .i x1.2.2.1]] L K := by
 refine CallF.of (args := [.pointer x0, .agg #[.i x1.1, .i x1.2.1, .i x1.2.2.1]]) B5 B6 Tryz.func118 (e118 x0 x1 _) (D3 ?_ h)
 unfold s118 t118
 refine D6 fun n1 => B4 0 0 rfl rfl rfl <| B0 fun r1 => ?_
 refine E4 ?_ ?_
 ·exact A7
 ·refine K6 fun go1' go1 hgo1 z1 => ?_
  refine C4 ?_ ?_
  ·refine B4 0 0 rfl rfl rfl <| B4 0 1 rfl rfl rfl <| D2 <| B0 fun r2 => ?_
   refine E4 ?_ ?_
   ·exact A7
   ·refine B0 fun r3 => D6 fun n2 => F4 0 0 rfl rfl rfl rfl ?_
    refine E4 ?_ ?_
    ·exact A7
    ·refine Z1 (fun y1 => ?_) fun j1' j1 hj1 => ?_
     ·exact D6 fun n3 => Z2 (v := _) 0 rfl fun s1 => G8 2 rfl rfl <| G4 (hgo1 _) rfl
     ·refine E2 ?_ ?_
      ·refine B4 0 0 rfl rfl rfl ?_
       refine E4 ?_ ?_
       ·exact A7
       ·refine B4 0 1 rfl rfl rfl ?_
        refine E4 ?_ ?_
        ·exact A7
        ·refine B4 0 3 rfl rfl rfl <| B4 1 2 rfl rfl rfl ?_
         refine E4 ?_ ?_
         ·exact A7
         ·refine B4 0 4 rfl rfl rfl <| B4 1 1 rfl rfl rfl ?_
          refine E4 ?_ ?_
          ·exact A7
          ·exact B4 0 2 rfl rfl rfl <| G4 (hj1 _) rfl
      ·exact G4 (hj1 _) rfl
  ·exact B0 fun r4 => A7
set_option maxRecDepth 100000
def s126 (x0 : Option Addr) (x1 : SlV) (K : Value -> HP) : HP :=
 A9 x0 fun a1 =>
 ld (a1.add 4) (.lf .ptr) fun v1 =>
 ifB (Option.isNone v1) (
 K (.bool false)) (
 ld (a1.add 4) (.lf .ptr) fun v2 =>
 A9 v2 fun a2 =>
 ld (a2.add 2) (lI) fun v3 =>
 lp [lI, lI] (v3, 0, ()) fun z1 go1 =>
 ifB (decide ((z1.2.1 : Int) < x1.len)) (
 elp x1.a x1.len z1.2.1 1 fun a3 =>
 ld a3 (lI) fun v4 =>
 w64 (z1.1 + v4) fun i1 =>
 w64 (z1.2.1 + 1) fun i2 =>
 go1 (i1, i2, ())) (
 ld a1 (.lf .ptr) fun v5 =>
 cl PP 93 #[.pointer v5] [.agg [.int .i64, .int .i64, .int .i64, .int .i64]] fun r1 =>
 K (.bool (decide ((z1.1 : Int) < r1.1.2.1)))))
theorem c126 (x0 : Option Addr) (x1 : SlV) {K : Value -> HP} {L : A4} (h : s126 x0 x1 (HL.Ends K) L) : CallF PP 126 #[.pointer x0, .sv x1] L K := by
 refine CallF.of (args := [.pointer x0, .sv x1]) B5 B6 Tryz.func126 (e126 x0 x1 _) (D3 ?_ h)
 unfold s126 t126
 refine C2 fun a1 ha1 => B8 fun v1 => ?_
 refine C4 ?_ ?_
 ·exact A7
 ·refine B1 ha1 <| B8 fun v2 => C2 fun a2 ha2 => B8 fun v3 => K6 fun go1' go1 hgo1 z1 => ?_
  refine C4 ?_ ?_
  ·exact H2 fun a3 ha3 => B8 fun v4 => D2 <| D2 <| G4 (hgo1 _) rfl
  ·exact B1 ha1 <| B8 fun v5 => B0 fun r1 => A7
def s127 (x0 : Option Addr) (x1 : Int) (K : Value -> HP) : HP :=
 jn (fun y1 : RsV [lI] =>
 A9 x0 fun a2 =>
 nw (.cells #[.i x1, .i 1, .i y1.1] 3) fun n1 =>
 cl PP 128 #[.pointer (some (a2.add 11)), .slice (some ⟨n1, 0, none⟩) 3 3] [.lf .bool] fun r1 =>
 ifB r1.1 (
 ld (Addr.add (a2.add 11) 5) (lI) fun v2 =>
 ifB (decide ((v2 : Int) ≥ 1073741824)) (
 K (.i 7)) (
 ld (Addr.add (a2.add 11) 1) (.lf .ptr) fun v3 =>
 cl PP 185 #[.pointer v3] [lI] fun r2 =>
 ifB (decide ((r2.1 : Int) = 0)) (
 cl PP 186 #[.pointer (some (a2.add 11))] [.lf .ptr] fun r3 =>
 ifB (Option.isNone r3.1) (
 K (.i 7)) (
 cl PP 187 #[.pointer x0, .pointer r3.1, .i x1] [lI] fun r4 =>
 K (.i r4.1))) (
 cl PP 188 #[.pointer (some (a2.add 11))] [lI] fun r5 =>
 ifB (decide ((r5.1 : Int) = 0)) (
 ld (Addr.add (a2.add 11) 1) (.lf .ptr) fun v4 =>
 cl PP 189 #[.pointer v4] [lI, .lf .bool, .lf .bool] fun r6 =>
 jn (fun y2 : RsV [] =>
 cl PP 191 #[.pointer (some (a2.add 11)), .i r6.1] [lI] fun r9 =>
 ifB (decide ((r9.1 : Int) = 0)) (
 lp [] (()) fun z1 go1 =>
 ld (Addr.add (a2.add 11) 1) (.lf .ptr) fun v6 =>
 cl PP 185 #[.pointer v6] [lI] fun r10 =>
 ifB (decide ((r10.1 : Int) = 0)) (
 cl PP 186 #[.pointer (some (a2.add 11))] [.lf .ptr] fun r11 =>
 ifB (Option.isNone r11.1) (
 K (.i 0)) (
 cl PP 187 #[.pointer x0, .pointer r11.1, .i x1] [lI] fun r12 =>
 ifB (decide ((r12.1 : Int) = 0)) (
 go1 (())) (
 K (.i r12.1)))) (
 K (.i 0))) (
 K (.i r9.1))) fun j2 =>
 ifB r6.2.1 (
 cl PP 190 #[.pointer (some (a2.add 11)), .i r6.1] [lI] fun r7 =>
 ifB (decide ((r7.1 : Int) = 0)) (
 ld (a2.add 11) (.lf .ptr) fun v5 =>
 cl PP 15 #[.pointer v5, .i r6.1] [.lf .bool] fun r8 =>
 ifB r8.1 (
 K (.i r7.1)) (
 j2 (()))) (
 K (.i r7.1))) (
 j2 (()))) (
 K (.i r5.1))))) (
 K (.i 13))) fun j1 =>
 A9 x0 fun a1 =>
 ld (Addr.add (a1.add 11) 4) (.lf .ptr) fun v1 =>
 ifB (Option.isNone v1) (
 j1 (0, ())) (
 j1 (1, ()))
theorem c127 (x0 : Option Addr) (x1 : Int) {K : Value -> HP} {L : A4} (h : s127 x0 x1 (HL.Ends K) L) : CallF PP 127 #[.pointer x0, .i x1] L K := by
 refine CallF.of (args := [.pointer x0, .i x1]) B5 B6 Tryz.func127 (e127 x0 x1 _) (D3 ?_ h)
 unfold s127 t127
 refine Z1 (fun y1 => ?_) fun j1' j1 hj1 => ?_
 ·refine C2 fun a2 ha2 => Q1 fun n1 => B0 fun r1 => ?_
  refine H3 ?_ ?_
  ·exact A7
  ·refine B1 ha2 <| B8 fun v2 => ?_
   refine C4 ?_ ?_
   ·exact A7
   ·refine B1 ha2 <| B8 fun v3 => B0 fun r2 => ?_
    refine E2 ?_ ?_
    ·refine B1 ha2 <| B0 fun r3 => ?_
     refine C4 ?_ ?_
     ·exact A7
     ·exact B0 fun r4 => A7
    ·refine B1 ha2 <| B0 fun r5 => ?_
     refine E4 ?_ ?_
     ·exact A7
     ·refine B1 ha2 <| B8 fun v4 => B0 fun r6 => ?_
      refine Z1 (fun y2 => ?_) fun j2' j2 hj2 => ?_
      ·refine B1 ha2 <| B0 fun r9 => ?_
       refine E4 ?_ ?_
       ·exact A7
       ·refine K6 fun go1' go1 hgo1 z1 => B1 ha2 <| B8 fun v6 => B0 fun r10 => ?_
        refine E2 ?_ ?_
        ·refine B1 ha2 <| B0 fun r11 => ?_
         refine C4 ?_ ?_
         ·exact A7
         ·refine B0 fun r12 => ?_
          refine E4 ?_ ?_
          ·exact A7
          ·exact G4 (hgo1 _) rfl
        ·exact A7
      ·refine C4 ?_ ?_
       ·refine B1 ha2 <| B0 fun r7 => ?_
        refine E4 ?_ ?_
        ·exact A7
        ·refine B1 ha2 <| B8 fun v5 => B0 fun r8 => ?_
         refine C4 ?_ ?_
         ·exact A7
         ·exact G4 (hj2 _) rfl
       ·exact G4 (hj2 _) rfl
 ·refine C2 fun a1 ha1 => B8 fun v1 => ?_
  refine H3 ?_ ?_
  ·exact G4 (hj1 _) rfl
  ·exact G4 (hj1 _) rfl
def s128 (x0 : Option Addr) (x1 : SlV) (K : Value -> HP) : HP :=
 A9 x0 fun a1 =>
 ld (a1.add 2) (.lf .ptr) fun v1 =>
 cl PP 44 #[.pointer v1] [lI] fun r1 =>
 cl PP 134 #[.pointer x0, .sv x1] [lI] fun r2 =>
 K (.bool (decide ((r1.1 : Int) ≥ r2.1)))
theorem c128 (x0 : Option Addr) (x1 : SlV) {K : Value -> HP} {L : A4} (h : s128 x0 x1 (HL.Ends K) L) : CallF PP 128 #[.pointer x0, .sv x1] L K := by
 refine CallF.of (args := [.pointer x0, .sv x1]) B5 B6 Tryz.func128 (e128 x0 x1 _) (D3 ?_ h)
 unfold s128 t128
 exact C2 fun a1 ha1 => B8 fun v1 => B0 fun r1 => B0 fun r2 => A7
def s134 (x0 : Option Addr) (x1 : SlV) (K : Value -> HP) : HP :=
 lp [lI, lI] (0, 0, ()) fun z1 go1 =>
 ifB (decide ((z1.2.1 : Int) < x1.len)) (
 elp x1.a x1.len z1.2.1 1 fun a1 =>
 ld a1 (lI) fun v1 =>
 w64 (z1.1 + v1) fun i1 =>
 w64 (z1.2.1 + 1) fun i2 =>
 go1 (i1, i2, ())) (
 A9 x0 fun a2 =>
 ld a2 (.lf .ptr) fun v2 =>
 cl PP 93 #[.pointer v2] [.agg [.int .i64, .int .i64, .int .i64, .int .i64]] fun r1 =>
 w64 (z1.1 * r1.1.2.2.1) fun i3 =>
 K (.i i3))
theorem c134 (x0 : Option Addr) (x1 : SlV) {K : Value -> HP} {L : A4} (h : s134 x0 x1 (HL.Ends K) L) : CallF PP 134 #[.pointer x0, .sv x1] L K := by
 refine CallF.of (args := [.pointer x0, .sv x1]) B5 B6 Tryz.func134 (e134 x0 x1 _) (D3 ?_ h)
 unfold s134 t134
 refine K6 fun go1' go1 hgo1 z1 => ?_
 refine C4 ?_ ?_
 ·exact H2 fun a1 ha1 => B8 fun v1 => D2 <| D2 <| G4 (hgo1 _) rfl
 ·exact C2 fun a2 ha2 => B8 fun v2 => B0 fun r1 => D2 <| A7
def s135 (x0 : Option Addr) (x1 : Int) (x2 : Int) (x3 : Int) (x4 : Int) (x5 : SlV) (K : Value -> HP) : HP :=
 ifB (decide ((x5.len : Int) = 0)) (
 K (.i 2)) (
 lp [lI, lI, lI, lI, lI, lI] (0, x4, 0, x5.len, x2, x3, ()) fun z1 go1 =>   -- , n1.0, n1.1, n1.2, n1.3, n1.4
 ifB (decide ((z1.1 : Int) < x5.len)) (
 elp x5.a x5.len z1.1 1 fun a1 =>
 ld a1 (.lf .sl) fun v1 =>
 cl PP 193 #[.pointer x0, .i x1, .agg #[.i z1.2.1, .i z1.1, .i z1.2.2.2.1, .i z1.2.2.2.2.1, .i z1.2.2.2.2.2.1], .sv v1] [lI] fun r1 =>
 ifB (decide ((r1.1 : Int) = 0)) (
 w64 (z1.2.2.2.2.2.1 + 1) fun i1 =>
 w64 (z1.1 + 1) fun i2 =>
 go1 (i2, z1.2.1, z1.1, z1.2.2.2.1, z1.2.2.2.2.1, i1, ())) (
 K (.i r1.1))) (
 K (.i 0)))
theorem c135 (x0 : Option Addr) (x1 : Int) (x2 : Int) (x3 : Int) (x4 : Int) (x5 : SlV) {K : Value -> HP} {L : A4} (h : s135 x0 x1 x2 x3 x4 x5 (HL.Ends K) L) : CallF PP 135 #[.pointer x0, .i x1, .i x2, .i x3, .i x4, .sv x5] L K := by
 refine CallF.of (args := [.pointer x0, .i x1, .i x2, .i x3, .i x4, .sv x5]) B5 B6 Tryz.func135 (e135 x0 x1 x2 x3 x4 x5 _) (D3 ?_ h)
 unfold s135 t135
 refine E2 ?_ ?_
 ·exact A7
 ·refine D6 fun n1 => F4 0 0 rfl rfl rfl rfl <| Cm1 (fun z1 => [(n1, .cells #[.i z1.2.1, .i z1.2.2.1, .i z1.2.2.2.1, .i z1.2.2.2.2.1, .i z1.2.2.2.2.2.1] 272 (0, 0))]) (fun z1 => (z1.1, ())) rfl rfl fun go1' go1 hgo1 z1 => ?_
  refine C4 ?_ ?_
  ·refine H2 fun a1 ha1 => B8 fun v1 => F4 0 1 rfl rfl rfl rfl <| B4 0 0 rfl rfl rfl <| B0 fun r1 => ?_
   refine E4 ?_ ?_
   ·exact A7
   ·exact B4 0 4 rfl rfl rfl <| D2 <| F4 0 4 rfl rfl rfl rfl <| D2 <| G4 (hgo1 _) rfl
  ·exact A7
def s136 (x0 : Option Addr) (x1 : Int) (K : Value -> HP) : HP :=
 A9 x0 fun a1 =>
 ld (a1.add 7) (.lf .bool) fun v1 =>
 ifB v1 (
 st (a1.add 7) [.bool true] <|
 K (.i x1)) (
 st (a1.add 7) [.bool ((x1 : Int) == 11)] <|
 K (.i x1))
theorem c136 (x0 : Option Addr) (x1 : Int) {K : Value -> HP} {L : A4} (h : s136 x0 x1 (HL.Ends K) L) : CallF PP 136 #[.pointer x0, .i x1] L K := by
 refine CallF.of (args := [.pointer x0, .i x1]) B5 B6 Tryz.func136 (e136 x0 x1 _) (D3 ?_ h)
 unfold s136 t136
 refine C2 fun a1 ha1 => B8 fun v1 => ?_
 refine C4 ?_ ?_
 ·exact B1 ha1 <| Z0 <| A7
 ·exact B1 ha1 <| Z0 <| A7
set_option maxRecDepth 100000
def s164 (x0 : Int) (x1 : Int) (K : Value -> HP) : HP :=
 ifB (decide ((x0 : Int) ≥ 0)) (
 K (.bool (decide ((x0 : Int) <= x1)))) (
 K (.bool false))
theorem c164 (x0 : Int) (x1 : Int) {K : Value -> HP} {L : A4} (h : s164 x0 x1 (HL.Ends K) L) : CallF PP 164 #[.i x0, .i x1] L K := by
 refine CallF.of (args := [.i x0, .i x1]) B5 B6 Tryz.func164 (e164 x0 x1 _) (D3 ?_ h)
 unfold s164 t164
 refine C4 ?_ ?_
 ·exact A7
 ·exact A7
def s165 (x0 : Option Addr) (K : Value -> HP) : HP :=
 cl PP 93 #[.pointer x0] [.agg [.int .i64, .int .i64, .int .i64, .int .i64]] fun r1 =>
 lp [.lf .sl, .lf .sl, lI] (⟨none, 0, 0⟩, ⟨none, 0, 0⟩, 0, ()) fun z1 go1 =>
 ifB (decide ((z1.2.2.1 : Int) < r1.1.1)) (
 cl PP 223 #[.pointer x0, .i z1.2.2.1] [.lf .sl, lI] fun r2 =>
 ifB (decide ((r2.2.1 : Int) = 0)) (
 apv PP 243 243 243 96 z1.2.1 1 [.sv r2.1] fun s1 =>
 cl PP 224 #[.sv r2.1] [.agg [.int .i64, .bool, .sl], .lf .bool] fun r3 =>
 ifB r3.2.1 (
 apv PP 143 143 143 154 z1.1 1 [.i z1.2.2.1, .i r3.1.1, .sv r3.1.2.2.1] fun s2 =>
 w64 (z1.2.2.1 + 1) fun i1 =>
 go1 (s2, s1, i1, ())) (
 w64 (z1.2.2.1 + 1) fun i2 =>
 go1 (z1.1, s1, i2, ()))) (
 K (.tuple #[.slice none 0 0, .slice none 0 0, .i r2.2.1]))) (
 cl PP 225 #[.sv z1.1, .func (.func 226) #[] #[]] [] fun r4 =>
 K (.tuple #[.sv z1.1, .sv z1.2.1, .i 0]))
theorem c165 (x0 : Option Addr) {K : Value -> HP} {L : A4} (h : s165 x0 (HL.Ends K) L) : CallF PP 165 #[.pointer x0] L K := by
 refine CallF.of (args := [.pointer x0]) B5 B6 Tryz.func165 (e165 x0 _) (D3 ?_ h)
 unfold s165 t165
 refine B0 fun r1 => K6 fun go1' go1 hgo1 z1 => ?_
 refine C4 ?_ ?_
 ·refine B0 fun r2 => ?_
  refine E4 ?_ ?_
  ·exact A7
  ·refine D6 fun n1 => Z2 (v := _) 0 rfl fun s1 => B0 fun r3 => D6 fun n2 => F4 0 0 rfl rfl rfl rfl ?_
   refine C4 ?_ ?_
   ·exact B4 0 0 rfl rfl rfl <| B4 0 2 rfl rfl rfl <| D6 fun n3 => Z2 (v := _) 0 rfl fun s2 => D2 <| G4 (hgo1 _) rfl
   ·exact D2 <| G4 (hgo1 _) rfl
 ·exact B0 fun r4 => A7
def s166 (x0 : SlV) (x1 : Int) (x2 : FnV) (K : Value -> HP) : HP :=
 lp [lI] (0, ()) fun z1 go1 =>
 ifB (decide ((z1.1 : Int) < x0.len)) (
 elp x0.a x0.len z1.1 3 fun a1 =>
 ld a1 (.agg [.int .i64, .int .i64, .sl]) fun v1 =>
 lp [lI] (0, ()) fun z2 go2 =>
 ifB (decide ((z2.1 : Int) < v1.2.2.1.len)) (
 elp v1.2.2.1.a v1.2.2.1.len z2.1 3 fun a2 =>
 ld a2 (.agg [.int .i64, .int .i64, .int .i64]) fun v2 =>
 ifB (decide ((v2.1 : Int) = x1)) (
 clv PP x2.fn (x2.first ++ #[.agg #[.i v1.1, .i v1.2.1, .slice v1.2.2.1.a v1.2.2.1.len v1.2.2.1.cap], .agg #[.i v2.1, .i v2.2.1, .i v2.2.2.1]]) x2.captured [] fun r1 =>
 w64 (z2.1 + 1) fun i1 =>
 go2 (i1, ())) (
 w64 (z2.1 + 1) fun i2 =>
 go2 (i2, ()))) (
 w64 (z1.1 + 1) fun i3 =>
 go1 (i3, ()))) (
 K (.tuple #[]))
theorem c166 (x0 : SlV) (x1 : Int) (x2 : FnV) {K : Value -> HP} {L : A4} (h : s166 x0 x1 x2 (HL.Ends K) L) : CallF PP 166 #[.slice x0.a x0.len x0.cap, .i x1, .func x2.fn x2.first x2.captured] L K := by
 refine CallF.of (args := [.slice x0.a x0.len x0.cap, .i x1, .func x2.fn x2.first x2.captured]) B5 B6 Tryz.func166 (e166 x0 x1 x2 _) (D3 ?_ h)
 unfold s166 t166
 refine K6 fun go1' go1 hgo1 z1 => ?_
 refine C4 ?_ ?_
 ·refine H2 fun a1 ha1 => B8 fun v1 => D6 fun n1 => F4 0 0 rfl rfl rfl rfl <| B4 0 2 rfl rfl rfl <| K6 fun go2' go2 hgo2 z2 => ?_
  refine C4 ?_ ?_
  ·refine H2 fun a2 ha2 => B8 fun v2 => D6 fun n2 => F4 0 0 rfl rfl rfl rfl <| B4 0 0 rfl rfl rfl ?_
   refine E2 ?_ ?_
   ·exact B4 1 0 rfl rfl rfl <| B4 0 0 rfl rfl rfl <| Az5 fun r1 => D2 <| G8 1 rfl rfl <| G4 (hgo2 _) rfl
   ·exact D2 <| G8 1 rfl rfl <| G4 (hgo2 _) rfl
  ·exact D2 <| G4 (hgo1 _) rfl
 ·exact A7
def s167 (x0 : ShV (.agg [.int .i64, .int .i64, .sl])) (x1 : ShV (.agg [.int .i64, .int .i64, .int .i64])) (x2 : Option Addr) (x3 : Option Addr) (x4 : Option Addr) (K : Value -> HP) : HP :=
 A9 x2 fun a1 =>
 ld a1 (.lf .ptr) fun v1 =>
 cl PP 118 #[.pointer v1, .agg #[.i x0.1, .i x1.2.1, .i x0.2.1]] [.lf .str, .lf .sl, lI] fun r1 =>
 ifB (decide ((r1.2.2.1 : Int) = 0)) (
 A9 x3 fun a2 =>
 ld a2 (.lf .sl) fun v2 =>
 apv PP 144 144 144 162 v2 1 [.string r1.1, .i x0.1, .i x1.2.1, .i x0.2.1] fun s1 =>
 st a2 [.slice s1.a s1.len s1.cap] <|
 A9 x4 fun a3 =>
 ld a3 (.lf .map) fun v3 =>
 smU PP (Instr.mapUpdate 246 (.map v3) (.string r1.1) (.agg #[.i x0.1, .i x1.2.1, .i x0.2.1])) <|
 K (.tuple #[])) (
 K (.tuple #[]))
theorem c167 (x0 : ShV (.agg [.int .i64, .int .i64, .sl])) (x1 : ShV (.agg [.int .i64, .int .i64, .int .i64])) (x2 : Option Addr) (x3 : Option Addr) (x4 : Option Addr) {K : Value -> HP} {L : A4} (h : s167 x0 x1 x2 x3 x4 (HL.Ends K) L) : CallF PP 167 #[.agg #[.i x0.1, .i x0.2.1, .sv x0.2.2.1], .agg #[.i x1.1, .i x1.2.1, .i x1.2.2.1], .pointer x2, .pointer x3, .pointer x4] L K := by
 refine CallF.of (args := [.agg #[.i x0.1, .i x0.2.1, .sv x0.2.2.1], .agg #[.i x1.1, .i x1.2.1, .i x1.2.2.1], .pointer x2, .pointer x3, .pointer x4]) B5 B6 Tryz.func167 (e167 x0 x1 x2 x3 x4 _) (D3 ?_ h)
 unfold s167 t167
 refine D6 fun n1 => D6 fun n2 => B4 1 0 rfl rfl rfl <| B4 0 1 rfl rfl rfl <| B4 1 1 rfl rfl rfl <| D6 fun n3 => F4 0 0 rfl rfl rfl rfl <| C2 fun a1 ha1 => B8 fun v1 => B4 0 0 rfl rfl rfl <| B0 fun r1 => ?_
 refine E2 ?_ ?_
 ·exact C2 fun a2 ha2 => B8 fun v2 => B4 0 0 rfl rfl rfl <| D6 fun n4 => Z2 (v := _) 0 rfl fun s1 => B1 ha2 <| Z0 <| C2 fun a3 ha3 => B8 fun v3 => B4 1 0 rfl rfl rfl <| Bp1 <| A7
 ·exact A7
def s168 (x0 : ShV (.agg [.int .i64, .int .i64, .sl])) (x1 : ShV (.agg [.int .i64, .int .i64, .int .i64])) (x2 : Option Addr) (x3 : Option Addr) (K : Value -> HP) : HP :=
 A9 x2 fun a1 =>
 ld a1 (.lf .sl) fun v1 =>
 elp v1.a v1.len x0.1 1 fun a2 =>
 ld a2 (.lf .sl) fun v2 =>
 cl PP 169 #[.sv v2, .agg #[.i x1.1, .i x1.2.1, .i x1.2.2.1]] [.lf .sl] fun r1 =>
 lp [lI] (0, ()) fun z1 go1 =>
 ifB (decide ((z1.1 : Int) < r1.1.len)) (
 elp r1.1.a r1.1.len z1.1 1 fun a3 =>
 ld a3 (.lf .sl) fun v3 =>
 cl PP 170 #[.sv v3] [.lf .sl, lI] fun r2 =>
 lp [lI] (0, ()) fun z2 go2 =>
 ifB (decide ((z2.1 : Int) < r2.1.len)) (
 elp r2.1.a r2.1.len z2.1 3 fun a4 =>
 ld a4 (.agg [.int .i64, .int .i64, .int .i64]) fun v4 =>
 A9 x3 fun a5 =>
 ld a5 (.lf .map) fun v5 =>
 smU PP (Instr.mapUpdate 249 (.map v5) (.agg #[.i v4.1, .i v4.2.1, .i v4.2.2.1]) (.bool true)) <|
 w64 (z2.1 + 1) fun i1 =>
 go2 (i1, ())) (
 w64 (z1.1 + 1) fun i2 =>
 go1 (i2, ()))) (
 K (.tuple #[]))
theorem c168 (x0 : ShV (.agg [.int .i64, .int .i64, .sl])) (x1 : ShV (.agg [.int .i64, .int .i64, .int .i64])) (x2 : Option Addr) (x3 : Option Addr) {K : Value -> HP} {L : A4} (h : s168 x0 x1 x2 x3 (HL.Ends K) L) : CallF PP 168 #[.agg #[.i x0.1, .i x0.2.1, .sv x0.2.2.1], .agg #[.i x1.1, .i x1.2.1, .i x1.2.2.1], .pointer x2, .pointer x3] L K := by
 refine CallF.of (args := [.agg #[.i x0.1, .i x0.2.1, .sv x0.2.2.1], .agg #[.i x1.1, .i x1.2.1, .i x1.2.2.1], .pointer x2, .pointer x3]) B5 B6 Tryz.func168 (e168 x0 x1 x2 x3 _) (D3 ?_ h)
 unfold s168 t168
 refine D6 fun n1 => D6 fun n2 => C2 fun a1 ha1 => B8 fun v1 => B4 1 0 rfl rfl rfl <| H2 fun a2 ha2 => B8 fun v2 => B4 0 0 rfl rfl rfl <| B0 fun r1 => K6 fun go1' go1 hgo1 z1 => ?_
 refine C4 ?_ ?_
 ·refine H2 fun a3 ha3 => B8 fun v3 => B0 fun r2 => K6 fun go2' go2 hgo2 z2 => ?_
  refine C4 ?_ ?_
  ·exact H2 fun a4 ha4 => B8 fun v4 => D6 fun n3 => F4 0 0 rfl rfl rfl rfl <| C2 fun a5 ha5 => B8 fun v5 => B4 0 0 rfl rfl rfl <| Bp1 <| D2 <| G8 2 rfl rfl <| G8 2 rfl rfl <| G4 (hgo2 _) rfl
  ·exact D2 <| G4 (hgo1 _) rfl
 ·exact A7
def s169 (x0 : SlV) (x1 : ShV (.agg [.int .i64, .int .i64, .int .i64])) (K : Value -> HP) : HP :=
 lp [.lf .sl, lI] (⟨none, 0, 0⟩, 0, ()) fun z1 go1 =>
 ifB (decide ((z1.2.1 : Int) < x1.2.2.1)) (
 ifB (decide ((x1.2.1 : Int) < 0)) (
 K (.slice none 0 0)) (
 w64 (x0.len - z1.2.1) fun i1 =>
 ifB (decide ((x1.2.1 : Int) ≥ i1)) (
 K (.slice none 0 0)) (
 w64 (x1.2.1 + z1.2.1) fun i2 =>
 elp x0.a x0.len i2 1 fun a1 =>
 ld a1 (.lf .sl) fun v1 =>
 cl PP 182 #[.sv v1] [.agg [.int .i64, .int .i64, .int .i64, .int .i64, .int .i64], .lf .sl, lI] fun r1 =>
 ifB (decide ((r1.2.2.1 : Int) = 0)) (
 apv PP 96 96 96 27 z1.1 1 [.sv r1.2.1] fun s1 =>
 w64 (z1.2.1 + 1) fun i3 =>
 go1 (s1, i3, ())) (
 K (.slice none 0 0))))) (
 K (.sv z1.1))
theorem c169 (x0 : SlV) (x1 : ShV (.agg [.int .i64, .int .i64, .int .i64])) {K : Value -> HP} {L : A4} (h : s169 x0 x1 (HL.Ends K) L) : CallF PP 169 #[.sv x0, .agg #[.i x1.1, .i x1.2.1, .i x1.2.2.1]] L K := by
 refine CallF.of (args := [.sv x0, .agg #[.i x1.1, .i x1.2.1, .i x1.2.2.1]]) B5 B6 Tryz.func169 (e169 x0 x1 _) (D3 ?_ h)
 unfold s169 t169
 refine D6 fun n1 => K6 fun go1' go1 hgo1 z1 => B4 0 2 rfl rfl rfl ?_
 refine C4 ?_ ?_
 ·refine B4 0 1 rfl rfl rfl ?_
  refine C4 ?_ ?_
  ·exact A7
  ·refine B4 0 1 rfl rfl rfl <| D2 ?_
   refine C4 ?_ ?_
   ·exact A7
   ·refine B4 0 1 rfl rfl rfl <| D2 <| H2 fun a1 ha1 => B8 fun v1 => B0 fun r1 => D6 fun n2 => F4 0 0 rfl rfl rfl rfl ?_
    refine E4 ?_ ?_
    ·exact A7
    ·exact D6 fun n3 => Z2 (v := _) 0 rfl fun s1 => D2 <| G8 2 rfl rfl <| G4 (hgo1 _) rfl
 ·exact A7
def s186 (x0 : Option Addr) (K : Value -> HP) : HP :=
 A9 x0 fun a1 =>
 ld (a1.add 1) (.lf .ptr) fun v1 =>
 cl PP 245 #[.pointer v1] [lI, .lf .bool] fun r1 =>
 jn (fun y1 : RsV [] =>
 ld (a1.add 3) (.lf .map) fun v5 =>
 smR PP (Instr.lookup 79 (.map v5) (.i r1.1) false) [.lf .ptr] fun v6 =>
 K (.pointer v6.1)) fun j1 =>
 ifB r1.2.1 (
 ld (a1.add 4) (.lf .ptr) fun v2 =>
 ifB (Option.isNone v2) (
 j1 (())) (
 ld (a1.add 4) (.lf .ptr) fun v3 =>
 A9 v3 fun a2 =>
 ld a2 (lI) fun v4 =>
 ifB (decide ((v4 : Int) = r1.1)) (
 K (.pointer none)) (
 j1 (())))) (
 K (.pointer none))
theorem c186 (x0 : Option Addr) {K : Value -> HP} {L : A4} (h : s186 x0 (HL.Ends K) L) : CallF PP 186 #[.pointer x0] L K := by
 refine CallF.of (args := [.pointer x0]) B5 B6 Tryz.func186 (e186 x0 _) (D3 ?_ h)
 unfold s186 t186
 refine C2 fun a1 ha1 => B8 fun v1 => B0 fun r1 => ?_
 refine Z1 (fun y1 => ?_) fun j1' j1 hj1 => ?_
 ·exact B1 ha1 <| B8 fun v5 => Bc1 fun v6 => A7
 ·refine H3 ?_ ?_
  ·exact A7
  ·refine B1 ha1 <| B8 fun v2 => ?_
   refine H3 ?_ ?_
   ·refine B1 ha1 <| B8 fun v3 => C2 fun a2 ha2 => B8 fun v4 => ?_
    refine E2 ?_ ?_
    ·exact A7
    ·exact G4 (hj1 _) rfl
   ·exact G4 (hj1 _) rfl
def s187 (x0 : Option Addr) (x1 : Option Addr) (x2 : Int) (K : Value -> HP) : HP :=
 nw (.cells #[.pointer x1] 80) fun n1 =>
 ld ⟨n1, 0, none⟩ (.lf .ptr) fun v1 =>
 A9 v1 fun a1 =>
 ld (a1.add 3) (.lf .sl) fun v2 =>
 lp [lI] (0, ()) fun z1 go1 =>
 ifB (decide ((z1.1 : Int) < v2.len)) (
 elp v2.a v2.len z1.1 3 fun a2 =>
 ld a2 (.agg [.int .i64, .int .i64, .int .i64]) fun v3 =>
 ifB (decide ((v3.1 : Int) = 2)) (
 ld ⟨n1, 0, none⟩ (.lf .ptr) fun v4 =>
 A9 v4 fun a3 =>
 ld a3 (lI) fun v5 =>
 ld ⟨n1, 0, none⟩ (.lf .ptr) fun v6 =>
 A9 v6 fun a4 =>
 ld (a4.add 1) (lI) fun v7 =>
 cl PP 246 #[.pointer x0, .agg #[.i v5, .i v3.2.1, .i v7], .agg #[.i v3.1, .i v3.2.1, .i v3.2.2.1], .i x2] [lI] fun r1 =>
 ifB (decide ((r1.1 : Int) = 0)) (
 w64 (z1.1 + 1) fun i2 =>
 go1 (i2, ())) (
 K (.i r1.1))) (
 w64 (z1.1 + 1) fun i1 =>
 go1 (i1, ()))) (
 A9 x0 fun a5 =>
 ld (Addr.add (a5.add 11) 6) (.lf .sl) fun v8 =>
 cl PP 247 #[.sv v8, .func (.func 248) #[] #[.pointer (some ⟨n1, 0, none⟩)]] [.lf .sl] fun r2 =>
 st (Addr.add (a5.add 11) 6) [.slice r2.1.a r2.1.len r2.1.cap] <|
 ld ⟨n1, 0, none⟩ (.lf .ptr) fun v9 =>
 A9 v9 fun a6 =>
 ld a6 (lI) fun v10 =>
 cl PP 190 #[.pointer (some (a5.add 11)), .i v10] [lI] fun r3 =>
 K (.i r3.1))
theorem c187 (x0 : Option Addr) (x1 : Option Addr) (x2 : Int) {K : Value -> HP} {L : A4} (h : s187 x0 x1 x2 (HL.Ends K) L) : CallF PP 187 #[.pointer x0, .pointer x1, .i x2] L K := by
 refine CallF.of (args := [.pointer x0, .pointer x1, .i x2]) B5 B6 Tryz.func187 (e187 x0 x1 x2 _) (D3 ?_ h)
 unfold s187 t187
 refine Q1 fun n1 => B8 fun v1 => C2 fun a1 ha1 => B8 fun v2 => K6 fun go1' go1 hgo1 z1 => ?_
 refine C4 ?_ ?_
 ·refine H2 fun a2 ha2 => B8 fun v3 => D6 fun n2 => F4 0 0 rfl rfl rfl rfl <| B4 0 0 rfl rfl rfl ?_
  refine E4 ?_ ?_
  ·exact D2 <| G4 (hgo1 _) rfl
  ·refine B8 fun v4 => C2 fun a3 ha3 => B8 fun v5 => B4 0 1 rfl rfl rfl <| B8 fun v6 => C2 fun a4 ha4 => B8 fun v7 => B4 0 0 rfl rfl rfl <| B0 fun r1 => ?_
   refine E4 ?_ ?_
   ·exact A7
   ·exact D2 <| G4 (hgo1 _) rfl
 ·exact C2 fun a5 ha5 => B8 fun v8 => B0 fun r2 => B1 ha5 <| Z0 <| B1 ha5 <| B8 fun v9 => C2 fun a6 ha6 => B8 fun v10 => B0 fun r3 => A7
set_option maxRecDepth 100000
def s188 (x0 : Option Addr) (K : Value -> HP) : HP :=
 A9 x0 fun a1 =>
 ld (a1.add 4) (.lf .ptr) fun v1 =>
 ifB (Option.isNone v1) (
 K (.i 0)) (
 st (a1.add 4) [.pointer none] <|
 ld (a1.add 2) (.lf .ptr) fun v2 =>
 nw (.cells #[.i 1] 3) fun n1 =>
 cl PP 134 #[.pointer x0, .slice (some ⟨n1, 0, none⟩) 1 1] [lI] fun r1 =>
 keep (D0 (a1.add 2) [.pointer v2]) <|
 cl PP 133 #[.pointer v2, .i r1.1] [.lf .bool] fun r2 =>
 A9 v1 fun a2 =>
 ld a1 (.lf .ptr) fun v3 =>
 ld a2 (lI) fun v4 =>
 ld (a2.add 1) (lI) fun v5 =>
 ld (a2.add 2) (lI) fun v6 =>
 ld (a2.add 3) (.lf .sl) fun v7 =>
 cl PP 249 #[.pointer v3, .i v4, .i v5, .i v6, .sv v7] [lI] fun r3 =>
 cl PP 136 #[.pointer x0, .i r3.1] [lI] fun r4 =>
 K (.i r4.1))
theorem c188 (x0 : Option Addr) {K : Value -> HP} {L : A4} (h : s188 x0 (HL.Ends K) L) : CallF PP 188 #[.pointer x0] L K := by
 refine CallF.of (args := [.pointer x0]) B5 B6 Tryz.func188 (e188 x0 _) (D3 ?_ h)
 unfold s188 t188
 refine C2 fun a1 ha1 => B8 fun v1 => ?_
 refine C4 ?_ ?_
 ·exact A7
 ·exact B1 ha1 <| Z0 <| B1 ha1 <| B8 fun v2 => Q1 fun n1 => B0 fun r1 => O7 <| B0 fun r2 => B1 ha1 <| C2 fun a2 ha2 => B1 ha2 <| B1 ha2 <| B1 ha2 <| B8 fun v3 => B8 fun v4 => B8 fun v5 => B8 fun v6 => B8 fun v7 => B0 fun r3 => B0 fun r4 => A7
def s190 (x0 : Option Addr) (x1 : Int) (K : Value -> HP) : HP :=
 A9 x0 fun a1 =>
 ld a1 (.lf .ptr) fun v1 =>
 cl PP 252 #[.pointer v1, .i x1] [lI] fun r1 =>
 ifB (decide ((r1.1 : Int) = 11)) (
 cl PP 136 #[.pointer x0, .i r1.1] [lI] fun r2 =>
 K (.i r2.1)) (
 ld (a1.add 1) (.lf .ptr) fun v2 =>
 cl PP 253 #[.pointer v2, .i x1, .bool ((r1.1 : Int) == 10)] [.lf .bool] fun r3 =>
 ld (a1.add 3) (.lf .map) fun v3 =>
 smW PP (Builtin.delete_ #[79, 3] 0 #[.map v3, .i x1]) [] fun v4 =>
 K (.i 0))
theorem c190 (x0 : Option Addr) (x1 : Int) {K : Value -> HP} {L : A4} (h : s190 x0 x1 (HL.Ends K) L) : CallF PP 190 #[.pointer x0, .i x1] L K := by
 refine CallF.of (args := [.pointer x0, .i x1]) B5 B6 Tryz.func190 (e190 x0 x1 _) (D3 ?_ h)
 unfold s190 t190
 refine C2 fun a1 ha1 => B8 fun v1 => B0 fun r1 => ?_
 refine E2 ?_ ?_
 ·exact B0 fun r2 => A7
 ·exact B1 ha1 <| B8 fun v2 => B0 fun r3 => B1 ha1 <| B8 fun v3 => Af4 fun v4 => A7
def s191 (x0 : Option Addr) (x1 : Int) (K : Value -> HP) : HP :=
 A9 x0 fun a1 =>
 ld (a1.add 2) (.lf .ptr) fun v1 =>
 nw (.cells #[.i 1] 3) fun n1 =>
 cl PP 134 #[.pointer x0, .slice (some ⟨n1, 0, none⟩) 1 1] [lI] fun r1 =>
 keep (D0 (a1.add 2) [.pointer v1]) <|
 cl PP 133 #[.pointer v1, .i r1.1] [.lf .bool] fun r2 =>
 ld a1 (.lf .ptr) fun v2 =>
 ld (a1.add 5) (lI) fun v3 =>
 w64 (v3 + 1) fun i1 =>
 cl PP 254 #[.pointer v2, .i x1, .i i1] [lI] fun r3 =>
 ifB (decide ((r3.1 : Int) = 0)) (
 ld (a1.add 5) (lI) fun v4 =>
 w64 (v4 + 1) fun i2 =>
 st (a1.add 5) [.i i2] <|
 ld (a1.add 1) (.lf .ptr) fun v5 =>
 cl PP 255 #[.pointer v5, .i x1] [.lf .bool] fun r5 =>
 ld (a1.add 5) (lI) fun v6 =>
 nw (.cells #[.i x1, .i v6, .i 1, .slice none 0 0] 156) fun n2 =>
 st (a1.add 4) [.pointer (some ⟨n2, 0, none⟩)] <|
 ld (a1.add 3) (.lf .map) fun v7 =>
 ld (a1.add 4) (.lf .ptr) fun v8 =>
 smU PP (Instr.mapUpdate 79 (.map v7) (.i x1) (.pointer v8)) <|
 K (.i 0)) (
 cl PP 136 #[.pointer x0, .i r3.1] [lI] fun r4 =>
 K (.i r4.1))
theorem c191 (x0 : Option Addr) (x1 : Int) {K : Value -> HP} {L : A4} (h : s191 x0 x1 (HL.Ends K) L) : CallF PP 191 #[.pointer x0, .i x1] L K := by
 refine CallF.of (args := [.pointer x0, .i x1]) B5 B6 Tryz.func191 (e191 x0 x1 _) (D3 ?_ h)
 unfold s191 t191
 refine C2 fun a1 ha1 => B8 fun v1 => Q1 fun n1 => B0 fun r1 => O7 <| B0 fun r2 => B1 ha1 <| B1 ha1 <| B8 fun v2 => B8 fun v3 => D2 <| B0 fun r3 => ?_
 refine E4 ?_ ?_
 ·exact B0 fun r4 => A7
 ·exact B1 ha1 <| B8 fun v4 => D2 <| B1 ha1 <| Z0 <| B1 ha1 <| B8 fun v5 => B0 fun r5 => B1 ha1 <| B8 fun v6 => Q1 fun n2 => B1 ha1 <| Z0 <| B1 ha1 <| B1 ha1 <| B8 fun v7 => B8 fun v8 => Bp1 <| A7
def s193 (x0 : Option Addr) (x1 : Int) (x2 : ShV (.agg [.int .i64, .int .i64, .int .i64, .int .i64, .int .i64])) (x3 : SlV) (K : Value -> HP) : HP :=
 cl PP 93 #[.pointer x0] [.agg [.int .i64, .int .i64, .int .i64, .int .i64]] fun r1 =>
 cl PP 256 #[.agg #[.i x2.1, .i x2.2.1, .i x2.2.2.1, .i x2.2.2.2.1, .i x2.2.2.2.2.1], .sv x3, .i r1.1.2.2.1] [.lf .sl, lI] fun r2 =>
 ifB (decide ((r2.2.1 : Int) = 0)) (
 cl PP 257 #[.pointer x0, .i x1, .i x2.2.2.2.2.1, .sv r2.1] [lI] fun r3 =>
 K (.i r3.1)) (
 K (.i r2.2.1))
theorem c193 (x0 : Option Addr) (x1 : Int) (x2 : ShV (.agg [.int .i64, .int .i64, .int .i64, .int .i64, .int .i64])) (x3 : SlV) {K : Value -> HP} {L : A4} (h : s193 x0 x1 x2 x3 (HL.Ends K) L) : CallF PP 193 #[.pointer x0, .i x1, .agg #[.i x2.1, .i x2.2.1, .i x2.2.2.1, .i x2.2.2.2.1, .i x2.2.2.2.2.1], .sv x3] L K := by
 refine CallF.of (args := [.pointer x0, .i x1, .agg #[.i x2.1, .i x2.2.1, .i x2.2.2.1, .i x2.2.2.2.1, .i x2.2.2.2.2.1], .sv x3]) B5 B6 Tryz.func193 (e193 x0 x1 x2 x3 _) (D3 ?_ h)
 unfold s193 t193
 refine D6 fun n1 => B4 0 0 rfl rfl rfl <| B0 fun r1 => K5 0 0 rfl rfl rfl <| B0 fun r2 => ?_
 refine E4 ?_ ?_
 ·exact A7
 ·exact B4 0 4 rfl rfl rfl <| B0 fun r3 => A7
set_option maxRecDepth 100000
def s223 (x0 : Option Addr) (x1 : Int) (K : Value -> HP) : HP :=
 ifB (Option.isNone x0) (
 K (.tuple #[.slice none 0 0, .i 1])) (
 cl PP 93 #[.pointer x0] [.agg [.int .i64, .int .i64, .int .i64, .int .i64]] fun r1 =>
 lp [.lf .sl, lI] (⟨none, 0, 0⟩, 0, ()) fun z1 go1 =>
 ifB (decide ((z1.2.1 : Int) < r1.1.2.1)) (
 cl PP 181 #[.pointer x0, .i x1, .i z1.2.1] [.lf .sl, lI] fun r2 =>
 ifB (decide ((r2.2.1 : Int) = 0)) (
 apv PP 96 96 96 27 z1.1 1 [.sv r2.1] fun s1 =>
 w64 (z1.2.1 + 1) fun i1 =>
 go1 (s1, i1, ())) (
 K (.tuple #[.slice none 0 0, .i r2.2.1]))) (
 K (.tuple #[.sv z1.1, .i 0])))
theorem c223 (x0 : Option Addr) (x1 : Int) {K : Value -> HP} {L : A4} (h : s223 x0 x1 (HL.Ends K) L) : CallF PP 223 #[.pointer x0, .i x1] L K := by
 refine CallF.of (args := [.pointer x0, .i x1]) B5 B6 Tryz.func223 (e223 x0 x1 _) (D3 ?_ h)
 unfold s223 t223
 refine C4 ?_ ?_
 ·exact A7
 ·refine B0 fun r1 => K6 fun go1' go1 hgo1 z1 => ?_
  refine C4 ?_ ?_
  ·refine B0 fun r2 => ?_
   refine E4 ?_ ?_
   ·exact A7
   ·exact D6 fun n1 => Z2 (v := _) 0 rfl fun s1 => D2 <| G4 (hgo1 _) rfl
  ·exact A7
def s224 (x0 : SlV) (K : Value -> HP) : HP :=
 cl PP 283 #[.sv x0] [.lf .ptr] fun r1 =>
 A9 r1.1 fun a1 =>
 ld a1 (.lf .sl) fun v1 =>
 ifB (decide ((v1.len : Int) = 0)) (
 K (.tuple #[.agg #[.i 0, .bool false, .slice none 0 0], .bool false])) (
 ld a1 (.lf .sl) fun v2 =>
 elp v2.a v2.len 0 7 fun a2 =>
 ld (a2.add 3) (lI) fun v3 =>
 st (a1.add 1) [.i v3] <|
 cl PP 284 #[.pointer r1.1, .i 0, .agg #[.i 1, .i 0, .i 1, .i 0, .i 0]] [.lf .sl, .lf .bool] fun r2 =>
 ifB r2.2.1 (
 ifB (decide ((r2.1.len : Int) > 0)) (
 K (.tuple #[.agg #[.i 0, .bool false, .slice none 0 0], .bool false])) (
 jn (fun y1 : RsV [] =>
 ld (a1.add 1) (lI) fun v6 =>
 cl PP 286 #[.pointer r1.1, .func (.func 287) #[.pointer r1.1] #[]] [.lf .sl] fun r4 =>
 keep (D0 (a1.add 1) [.i v6]) <|
 K (.tuple #[.agg #[.i v6, .bool false, .sv r4.1], .bool true])) fun j1 =>
 ld (a1.add 2) (lI) fun v4 =>
 ifB (decide ((v4 : Int) > 0)) (
 cl PP 285 #[.pointer r1.1] [.lf .sl, .lf .bool] fun r3 =>
 ifB r3.2.1 (
 ld (a1.add 1) (lI) fun v5 =>
 K (.tuple #[.agg #[.i v5, .bool true, .sv r3.1], .bool true])) (
 j1 (()))) (
 j1 (())))) (
 K (.tuple #[.agg #[.i 0, .bool false, .slice none 0 0], .bool false])))
theorem c224 (x0 : SlV) {K : Value -> HP} {L : A4} (h : s224 x0 (HL.Ends K) L) : CallF PP 224 #[.sv x0] L K := by
 refine CallF.of (args := [.sv x0]) B5 B6 Tryz.func224 (e224 x0 _) (D3 ?_ h)
 unfold s224 t224
 refine D6 fun n1 => B0 fun r1 => C2 fun a1 ha1 => B8 fun v1 => ?_
 refine E2 ?_ ?_
 ·exact F4 0 0 rfl rfl rfl rfl <| B4 0 0 rfl rfl rfl <| A7
 ·refine B1 ha1 <| B8 fun v2 => H2 fun a2 ha2 => B8 fun v3 => B1 ha1 <| Z0 <| B0 fun r2 => ?_
  refine H3 ?_ ?_
  ·exact F4 0 0 rfl rfl rfl rfl <| B4 0 0 rfl rfl rfl <| A7
  ·refine C4 ?_ ?_
   ·exact F4 0 0 rfl rfl rfl rfl <| B4 0 0 rfl rfl rfl <| A7
   ·refine Z1 (fun y1 => ?_) fun j1' j1 hj1 => ?_
    ·exact B1 ha1 <| B8 fun v6 => B0 fun r4 => O7 <| F4 0 0 rfl rfl rfl rfl <| B4 0 0 rfl rfl rfl <| A7
    ·refine B1 ha1 <| B8 fun v4 => ?_
     refine C4 ?_ ?_
     ·refine B0 fun r3 => ?_
      refine C4 ?_ ?_
      ·exact B1 ha1 <| B8 fun v5 => F4 0 0 rfl rfl rfl rfl <| B4 0 0 rfl rfl rfl <| A7
      ·exact G4 (hj1 _) rfl
     ·exact G4 (hj1 _) rfl
def s225 (x0 : SlV) (x1 : FnV) (K : Value -> HP) : HP :=
 cl PP 288 #[.slice x0.a x0.len x0.cap, .i x0.len, .func x1.fn x1.first x1.captured] [] fun r1 =>
 K (.tuple #[])
theorem c225 (x0 : SlV) (x1 : FnV) {K : Value -> HP} {L : A4} (h : s225 x0 x1 (HL.Ends K) L) : CallF PP 225 #[.slice x0.a x0.len x0.cap, .func x1.fn x1.first x1.captured] L K := by
 refine CallF.of (args := [.slice x0.a x0.len x0.cap, .func x1.fn x1.first x1.captured]) B5 B6 Tryz.func225 (e225 x0 x1 _) (D3 ?_ h)
 unfold s225 t225
 exact B0 fun r1 => A7
def s226 (x0 : ShV (.agg [.int .i64, .int .i64, .sl])) (x1 : ShV (.agg [.int .i64, .int .i64, .sl])) (K : Value -> HP) : HP :=
 w64 (x0.2.1 - x1.2.1) fun i1 =>
 K (.i i1)
theorem c226 (x0 : ShV (.agg [.int .i64, .int .i64, .sl])) (x1 : ShV (.agg [.int .i64, .int .i64, .sl])) {K : Value -> HP} {L : A4} (h : s226 x0 x1 (HL.Ends K) L) : CallF PP 226 #[.agg #[.i x0.1, .i x0.2.1, .sv x0.2.2.1], .agg #[.i x1.1, .i x1.2.1, .sv x1.2.2.1]] L K := by
 refine CallF.of (args := [.agg #[.i x0.1, .i x0.2.1, .sv x0.2.2.1], .agg #[.i x1.1, .i x1.2.1, .sv x1.2.2.1]]) B5 B6 Tryz.func226 (e226 x0 x1 _) (D3 ?_ h)
 unfold s226 t226
 exact D6 fun n1 => D6 fun n2 => B4 1 1 rfl rfl rfl <| B4 0 1 rfl rfl rfl <| D2 <| A7
def s246 (x0 : Option Addr) (x1 : ShV (.agg [.int .i64, .int .i64, .int .i64])) (x2 : ShV (.agg [.int .i64, .int .i64, .int .i64])) (x3 : Int) (K : Value -> HP) : HP :=
 A9 x0 fun a1 =>
 ld (a1.add 11) (.lf .ptr) fun v1 =>
 cl PP 118 #[.pointer v1, .agg #[.i x1.1, .i x1.2.1, .i x1.2.2.1]] [.lf .str, .lf .sl, lI] fun r1 =>
 cl PP 41 #[.pointer x0, .string r1.1] [.lf (.int .u64)] fun r2 =>
 jn (fun y1 : RsV [] =>
 jn (fun y2 : RsV [] =>
 ld a1 (.agg [.int .i64, .int .i64, .int .i64, .int .i64]) fun v7 =>
 cl PP 111 #[.string r1.1, .sv r1.2.1, .agg #[.i v7.1, .i v7.2.1, .i v7.2.2.1, .i v7.2.2.2.1]] [.lf .sl, lI] fun r11 =>
 ifB (decide ((r11.2.1 : Int) = 0)) (
 cl PP 64 #[.pointer (some (a1.add 11)), .i 2, .sv r11.1] [.agg [.int .i64, .int .i64, .int .i64], lI] fun r12 =>
 ifB (decide ((r12.2.1 : Int) = 0)) (
 ld (Addr.add (a1.add 19) 2) (.lf .ptr) fun v8 =>
 cl PP 294 #[.pointer v8, .int .u64 r2.1, .agg #[.i x1.1, .i x1.2.1, .i x1.2.2.1], .agg #[.i r12.1.1, .i r12.1.2.1, .i r12.1.2.2.1]] [.lf .bool] fun r13 =>
 K (.i r12.2.1)) (
 K (.i r12.2.1))) (
 K (.i r11.2.1))) fun j2 =>
 ld (Addr.add (a1.add 19) 2) (.lf .ptr) fun v3 =>
 cl PP 293 #[.pointer v3, .int .u64 r2.1, .agg #[.i x1.1, .i x1.2.1, .i x1.2.2.1]] [lI] fun r5 =>
 ifB (decide ((r5.1 : Int) = 0)) (
 ld (Addr.add (a1.add 19) 2) (.lf .ptr) fun v4 =>
 cl PP 106 #[.pointer v4, .int .u64 r2.1, .agg #[.i x1.1, .i x1.2.1, .i x1.2.2.1]] [.lf .bool] fun r6 =>
 K (.i 0)) (
 nw (.cells #[.i x2.2.2.1, .i x3] 3) fun n3 =>
 cl PP 126 #[.pointer (some (a1.add 11)), .slice (some ⟨n3, 0, none⟩) 2 2] [.lf .bool] fun r7 =>
 ifB r7.1 (
 nw (.cells #[.i x2.2.2.1, .i x3] 3) fun n4 =>
 cl PP 128 #[.pointer (some (a1.add 11)), .slice (some ⟨n4, 0, none⟩) 2 2] [.lf .bool] fun r9 =>
 ifB r9.1 (
 j2 (())) (
 ld (Addr.add (a1.add 19) 2) (.lf .ptr) fun v6 =>
 cl PP 106 #[.pointer v6, .int .u64 r2.1, .agg #[.i x1.1, .i x1.2.1, .i x1.2.2.1]] [.lf .bool] fun r10 =>
 K (.i 0))) (
 ld (Addr.add (a1.add 19) 2) (.lf .ptr) fun v5 =>
 cl PP 106 #[.pointer v5, .int .u64 r2.1, .agg #[.i x1.1, .i x1.2.1, .i x1.2.2.1]] [.lf .bool] fun r8 =>
 K (.i 0)))) fun j1 =>
 ifB (decide ((r1.2.2.1 : Int) = 0)) (
 ld (Addr.add (a1.add 19) 2) (.lf .ptr) fun v2 =>
 cl PP 117 #[.pointer v2, .int .u64 r2.1] [.lf .sl] fun r3 =>
 cl PP 292 #[.sv r3.1, .agg #[.i x1.1, .i x1.2.1, .i x1.2.2.1]] [.lf .bool] fun r4 =>
 ifB r4.1 (
 j1 (())) (
 K (.i 0))) (
 K (.i 0))
theorem c246 (x0 : Option Addr) (x1 : ShV (.agg [.int .i64, .int .i64, .int .i64])) (x2 : ShV (.agg [.int .i64, .int .i64, .int .i64])) (x3 : Int) {K : Value -> HP} {L : A4} (h : s246 x0 x1 x2 x3 (HL.Ends K) L) : CallF PP 246 #[.pointer x0, .agg #[.i x1.1, .i x1.2.1, .i x1.2.2.1], .agg #[.i x2.1, .i x2.2.1, .i x2.2.2.1], .i x3] L K := by
 refine CallF.of (args := [.pointer x0, .agg #[.i x1.1, .i x1.2.1, .i x1.2.2.1], .agg #[.i x2.1, .i x2.2.1, .i x2.2.2.1], .i x3]) B5 B6 Tryz.func246 (e246 x0 x1 x2 x3 _) (D3 ?_ h)
 unfold s246 t246
 refine D6 fun n1 => D6 fun n2 => C2 fun a1 ha1 => B8 fun v1 => B4 1 0 rfl rfl rfl <| B0 fun r1 => B0 fun r2 => ?_
 refine Z1 (fun y1 => ?_) fun j1' j1 hj1 => ?_
 ·refine Z1 (fun y2 => ?_) fun j2' j2 hj2 => ?_
  ·refine B1 ha1 <| B8 fun v7 => B0 fun r11 => ?_
   refine E4 ?_ ?_
   ·exact A7
   ·refine B1 ha1 <| B0 fun r12 => D6 fun n5 => F4 0 0 rfl rfl rfl rfl ?_
    refine E2 ?_ ?_
    ·exact B1 ha1 <| B8 fun v8 => B4 2 0 rfl rfl rfl <| B4 0 0 rfl rfl rfl <| B0 fun r13 => A7
    ·exact A7
  ·refine B1 ha1 <| B8 fun v3 => B4 1 0 rfl rfl rfl <| B0 fun r5 => ?_
   refine E2 ?_ ?_
   ·exact B1 ha1 <| B8 fun v4 => B4 1 0 rfl rfl rfl <| B0 fun r6 => A7
   ·refine B1 ha1 <| B4 0 2 rfl rfl rfl <| Q1 fun n3 => B0 fun r7 => ?_
    refine H3 ?_ ?_
    ·exact B1 ha1 <| B8 fun v5 => B4 1 0 rfl rfl rfl <| B0 fun r8 => A7
    ·refine B1 ha1 <| B4 0 2 rfl rfl rfl <| Q1 fun n4 => B0 fun r9 => ?_
     refine H3 ?_ ?_
     ·exact B1 ha1 <| B8 fun v6 => B4 1 0 rfl rfl rfl <| B0 fun r10 => A7
     ·exact G4 (hj2 _) rfl
 ·refine E4 ?_ ?_
  ·exact A7
  ·refine B1 ha1 <| B8 fun v2 => B4 1 0 rfl rfl rfl <| B0 fun r3 => K5 1 0 rfl rfl rfl <| B0 fun r4 => ?_
   refine H3 ?_ ?_
   ·exact A7
   ·exact G4 (hj1 _) rfl
def s247 (x0 : SlV) (x1 : FnV) (K : Value -> HP) : HP :=
 cl PP 295 #[.slice x0.a x0.len x0.cap, .func x1.fn x1.first x1.captured] [lI] fun r1 =>
 ifB (decide ((r1.1 : Int) = (-1))) (
 K (.sv x0)) (
 w64 (r1.1 + 1) fun i1 =>
 lp [lI, lI] (r1.1, i1, ()) fun z1 go1 =>
 ifB (decide ((z1.2.1 : Int) < x0.len)) (
 elp x0.a x0.len z1.2.1 3 fun a1 =>
 ld a1 (.agg [.int .i64, .int .i64, .int .i64]) fun v1 =>
 clv PP x1.fn (x1.first ++ #[.agg #[.i v1.1, .i v1.2.1, .i v1.2.2.1]]) x1.captured [.lf .bool] fun r2 =>
 ifB r2.1 (
 w64 (z1.2.1 + 1) fun i4 =>
 go1 (z1.1, i4, ())) (
 elp x0.a x0.len z1.1 3 fun a2 =>
 st a2 [.i v1.1, .i v1.2.1, .i v1.2.2.1] <|
 w64 (z1.1 + 1) fun i2 =>
 w64 (z1.2.1 + 1) fun i3 =>
 go1 (i2, i3, ()))) (
 slc x0 z1.1 x0.len x0.cap 3 fun s1 =>
 smW PP (Builtin.clear_ #[55] 0 #[.sv s1]) [] fun v2 =>
 slc x0 0 z1.1 x0.cap 3 fun s2 =>
 K (.sv s2)))
theorem c247 (x0 : SlV) (x1 : FnV) {K : Value -> HP} {L : A4} (h : s247 x0 x1 (HL.Ends K) L) : CallF PP 247 #[.slice x0.a x0.len x0.cap, .func x1.fn x1.first x1.captured] L K := by
 refine CallF.of (args := [.slice x0.a x0.len x0.cap, .func x1.fn x1.first x1.captured]) B5 B6 Tryz.func247 (e247 x0 x1 _) (D3 ?_ h)
 unfold s247 t247
 refine B0 fun r1 => ?_
 refine E2 ?_ ?_
 ·exact A7
 ·refine D2 <| K6 fun go1' go1 hgo1 z1 => ?_
  refine C4 ?_ ?_
  ·refine H2 fun a1 ha1 => B8 fun v1 => D6 fun n1 => F4 0 0 rfl rfl rfl rfl <| B4 0 0 rfl rfl rfl <| Az5 fun r2 => ?_
   refine H3 ?_ ?_
   ·exact B4 0 0 rfl rfl rfl <| H2 fun a2 ha2 => Z0 <| D2 <| D2 <| G4 (hgo1 _) rfl
   ·exact D2 <| G4 (hgo1 _) rfl
  ·exact Au4 fun s1 => Af4 fun v2 => Au4 fun s2 => A7
def s248 (x0 : ShV (.agg [.int .i64, .int .i64, .int .i64])) (x1 : Option Addr) (K : Value -> HP) : HP :=
 A9 x1 fun a1 =>
 ld a1 (.lf .ptr) fun v1 =>
 A9 v1 fun a2 =>
 ld a2 (lI) fun v2 =>
 K (.bool ((x0.1 : Int) == v2))
theorem c248 (x0 : ShV (.agg [.int .i64, .int .i64, .int .i64])) (x1 : Option Addr) {K : Value -> HP} {L : A4} (h : s248 x0 x1 (HL.Ends K) L) : CallF PP 248 #[.agg #[.i x0.1, .i x0.2.1, .i x0.2.2.1], .pointer x1] L K := by
 refine CallF.of (args := [.agg #[.i x0.1, .i x0.2.1, .i x0.2.2.1], .pointer x1]) B5 B6 Tryz.func248 (e248 x0 x1 _) (D3 ?_ h)
 unfold s248 t248
 exact D6 fun n1 => B4 0 0 rfl rfl rfl <| C2 fun a1 ha1 => B8 fun v1 => C2 fun a2 ha2 => B8 fun v2 => A7
def s249 (x0 : Option Addr) (x1 : Int) (x2 : Int) (x3 : Int) (x4 : SlV) (K : Value -> HP) : HP :=
 lp [.lf .sl, lI] (⟨none, 0, 0⟩, 0, ()) fun z1 go1 =>
 ifB (decide ((z1.2.1 : Int) < x4.len)) (
 elp x4.a x4.len z1.2.1 3 fun a1 =>
 ld a1 (.agg [.int .i64, .int .i64, .int .i64]) fun v1 =>
 nw (.cells #[.i v1.1, .i v1.2.1, .i v1.2.2.1] 3) fun n2 =>
 cl PP 131 #[.sv z1.1, .slice (some ⟨n2, 0, none⟩) 3 3] [.lf .sl, .lf .bool] fun r1 =>
 ifB r1.2.1 (
 w64 (z1.2.1 + 1) fun i1 =>
 go1 (r1.1, i1, ())) (
 K (.i 3))) (
 cl PP 193 #[.pointer x0, .i x1, .agg #[.i 4, .i 0, .i 1, .i x2, .i x3], .sv z1.1] [lI] fun r2 =>
 K (.i r2.1))
theorem c249 (x0 : Option Addr) (x1 : Int) (x2 : Int) (x3 : Int) (x4 : SlV) {K : Value -> HP} {L : A4} (h : s249 x0 x1 x2 x3 x4 (HL.Ends K) L) : CallF PP 249 #[.pointer x0, .i x1, .i x2, .i x3, .sv x4] L K := by
 refine CallF.of (args := [.pointer x0, .i x1, .i x2, .i x3, .sv x4]) B5 B6 Tryz.func249 (e249 x0 x1 x2 x3 x4 _) (D3 ?_ h)
 unfold s249 t249
 refine K6 fun go1' go1 hgo1 z1 => ?_
 refine C4 ?_ ?_
 ·refine H2 fun a1 ha1 => B8 fun v1 => D6 fun n1 => F4 0 0 rfl rfl rfl rfl <| B4 0 0 rfl rfl rfl <| B4 0 1 rfl rfl rfl <| B4 0 2 rfl rfl rfl <| Q1 fun n2 => B0 fun r1 => ?_
  refine H3 ?_ ?_
  ·exact A7
  ·exact D2 <| G4 (hgo1 _) rfl
 ·exact B0 fun r2 => A7
set_option maxRecDepth 100000
def s254 (x0 : Option Addr) (x1 : Int) (x2 : Int) (K : Value -> HP) : HP :=
 cl PP 193 #[.pointer x0, .i x1, .agg #[.i 1, .i 0, .i 1, .i x2, .i 0], .slice none 0 0] [lI] fun r1 =>
 K (.i r1.1)
theorem c254 (x0 : Option Addr) (x1 : Int) (x2 : Int) {K : Value -> HP} {L : A4} (h : s254 x0 x1 x2 (HL.Ends K) L) : CallF PP 254 #[.pointer x0, .i x1, .i x2] L K := by
 refine CallF.of (args := [.pointer x0, .i x1, .i x2]) B5 B6 Tryz.func254 (e254 x0 x1 x2 _) (D3 ?_ h)
 unfold s254 t254
 exact B0 fun r1 => A7
set_option maxRecDepth 100000
def s286 (x0 : Option Addr) (x1 : FnV) (K : Value -> HP) : HP :=
 lp [.lf .sl, lI] (⟨none, 0, 0⟩, 1, ()) fun z1 go1 =>
 A9 x0 fun a1 =>
 ld (a1.add 2) (lI) fun v1 =>
 ifB (decide ((z1.2.1 : Int) <= v1)) (
 clv PP x1.fn (x1.first ++ #[.i z1.2.1]) x1.captured [.agg [.int .i64, .int .i64, .int .i64], .lf .bool] fun r1 =>
 ifB r1.2.1 (
 apv PP 152 152 152 215 z1.1 1 [.i r1.1.1, .i r1.1.2.1, .i r1.1.2.2.1] fun s1 =>
 w64 (r1.1.2.2.1 - 1) fun i2 =>
 w64 (z1.2.1 + i2) fun i3 =>
 w64 (i3 + 1) fun i4 =>
 go1 (s1, i4, ())) (
 w64 (z1.2.1 + 1) fun i1 =>
 go1 (z1.1, i1, ()))) (
 K (.sv z1.1))
theorem c286 (x0 : Option Addr) (x1 : FnV) {K : Value -> HP} {L : A4} (h : s286 x0 x1 (HL.Ends K) L) : CallF PP 286 #[.pointer x0, .func x1.fn x1.first x1.captured] L K := by
 refine CallF.of (args := [.pointer x0, .func x1.fn x1.first x1.captured]) B5 B6 Tryz.func286 (e286 x0 x1 _) (D3 ?_ h)
 unfold s286 t286
 refine K6 fun go1' go1 hgo1 z1 => C2 fun a1 ha1 => B8 fun v1 => ?_
 refine C4 ?_ ?_
 ·refine Az5 fun r1 => D6 fun n1 => F4 0 0 rfl rfl rfl rfl ?_
  refine H3 ?_ ?_
  ·exact D2 <| G4 (hgo1 _) rfl
  ·exact B4 0 0 rfl rfl rfl <| D6 fun n2 => Z2 (v := _) 0 rfl fun s1 => B4 1 2 rfl rfl rfl <| D2 <| D2 <| D2 <| G4 (hgo1 _) rfl
 ·exact A7
def s288 (x0 : SlV) (x1 : Int) (x2 : FnV) (K : Value -> HP) : HP :=
 lp [lI, lI] (0, 20, ()) fun z1 go1 =>
 ifB (decide ((z1.2.1 : Int) <= x1)) (
 cl PP 321 #[.slice x0.a x0.len x0.cap, .i z1.1, .i z1.2.1, .func x2.fn x2.first x2.captured] [] fun r1 =>
 w64 (z1.2.1 + 20) fun i1 =>
 go1 (z1.2.1, i1, ())) (
 cl PP 321 #[.slice x0.a x0.len x0.cap, .i z1.1, .i x1, .func x2.fn x2.first x2.captured] [] fun r2 =>
 lp [lI] (20, ()) fun z2 go2 =>
 ifB (decide ((z2.1 : Int) < x1)) (
 w64 (2 * z2.1) fun i2 =>
 lp [lI, lI] (0, i2, ()) fun z3 go3 =>
 ifB (decide ((z3.2.1 : Int) <= x1)) (
 w64 (z3.1 + z2.1) fun i3 =>
 cl PP 322 #[.slice x0.a x0.len x0.cap, .i z3.1, .i i3, .i z3.2.1, .func x2.fn x2.first x2.captured] [] fun r3 =>
 w64 (2 * z2.1) fun i4 =>
 w64 (z3.2.1 + i4) fun i5 =>
 go3 (z3.2.1, i5, ())) (
 w64 (z3.1 + z2.1) fun i6 =>
 ifB (decide ((i6 : Int) < x1)) (
 cl PP 322 #[.slice x0.a x0.len x0.cap, .i z3.1, .i i6, .i x1, .func x2.fn x2.first x2.captured] [] fun r4 =>
 w64 (z2.1 * 2) fun i7 =>
 go2 (i7, ())) (
 w64 (z2.1 * 2) fun i8 =>
 go2 (i8, ())))) (
 K (.tuple #[])))
theorem c288 (x0 : SlV) (x1 : Int) (x2 : FnV) {K : Value -> HP} {L : A4} (h : s288 x0 x1 x2 (HL.Ends K) L) : CallF PP 288 #[.slice x0.a x0.len x0.cap, .i x1, .func x2.fn x2.first x2.captured] L K := by
 refine CallF.of (args := [.slice x0.a x0.len x0.cap, .i x1, .func x2.fn x2.first x2.captured]) B5 B6 Tryz.func288 (e288 x0 x1 x2 _) (D3 ?_ h)
 unfold s288 t288
 refine K6 fun go1' go1 hgo1 z1 => ?_
 refine C4 ?_ ?_
 ·exact B0 fun r1 => D2 <| G4 (hgo1 _) rfl
 ·refine B0 fun r2 => K6 fun go2' go2 hgo2 z2 => ?_
  refine C4 ?_ ?_
  ·refine D2 <| K6 fun go3' go3 hgo3 z3 => ?_
   refine C4 ?_ ?_
   ·exact D2 <| B0 fun r3 => D2 <| D2 <| G4 (hgo3 _) rfl
   ·refine D2 ?_
    refine C4 ?_ ?_
    ·exact B0 fun r4 => D2 <| G4 (hgo2 _) rfl
    ·exact D2 <| G4 (hgo2 _) rfl
  ·exact A7
def s292 (x0 : SlV) (x1 : ShV (.agg [.int .i64, .int .i64, .int .i64])) (K : Value -> HP) : HP :=
 cl PP 323 #[.sv x0, .agg #[.i x1.1, .i x1.2.1, .i x1.2.2.1]] [lI] fun r1 =>
 K (.bool (decide ((r1.1 : Int) ≥ 0)))
theorem c292 (x0 : SlV) (x1 : ShV (.agg [.int .i64, .int .i64, .int .i64])) {K : Value -> HP} {L : A4} (h : s292 x0 x1 (HL.Ends K) L) : CallF PP 292 #[.sv x0, .agg #[.i x1.1, .i x1.2.1, .i x1.2.2.1]] L K := by
 refine CallF.of (args := [.sv x0, .agg #[.i x1.1, .i x1.2.1, .i x1.2.2.1]]) B5 B6 Tryz.func292 (e292 x0 x1 _) (D3 ?_ h)
 unfold s292 t292
 exact D6 fun n1 => B4 0 0 rfl rfl rfl <| B0 fun r1 => A7
def s295 (x0 : SlV) (x1 : FnV) (K : Value -> HP) : HP :=
 lp [lI] (0, ()) fun z1 go1 =>
 ifB (decide ((z1.1 : Int) < x0.len)) (
 elp x0.a x0.len z1.1 3 fun a1 =>
 ld a1 (.agg [.int .i64, .int .i64, .int .i64]) fun v1 =>
 clv PP x1.fn (x1.first ++ #[.agg #[.i v1.1, .i v1.2.1, .i v1.2.2.1]]) x1.captured [.lf .bool] fun r1 =>
 ifB r1.1 (
 K (.i z1.1)) (
 w64 (z1.1 + 1) fun i1 =>
 go1 (i1, ()))) (
 K (.i (-1)))
theorem c295 (x0 : SlV) (x1 : FnV) {K : Value -> HP} {L : A4} (h : s295 x0 x1 (HL.Ends K) L) : CallF PP 295 #[.slice x0.a x0.len x0.cap, .func x1.fn x1.first x1.captured] L K := by
 refine CallF.of (args := [.slice x0.a x0.len x0.cap, .func x1.fn x1.first x1.captured]) B5 B6 Tryz.func295 (e295 x0 x1 _) (D3 ?_ h)
 unfold s295 t295
 refine K6 fun go1' go1 hgo1 z1 => ?_
 refine C4 ?_ ?_
 ·refine H2 fun a1 ha1 => B8 fun v1 => Az5 fun r1 => ?_
  refine C4 ?_ ?_
  ·exact A7
  ·exact D2 <| G4 (hgo1 _) rfl
 ·exact A7
set_option maxRecDepth 100000
def s321 (x0 : SlV) (x1 : Int) (x2 : Int) (x3 : FnV) (K : Value -> HP) : HP :=
 w64 (x1 + 1) fun i1 =>
 lp [lI] (i1, ()) fun z1 go1 =>
 ifB (decide ((z1.1 : Int) < x2)) (
 lp [lI] (z1.1, ()) fun z2 go2 =>
 jn (fun y1 : RsV [] =>
 w64 (z2.1 - 1) fun i5 =>
 w64 (z2.1 - 1) fun i6 =>
 elp x0.a x0.len i6 3 fun a3 =>
 elp x0.a x0.len z2.1 3 fun a4 =>
 ld a3 (.agg [.int .i64, .int .i64, .sl]) fun v3 =>
 ld a4 (.agg [.int .i64, .int .i64, .sl]) fun v4 =>
 st a4 [.i v3.1, .i v3.2.1, .slice v3.2.2.1.a v3.2.2.1.len v3.2.2.1.cap] <|
 elp x0.a x0.len i5 3 fun a5 =>
 st a5 [.i v4.1, .i v4.2.1, .slice v4.2.2.1.a v4.2.2.1.len v4.2.2.1.cap] <|
 w64 (z2.1 - 1) fun i7 =>
 go2 (i7, ())) fun j1 =>
 ifB (decide ((z2.1 : Int) > x1)) (
 elp x0.a x0.len z2.1 3 fun a1 =>
 w64 (z2.1 - 1) fun i2 =>
 elp x0.a x0.len i2 3 fun a2 =>
 ld a1 (.agg [.int .i64, .int .i64, .sl]) fun v1 =>
 ld a2 (.agg [.int .i64, .int .i64, .sl]) fun v2 =>
 clv PP x3.fn (x3.first ++ #[.agg #[.i v1.1, .i v1.2.1, .slice v1.2.2.1.a v1.2.2.1.len v1.2.2.1.cap], .agg #[.i v2.1, .i v2.2.1, .slice v2.2.2.1.a v2.2.2.1.len v2.2.2.1.cap]]) x3.captured [lI] fun r1 =>
 ifB (decide ((r1.1 : Int) < 0)) (
 j1 (())) (
 w64 (z1.1 + 1) fun i3 =>
 go1 (i3, ()))) (
 w64 (z1.1 + 1) fun i4 =>
 go1 (i4, ()))) (
 K (.tuple #[]))
theorem c321 (x0 : SlV) (x1 : Int) (x2 : Int) (x3 : FnV) {K : Value -> HP} {L : A4} (h : s321 x0 x1 x2 x3 (HL.Ends K) L) : CallF PP 321 #[.slice x0.a x0.len x0.cap, .i x1, .i x2, .func x3.fn x3.first x3.captured] L K := by
 refine CallF.of (args := [.slice x0.a x0.len x0.cap, .i x1, .i x2, .func x3.fn x3.first x3.captured]) B5 B6 Tryz.func321 (e321 x0 x1 x2 x3 _) (D3 ?_ h)
 unfold s321 t321
 refine D2 <| K6 fun go1' go1 hgo1 z1 => ?_
 refine C4 ?_ ?_
 ·refine K6 fun go2' go2 hgo2 z2 => ?_
  refine Z1 (fun y1 => ?_) fun j1' j1 hj1 => ?_
  ·exact D2 <| D2 <| H2 fun a3 ha3 => H2 fun a4 ha4 => B8 fun v3 => B8 fun v4 => C22 ha4 <| Z0 <| H2 fun a5 ha5 => Z0 <| D2 <| G4 (hgo2 _) rfl
  ·refine C4 ?_ ?_
   ·refine H2 fun a1 ha1 => D2 <| H2 fun a2 ha2 => B8 fun v1 => B8 fun v2 => Az5 fun r1 => ?_
    refine C4 ?_ ?_
    ·exact G4 (hj1 _) rfl
    ·exact D2 <| G4 (hgo1 _) rfl
   ·exact D2 <| G4 (hgo1 _) rfl
 ·exact A7
def s323 (x0 : SlV) (x1 : ShV (.agg [.int .i64, .int .i64, .int .i64])) (K : Value -> HP) : HP :=
 lp [lI] (0, ()) fun z1 go1 =>
 ifB (decide ((z1.1 : Int) < x0.len)) (
 elp x0.a x0.len z1.1 3 fun a1 =>
 ld a1 (.agg [.int .i64, .int .i64, .int .i64]) fun v1 =>
 smP PP (binOp .eql 102 (.agg #[.i x1.1, .i x1.2.1, .i x1.2.2.1]) (.agg #[.i v1.1, .i v1.2.1, .i v1.2.2.1])) (.lf .bool) fun v2 =>
 ifB v2 (
 K (.i z1.1)) (
 w64 (z1.1 + 1) fun i1 =>
 go1 (i1, ()))) (
 K (.i (-1)))
theorem c323 (x0 : SlV) (x1 : ShV (.agg [.int .i64, .int .i64, .int .i64])) {K : Value -> HP} {L : A4} (h : s323 x0 x1 (HL.Ends K) L) : CallF PP 323 #[.sv x0, .agg #[.i x1.1, .i x1.2.1, .i x1.2.2.1]] L K := by
 refine CallF.of (args := [.sv x0, .agg #[.i x1.1, .i x1.2.1, .i x1.2.2.1]]) B5 B6 Tryz.func323 (e323 x0 x1 _) (D3 ?_ h)
 unfold s323 t323
 refine D6 fun n1 => K6 fun go1' go1 hgo1 z1 => ?_
 refine C4 ?_ ?_
 ·refine H2 fun a1 ha1 => B4 0 0 rfl rfl rfl <| B8 fun v1 => B77 fun v2 => ?_
  refine C4 ?_ ?_
  ·exact A7
  ·exact D2 <| G4 (hgo1 _) rfl
 ·exact A7
set_option maxRecDepth 100000
theorem Bc2 {ps : List (List UInt8)} {ep : Int} {q : Nat} {x : It} (h : O0 ps ep q = some x) : 1 <= x.2.2.1 /\ x.2.2.1 <= 16 := by
 unfold O0 at h
 split at h
 ·rename_i b hb
  split at h
  ·rename_i h1
   split at h
   ·obtain rfl := Option.some.inj h
    have := Ag4 (Bn3 h1.1)
    exact ⟨this.2.2.1, this.2.2.2.1⟩
   ·cases h
  ·cases h
 ·cases h
theorem C30 (L B : A4) (m : Nat) (ps : List (List UInt8)) (ep : Int) (last : Nat) (hB : SH m ps ep last B) (hs : ∀ x ∈ B, x ∈ L) (hlast : last < min ps.length 16) :
  CallF PP 286 #[.pointer (some ⟨m, 0, none⟩), .func (.func 287) #[.pointer (some ⟨m, 0, none⟩)] #[]] L fun r L' => ∃ (v : SlV) (seg : A4), r = .slice v.a v.len v.cap /\ L' = seg ++ L /\ Own v 3 Bv6 ((Ac8 (O0 ps ep) last 17 1).flatMap N7) seg := by
 refine c286 (some ⟨m, 0, none⟩) ⟨.func 287, #[.pointer (some ⟨m, 0, none⟩)], #[]⟩ ?_
 unfold s286
 have hB0 := hB
 obtain ⟨sv, seg, ims, hBe, hh⟩ := hB
 have hmO : sO m sv ep last ∈ L := hs _ (by rw [hBe]; exact List.mem_cons_self)
 refine G0 (fun z' z L' => ∃ (p k : Nat) (s : SlV) (ds : List It) (sg : A4), 1 <= p /\ p <= 32 /\ z' = 40 - p /\ last + 1 <= p + k /\ z = (s, (p : Int), ()) /\ L' = sg ++ L /\ Own s 3 Bv6 (ds.flatMap N7) sg /\ ds.length < p /\ Ac8 (O0 ps ep) last 17 1 = ds ++ Ac8 (O0 ps ep) last k p) 39
  ⟨1, 17, ⟨none, 0, 0⟩, [], [], by omega, by omega, rfl, by omega, rfl, rfl, F7, by simp, rfl⟩ ?_
 rintro z' z _ ⟨p, k, s, ds, sg, h1, h2, rfl, hk, rfl, rfl, own, hd, he⟩
 dsimp only
 have hsl := own.sl.els_len E1 (by decide)
 refine A5 rfl (A6 (last : Int) ((s_la hmO).mono A26) (C0 (fun (hle : (p : Int) <= last) => ?_) (fun (hgt : ¬ (p : Int) <= last) => ?_)))
 ·obtain ⟨k, rfl⟩ : ∃ k', k = k' + 1 := ⟨k - 1, by omega⟩
  have hst : Ac8 (O0 ps ep) last (k + 1) p = match O0 ps ep p with | some x => x :: Ac8 (O0 ps ep) last k (p + x.2.2.1.toNat) | none => Ac8 (O0 ps ep) last k (p + 1) := by
   rw [Ac8, if_pos (by omega)] <;> rfl
  refine V7 (by kernel_rfl) (Q2 (at_cl (sg ++ L) B m ps ep last hB0 (fun x hx => List.mem_append_right _ (hs x hx)) p (by omega)) ?_)
  rintro _ _ - ⟨rfl, ⟨hn, rfl⟩ | ⟨x, hx, rfl⟩⟩
  ·rw [hst, hn] at he
   refine ⟨((0, 0, 0, ()), false, ()), rfl, ifF rfl (D9 (by omega) ⟨40 - (p + 1), by omega, p + 1, k, s, ds, sg, by omega, by omega, rfl, by omega, rfl, rfl, own, by omega, he⟩)⟩
  ·have hr := Bc2 hx
   rw [hst, hx] at he
   refine ⟨(x, true, ()), rfl, ifT rfl ?_⟩
   dsimp only
   refine Cb4 Bk1 By8 [] L own rfl rfl rfl (by omega) fun s2 sg2 hs2 own2 => D9 (by omega) (D9 (by omega) (D9 (by omega) ?_))
   refine ⟨40 - (p + x.2.2.1.toNat), by omega, p + x.2.2.1.toNat, k, s2, ds ++ [x], sg2, by omega, by omega, rfl, by omega, ?_, rfl, ?_, by simp; omega, by rw [he]; simp⟩
   ·show (s2, (p : Int) + (x.2.2.1 - 1) + 1, ()) = _
    rw [show (p : Int) + (x.2.2.1 - 1) + 1 = ((p + x.2.2.1.toNat : Nat) : Int) by omega]
   ·rw [List.flatMap_append, List.flatMap_singleton]; exact own2
 ·have hst : Ac8 (O0 ps ep) last k p = [] := by
   cases k with
   | zero => rfl
   | succ k => rw [Ac8, if_neg (by omega)]
  rw [hst, List.append_nil] at he
  exact .of ⟨s, sg, rfl, rfl, by rw [he]; exact own⟩
abbrev Rg := (Int × Bool × List It) × Bool
def Bw8 (q : Rg) (A : A4) (r : Value) (L' : A4) : Prop := ∃ (v : SlV) (seg : A4), r = .tuple #[.agg #[.i q.1.1, .bool q.1.2.1, .slice v.a v.len v.cap], .bool q.2] /\ L' = seg ++ A /\ Own v 3 Bv6 (q.1.2.2.flatMap N7) seg
theorem Bw8.no {q : Rg} {A J : A4} (h : q = ((0, false, []), false)) : HL.Ends (Bw8 q A) (.tuple #[.agg #[.i 0, .bool false, .slice none 0 0], .bool false]) (J ++ A) := .app (.of ⟨⟨none, 0, 0⟩, [], by rw [h], rfl, by rw [h]; exact F7⟩)
theorem Ck0 {ps : List (List UInt8)} (h : ps ≠ []) : K7 ps < min ps.length 16 := by
 have h1 := A34 ps (min ps.length 16 - 1)
 have h2 : 0 < ps.length := List.length_pos_iff.2 h
 unfold K7
 omega
theorem Bm7 {ps : List (List UInt8)} (h : Z7 ps 0 (1, 0, 1, epR ps, 0, ()) ≠ some []) : S0 ps = ((0, false, []), false) := by
 unfold S0
 split
 ·rfl
 ·split
  ·rename_i h2; exact absurd h2 h
  ·rfl
theorem Bt3 {ps : List (List UInt8)} (h0 : ps ≠ []) (h : Z7 ps 0 (1, 0, 1, epR ps, 0, ()) = some []) {l : List It} (hl : (if K7 ps > 0 then A10 ps (epR ps) else none) = some l) : S0 ps = ((epR ps, true, l), true) := by
 unfold S0
 rw [if_neg h0, h]
 simp only [hl]
theorem Ay1 {ps : List (List UInt8)} (h0 : ps ≠ []) (h : Z7 ps 0 (1, 0, 1, epR ps, 0, ()) = some []) (hl : (if K7 ps > 0 then A10 ps (epR ps) else none) = none) : S0 ps = ((epR ps, false, Ac8 (O0 ps (epR ps)) (K7 ps) 17 1), true) := by
 unfold S0
 rw [if_neg h0, h]
 simp only [hl]
theorem Cw9 (A : A4) (v : SlV) (l : List PV) (h : U3 A v l) (hl : l.length <= 1000000) (hb : ∀ x ∈ l, x.2.length <= 1000000) : CallF PP 224 #[.slice v.a v.len v.cap] A (Bw8 (S0 (l.map Prod.snd)) A) := by
 refine c224 v ?_
 unfold s224
 refine Q2 (C00 A v l h hl hb) ?_
 rintro _ _ - ⟨m, B, rfl, rfl, hSH⟩
 refine ⟨(some ⟨m, 0, none⟩, ()), rfl, A5 rfl ?_⟩
 obtain ⟨sv, seg, ims, rfl, hh⟩ := hSH
 generalize hps : l.map Prod.snd = ps at hh ⊢
 have hvl := hh.own.sl.els_len IM.enc_len (by decide)
 have hil := hh.ilen
 refine A6 sv (Cq1 (L := sO m sv 0 (K7 ps) :: (seg ++ T6 ims) ++ A) List.mem_cons_self) (C0 (fun (h0 : (sv.len : Int) = 0) => ?_) (fun (h0 : ¬ (sv.len : Int) = 0) => ?_))
 ·have : ps = [] := List.length_eq_zero_iff.1 (by omega)
  exact Bw8.no (by rw [this]; rfl)
 have hne : ps ≠ [] := fun e => h0 (by rw [e, List.length_nil] at hil; omega)
 have hlt := Ck0 hne
 refine A6 sv (Cq1 (L := sO m sv 0 (K7 ps) :: (seg ++ T6 ims) ++ A) List.mem_cons_self) ?_
 have hSl : Sl (sO m sv 0 (K7 ps) :: (seg ++ T6 ims) ++ A) sv 7 (ims.flatMap IM.enc) := Sl.mono hh.own.sl fun x hx => by simp [hx]
 have hi0 : 0 < ims.length := by omega
 refine V5 IM.enc_len (by decide) hSl (i := 0) (n := 0) rfl hi0 fun a ha => ?_
 obtain ⟨hip, i1, -, -⟩ := hh.im hi0
 have hep : epR ps = ims[0].h.2.2.2.1 := by
  unfold epR
  rw [i1]
  congr 4
  simp [List.getD_eq_getElem?_getD, hip]
 refine A6 ims[0].h.2.2.2.1 (ha.one 3 rfl) ?_
 rw [<- hep]
 refine E3 (n := m) (off := 1) (c := #[.slice sv.a sv.len sv.cap, .i 0, .i (K7 ps)]) (T := 375) (fz := (0, 0)) [] ((seg ++ T6 ims) ++ A) rfl (by simp [sO]) (by simp) (.inl (Nat.le_refl _)) #[.slice sv.a sv.len sv.cap, .i (epR ps), .i (K7 ps)] rfl ?_
 obtain ⟨B, hBd⟩ : ∃ B, B = sO m sv (epR ps) (K7 ps) :: (seg ++ T6 ims) := ⟨_, rfl⟩
 have hBB : ([] ++ (m, Obj.cells #[.slice sv.a sv.len sv.cap, .i (epR ps), .i (K7 ps)] 375) :: ((seg ++ T6 ims) ++ A)) = B ++ A := by rw [hBd]; rfl
 rw [hBB]
 have hSH : SH m ps (epR ps) (K7 ps) B := ⟨sv, seg, ims, hBd, hh⟩
 have hmO : sO m sv (epR ps) (K7 ps) ∈ B ++ A := by rw [hBd]; simp
 refine Q2 (Bh0 (B ++ A) B m ps (epR ps) (K7 ps) hSH mem_l 0 (1, 0, 1, 0, 0, ())) ?_
 rintro _ _ - ⟨rfl, ⟨hn, rfl⟩ | ⟨w, p, hsm, rfl, hw, -⟩⟩
 ·exact ⟨(⟨none, 0, 0⟩, false, ()), rfl, ifF rfl (Bw8.no (Bm7 (by rw [hn]; exact fun e => by cases e)))⟩
 have hwl := hw.len
 refine ⟨(w, true, ()), rfl, ifT rfl (C0 (fun (h1 : (w.len : Int) > 0) => Bw8.no (Bm7 (by rw [hsm]; intro e; cases e; simp at hwl; omega))) (fun (h1 : ¬ (w.len : Int) > 0) => ?_))⟩
 obtain rfl : p = [] := List.length_eq_zero_iff.1 (by omega)
 refine Y6 (fun _ L' => ∃ J, L' = J ++ (B ++ A) /\ (if K7 ps > 0 then A10 ps (epR ps) else none) = none) ?_ ?_
 ·rintro _ _ ⟨J, rfl, hno⟩
  refine A6 (epR ps) ((s_ep hmO).mono A26) (Q2 (C30 (J ++ (B ++ A)) B m ps (epR ps) (K7 ps) hSH (fun x hx => by simp [hx]) hlt) ?_)
  rintro _ _ - ⟨v1, sg1, rfl, rfl, own1⟩
  refine ⟨(v1, ()), rfl, E9 (((s_ep hmO).mono A26).mono A26) (.drop (A := sg1 ++ A) (J := J ++ B) ⟨v1, sg1, ?_, rfl, ?_⟩ ?_)⟩
  ·rw [Ay1 hne hsm hno]
  ·rw [Ay1 hne hsm hno]; exact own1
  ·classical
   rw [List.perm_iff_count]
   intro z
   simp only [List.count_append]
   omega
 ·intro j hj
  refine A6 (K7 ps : Int) (s_la hmO) (C0 (fun (h2 : (K7 ps : Int) > 0) => ?_) (fun (h2 : ¬ (K7 ps : Int) > 0) => hj _ _ ⟨[], rfl, by rw [if_neg (by omega)]⟩))
  have h2' : K7 ps > 0 := by omega
  refine Q2 (Cw6 (B ++ A) B m ps (epR ps) hSH mem_l) ?_
  rintro _ _ - (⟨hn, rfl, w2, rfl⟩ | ⟨its, w2, sg2, hs2, rfl, rfl, own2⟩)
  ·exact ⟨(w2, false, ()), rfl, ifF rfl (hj _ _ ⟨[], rfl, by rw [if_pos h2']; exact hn⟩)⟩
  ·have hsc := Bt3 hne hsm (l := its) (by rw [if_pos h2']; exact hs2)
   refine ⟨(w2, true, ()), rfl, ifT rfl (A6 (epR ps) ((s_ep hmO).mono A26) (.drop (A := sg2 ++ A) (J := B) ⟨w2, sg2, by rw [hsc], rfl, by rw [hsc]; exact own2⟩ ?_))⟩
   classical
   rw [List.perm_iff_count]
   intro z
   simp only [List.count_append]
   omega
def Q6 (ps : List (List UInt8)) (pg : Int) : Nat -> Option (List (List UInt8))
 | 0 => some []
 | n + 1 => match Q6 ps pg n with
  | some l => if pg < 0 \/ (ps.length : Int) <= pg + n then none else if (H5 (ps.getD (pg.toNat + n) [])).2.2 = 0 then some (l ++ [(H5 (ps.getD (pg.toNat + n) [])).2.1]) else none
  | none => none
def Af1 (ps : List (List UInt8)) (x : It) : List (List UInt8) := (Q6 ps x.2.1 x.2.2.1.toNat).getD []
theorem Bi0 {ps : List (List UInt8)} {pg : Int} : ∀ {n m : Nat}, n <= m -> Q6 ps pg n = none -> Q6 ps pg m = none
  | n, m, h, hn => by
    induction m with
    | zero => obtain rfl : n = 0 := by omega
              exact hn
    | succ m ih =>
      rcases Nat.lt_or_ge m n with h1 | h1
      · obtain rfl : n = m + 1 := by omega
        exact hn
      · rw [Q6, ih h1]
theorem Ak5 {ps : List (List UInt8)} {pg : Int} : ∀ {n : Nat} {l : List (List UInt8)}, Q6 ps pg n = some l -> l.length = n /\ (0 < n -> pg + n <= ps.length)
 | 0, l, h => by obtain rfl := Option.some.inj h; exact ⟨rfl, fun h => absurd h (by omega)⟩
 | n + 1, l, h => by
  rw [Q6] at h
  split at h
  ·rename_i l' hl'
   split at h
   ·cases h
   ·split at h
    ·obtain rfl := Option.some.inj h
     exact ⟨by simp [(Ak5 hl').1], fun _ => by omega⟩
    ·cases h
  ·cases h
def A03 (l : List (List UInt8)) (A : A4) (r : Value) (L' : A4) : Prop := ∃ (v : SlV) (gs : List PG) (seg : A4), r = .slice v.a v.len v.cap /\ L' = seg ++ (pgs gs ++ A) /\ Own v 1 tB (gs.map PG.val) seg /\ (∀ g ∈ gs, g.Ok) /\ gs.map PG.l = l
theorem A03.nil {l : List (List UInt8)} {A : A4} (h : l = []) : A03 l A (.slice none 0 0) A := ⟨⟨none, 0, 0⟩, [], [], rfl, rfl, F7, by simp, by rw [h]; rfl⟩
def Cc1 (ps : List (List UInt8)) (pg : Int) (A : A4) (i : Nat) (s : SlV) (L' : A4) : Prop := ∃ (gs : List PG) (sg J X Y : A4), L' = X ++ sg ++ Y /\ (X ++ Y).Perm (pgs gs ++ (J ++ A)) /\ Own s 1 tB (gs.map PG.val) sg /\ (∀ g ∈ gs, g.Ok) /\ Q6 ps pg i = some (gs.map PG.l)
theorem Cc1.sub {ps : List (List UInt8)} {pg : Int} {A : A4} {i : Nat} {s : SlV} {L' : A4} (h : Cc1 ps pg A i s L') : ∀ x ∈ A, x ∈ L' := by
 obtain ⟨gs, sg, J, X, Y, rfl, hp, -⟩ := h
 intro x hx
 have h5 : x ∈ X ++ Y := (hp.mem_iff (a := x)).2 (by simp [hx])
 simp only [List.mem_append] at h5 ⊢
 rcases h5 with h5 | h5 <;> simp [h5]
theorem Cc1.fin {ps : List (List UInt8)} {x : It} {A : A4} {i : Nat} {s : SlV} {L' : A4} (h : Cc1 ps x.2.1 A i s L') (hi : i = x.2.2.1.toNat) : HL.Ends (A03 (Af1 ps x) A) (.slice s.a s.len s.cap) L' := by
 obtain ⟨gs, sg, J, X, Y, rfl, hp, own, hok, hg⟩ := h
 refine .drop (A := sg ++ (pgs gs ++ A)) (J := J) ⟨s, gs, sg, rfl, rfl, own, hok, ?_⟩ ?_
 ·unfold Af1; rw [<- hi, hg]; rfl
 ·classical
  rw [List.perm_iff_count] at hp ⊢
  intro z
  have := hp z
  simp only [List.count_append] at this ⊢
  omega
theorem Cc1.app {ps : List (List UInt8)} {x : It} {A : A4} {i : Nat} {s : SlV} {L' : A4} (h : Cc1 ps x.2.1 A i s L') (hn : Q6 ps x.2.1 (i + 1) = none) (hi : i < x.2.2.1.toNat) (seg : A4) : HL.Ends (A03 (Af1 ps x) A) (.slice none 0 0) (seg ++ L') := by
 obtain ⟨gs, sg, J, X, Y, rfl, hp, -⟩ := h
 refine .drop (A := A) (J := seg ++ (sg ++ (pgs gs ++ J))) (A03.nil (by unfold Af1; rw [Bi0 hi hn]; rfl)) ?_
 classical
 rw [List.perm_iff_count] at hp ⊢
 intro z
 have := hp z
 simp only [List.count_append] at this ⊢
 omega
theorem Cc1.snoc {ps : List (List UInt8)} {pg : Int} {A : A4} {i : Nat} {s : SlV} {L' : A4} (h : Cc1 ps pg A i s L') (g : PG) (hg : g.Ok) (hgl : g.l.length <= 1000000) (hi : i <= 1000000) (hn : Q6 ps pg (i + 1) = (Q6 ps pg i).map fun l => l ++ [g.l]) {k : SlV -> HP} (hk : ∀ s' L', Cc1 ps pg A (i + 1) s' L' -> k s' L') :
  apv PP tPs tPs tPs tB s 1 [g.val] k (g.seg ++ L') := by
 obtain ⟨gs, sg, J, X, Y, rfl, hp, own, hok, hl⟩ := h
 have hln := (Ak5 hl).1
 rw [List.length_map] at hln
 have hsl := own.len
 rw [List.length_map] at hsl
 refine Cb4 Bd3 Ce7 (g.seg ++ X) Y own (by simp) rfl rfl (by omega) fun s2 sg2 _ own2 => hk _ _ ⟨gs ++ [g], sg2, J, g.seg ++ X, Y, by simp, ?_, ?_, ?_, ?_⟩
 ·rw [O4, As4]
  classical
  rw [List.perm_iff_count] at hp ⊢
  intro z
  have := hp z
  simp only [List.count_append] at this ⊢
  omega
 ·rw [List.map_append]; exact own2
 ·intro g' hg'
  rcases List.mem_append.1 hg' with h1 | h1
  ·exact hok g' h1
  ·rw [List.mem_singleton.1 h1]; exact hg
 ·rw [hn, hl]; simp
theorem Bh5 (A : A4) (v : SlV) (l : List PV) (h : U3 A v l) (hl : l.length <= 1000000) (hb : ∀ x ∈ l, x.2.length <= 1000000) (x : It) (hx : W1 .i64 x.2.1 /\ W1 .i64 x.2.2.1) :
  CallF PP 169 #[.slice v.a v.len v.cap, .agg #[.i x.1, .i x.2.1, .i x.2.2.1]] A (A03 (Af1 (l.map Prod.snd) x) A) := by
 refine c169 v x ?_
 unfold s169
 have hvl := h.len
 have hx1 := Bl2 hx.1
 have hx2 := Bl2 hx.2
 generalize hps : l.map Prod.snd = ps
 have hpl : ps.length = l.length := by rw [<- hps]; simp
 refine G0 (fun z' z L' => ∃ (i : Nat) (s : SlV), i <= x.2.2.1.toNat /\ i <= l.length /\ z' = x.2.2.1.toNat - i /\ z = (s, (i : Int), ()) /\ Cc1 ps x.2.1 A i s L') x.2.2.1.toNat ⟨0, ⟨none, 0, 0⟩, by omega, by omega, by omega, rfl, [], [], [], [], A, rfl, List.Perm.refl _, F7, by simp, rfl⟩ ?_
 rintro z' z L1 ⟨i, s, hi, hil, rfl, rfl, hP⟩
 dsimp only
 refine C0 (fun (hlt : (i : Int) < x.2.2.1) => ?_) (fun (hge : ¬ (i : Int) < x.2.2.1) => hP.fin (by omega))
 obtain ⟨gs, sg, J, X, Y, hLe, hp, own, hok, hg⟩ := hP
 have hP : Cc1 ps x.2.1 A i s L1 := ⟨gs, sg, J, X, Y, hLe, hp, own, hok, hg⟩
 have hi' : i < x.2.2.1.toNat := by omega
 have hstep := show Q6 ps x.2.1 (i + 1) = _ from rfl
 rw [Q6, hg] at hstep
 simp only at hstep
 refine C0 (fun (h1 : x.2.1 < 0) => hP.app (by rw [Q6, hg]; simp only; rw [if_pos (.inl h1)]) hi' []) (fun (h1 : ¬ x.2.1 < 0) => D9 (by omega) (C0 (fun (h2 : x.2.1 ≥ (v.len : Int) - i) => hP.app (by rw [Q6, hg]; simp only; rw [if_pos (.inr (by omega))]) hi' []) (fun (h2 : ¬ x.2.1 ≥ (v.len : Int) - i) => D9 (by omega) ?_)))
 have hq : x.2.1.toNat + i < l.length := by omega
 have hst : Q6 ps x.2.1 (i + 1) = if (H5 l[x.2.1.toNat + i].2).2.2 = 0 then some (gs.map PG.l ++ [(H5 l[x.2.1.toNat + i].2).2.1]) else none := by
  rw [Q6, hg]
  simp only
  rw [if_neg (by omega)]
  have : ps.getD (x.2.1.toNat + i) [] = l[x.2.1.toNat + i].2 := by rw [<- hps]; simp [List.getD_eq_getElem?_getD, hq]
  rw [this]
 refine Cm7 (h.sl.mono hP.sub) (n := x.2.1.toNat + i) (by omega) (by rw [List.length_map]; exact hq) fun a ha => ?_
 rw [List.getElem_map] at ha
 refine A6 l[x.2.1.toNat + i].1 ha (Q2 (As2 L1 _ l[x.2.1.toNat + i].2 (Sl.mono (h.val _ (List.getElem_mem hq)) hP.sub) (hb _ (List.getElem_mem hq))) ?_)
 rintro _ _ - ⟨s2, sg2, rfl, rfl, own2⟩
 refine ⟨((H5 l[x.2.1.toNat + i].2).1, s2, (H5 l[x.2.1.toNat + i].2).2.2, ()), rfl, C0 (fun (h3 : (H5 l[x.2.1.toNat + i].2).2.2 = 0) => ?_) (fun (h3 : ¬ (H5 l[x.2.1.toNat + i].2).2.2 = 0) => hP.app (by rw [hst, if_neg h3]) hi' sg2)⟩
 refine hP.snoc ⟨s2, sg2, (H5 l[x.2.1.toNat + i].2).2.1⟩ own2 (Nat.le_trans (Ao8 _) (hb _ (List.getElem_mem hq))) (by omega) (by rw [hst, hg, if_pos h3]; rfl) fun s' L' hP' => D9 (by omega) ⟨x.2.2.1.toNat - (i + 1), by omega, i + 1, s', by omega, by omega, rfl, rfl, hP'⟩
end Go.Proofs.YtbaoieipijmakaaGreatDoor
