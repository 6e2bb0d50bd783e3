/-
  It is proved what the functions that the law StoreNil reaches compute, part 4. There are no further conditions than those that each theorem names.
-/
import Derived.Test.YtbaoieipijmakaaGreatDoorMStoreNil3
set_option linter.unusedVariables false
set_option linter.unusedSimpArgs false
namespace Go.Proofs.YtbaoieipijmakaaGreatDoor
open Go.HL
theorem elemIr : S2 PP tyIr tyIs 1 24 [.slice none 0 0] := M0 (by kernel_rfl) (by kernel_rfl) rfl (by decide) (by decide)
theorem Ck5 (L : A4) (sets ways : Int) (h : sets < 1 \/ sets > 64 \/ ways < 1 \/ ways > 8) : Reads PP 92 #[.i sets, .i ways] L (.tuple #[.pointer none, .i 30]) := by
 refine Reads.of (args := [.i sets, .i ways]) B5 B6 Tryz.func92 (e92 sets ways _) ?_
 unfold t92
 exact B9 (fun _ => .of ⟨rfl, rfl⟩) fun h1 => B9 (fun _ => .of ⟨rfl, rfl⟩) fun h2 => B9 (fun _ => .of ⟨rfl, rfl⟩) fun h3 => B9 (fun _ => .of ⟨rfl, rfl⟩) fun h4 => by omega
theorem Cq3 : ∀ k : Nat, (List.replicate k ((⟨none, 0, 0⟩, [], []) : A63)).flatMap A91 = Ab1 [.slice none 0 0] k
 | 0 => rfl
 | k + 1 => by rw [List.replicate_succ, List.flatMap_cons, Cq3 k]; simp [Ab1, A91, List.replicate_succ]
theorem C10 (sets : Nat) (ways : Int) (h1 : 1 <= sets) (h2 : sets <= 64) (h3 : 1 <= ways) (h4 : ways <= 8) :
  CallF PP 92 #[.i sets, .i ways] [] fun r L' => ∃ m, r = .tuple #[.pointer (some ⟨m, 0, none⟩), .i 0] /\ IX m ways (List.replicate sets []) L' := by
 refine CallF.of (args := [.i sets, .i ways]) B5 B6 Tryz.func92 (e92 sets ways _) ?_
 unfold t92
 refine ifN (show ¬ (sets : Int) < 1 by omega) (ifN (show ¬ (sets : Int) > 64 by omega) (ifN (by omega) (ifN (by omega) ?_)))
 refine At0 elemIr (l := sets) (c := sets) (Nat.le_refl _) (by omega) fun n ob own _ _ => C3 fun m _ => .of ⟨m, rfl, ⟨some ⟨n, 0, none⟩, sets, sets⟩, [(n, ob)], List.replicate sets (⟨none, 0, 0⟩, [], []), ?_, ⟨?_, ?_, ?_, by rw [List.length_replicate]; omega⟩, ?_⟩
 ·unfold IA iO
  have : N0 (List.replicate sets ((⟨none, 0, 0⟩, [], []) : A63)) = [] := by
   unfold N0
   rw [List.flatMap_eq_nil_iff]
   intro x hx
   rw [List.eq_of_mem_replicate hx]
  rw [this]; rfl
 ·have : (List.replicate sets ((⟨none, 0, 0⟩, [], []) : A63)).flatMap A91 = Ab1 [.slice none 0 0] sets := by
   exact Cq3 sets
  rw [this]
  exact own
 ·intro r hr
  rw [List.eq_of_mem_replicate hr]
  exact ⟨rfl, Nat.le_refl _, .inl ⟨rfl, rfl, rfl⟩⟩
 ·intro r hr
  rw [List.eq_of_mem_replicate hr]
  exact Nat.zero_le _
 ·unfold V1; rw [List.map_replicate]
def Cc5 (h : Nat) (p : Pl) (freq : Int) : C9 := ⟨Q8 h, p.1, p.2.1, p.2.2.1, freq⟩
def Z9 (l : List C9) (ways : Int) : Bool := ((l.length : Int) == ways)
def Bu8 (l : List C9) (ways : Int) (h : Nat) (p : Pl) : List C9 := (if Z9 (G3 l (inm h p)) ways then (G3 l (inm h p)).drop 1 else G3 l (inm h p)) ++ [Cc5 h p 0]
def B67 (l : List C9) (ways : Int) (h : Nat) (p : Pl) : C9 := if Z9 (G3 l (inm h p)) ways then (G3 l (inm h p)).headD isz else isz
def Cr8 (ss : List (List C9)) (ways : Int) (h : Nat) (p : Pl) : List (List C9) := iset ss h (Bu8 (O2 ss h) ways h p)
theorem IX.few {m : Nat} {ways : Int} {ss : List (List C9)} {A : A4} (h : IX m ways ss A) (hs : Nat) : (O2 ss hs).length <= 100 := by
 obtain ⟨sv, oseg, p, r, s, a, rfl, ok, ha, hl1, hl2, hp, hrow, hset⟩ := h.split hs
 rw [hrow]; exact ok.few r (by simp)
theorem IX.lt {m : Nat} {ways : Int} {ss : List (List C9)} {A : A4} (h : IX m ways ss A) (hs : Nat) : isi ss hs < ss.length := by
 obtain ⟨sv, oseg, rows, rfl, ok, rfl⟩ := h
 unfold isi
 have hsl : (V1 rows).length = rows.length := List.length_map ..
 have := ok.pos
 exact Nat.mod_lt _ (by omega)
theorem Ai7 {ss : List (List C9)} {h : Nat} (hl : isi ss h < ss.length) (row : List C9) : O2 (iset ss h row) h = row := by
 have hsl : (iset ss h row).length = ss.length := List.length_set ..
 have e : isi (iset ss h row) h = isi ss h := by unfold isi; rw [hsl]
 unfold O2
 rw [e]
 unfold iset
 rw [List.getD_eq_getElem?_getD, List.getElem?_set_self hl]; rfl
theorem Ai5 (ss : List (List C9)) (h : Nat) (r1 r2 : List C9) : iset (iset ss h r1) h r2 = iset ss h r2 := by
 have hsl : (iset ss h r1).length = ss.length := List.length_set ..
 have e : isi (iset ss h r1) h = isi ss h := by unfold isi; rw [hsl]
 unfold iset at *
 rw [e, List.set_set]
theorem C17 {l : List C9} (h : 0 < l.length) : l.headD isz = l[0] := by
 cases l with
 | nil => simp at h
 | cons y t => rfl
theorem C09 (m : Nat) (ways : Int) (ss : List (List C9)) (A : A4) (hA : IX m ways ss A) (hw : 1 <= ways) (h : Nat) (hh : h < 2 ^ 64) (pl : Pl) (hf : (O2 ss h).length < 100) :
  CallF PP 173 #[.pointer (some ⟨m, 0, none⟩), .int .u64 h, .agg #[.i pl.1, .i pl.2.1, .i pl.2.2.1]] A
   fun v L' => (∃ g : C9, v = .tuple #[.agg #[.i g.b, .i g.p, .i g.e], .bool (Z9 (G3 (O2 ss h) (inm h pl)) ways)] /\ g = B67 (O2 ss h) ways h pl) /\ IX m ways (Cr8 ss ways h pl) L' := by
 refine CallF.of (args := [.pointer (some ⟨m, 0, none⟩), .int .u64 h, .agg #[.i pl.1, .i pl.2.1, .i pl.2.2.1]]) B5 B6 Tryz.func173 (e173 (some ⟨m, 0, none⟩) h pl _) ?_
 unfold t173
 have hlt := hA.lt h
 refine C3 fun n1 _ => C3 fun n2 _ => ifF rfl ?_
 generalize ho1 : (n1, Obj.cells #[.i pl.1, .i pl.2.1, .i pl.2.2.1] 102) = o1
 generalize ho2 : (n2, Obj.cells #[.i 0, .i 0, .i 0] 102) = o2
 have l1 : ∀ {Z : A4}, D0 ⟨n1, 0, none⟩ [.i pl.1, .i pl.2.1, .i pl.2.2.1] (o2 :: o1 :: Z) := by subst ho1; exact ldB (n := n1) (c := #[.i pl.1, .i pl.2.1, .i pl.2.2.1]) (T := 102) (fz := (0, 0)) (by simp) rfl
 refine A6 pl l1 (H4 [o2, o1] [] (Ap0 m ways ss A hA h hh pl) (by simp) ?_)
 rintro _ A1 - ⟨⟨x, rfl, -⟩, hA1⟩
 refine ⟨((x.part, x.b, x.p, x.e, x.freq, ()), (P2 ss h pl).isSome, ()), rfl, ?_⟩
 have hrow1 := Ai7 hlt (G3 (O2 ss h) (inm h pl))
 have hset1 : ∀ row', iset (iset ss h (G3 (O2 ss h) (inm h pl))) h row' = iset ss h row' := fun row' => Ai5 ..
 generalize hl1 : G3 (O2 ss h) (inm h pl) = l1' at hA1 hrow1 hset1 ⊢
 have hput : Cr8 ss ways h pl = iset ss h ((if Z9 l1' ways then l1'.drop 1 else l1') ++ [Cc5 h pl 0]) := by unfold Cr8 Bu8; rw [hl1]
 have hgone : B67 (O2 ss h) ways h pl = if Z9 l1' ways then l1'.headD isz else isz := by unfold B67; rw [hl1]
 have hl1f : l1'.length < 100 := by rw [<- hl1]; exact Nat.lt_of_le_of_lt (List.length_eraseP_le ..) hf
 rw [hput, hgone]
 clear hput hgone hl1
 obtain ⟨sv, oseg, p, r, s, a, rfl, ok, ha, hs1, hs2, hp, hrow, hset⟩ := hA1.split h
 rw [hrow1] at hrow
 subst hrow
 have hg : iO m ways sv ∈ IA m ways sv oseg (p ++ r :: s) := List.mem_cons_self
 have hos : ∀ {X : A4}, (∀ x ∈ oseg, x ∈ X ++ IA m ways sv oseg (p ++ r :: s)) := fun x hx => by unfold IA; simp [hx]
 have hrs : ∀ {X : A4}, (∀ x ∈ r.2.2, x ∈ X ++ IA m ways sv oseg (p ++ r :: s)) := fun x hx => by unfold IA N0; simp [hx]
 refine B3 (Ae1 _ m ways sv (by simp [hg]) a ha hs1 (by omega) h hh) (some (a.add (h % sv.len)), ()) rfl (C3 fun n3 _ => ?_)
 rw [hp]
 have lr : ∀ {o : Nat × Obj}, D0 (a.add p.length) [.slice r.1.a r.1.len r.1.cap] (o :: ([o2, o1] ++ IA m ways sv oseg (p ++ r :: s))) := fun {o} => Bv1 ok ha (hos (X := [o, o2, o1]))
 have lsl : ∀ {o : Nat × Obj}, Sl (o :: ([o2, o1] ++ IA m ways sv oseg (p ++ r :: s))) r.1 5 (r.2.1.flatMap Ag3) := fun {o} => Al0 ok (hrs (X := [o, o2, o1]))
 have hlen := (lsl (o := o1)).els_len J4 (by decide)
 rw [List.append_nil]
 refine A5 rfl (A5 rfl (A6 r.1 lr (A6 ways (i_ways (sv := sv) (by simp [hg])) ?_)))
 have hv : ∀ r1 : Int, ((r.1.len : Int) == r1) = (((r.2.1.length : Nat) : Int) == r1) := fun r1 => by rw [hlen]
 refine Y6 (fun (_ : RsV []) L' => ∃ (g : C9) (A' : A4), L' = (n3, Obj.cells #[.i g.part, .i g.b, .i g.p, .i g.e, .i g.freq] 204) :: o2 :: o1 :: A' /\ g = (if Z9 r.2.1 ways then r.2.1.headD isz else isz) /\ IX m ways (iset ss h (if Z9 r.2.1 ways then r.2.1.drop 1 else r.2.1)) A') ?_ ?_
 ·rintro ⟨⟩ _ ⟨g, A', rfl, hgg, hA'⟩
  have hrow2 := Ai7 hlt (if Z9 r.2.1 ways then r.2.1.drop 1 else r.2.1)
  have hlen2 : (if Z9 r.2.1 ways then r.2.1.drop 1 else r.2.1).length < 100 := by
   split
   ·rw [List.length_drop]; omega
   ·omega
  generalize (if Z9 r.2.1 ways then r.2.1.drop 1 else r.2.1) = l2 at hA' hrow2 hlen2 ⊢
  have l1' : D0 ⟨n1, 0, none⟩ [.i pl.1, .i pl.2.1, .i pl.2.2.1] ((n3, Obj.cells #[.i g.part, .i g.b, .i g.p, .i g.e, .i g.freq] 204) :: o2 :: o1 :: A') := (l1 (Z := A')).mono fun _ hx => List.mem_cons_of_mem _ hx
  refine A6 pl l1' (B3 (Bb8 _ h hh pl) ((Q8 h, pl.1, pl.2.1, pl.2.2.1, ()), ()) rfl ?_)
  refine H4 [(n3, Obj.cells #[.i g.part, .i g.b, .i g.p, .i g.e, .i g.freq] 204), o2, o1] [] (Bb3 m ways _ A' hA' h hh (Cc5 h pl 0) (by rw [hrow2]; exact hlen2)) (by simp) ?_
  rintro _ A2 - ⟨rfl, hA2⟩
  rw [hrow2, Ai5] at hA2
  refine ⟨(), rfl, A6 (g.b, g.p, g.e, ()) (ldB (n := n3) (c := #[.i g.part, .i g.b, .i g.p, .i g.e, .i g.freq]) (T := 204) (fz := (0, 0)) (by simp) rfl) ?_⟩
  subst ho2
  refine E3 (n := n2) (off := 0) (c := #[.i 0, .i 0, .i 0]) (T := 102) (fz := (0, 0)) [(n3, Obj.cells #[.i g.part, .i g.b, .i g.p, .i g.e, .i g.freq] 204)] (o1 :: A2) rfl (by simp) (by simp) (.inl (Nat.le_refl _)) #[.i g.b, .i g.p, .i g.e] rfl ?_
  refine A6 (g.b, g.p, g.e, ()) (ldB (n := n2) (c := #[.i g.b, .i g.p, .i g.e]) (T := 102) (fz := (0, 0)) (by simp) rfl) (.cons (.cons (.cons (.of ⟨⟨g, ?_, hgg⟩, hA2⟩))))
  rw [hv]; rfl
 intro j hj
 refine G2 (fun hfull => ?_) (fun hfull => ?_)
 ·rw [hv] at hfull
  have hf2 : Z9 r.2.1 ways = true := hfull
  have hways : ((r.2.1.length : Nat) : Int) = ways := by simpa using hfull
  have h0 : 0 < r.2.1.length := by omega
  obtain ⟨b, hb', hld⟩ := (lsl (o := (n3, Obj.cells #[.i 0, .i 0, .i 0, .i 0, .i 0] 204))).el J4 (by decide) h0
  have hx : r.2.1.headD isz = r.2.1[0] := C17 h0
  have hdel := B68 r.1 r.2.1 r.2.2 (ok.row r (by simp)) (by omega) 0 h0
  refine A5 rfl (A6 r.1 lr (A5 hb' (E0 (by decide) (by omega) (A6 (r.2.1[0].part, r.2.1[0].b, r.2.1[0].p, r.2.1[0].e, r.2.1[0].freq, ()) hld ?_))))
  clear hld
  generalize r.2.1[0] = x0 at hx ⊢
  refine E3 [] _ rfl rfl (by simp) (.inl (Nat.le_refl _)) #[.i x0.part, .i x0.b, .i x0.p, .i x0.e, .i x0.freq] rfl ?_
  rw [List.nil_append]
  refine A5 rfl (A6 r.1 lr ?_)
  refine H4 ((n3, Obj.cells #[.i x0.part, .i x0.b, .i x0.p, .i x0.e, .i x0.freq] 204) :: o2 :: o1 :: iO m ways sv :: (oseg ++ N0 p)) (N0 s) hdel (by unfold IA; rw [W4]; simp) ?_
  rintro _ seg2 - ⟨v2, rfl, own2⟩
  refine ⟨(v2, ()), rfl, A5 rfl ?_⟩
  have e3 : r.2.1.take 0 ++ r.2.1.drop (0 + 1) = r.2.1.drop 1 := by simp
  rw [e3] at own2
  refine ok.own.st ((n3, Obj.cells #[.i x0.part, .i x0.b, .i x0.p, .i x0.e, .i x0.freq] 204) :: o2 :: o1 :: [iO m ways sv]) (N0 p ++ seg2 ++ N0 s) (p := p.length) (ws := A91 (v2, r.2.1.drop 1, seg2)) (by rw [M7 M5, M5]; simp) (by rw [M5]; omega) ha rfl (by simp) fun oseg' own' => ?_
  have ok' := Cl2 ok (v2, r.2.1.drop 1, seg2) own' own2 (by rw [List.length_drop]; omega)
  refine hj _ _ ⟨x0, IA m ways sv oseg' (p ++ (v2, r.2.1.drop 1, seg2) :: s), ?_, by rw [if_pos hf2, hx], ?_⟩
  ·unfold IA; rw [W4]; simp
  ·rw [if_pos hf2]
   exact ⟨sv, oseg', _, rfl, ok', by rw [Ae0, <- hset1, hset]⟩
 ·rw [hv] at hfull
  have hf2 : ¬ Z9 r.2.1 ways = true := by unfold Z9; rw [hfull]; decide
  refine hj _ _ ⟨isz, IA m ways sv oseg (p ++ r :: s), rfl, by rw [if_neg hf2], ?_⟩
  rw [if_neg hf2]
  exact ⟨sv, oseg, _, rfl, ok, by rw [Ae0, <- hset1, hset]⟩
theorem Bo5 (m : Nat) (ways : Int) (ss : List (List C9)) (A : A4) (hA : IX m ways ss A) (h : Nat) (hh : h < 2 ^ 64) (pl : Pl) :
  CallF PP 106 #[.pointer (some ⟨m, 0, none⟩), .int .u64 h, .agg #[.i pl.1, .i pl.2.1, .i pl.2.2.1]] A
   fun v L' => v = .bool (P2 ss h pl).isSome /\ IX m ways (iset ss h (G3 (O2 ss h) (inm h pl))) L' := by
 refine CallF.of (args := [.pointer (some ⟨m, 0, none⟩), .int .u64 h, .agg #[.i pl.1, .i pl.2.1, .i pl.2.2.1]]) B5 B6 Tryz.func106 (e106 (some ⟨m, 0, none⟩) h pl _) ?_
 unfold t106
 refine C3 fun n1 _ => A6 pl (ldB List.mem_cons_self rfl) (H4 [(n1, Obj.cells #[.i pl.1, .i pl.2.1, .i pl.2.2.1] 102)] [] (Ap0 m ways ss A hA h hh pl) (by simp) ?_)
 rintro _ A1 - ⟨⟨x, rfl, -⟩, hA1⟩
 refine ⟨((x.part, x.b, x.p, x.e, x.freq, ()), (P2 ss h pl).isSome, ()), rfl, C3 fun n2 _ => E3 [] _ rfl rfl (by simp) (.inl (Nat.le_refl _)) #[.i x.part, .i x.b, .i x.p, .i x.e, .i x.freq] rfl ?_⟩
 rw [List.append_nil]
 exact .cons (.cons (.of ⟨rfl, hA1⟩))
def At6 (ss : List (List C9)) (h : Nat) (p q : Pl) : List (List C9) := match P2 ss h p with
 | none => ss
 | some x => iset ss h (G3 (G3 (O2 ss h) (inm h p)) (inm h q) ++ [Cc5 h q (Ab4 (x.freq - 1) 0)])
theorem Ck8 (m : Nat) (ways : Int) (ss : List (List C9)) (A : A4) (hA : IX m ways ss A) (h : Nat) (hh : h < 2 ^ 64) (p q : Pl) (hfr : ∀ s ∈ O2 ss h, 0 <= s.freq /\ s.freq <= 3) :
  CallF PP 294 #[.pointer (some ⟨m, 0, none⟩), .int .u64 h, .agg #[.i p.1, .i p.2.1, .i p.2.2.1], .agg #[.i q.1, .i q.2.1, .i q.2.2.1]] A
   fun v L' => v = .bool (P2 ss h p).isSome /\ IX m ways (At6 ss h p q) L' := by
 refine CallF.of (args := [.pointer (some ⟨m, 0, none⟩), .int .u64 h, .agg #[.i p.1, .i p.2.1, .i p.2.2.1], .agg #[.i q.1, .i q.2.1, .i q.2.2.1]]) B5 B6 Tryz.func294 (e294 (some ⟨m, 0, none⟩) h p q _) ?_
 unfold t294
 have hlt := hA.lt h
 have hsame := hA.same h
 refine C3 fun n1 _ => C3 fun n2 _ => A6 p (ldB (n := n1) (c := #[.i p.1, .i p.2.1, .i p.2.2.1]) (T := 102) (fz := (0, 0)) (by simp) rfl) ?_
 generalize ho1 : (n1, Obj.cells #[.i p.1, .i p.2.1, .i p.2.2.1] 102) = o1
 generalize ho2 : (n2, Obj.cells #[.i q.1, .i q.2.1, .i q.2.2.1] 102) = o2
 have l2 : ∀ {Z : A4} {o : Nat × Obj}, D0 ⟨n2, 0, none⟩ [.i q.1, .i q.2.1, .i q.2.2.1] (o :: o2 :: Z) := by subst ho2; exact ldB (n := n2) (c := #[.i q.1, .i q.2.1, .i q.2.2.1]) (T := 102) (fz := (0, 0)) (by simp) rfl
 refine H4 [o2, o1] [] (Ap0 m ways ss A hA h hh p) (by simp) ?_
 rintro _ A1 - ⟨⟨x, rfl, hx⟩, hA1⟩
 refine ⟨((x.part, x.b, x.p, x.e, x.freq, ()), (P2 ss h p).isSome, ()), rfl, C3 fun n3 _ => E3 [] _ rfl rfl (by simp) (.inl (Nat.le_refl _)) #[.i x.part, .i x.b, .i x.p, .i x.e, .i x.freq] rfl ?_⟩
 rw [List.append_nil, List.nil_append]
 generalize ho3 : (n3, Obj.cells #[.i x.part, .i x.b, .i x.p, .i x.e, .i x.freq] 204) = o3
 have l3 : ∀ {Z : A4}, D0 (Addr.add ⟨n3, 0, none⟩ 4) [.i x.freq] (o3 :: Z) := by subst ho3; exact ldB List.mem_cons_self rfl
 cases hfd : P2 ss h p with
 | none =>
  refine ifF rfl (.cons (.cons (.cons (.of ⟨rfl, ?_⟩))))
  have hrow : G3 (O2 ss h) (inm h p) = O2 ss h := by
   rcases S9 (O2 ss h) (inm h p) with ⟨_, _, e⟩ | ⟨j, hj, _, e, _⟩
   ·exact e
   ·unfold P2 at hfd; rw [hfd] at e; cases e
  unfold At6
  rw [hfd]
  rw [hrow, hsame] at hA1
  exact hA1
 | some y =>
  rw [hfd] at hx
  have hxy : x = y := hx
  subst hxy
  have hmem : x ∈ O2 ss h := by unfold P2 at hfd; exact List.mem_of_find?_eq_some hfd
  have hfx := hfr x hmem
  have hrow1 := Ai7 hlt (G3 (O2 ss h) (inm h p))
  refine ifT rfl (A6 q l2 (H4 [o3, o2, o1] [] (Ap0 m ways _ A1 hA1 h hh q) (by simp) ?_))
  rintro _ A2 - ⟨⟨y, rfl, -⟩, hA2⟩
  refine ⟨((y.part, y.b, y.p, y.e, y.freq, ()), (P2 _ h q).isSome, ()), rfl, ?_⟩
  rw [hrow1, Ai5] at hA2
  refine A6 q l2 (A6 x.freq l3 (B3 (Bb8 _ h hh q) ((Q8 h, q.1, q.2.1, q.2.2.1, ()), ()) rfl (E9 l3 ?_)))
  rw [C1 (by omega) (by omega)]
  have hrow2 := Ai7 hlt (G3 (G3 (O2 ss h) (inm h p)) (inm h q))
  have hle : (G3 (G3 (O2 ss h) (inm h p)) (inm h q)).length < 100 := by
   have h1 := hA.few h
   have h2 : (G3 (O2 ss h) (inm h p)).length < (O2 ss h).length := by
    rcases S9 (O2 ss h) (inm h p) with ⟨_, e, _⟩ | ⟨j, hj, _, _, _, e⟩
    ·unfold P2 at hfd; rw [hfd] at e; cases e
    ·rw [e, List.length_append, List.length_take, List.length_drop]; omega
   have h3 : (G3 (G3 (O2 ss h) (inm h p)) (inm h q)).length <= (G3 (O2 ss h) (inm h p)).length := List.length_eraseP_le ..
   omega
  refine H4 [o3, o2, o1] [] (Bb3 m ways _ A2 hA2 h hh (Cc5 h q (Ab4 (x.freq - 1) 0)) (by rw [hrow2]; exact hle)) (by simp) ?_
  rintro _ A3 - ⟨rfl, hA3⟩
  rw [hrow2, Ai5] at hA3
  rw [List.append_nil]
  refine ⟨(), rfl, .cons (.cons (.cons (.of ⟨rfl, ?_⟩)))⟩
  unfold At6
  rw [hfd]
  exact hA3
def ilen (ss : List (List C9)) : Nat := (ss.map List.length).sum
theorem B66 (ss : List (List C9)) (i : Nat) (hi : i < ss.length) : ilen (ss.take (i + 1)) = ilen (ss.take i) + ss[i].length := by
 unfold ilen
 rw [List.take_succ_eq_append_getElem hi, List.map_append, List.sum_append]; simp
theorem C12 (m : Nat) (ways : Int) (ss : List (List C9)) (A : A4) (hA : IX m ways ss A) : Reads PP 68 #[.pointer (some ⟨m, 0, none⟩)] A (.i (ilen ss : Int)) := by
 obtain ⟨sv, oseg, rows, rfl, ok, rfl⟩ := hA
 refine Reads.of (args := [.pointer (some ⟨m, 0, none⟩)]) B5 B6 Tryz.func68 (e68 (some ⟨m, 0, none⟩) _) ?_
 unfold t68
 have hsl : Sl (IA m ways sv oseg rows) sv 1 (rows.flatMap A91) := ok.own.sl.left.cons
 have hlen := hsl.els_len M5 (by decide)
 have hpos := ok.pos
 refine ifT rfl (A5 rfl (A6 sv (Bo6 (ways := ways) List.mem_cons_self) ?_))
 refine G0 (fun k z L' => L' = IA m ways sv oseg rows /\ ∃ i : Nat, i <= rows.length /\ k = rows.length - i /\ z = (((ilen (V1 (rows.take i)) : Nat) : Int), (i : Int), ()) /\ ilen (V1 (rows.take i)) <= 100 * i) rows.length ⟨rfl, 0, by omega, by omega, rfl, by simp [ilen, V1]⟩ ?_
 rintro k z L ⟨rfl, i, hi, rfl, rfl, hb⟩
 refine B9 (fun (hlt : (i : Int) < sv.len) => ?_) (fun (hge : ¬ (i : Int) < sv.len) => ?_)
 ·have hi' : i < rows.length := by omega
  obtain ⟨a, ha, hld⟩ := hsl.el M5 (by decide) hi'
  have hrl := (ok.row rows[i] (List.getElem_mem hi')).sl.els_len J4 (by decide)
  have hrf := ok.few rows[i] (List.getElem_mem hi')
  refine A5 ha (E0 (show (0 : Int) <= i by omega) hlt (A6 rows[i].1 (by rw [Int.toNat_natCast]; exact hld) ?_))
  have hs : ilen (V1 (rows.take (i + 1))) = ilen (V1 (rows.take i)) + rows[i].2.1.length := by
   unfold V1
   have := B66 (rows.map fun r => r.2.1) i (by rw [List.length_map]; exact hi')
   rw [<- List.map_take, <- List.map_take, List.getElem_map] at this
   exact this
  refine ⟨rows.length - (i + 1), by omega, rfl, i + 1, by omega, rfl, ?_, by omega⟩
  show (IntKind.i64.wrap (((ilen (V1 (rows.take i)) : Nat) : Int) + (rows[i].1.len : Int)), IntKind.i64.wrap ((i : Int) + 1), ()) = _
  rw [C1 (n := ((ilen (V1 (rows.take i)) : Nat) : Int) + (rows[i].1.len : Int)) (by omega) (by omega), C1 (n := (i : Int) + 1) (by omega) (by omega), hs, hrl]
  rfl
 ·obtain rfl : i = rows.length := by omega
  rw [List.take_length]
  exact .of ⟨rfl, rfl⟩
def Bh8 (p : Pl) : List Value := [.i p.1, .i p.2.1, .i p.2.2.1]
theorem Ac2 (p : Pl) : (Bh8 p).length = 3 := rfl
theorem Bh7 (l : List Pl) : (l.flatMap Bh8).all Q4 = true := by
 induction l with
 | nil => rfl
 | cons e r ih => rw [List.flatMap_cons, List.all_append, ih]; rfl
theorem elemPl : S2 PP 55 102 3 24 [.i 0, .i 0, .i 0] := M0 (by kernel_rfl) (by kernel_rfl) rfl (by decide) (by decide)
theorem srcPl : Ao1 PP 55 := .inl ⟨102, by kernel_rfl⟩
def C9.pl (s : C9) : Pl := (s.b, s.p, s.e, ())
def P0 (l : List C9) (h : Nat) : List Pl := (l.filter fun s => decide (s.part = Q8 h)).map C9.pl
theorem Bj5 (l : List C9) (x : C9) (h : Nat) : P0 (l ++ [x]) h = P0 l h ++ (if x.part = Q8 h then [x.pl] else []) := by
 unfold P0
 rw [List.filter_append, List.map_append]
 by_cases hx : x.part = Q8 h <;> simp [hx]
theorem Bo4 (m : Nat) (ways : Int) (ss : List (List C9)) (A : A4) (hA : IX m ways ss A) (h : Nat) (hh : h < 2 ^ 64) :
  CallF PP 117 #[.pointer (some ⟨m, 0, none⟩), .int .u64 h] A
   fun v L' => ∃ (u : SlV) (seg : A4), v = .slice u.a u.len u.cap /\ L' = seg ++ A /\ Own u 3 102 ((P0 (O2 ss h) h).flatMap Bh8) seg := by
 obtain ⟨sv, oseg, p, r, s, a, rfl, ok, ha, hl1, hl2, hp, hrow, hset⟩ := hA.split h
 refine CallF.of (args := [.pointer (some ⟨m, 0, none⟩), .int .u64 h]) B5 B6 Tryz.func117 (e117 (some ⟨m, 0, none⟩) h _) ?_
 unfold t117
 refine ifF rfl (B3 (Ae1 _ m ways sv (by unfold IA; simp) a ha hl1 (by omega) h hh) (some (a.add (h % sv.len)), ()) rfl ?_)
 rw [hp]
 have lsl : Sl (IA m ways sv oseg (p ++ r :: s)) r.1 5 (r.2.1.flatMap Ag3) := Al0 ok (fun x hx => by unfold IA N0; simp [hx])
 have hlen := lsl.els_len J4 (by decide)
 have hb := ok.few r (by simp)
 refine A5 rfl (A6 r.1 (Bv1 ok ha (fun x hx => by unfold IA; simp [hx])) ?_)
 rw [hrow]
 refine G0 (fun k z L' => ∃ (i : Nat) (u : SlV) (seg J : A4), i <= r.2.1.length /\ k = r.2.1.length - i /\ z = (u, (i : Int), ()) /\ L' = J ++ seg ++ IA m ways sv oseg (p ++ r :: s) /\ Own u 3 102 ((P0 (r.2.1.take i) h).flatMap Bh8) seg) r.2.1.length
  ⟨0, ⟨none, 0, 0⟩, [], [], by omega, by omega, rfl, rfl, ⟨rfl, Nat.le_refl _, .inl ⟨rfl, rfl, rfl⟩⟩⟩ ?_
 rintro k z L' ⟨i, u, seg, J, hi, rfl, rfl, rfl, own⟩
 refine B9 (fun (hlt : (i : Int) < r.1.len) => ?_) (fun (hge : ¬ (i : Int) < r.1.len) => ?_)
 ·have hi' : i < r.2.1.length := by omega
  have lsl' : Sl (J ++ seg ++ IA m ways sv oseg (p ++ r :: s)) r.1 5 (r.2.1.flatMap Ag3) := lsl.right
  obtain ⟨b, hb', hld⟩ := lsl'.el J4 (by decide) hi'
  have hsn := Bj5 (r.2.1.take i) r.2.1[i] h
  rw [<- List.take_succ_eq_append_getElem hi'] at hsn
  refine A5 hb' (E0 (show (0 : Int) <= i by omega) hlt (A6 (r.2.1[i].part, r.2.1[i].b, r.2.1[i].p, r.2.1[i].e, r.2.1[i].freq, ()) (by rw [Int.toNat_natCast]; exact hld) ?_))
  clear hld
  generalize r.2.1[i] = x at hsn ⊢
  have hul := own.sl.els_len Ac2 (by decide)
  have hfl : (P0 (r.2.1.take i) h).length <= i := by
   unfold P0
   rw [List.length_map]
   have := List.length_filter_le (fun s => decide (s.part = Q8 h)) (r.2.1.take i)
   rw [List.length_take] at this
   omega
  refine C3 fun n1 _ => E3 [] _ rfl rfl (by simp) (.inl (Nat.le_refl _)) #[.i x.part, .i x.b, .i x.p, .i x.e, .i x.freq] rfl ?_
  rw [List.nil_append]
  generalize ho1 : (n1, Obj.cells #[.i x.part, .i x.b, .i x.p, .i x.e, .i x.freq] 204) = o1
  have l1 : ∀ {Z : A4}, D0 ⟨n1, 0, none⟩ [.i x.part] (o1 :: Z) := by subst ho1; exact ldB List.mem_cons_self rfl
  have l2 : ∀ {Z : A4}, D0 (Addr.add ⟨n1, 0, none⟩ 1) [.i x.b, .i x.p, .i x.e] (o1 :: Z) := by subst ho1; exact ldB List.mem_cons_self rfl
  have hw : IntKind.i64.wrap ((i : Int) + 1) = ((i + 1 : Nat) : Int) := by rw [C1 (by omega) (by omega)]; omega
  refine A6 x.part l1 (B3 (Bo2 _ h hh) (Q8 h, ()) rfl (E9 l1 ?_))
  refine W7 (fun hx => ?_) (fun hx => ?_)
  ·have hx' : x.part = Q8 h := hx
   rw [if_pos hx'] at hsn
   refine A6 x.pl l2 (C3 fun n2 _ => ?_)
   have hsrc : ∀ {Z : A4}, Sl ((n2, Obj.cells #[.i x.b, .i x.p, .i x.e] 102) :: Z) ⟨some ⟨n2, 0, none⟩, 1, 1⟩ 3 ([x.pl].flatMap Bh8) := fun {Z} => ⟨rfl, Nat.le_refl _, .inr ⟨_, rfl, ldB List.mem_cons_self rfl⟩⟩
   refine E5 elemPl srcPl ((n2, Obj.cells #[.i x.b, .i x.p, .i x.e] 102) :: o1 :: J) (IA m ways sv oseg (p ++ r :: s)) own (by simp [C9.pl]) (.sl hsrc) (Bh7 _) (by simp only; omega) fun v2 seg2 hv2 own2 => ?_
   rw [<- List.flatMap_append, <- hsn] at own2
   refine ⟨r.2.1.length - (i + 1), by omega, i + 1, v2, seg2, (n2, Obj.cells #[.i x.b, .i x.p, .i x.e] 102) :: o1 :: J, by omega, rfl, ?_, rfl, own2⟩
   show (v2, IntKind.i64.wrap ((i : Int) + 1), ()) = _
   rw [hw]
  ·have hx' : ¬ x.part = Q8 h := hx
   rw [if_neg hx', List.append_nil] at hsn
   rw [<- hsn] at own
   refine ⟨r.2.1.length - (i + 1), by omega, i + 1, u, seg, o1 :: J, by omega, rfl, ?_, rfl, own⟩
   show (u, IntKind.i64.wrap ((i : Int) + 1), ()) = _
   rw [hw]
 ·obtain rfl : i = r.2.1.length := by omega
  rw [List.take_length] at own
  rw [List.append_assoc]
  exact .app (.of ⟨u, seg, rfl, rfl, own⟩)
def Cc6 (s : C9) : C9 := { s with freq := Y1 (s.freq + 1) 3 }
def An8 (l : List C9) (nm : Al6) : List C9 := match l.findIdx? (fun s => decide (s.nm = nm)) with
 | some j => l.modify j Cc6
 | none => l
theorem Cl8 (l : List C9) (j : Nat) (hj : j < l.length) (x : C9) (n : Int) (hx : l[j] = x) : Aw0 (l.flatMap Ag3) (j * 5 + 4) [.i n] = (l.take j ++ { x with freq := n } :: l.drop (j + 1)).flatMap Ag3 := by
 have hl : l = l.take j ++ x :: l.drop (j + 1) := by rw [<- hx, <- List.drop_eq_getElem_cons hj, List.take_append_drop]
 have hp : ((l.take j).flatMap Ag3).length = j * 5 := by rw [M7 J4, List.length_take, Nat.min_eq_left (by omega)]
 conv => lhs; rw [hl]
 rw [List.flatMap_append, List.flatMap_append, List.flatMap_cons, List.flatMap_cons]
 unfold Aw0
 have h1 : ((l.take j).flatMap Ag3 ++ (Ag3 x ++ (l.drop (j + 1)).flatMap Ag3)).take (j * 5 + 4) = (l.take j).flatMap Ag3 ++ [.i x.part, .i x.b, .i x.p, .i x.e] := by
  rw [List.take_append, List.take_of_length_le (by omega), hp, show j * 5 + 4 - j * 5 = 4 by omega]
  rfl
 have h2 : ((l.take j).flatMap Ag3 ++ (Ag3 x ++ (l.drop (j + 1)).flatMap Ag3)).drop (j * 5 + 4 + [Value.i n].length) = (l.drop (j + 1)).flatMap Ag3 := by
  rw [show j * 5 + 4 + [Value.i n].length = j * 5 + 5 from rfl, <- List.drop_drop, List.drop_left' hp]
  rfl
 rw [h1, h2]
 simp [Ag3]
theorem C16 (v : SlV) (l : List C9) (seg : A4) (own : Own v 5 eIs (l.flatMap Ag3) seg) (j : Nat) (hj : j < l.length) (a : Addr) (ha : v.a = some a) (hfr : 0 <= l[j].freq /\ l[j].freq <= 3) :
  CallF PP 125 #[.pointer (some (a.add (j * 5)))] seg fun r L' => r = .tuple #[] /\ Own v 5 eIs ((l.take j ++ Cc6 l[j] :: l.drop (j + 1)).flatMap Ag3) L' := by
 refine CallF.of (args := [.pointer (some (a.add (j * 5)))]) B5 B6 Tryz.func125 (e125 (some (a.add (j * 5))) _) ?_
 unfold t125
 obtain ⟨a', ha', hld⟩ := own.sl.el J4 (by decide) hj
 rw [ha] at ha'
 obtain rfl := Option.some.inj ha'
 have had : Addr.add (a.add (j * 5)) 4 = a.add (j * 5 + 4) := by
  unfold Addr.add
  by_cases h1 : j * 5 = 0 <;> simp [h1, Nat.add_assoc]
 refine A5 rfl (A6 l[j].freq (hld.one 4 rfl) (A5 rfl ?_))
 rw [C1 (by omega) (by omega)]
 refine own.st [] [] (p := j * 5 + 4) (by rw [M7 J4]; simp only [List.length_cons, List.length_nil]; omega) (by simp) ha had (by simp) fun seg' own' => .of ⟨rfl, ?_⟩
 rw [Cl8 l j hj l[j] _ rfl] at own'
 rw [List.nil_append, List.append_nil]
 exact own'
theorem Cl9 (A : A4) (ad : Addr) (fr : Int) (hl : D0 (ad.add 4) [.i fr] A) (n : Nat) (x : Int) :
  CallF PP 324 #[.pointer (some ad), .pointer (some ⟨n, 0, none⟩)] ((n, Obj.cells #[.i x] 3) :: A) fun r L' => r = .tuple #[] /\ L' = (n, Obj.cells #[.i fr] 3) :: A := by
 refine CallF.of (args := [.pointer (some ad), .pointer (some ⟨n, 0, none⟩)]) B5 B6 Tryz.func324 (e324 (some ad) (some ⟨n, 0, none⟩) _) ?_
 unfold t324
 refine A5 rfl (A6 fr (hl.mono fun _ hx => List.mem_cons_of_mem _ hx) (A5 rfl (E3 [] _ rfl rfl (by simp) (.inl (Nat.le_refl _)) #[.i fr] rfl (.of ⟨rfl, rfl⟩))))
theorem Au6 {l : List C9} {nm : Al6} {i : Nat} (hi : i < l.length) (he : l[i].nm = nm) (hn : ∀ s ∈ l.take i, s.nm ≠ nm) : l.findIdx? (fun s => decide (s.nm = nm)) = some i := by
 rw [List.findIdx?_eq_some_iff_getElem]
 refine ⟨hi, by simpa using he, fun j hj => ?_⟩
 have := hn l[j] (by rw [List.mem_take_iff_getElem]; exact ⟨j, by omega, rfl⟩)
 simpa using this
theorem B39 (l : List C9) (i : Nat) (hi : i < l.length) : l.modify i Cc6 = l.take i ++ Cc6 l[i] :: l.drop (i + 1) := by
 rw [List.modify_eq_take_cons_drop hi]
theorem B56 (m : Nat) (ways : Int) (ss : List (List C9)) (A : A4) (hA : IX m ways ss A) (h : Nat) (hh : h < 2 ^ 64) (pl : Pl) (hfr : ∀ s ∈ O2 ss h, 0 <= s.freq /\ s.freq <= 3) :
  CallF PP 124 #[.pointer (some ⟨m, 0, none⟩), .int .u64 h, .agg #[.i pl.1, .i pl.2.1, .i pl.2.2.1], .func (.func 125) #[] #[]] A
   fun v L' => v = .bool (P2 ss h pl).isSome /\ IX m ways (iset ss h (An8 (O2 ss h) (inm h pl))) L' := by
 have hsame := hA.same h
 obtain ⟨sv, oseg, p, r, s, a, rfl, ok, ha, hl1, hl2, hp, hrow, hset⟩ := hA.split h
 refine CallF.of (args := [.pointer (some ⟨m, 0, none⟩), .int .u64 h, .agg #[.i pl.1, .i pl.2.1, .i pl.2.2.1], .func (.func 125) #[] #[]]) B5 B6 Tryz.func124 (e124 (some ⟨m, 0, none⟩) h pl ⟨.func 125, #[], #[]⟩ _) ?_
 unfold t124
 have hg : iO m ways sv ∈ IA m ways sv oseg (p ++ r :: s) := List.mem_cons_self
 have hos : ∀ {X : A4}, (∀ x ∈ oseg, x ∈ X ++ IA m ways sv oseg (p ++ r :: s)) := fun x hx => by unfold IA; simp [hx]
 have hrs : ∀ {X : A4}, (∀ x ∈ r.2.2, x ∈ X ++ IA m ways sv oseg (p ++ r :: s)) := fun x hx => by unfold IA N0; simp [hx]
 have hb := ok.few r (by simp)
 refine C3 fun n1 _ => ifF rfl ?_
 generalize ho1 : (n1, Obj.cells #[.i pl.1, .i pl.2.1, .i pl.2.2.1] 102) = o1
 have l1 : ∀ {Z : A4}, D0 ⟨n1, 0, none⟩ [.i pl.1, .i pl.2.1, .i pl.2.2.1] (o1 :: Z) := by subst ho1; exact ldB List.mem_cons_self rfl
 have lr : D0 (a.add p.length) [.slice r.1.a r.1.len r.1.cap] (o1 :: IA m ways sv oseg (p ++ r :: s)) := Bv1 ok ha (hos (X := [o1]))
 refine A6 pl l1 (B3 (Ae1 _ m ways sv (by simp [hg]) a ha hl1 (by omega) h hh) (some (a.add (h % sv.len)), ()) rfl (E9 l1 ?_))
 rw [hp]
 refine A5 rfl (A6 r.1 lr (B3 (Bb8 _ h hh pl) ((Q8 h, pl.1, pl.2.1, pl.2.2.1, ()), ()) rfl (E9 lr (C3 fun n2 _ => E3 [] _ rfl rfl (by simp) (.inl (Nat.le_refl _)) #[.i (Q8 h), .i pl.1, .i pl.2.1, .i pl.2.2.1] rfl ?_))))
 rw [List.nil_append]
 generalize ho2 : (n2, Obj.cells #[.i (Q8 h), .i pl.1, .i pl.2.1, .i pl.2.2.1] 202) = o2
 have l2 : ∀ {Z : A4}, D0 ⟨n2, 0, none⟩ [.i (Q8 h), .i pl.1, .i pl.2.1, .i pl.2.2.1] (o2 :: Z) := by subst ho2; exact ldB List.mem_cons_self rfl
 have lsl : Sl (o2 :: o1 :: IA m ways sv oseg (p ++ r :: s)) r.1 5 (r.2.1.flatMap Ag3) := Al0 ok (hrs (X := [o2, o1]))
 have hlen := lsl.els_len J4 (by decide)
 rw [hrow] at hfr
 refine G0 (fun k z L' => L' = o2 :: o1 :: IA m ways sv oseg (p ++ r :: s) /\ ∃ i : Nat, i <= r.2.1.length /\ k = r.2.1.length - i /\ z = ((i : Int), ()) /\ ∀ s ∈ r.2.1.take i, s.nm ≠ inm h pl) r.2.1.length ⟨rfl, 0, by omega, by omega, rfl, by simp⟩ ?_
 rintro k z L' ⟨rfl, i, hi, rfl, rfl, hn⟩
 refine B9 (fun (hlt : (i : Int) < r.1.len) => ?_) (fun (hge : ¬ (i : Int) < r.1.len) => ?_)
 ·have hi' : i < r.2.1.length := by omega
  have hi0 : (0 : Int) <= (i : Int) := by omega
  obtain ⟨b, hb', hld⟩ := lsl.el J4 (by decide) hi'
  refine A5 hb' (E0 hi0 hlt (A6 (r.2.1[i].part, r.2.1[i].b, r.2.1[i].p, r.2.1[i].e, ()) ?_ (A6 (Q8 h, pl) l2 (eqNm _ _ _ _ _ _ _ _ ?_))))
  ·rw [Int.toNat_natCast]
   exact hld.pre fun j u hu => by rcases j with _ | _ | _ | _ | j <;> first | exact hu | exact absurd (show (none : Option Value) = some u from hu) (by simp)
  refine B9 (fun (he : r.2.1[i].nm = inm h pl) => ?_) (fun (he : ¬ r.2.1[i].nm = inm h pl) => ?_)
  ·have hfi := Au6 hi' he hn
   refine A5 hb' (E0 hi0 hlt (V7 (by kernel_rfl) ?_))
   refine H4 (o2 :: o1 :: iO m ways sv :: (oseg ++ N0 p)) (N0 s) (C16 r.1 r.2.1 r.2.2 (ok.row r (by simp)) i hi' b hb' (hfr _ (List.getElem_mem hi'))) (by unfold IA; rw [W4]; simp) ?_
   rintro _ seg2 - ⟨rfl, own2⟩
   refine ⟨(), rfl, ?_⟩
   refine .cons (.cons (.of ⟨?_, ?_⟩))
   ·unfold P2
    rcases S9 r.2.1 (inm h pl) with ⟨e1, _⟩ | ⟨j, hj, e1, e2, _⟩
    ·rw [hfi] at e1; cases e1
    ·rw [hrow, e2]; rfl
   ·rw [hrow]
    unfold An8
    rw [hfi]
    simp only
    rw [B39 _ _ hi']
    refine ⟨sv, oseg, p ++ (r.1, r.2.1.take i ++ Cc6 r.2.1[i] :: r.2.1.drop (i + 1), seg2) :: s, by unfold IA; rw [W4]; simp, ?_, by rw [hset, Ae0]⟩
    refine Cl2 ok (r.1, r.2.1.take i ++ Cc6 r.2.1[i] :: r.2.1.drop (i + 1), seg2) (seg' := oseg) ?_ own2 ?_
    ·rw [rput]
     have e : (p ++ (r.1, r.2.1.take i ++ Cc6 r.2.1[i] :: r.2.1.drop (i + 1), seg2) :: s).flatMap A91 = (p ++ r :: s).flatMap A91 := by
      rw [List.flatMap_append, List.flatMap_append, List.flatMap_cons, List.flatMap_cons]; rfl
     rw [e]; exact ok.own
    ·simp only [List.length_append, List.length_cons, List.length_take, List.length_drop]; omega
  ·refine ⟨r.2.1.length - (i + 1), by omega, rfl, i + 1, by omega, rfl, ?_, fun e hx => ?_⟩
   ·rw [C1 (by first | omega | (simp only; omega)) (by first | omega | (simp only; omega))]
    rfl
   ·rw [List.take_succ_eq_append_getElem hi'] at hx
    rcases List.mem_append.1 hx with hx | hx
    ·exact hn e hx
    ·rw [List.mem_singleton.1 hx]; exact he
 ·obtain rfl : i = r.2.1.length := by omega
  rw [List.take_length] at hn
  have e0 : r.2.1.findIdx? (fun s => decide (s.nm = inm h pl)) = none := by
   rw [List.findIdx?_eq_none_iff]
   intro s hs
   simpa using hn s hs
  refine .cons (.cons (.of ⟨?_, ?_⟩))
  ·unfold P2
   rcases S9 r.2.1 (inm h pl) with ⟨_, e2, _⟩ | ⟨j, hj, e1, e2, _⟩
   ·rw [hrow, e2]; rfl
   ·rw [e0] at e1; cases e1
  ·unfold An8
   rw [hrow, e0]
   simp only
   rw [<- hrow, hsame]
   exact hA
def At8 (ss : List (List C9)) (h : Nat) (p : Pl) : Int := match P2 ss h p with | some x => x.freq | none => 0
theorem B57 (m : Nat) (ways : Int) (ss : List (List C9)) (A : A4) (hA : IX m ways ss A) (h : Nat) (hh : h < 2 ^ 64) (pl : Pl) (nf : Nat) :
  CallF PP 124 #[.pointer (some ⟨m, 0, none⟩), .int .u64 h, .agg #[.i pl.1, .i pl.2.1, .i pl.2.2.1], .func (.func 324) #[] #[.pointer (some ⟨nf, 0, none⟩)]] ((nf, Obj.cells #[.i 0] 3) :: A)
   fun v L' => v = .bool (P2 ss h pl).isSome /\ L' = (nf, Obj.cells #[.i (At8 ss h pl)] 3) :: A := by
 obtain ⟨sv, oseg, p, r, s, a, rfl, ok, ha, hl1, hl2, hp, hrow, hset⟩ := hA.split h
 refine CallF.of (args := [.pointer (some ⟨m, 0, none⟩), .int .u64 h, .agg #[.i pl.1, .i pl.2.1, .i pl.2.2.1], .func (.func 324) #[] #[.pointer (some ⟨nf, 0, none⟩)]]) B5 B6 Tryz.func124 (e124 (some ⟨m, 0, none⟩) h pl ⟨.func 324, #[], #[.pointer (some ⟨nf, 0, none⟩)]⟩ _) ?_
 unfold t124
 have hg : iO m ways sv ∈ IA m ways sv oseg (p ++ r :: s) := List.mem_cons_self
 have hos : ∀ {X : A4}, (∀ x ∈ oseg, x ∈ X ++ IA m ways sv oseg (p ++ r :: s)) := fun x hx => by unfold IA; simp [hx]
 have hrs : ∀ {X : A4}, (∀ x ∈ r.2.2, x ∈ X ++ IA m ways sv oseg (p ++ r :: s)) := fun x hx => by unfold IA N0; simp [hx]
 have hb := ok.few r (by simp)
 refine C3 fun n1 _ => ifF rfl ?_
 generalize ho1 : (n1, Obj.cells #[.i pl.1, .i pl.2.1, .i pl.2.2.1] 102) = o1
 generalize hof : (nf, Obj.cells #[.i 0] 3) = o0
 have l1 : ∀ {Z : A4}, D0 ⟨n1, 0, none⟩ [.i pl.1, .i pl.2.1, .i pl.2.2.1] (o1 :: Z) := by subst ho1; exact ldB List.mem_cons_self rfl
 have lr : D0 (a.add p.length) [.slice r.1.a r.1.len r.1.cap] (o1 :: o0 :: IA m ways sv oseg (p ++ r :: s)) := Bv1 ok ha (hos (X := [o1, o0]))
 refine A6 pl l1 (B3 (Ae1 _ m ways sv (by simp [hg]) a ha hl1 (by omega) h hh) (some (a.add (h % sv.len)), ()) rfl (E9 l1 ?_))
 rw [hp]
 refine A5 rfl (A6 r.1 lr (B3 (Bb8 _ h hh pl) ((Q8 h, pl.1, pl.2.1, pl.2.2.1, ()), ()) rfl (E9 lr (C3 fun n2 _ => E3 [] _ rfl rfl (by simp) (.inl (Nat.le_refl _)) #[.i (Q8 h), .i pl.1, .i pl.2.1, .i pl.2.2.1] rfl ?_))))
 rw [List.nil_append]
 generalize ho2 : (n2, Obj.cells #[.i (Q8 h), .i pl.1, .i pl.2.1, .i pl.2.2.1] 202) = o2
 have l2 : ∀ {Z : A4}, D0 ⟨n2, 0, none⟩ [.i (Q8 h), .i pl.1, .i pl.2.1, .i pl.2.2.1] (o2 :: Z) := by subst ho2; exact ldB List.mem_cons_self rfl
 have lsl0 : Sl (IA m ways sv oseg (p ++ r :: s)) r.1 5 (r.2.1.flatMap Ag3) := Al0 ok (hrs (X := []))
 have lsl : Sl (o2 :: o1 :: o0 :: IA m ways sv oseg (p ++ r :: s)) r.1 5 (r.2.1.flatMap Ag3) := Al0 ok (hrs (X := [o2, o1, o0]))
 have hlen := lsl.els_len J4 (by decide)
 refine G0 (fun k z L' => L' = o2 :: o1 :: o0 :: IA m ways sv oseg (p ++ r :: s) /\ ∃ i : Nat, i <= r.2.1.length /\ k = r.2.1.length - i /\ z = ((i : Int), ()) /\ ∀ s ∈ r.2.1.take i, s.nm ≠ inm h pl) r.2.1.length ⟨rfl, 0, by omega, by omega, rfl, by simp⟩ ?_
 rintro k z L' ⟨rfl, i, hi, rfl, rfl, hn⟩
 refine B9 (fun (hlt : (i : Int) < r.1.len) => ?_) (fun (hge : ¬ (i : Int) < r.1.len) => ?_)
 ·have hi' : i < r.2.1.length := by omega
  have hi0 : (0 : Int) <= (i : Int) := by omega
  obtain ⟨b, hb', hld⟩ := lsl.el J4 (by decide) hi'
  refine A5 hb' (E0 hi0 hlt (A6 (r.2.1[i].part, r.2.1[i].b, r.2.1[i].p, r.2.1[i].e, ()) ?_ (A6 (Q8 h, pl) l2 (eqNm _ _ _ _ _ _ _ _ ?_))))
  ·rw [Int.toNat_natCast]
   exact hld.pre fun j u hu => by rcases j with _ | _ | _ | _ | j <;> first | exact hu | exact absurd (show (none : Option Value) = some u from hu) (by simp)
  refine B9 (fun (he : r.2.1[i].nm = inm h pl) => ?_) (fun (he : ¬ r.2.1[i].nm = inm h pl) => ?_)
  ·have hfi := Au6 hi' he hn
   obtain ⟨b2, hb2, hld2⟩ := lsl0.el J4 (by decide) hi'
   rw [hb'] at hb2
   obtain rfl := Option.some.inj hb2
   have hfd : P2 ss h pl = some r.2.1[i] := by
    unfold P2
    rcases S9 r.2.1 (inm h pl) with ⟨e1, _⟩ | ⟨j, hj, e1, e2, _⟩
    ·rw [hfi] at e1; cases e1
    ·rw [hfi] at e1
     obtain rfl := Option.some.inj e1
     rw [hrow, e2]
   subst hof
   refine A5 hb' (E0 hi0 hlt (V7 (by kernel_rfl) ?_))
   refine H4 [o2, o1] [] (Cl9 (IA m ways sv oseg (p ++ r :: s)) (b.add ((i : Int).toNat * 5)) r.2.1[i].freq (by rw [Int.toNat_natCast]; exact hld2.one 4 rfl) nf 0) (by simp) ?_
   rintro _ _ - ⟨rfl, rfl⟩
   rw [List.append_nil]
   refine ⟨(), rfl, .cons (.cons (.of ⟨by rw [hfd]; rfl, ?_⟩))⟩
   unfold At8
   rw [hfd]
   rfl
  ·refine ⟨r.2.1.length - (i + 1), by omega, rfl, i + 1, by omega, rfl, ?_, fun e hx => ?_⟩
   ·rw [C1 (by first | omega | (simp only; omega)) (by first | omega | (simp only; omega))]
    rfl
   ·rw [List.take_succ_eq_append_getElem hi'] at hx
    rcases List.mem_append.1 hx with hx | hx
    ·exact hn e hx
    ·rw [List.mem_singleton.1 hx]; exact he
 ·obtain rfl : i = r.2.1.length := by omega
  rw [List.take_length] at hn
  have hfd : P2 ss h pl = none := by
   unfold P2
   rw [hrow, List.find?_eq_none]
   intro s hs
   simpa using hn s hs
  subst hof
  refine .cons (.cons (.of ⟨by rw [hfd]; rfl, ?_⟩))
  unfold At8
  rw [hfd]
theorem C13 (m : Nat) (ways : Int) (ss : List (List C9)) (A : A4) (hA : IX m ways ss A) (h : Nat) (hh : h < 2 ^ 64) (pl : Pl) (hfr : ∀ s ∈ O2 ss h, 0 <= s.freq /\ s.freq <= 3) :
  CallF PP 60 #[.pointer (some ⟨m, 0, none⟩), .int .u64 h, .agg #[.i pl.1, .i pl.2.1, .i pl.2.2.1]] A
   fun v L' => v = .bool (P2 ss h pl).isSome /\ IX m ways (iset ss h (An8 (O2 ss h) (inm h pl))) L' := by
 refine CallF.of (args := [.pointer (some ⟨m, 0, none⟩), .int .u64 h, .agg #[.i pl.1, .i pl.2.1, .i pl.2.2.1]]) B5 B6 Tryz.func60 (e60 (some ⟨m, 0, none⟩) h pl _) ?_
 unfold t60
 refine C3 fun n1 _ => A6 pl (ldB List.mem_cons_self rfl) (H4 [(n1, Obj.cells #[.i pl.1, .i pl.2.1, .i pl.2.2.1] 102)] [] (B56 m ways ss A hA h hh pl hfr) (by simp) ?_)
 rintro _ A1 - ⟨rfl, hA1⟩
 rw [List.append_nil]
 exact ⟨((P2 ss h pl).isSome, ()), rfl, .cons (.of ⟨rfl, hA1⟩)⟩
theorem Ck9 (m : Nat) (ways : Int) (ss : List (List C9)) (A : A4) (hA : IX m ways ss A) (h : Nat) (hh : h < 2 ^ 64) (pl : Pl) :
  Reads PP 293 #[.pointer (some ⟨m, 0, none⟩), .int .u64 h, .agg #[.i pl.1, .i pl.2.1, .i pl.2.2.1]] A (.i (At8 ss h pl)) := by
 refine Reads.of (args := [.pointer (some ⟨m, 0, none⟩), .int .u64 h, .agg #[.i pl.1, .i pl.2.1, .i pl.2.2.1]]) B5 B6 Tryz.func293 (e293 (some ⟨m, 0, none⟩) h pl _) ?_
 unfold t293
 refine C3 fun n1 _ => C3 fun n2 _ => E3 [] _ rfl rfl (by simp) (.inl (Nat.le_refl _)) #[.i 0] rfl (A6 pl (ldB (n := n1) (c := #[.i pl.1, .i pl.2.1, .i pl.2.2.1]) (T := 102) (fz := (0, 0)) (by simp) rfl) ?_)
 generalize (n1, Obj.cells #[.i pl.1, .i pl.2.1, .i pl.2.2.1] 102) = o1
 refine G9 (R := [o1]) (B57 m ways ss A hA h hh pl n2) ?_ ?_
 ·exact (List.Perm.cons _ (List.perm_append_comm (l₁ := [o1]) (l₂ := A)))
 rintro _ _ ⟨rfl, rfl⟩
 refine ⟨(n2, Obj.cells #[.i (At8 ss h pl)] 3) :: o1 :: A, List.Perm.cons _ (List.perm_append_comm (l₁ := A) (l₂ := [o1])), ((P2 ss h pl).isSome, ()), rfl, ?_⟩
 exact A6 (At8 ss h pl) (ldB List.mem_cons_self rfl) (.cons (.cons (.of ⟨rfl, rfl⟩)))
structure BS where
 wear : Int
 bad : Bool
 dirty : Bool
def U2 (s : BS) : List Value := [.i s.wear, .bool s.bad, .bool s.dirty]
theorem G5 (s : BS) : (U2 s).length = 3 := rfl
theorem Bk7 (l : List BS) : (l.flatMap U2).all Q4 = true := by
 induction l with
 | nil => rfl
 | cons e r ih => rw [List.flatMap_cons, List.all_append, ih]; rfl
def bs0 : BS := ⟨0, false, false⟩
abbrev tyIn : TypeId := 49
abbrev Bq0 : TypeId := 3
abbrev tySt : TypeId := 159
abbrev eSt : TypeId := 194
theorem A49 : S2 PP tyIn Bq0 1 8 [.i 0] := M0 (by kernel_rfl) (by kernel_rfl) rfl (by decide) (by decide)
theorem By9 : Ao1 PP tyIn := .inl ⟨Bq0, by kernel_rfl⟩
theorem B92 : S2 PP tySt eSt 3 16 [.i 0, .bool false, .bool false] := M0 (by kernel_rfl) (by kernel_rfl) rfl (by decide) (by decide)
theorem Cp9 : Ao1 PP tySt := .inl ⟨eSt, by kernel_rfl⟩
theorem own_z {sz : Nat} {e : TypeId} : Own ⟨none, 0, 0⟩ sz e [] [] := ⟨by simp, Nat.le_refl _, .inl ⟨rfl, rfl, rfl⟩⟩
theorem own_n {sz n : Nat} {e : TypeId} : Own ⟨some ⟨n, 0, none⟩, 0, 0⟩ sz e [] [(n, Obj.cells #[] e)] := ⟨by simp, Nat.le_refl _, .inr ⟨n, 0, #[], (0, 0), rfl, rfl, by simp, .inl (Nat.le_refl _), fun i u hu => by simp at hu⟩⟩
theorem Bu9 (L : A4) (v : SlV) (l : List Int) (h : ISl L v .i64 l) (hb : l.length <= 1000000) (x : Int) :
  Reads PP 289 #[.slice v.a v.len v.cap, .i x] L (.i (match l.findIdx? (fun y => decide (y = x)) with | some i => (i : Int) | none => -1)) := by
 refine Reads.of (args := [.slice v.a v.len v.cap, .i x]) B5 B6 Tryz.func289 (e289 v x _) ?_
 unfold t289
 have hlen := h.len
 refine G0 (fun k z L' => L' = L /\ ∃ i : Nat, i <= l.length /\ k = l.length - i /\ z = ((i : Int), ()) /\ ∀ y ∈ l.take i, y ≠ x) l.length ⟨rfl, 0, by omega, by omega, rfl, by simp⟩ ?_
 rintro k z L' ⟨rfl, i, hi, rfl, rfl, hn⟩
 refine B9 (fun (hlt : (i : Int) < v.len) => ?_) (fun (hge : ¬ (i : Int) < v.len) => ?_)
 ·have hi' : i < l.length := by omega
  obtain ⟨a, ha⟩ := h.some hi'
  refine A5 ha (E0 (show (0 : Int) <= i by omega) hlt (A6 l[i] (h.rd hi' ha _ (by simp)) ?_))
  refine W7 (fun he => .of ⟨?_, rfl⟩) (fun he => ⟨l.length - (i + 1), by omega, rfl, i + 1, by omega, rfl, ?_, fun y hy => ?_⟩)
  ·have : l.findIdx? (fun y => decide (y = x)) = some i := by
    rw [List.findIdx?_eq_some_iff_getElem]
    refine ⟨hi', by simpa using he.symm, fun j hj => ?_⟩
    have := hn l[j] (by rw [List.mem_take_iff_getElem]; exact ⟨j, by omega, rfl⟩)
    simpa using this
   rw [this]
  ·rw [C1 (by first | omega | (simp only; omega)) (by first | omega | (simp only; omega))]
   rfl
  ·rw [List.take_succ_eq_append_getElem hi'] at hy
   rcases List.mem_append.1 hy with hy | hy
   ·exact hn y hy
   ·rw [List.mem_singleton.1 hy]; exact fun e => he e.symm
 ·obtain rfl : i = l.length := by omega
  rw [List.take_length] at hn
  have : l.findIdx? (fun y => decide (y = x)) = none := by
   rw [List.findIdx?_eq_none_iff]
   intro y hy
   simpa using hn y hy
  rw [this]
  exact .of ⟨rfl, rfl⟩
theorem Ck6 (L : A4) (v : SlV) (l : List Int) (h : ISl L v .i64 l) (hb : l.length <= 1000000) (x : Int) :
  Reads PP 228 #[.slice v.a v.len v.cap, .i x] L (.bool (decide (x ∈ l))) := by
 refine Reads.of (args := [.slice v.a v.len v.cap, .i x]) B5 B6 Tryz.func228 (e228 v x _) ?_
 unfold t228
 refine B3 (Bu9 _ v l h hb x) (_, ()) rfl (.of ⟨?_, rfl⟩)
 cases hf : l.findIdx? (fun y => decide (y = x)) with
 | none =>
  rw [List.findIdx?_eq_none_iff] at hf
  have : x ∉ l := fun hx => by have := hf x hx; simp at this
  simp [this]
 | some i =>
  rw [List.findIdx?_eq_some_iff_getElem] at hf
  obtain ⟨hi, h1, _⟩ := hf
  have : x ∈ l := by
   have e : l[i] = x := by simpa using h1
   rw [<- e]; exact List.getElem_mem hi
  simp [this]
theorem Bs4 (A : A4) (v : SlV) (l : List BS) (h : Sl A v 3 (l.flatMap U2)) (hb : l.length <= 1000000) :
  CallF PP 171 #[.slice v.a v.len v.cap] A fun r L' => ∃ (s : SlV) (seg : A4), r = .slice s.a s.len s.cap /\ L' = seg ++ A /\ Own s 3 eSt (l.flatMap U2) seg := by
 refine CallF.of (args := [.slice v.a v.len v.cap]) B5 B6 Tryz.func171 (e171 v _) ?_
 unfold t171
 have hlen := h.els_len G5 (by decide)
 refine G2 (fun hn => ?_) (fun hn => ?_)
 ·have : l = [] := by
   cases l with
   | nil => rfl
   | cons x r =>
    obtain ⟨a, ha, _⟩ := h.el G5 (by decide) (i := 0) (by simp)
    rw [ha] at hn; cases hn
  subst this
  exact .of ⟨⟨none, 0, 0⟩, [], rfl, rfl, own_z⟩
 ·refine C3 fun n1 _ => E5 B92 Cp9 [] A own_n rfl (.sl h.cons) (Bk7 _) (by first | omega | (simp only; omega)) fun s seg hs own => ?_
  rw [List.nil_append] at own
  exact .of ⟨s, seg, rfl, by simp, own⟩
theorem Bl4 (L : A4) (y x : Int) (ad : Addr) (hl : D0 ad [.i x] L) : Reads PP 326 #[.i y, .pointer (some ad)] L (.bool (decide (y = x))) := by
 refine Reads.of (args := [.i y, .pointer (some ad)]) B5 B6 Tryz.func326 (e326 y (some ad) _) ?_
 unfold t326
 refine A5 rfl (A6 x hl (.of ⟨?_, rfl⟩))
 congr 1
theorem Bj4 (L : A4) (v : SlV) (l : List Int) (h : ISl L v .i64 l) (hb : l.length <= 1000000) (x : Int) (ad : Addr) (hl : D0 ad [.i x] L) :
  Reads PP 335 #[.slice v.a v.len v.cap, .func (.func 326) #[] #[.pointer (some ad)]] L (.i (match l.findIdx? (fun y => decide (y = x)) with | some i => (i : Int) | none => -1)) := by
 refine Reads.of (args := [.slice v.a v.len v.cap, .func (.func 326) #[] #[.pointer (some ad)]]) B5 B6 Tryz.func335 (e335 v ⟨.func 326, #[], #[.pointer (some ad)]⟩ _) ?_
 unfold t335
 have hlen := h.len
 refine G0 (fun k z L' => L' = L /\ ∃ i : Nat, i <= l.length /\ k = l.length - i /\ z = ((i : Int), ()) /\ ∀ y ∈ l.take i, y ≠ x) l.length ⟨rfl, 0, by omega, by omega, rfl, by simp⟩ ?_
 rintro k z L' ⟨rfl, i, hi, rfl, rfl, hn⟩
 refine B9 (fun (hlt : (i : Int) < v.len) => ?_) (fun (hge : ¬ (i : Int) < v.len) => ?_)
 ·have hi' : i < l.length := by omega
  obtain ⟨a, ha⟩ := h.some hi'
  refine A5 ha (E0 (show (0 : Int) <= i by omega) hlt (A6 l[i] (h.rd hi' ha _ (by simp)) (V7 (by kernel_rfl) (B3 (Bl4 _ l[i] x ad hl) (decide (l[i] = x), ()) rfl ?_))))
  refine B9 (fun (he : l[i] = x) => .of ⟨?_, rfl⟩) (fun (he : ¬ l[i] = x) => ⟨l.length - (i + 1), by omega, rfl, i + 1, by omega, rfl, ?_, fun y hy => ?_⟩)
  ·have : l.findIdx? (fun y => decide (y = x)) = some i := by
    rw [List.findIdx?_eq_some_iff_getElem]
    refine ⟨hi', by simpa using he, fun j hj => ?_⟩
    have := hn l[j] (by rw [List.mem_take_iff_getElem]; exact ⟨j, by omega, rfl⟩)
    simpa using this
   rw [this]
  ·rw [C1 (by first | omega | (simp only; omega)) (by first | omega | (simp only; omega))]
   rfl
  ·rw [List.take_succ_eq_append_getElem hi'] at hy
   rcases List.mem_append.1 hy with hy | hy
   ·exact hn y hy
   ·rw [List.mem_singleton.1 hy]; exact he
 ·obtain rfl : i = l.length := by omega
  rw [List.take_length] at hn
  have : l.findIdx? (fun y => decide (y = x)) = none := by
   rw [List.findIdx?_eq_none_iff]
   intro y hy
   simpa using hn y hy
  rw [this]
  exact .of ⟨rfl, rfl⟩
def iwo (l : List Int) (x : Int) : List Int := l.filter fun y => decide (y ≠ x)
theorem Bo1 (l : List Int) (x y : Int) : iwo (l ++ [y]) x = iwo l x ++ (if y = x then [] else [y]) := by
 unfold iwo
 rw [List.filter_append]
 by_cases h : y = x <;> simp [h]
theorem Ck7 (v : SlV) (l : List Int) (seg : A4) (own : Own v 1 Bq0 (ivs .i64 l) seg) (hb : l.length <= 1000000) (x : Int) (n1 : Nat) :
  CallF PP 325 #[.slice v.a v.len v.cap, .func (.func 326) #[] #[.pointer (some ⟨n1, 0, none⟩)]] ((n1, Obj.cells #[.i x] 3) :: seg)
   fun r L' => ∃ (s : SlV) (seg' : A4), r = .slice s.a s.len s.cap /\ L' = (n1, Obj.cells #[.i x] 3) :: seg' /\ Own s 1 Bq0 (ivs .i64 (iwo l x)) seg' := by
 refine CallF.of (args := [.slice v.a v.len v.cap, .func (.func 326) #[] #[.pointer (some ⟨n1, 0, none⟩)]]) B5 B6 Tryz.func325 (e325 v ⟨.func 326, #[], #[.pointer (some ⟨n1, 0, none⟩)]⟩ _) ?_
 unfold t325
 generalize ho : (n1, Obj.cells #[.i x] 3) = o1
 have l1 : ∀ {Z : A4}, D0 ⟨n1, 0, none⟩ [.i x] (o1 :: Z) := by subst ho; exact ldB List.mem_cons_self rfl
 clear ho
 have h0 : ISl (o1 :: seg) v .i64 l := own.sl.cons
 have hlen := h0.len
 have hcap := own.cap
 refine B3 (Bj4 _ v l h0 hb x ⟨n1, 0, none⟩ l1) (_, ()) rfl ?_
 cases hf : l.findIdx? (fun y => decide (y = x)) with
 | none =>
  rw [List.findIdx?_eq_none_iff] at hf
  have : iwo l x = l := by
   unfold iwo
   rw [List.filter_eq_self]
   intro y hy
   have := hf y hy
   simpa using this
  rw [this]
  exact ifT rfl (.of ⟨v, seg, rfl, rfl, own⟩)
 | some i0 =>
  rw [List.findIdx?_eq_some_iff_getElem] at hf
  obtain ⟨hi0, h1, h2⟩ := hf
  have h1' : l[i0] = x := by simpa using h1
  have hpre : iwo (l.take i0) x = l.take i0 := by
   unfold iwo
   rw [List.filter_eq_self]
   intro y hy
   obtain ⟨j, hj, rfl⟩ := List.mem_take_iff_getElem.1 hy
   have := h2 j (by omega)
   simpa using this
  have hsn := Bo1 (l.take i0) x l[i0]
  rw [<- List.take_succ_eq_append_getElem hi0, if_pos h1', hpre, List.append_nil] at hsn
  refine ifF (by simp) ?_
  have hw : IntKind.i64.wrap ((i0 : Int) + 1) = ((i0 + 1 : Nat) : Int) := by rw [C1 (by omega) (by omega)]; omega
  simp only [hw]
  refine G0 (fun k z L' => ∃ (i j : Nat) (cur : List Int) (seg : A4), i <= j /\ j <= l.length /\ k = l.length - j /\ z = ((i : Int), (j : Int), ()) /\ L' = o1 :: seg /\ Own v 1 Bq0 (ivs .i64 cur) seg /\ cur.length = l.length /\ i = (iwo (l.take j) x).length /\ cur.take i = iwo (l.take j) x /\ cur.drop j = l.drop j) (l.length - (i0 + 1))
   ⟨i0, i0 + 1, l, seg, by omega, by omega, by omega, rfl, rfl, own, rfl, by rw [hsn, List.length_take]; omega, by rw [hsn], rfl⟩ ?_
  clear hsn hpre own h0
  rintro k z L' ⟨i, j, cur, seg, hij, hj, rfl, rfl, rfl, own, hcl, hil, htk, hdr⟩
  have h0 : ISl (o1 :: seg) v .i64 cur := own.sl.cons
  refine B9 (fun (hlt : (j : Int) < v.len) => ?_) (fun (hge : ¬ (j : Int) < v.len) => ?_)
  ·have hj' : j < cur.length := by omega
   have hjl : j < l.length := by omega
   have hcj : cur[j] = l[j] := by
    have a1 := List.drop_eq_getElem_cons hj'
    have a2 := List.drop_eq_getElem_cons hjl
    rw [hdr, a2] at a1
    injection a1 with b1 b2
    exact b1.symm
   have hdr' : cur.drop (j + 1) = l.drop (j + 1) := by
    rw [<- List.drop_drop, hdr, List.drop_drop]
   obtain ⟨a, ha⟩ := h0.some hj'
   have hsn := Bo1 (l.take j) x l[j]
   rw [<- List.take_succ_eq_append_getElem hjl] at hsn
   have hwj : IntKind.i64.wrap ((j : Int) + 1) = ((j + 1 : Nat) : Int) := by rw [C1 (by omega) (by omega)]; omega
   have hwi : IntKind.i64.wrap ((i : Int) + 1) = ((i + 1 : Nat) : Int) := by rw [C1 (by omega) (by omega)]; omega
   refine A5 ha (E0 (show (0 : Int) <= (j : Int) by omega) hlt (A6 cur[j] (h0.rd hj' ha _ (by simp)) (V7 (by kernel_rfl) (B3 (Bl4 _ cur[j] x ⟨n1, 0, none⟩ l1) (decide (cur[j] = x), ()) rfl ?_))))
   rw [hcj]
   refine G2 (fun hne => ?_) (fun he => ?_)
   ·have hne' : l[j] ≠ x := by simpa using hne
    rw [if_neg hne'] at hsn
    refine A5 ha (E0 (show (0 : Int) <= (i : Int) by omega) (show (i : Int) < v.len by omega) ?_)
    refine own.st [o1] [] (p := i) (by rw [K9]; simp only [List.length_cons, List.length_nil]; omega) (by simp) ha (by simp) (by simp) fun seg' own' => ?_
    rw [Ah5 (by rw [K9]; omega), C07] at own'
    refine ⟨l.length - (j + 1), by omega, i + 1, j + 1, cur.set i l[j], seg', by omega, by omega, rfl, ?_, by simp, own', by rw [List.length_set]; exact hcl, ?_, ?_, ?_⟩
    ·show (IntKind.i64.wrap ((i : Int) + 1), IntKind.i64.wrap ((j : Int) + 1), ()) = _
     rw [hwi, hwj]
    ·rw [hsn, List.length_append, <- hil]; rfl
    ·rw [hsn, <- htk, List.take_succ_eq_append_getElem (by rw [List.length_set]; omega), List.take_set_of_le (by omega), List.getElem_set_self]
    ·rw [List.drop_set_of_lt (by omega)]; exact hdr'
   ·have he' : l[j] = x := by simpa using he
    rw [if_pos he', List.append_nil] at hsn
    refine ⟨l.length - (j + 1), by omega, i, j + 1, cur, seg, by omega, by omega, rfl, ?_, rfl, own, hcl, by rw [hsn]; exact hil, by rw [hsn]; exact htk, hdr'⟩
    show ((i : Int), IntKind.i64.wrap ((j : Int) + 1), ()) = _
    rw [hwj]
  ·obtain rfl : j = l.length := by omega
   rw [List.take_length] at hil htk
   have own' := own.slc (l := 0) (h := i) (by omega) (by omega)
   rw [B58, List.drop_zero, Nat.sub_zero, htk] at own'
   refine J5 (l' := i) (h' := v.len) (m' := v.cap) rfl rfl rfl (by omega) hcap (Nat.le_refl _) ?_
   have hs : N9 v ((i : Nat) : Int) ((v.len : Nat) : Int) ((v.cap : Nat) : Int) 1 = N9 (N9 v ((0 : Nat) : Int) ((i : Nat) : Int) ((v.cap : Nat) : Int) 1) ((N9 v ((0 : Nat) : Int) ((i : Nat) : Int) ((v.cap : Nat) : Int) 1).len) ((v.len : Nat) : Int) ((N9 v ((0 : Nat) : Int) ((i : Nat) : Int) ((v.cap : Nat) : Int) 1).cap) 1 := by
    have ea : ∀ o : Option Addr, o.map (·.add 0) = o := fun o => by cases o <;> simp [Addr.add]
    simp only [N9, Int.toNat_natCast, Nat.sub_zero, Nat.zero_mul, Nat.mul_one, ea, ite_self]
   refine Ad1 A49 rfl [o1] [] own' (by simp) (h := v.len) (by simp only [N9, Int.toNat_natCast]; omega) (by simp only [N9, Int.toNat_natCast]; omega) hs fun seg2 own2 => ?_
   refine J5 (l' := 0) (h' := i) (m' := v.cap) rfl rfl rfl (by omega) (by omega) (Nat.le_refl _) (.of ⟨_, seg2, rfl, by simp, own2⟩)
def bO (m : Nat) (sv uv : SlV) : Nat × Obj := (m, Obj.cells #[.slice sv.a sv.len sv.cap, .slice uv.a uv.len uv.cap] 259)
structure BOk (sv : SlV) (sseg : A4) (ss : List BS) (uv : SlV) (useg : A4) (us : List Int) : Prop where
 own : Own sv 3 eSt (ss.flatMap U2) sseg
 uown : Own uv 1 Bq0 (ivs .i64 us) useg
 cnt : 1 <= ss.length /\ ss.length <= 16
 few : us.length <= 100000
 wr : ∀ s ∈ ss, 0 <= s.wear /\ s.wear <= 1000000000
def BX (m : Nat) (ss : List BS) (us : List Int) (A : A4) : Prop := ∃ sv sseg uv useg, A = bO m sv uv :: (sseg ++ useg) /\ BOk sv sseg ss uv useg us
section
variable {L : A4} {m : Nat} {sv uv : SlV}
theorem b_s (h : bO m sv uv ∈ L) : D0 ⟨m, 0, none⟩ [.slice sv.a sv.len sv.cap] L := ldB (by unfold bO at h; exact h) rfl
theorem b_u (h : bO m sv uv ∈ L) : D0 ⟨m, 1, none⟩ [.slice uv.a uv.len uv.cap] L := ldB (by unfold bO at h; exact h) rfl
end
def H7 (ss : List BS) (n : Int) : Bool := decide (0 <= n) && (match ss[n.toNat]? with | some s => !s.bad | none => false)
def N8 (ss : List BS) (us : List Int) (n : Int) : Bool := H7 ss n && !decide (n ∈ us)
theorem Br1 (L : A4) (m : Nat) (ss : List BS) (us : List Int) (A : A4) (hA : BX m ss us A) (hs : ∀ x ∈ A, x ∈ L) (n : Int) : Reads PP 120 #[.pointer (some ⟨m, 0, none⟩), .i n] L (.bool (H7 ss n)) := by
 obtain ⟨sv, sseg, uv, useg, rfl, ok⟩ := hA
 refine Reads.of (args := [.pointer (some ⟨m, 0, none⟩), .i n]) B5 B6 Tryz.func120 (e120 (some ⟨m, 0, none⟩) n _) ?_
 unfold t120
 have hm : bO m sv uv ∈ L := hs _ List.mem_cons_self
 have hsl : Sl L sv 3 (ss.flatMap U2) := ok.own.sl.mono fun x hx => hs x (by simp [hx])
 have hlen := hsl.els_len G5 (by decide)
 refine ifT rfl (B9 (fun (h0 : n ≥ 0) => A5 rfl (A6 sv (b_s hm) (B9 (fun (h1 : n < sv.len) => ?_) (fun (h1 : ¬ n < sv.len) => .of ⟨?_, rfl⟩)))) (fun (h0 : ¬ n ≥ 0) => .of ⟨?_, rfl⟩))
 ·have hi : n.toNat < ss.length := by omega
  obtain ⟨a, ha, hl⟩ := hsl.el G5 (by decide) hi
  refine A5 rfl (A6 sv (b_s hm) (A5 ha (E0 h0 h1 (A6 ss[n.toNat].bad (hl.one 1 rfl) (.of ⟨?_, rfl⟩)))))
  unfold H7
  rw [List.getElem?_eq_getElem hi, decide_eq_true (show 0 <= n by omega)]
  rfl
 ·unfold H7
  rw [List.getElem?_eq_none (by omega)]
  simp
 ·unfold H7
  rw [decide_eq_false (by omega)]; rfl
theorem Ap3 (L : A4) (m : Nat) (ss : List BS) (us : List Int) (A : A4) (hA : BX m ss us A) (hs : ∀ x ∈ A, x ∈ L) (n : Int) : Reads PP 172 #[.pointer (some ⟨m, 0, none⟩), .i n] L (.bool (N8 ss us n)) := by
 refine Reads.of (args := [.pointer (some ⟨m, 0, none⟩), .i n]) B5 B6 Tryz.func172 (e172 (some ⟨m, 0, none⟩) n _) ?_
 unfold t172
 refine B3 (Br1 _ m ss us A hA hs n) (H7 ss n, ()) rfl ?_
 obtain ⟨sv, sseg, uv, useg, rfl, ok⟩ := hA
 have hm : bO m sv uv ∈ L := hs _ List.mem_cons_self
 have husl : ISl L uv .i64 us := ok.uown.sl.mono fun x hx => hs x (by simp [hx])
 refine G2 (fun hg => ?_) (fun hg => .of ⟨?_, rfl⟩)
 ·have hg' : H7 ss n = true := hg
  have hfew := ok.few
  refine A5 rfl (A6 uv (b_u hm) (B3 (Ck6 _ uv us husl (by omega) n) (decide (n ∈ us), ()) rfl (.of ⟨?_, rfl⟩)))
  unfold N8
  rw [hg']; rfl
 ·have hg' : H7 ss n = false := hg
  unfold N8
  rw [hg']; rfl
def Ae6 {σ : Type} (q : Int -> Bool) (step : σ -> Int -> BS -> σ) (s0 : σ) (ss : List BS) : σ := ss.zipIdx.foldl (fun s p => if q p.2 then step s p.2 p.1 else s) s0
theorem Az6 {σ : Type} (q : Int -> Bool) (step : σ -> Int -> BS -> σ) (s0 : σ) (ss : List BS) (x : BS) : Ae6 q step s0 (ss ++ [x]) = if q ss.length then step (Ae6 q step s0 ss) ss.length x else Ae6 q step s0 ss := by
 unfold Ae6
 rw [List.zipIdx_append, List.foldl_append]
 simp
theorem Br2 {σ : Type} (m : Nat) (ss : List BS) (us : List Int) (A : A4) (hA : BX m ss us A) (q : Int -> Bool) (step : σ -> Int -> BS -> σ) (ok : Nat -> σ -> Prop) (hskip : ∀ n s, ok n s -> ok (n + 1) s) (obs : σ -> A4) (i1 i2 : FuncId) (ho1 : Aa3 PP i1 = true) (ho2 : Aa3 PP i2 = true) (caps : Array Value)
  (h1 : ∀ (L : A4) (n : Int), (∀ x ∈ A, x ∈ L) -> Reads PP i1 #[.pointer (some ⟨m, 0, none⟩), .i n] L (.bool (q n)))
  (h2 : ∀ (s : σ) (n : Nat) (x : BS), n < 16 -> ok n s -> 0 <= x.wear -> x.wear <= 1000000000 -> CallF PP i2 (#[.i n, .agg #[.i x.wear, .bool x.bad, .bool x.dirty]] ++ caps) (obs s) fun r L' => r = .tuple #[] /\ L' = obs (step s n x) /\ ok (n + 1) (step s n x)) (s0 : σ) (hs0 : ok 0 s0) :
  CallF PP 119 #[.pointer (some ⟨m, 0, none⟩), .func (.func i1) #[.pointer (some ⟨m, 0, none⟩)] #[], .func (.func i2) #[] caps] (obs s0 ++ A) fun r L' => r = .tuple #[] /\ L' = obs (Ae6 q step s0 ss) ++ A /\ ok ss.length (Ae6 q step s0 ss) := by
 have hA' := hA
 obtain ⟨sv, sseg, uv, useg, hAe, bok⟩ := hA
 refine CallF.of (args := [.pointer (some ⟨m, 0, none⟩), .func (.func i1) #[.pointer (some ⟨m, 0, none⟩)] #[], .func (.func i2) #[] caps]) B5 B6 Tryz.func119 (e119 (some ⟨m, 0, none⟩) ⟨.func i1, #[.pointer (some ⟨m, 0, none⟩)], #[]⟩ ⟨.func i2, #[], caps⟩ _) ?_
 unfold t119
 have hm : ∀ {X : A4}, bO m sv uv ∈ X ++ A := fun {X} => by subst hAe; simp
 have hsl : ∀ {X : A4}, Sl (X ++ A) sv 3 (ss.flatMap U2) := fun {X} => bok.own.sl.mono fun x hx => by subst hAe; simp [hx]
 have hlen := (hsl (X := [])).els_len G5 (by decide)
 have hcnt := bok.cnt
 refine ifF rfl (A5 rfl (A6 sv (b_s hm) ?_))
 refine G0 (fun k z L' => ∃ i : Nat, i <= ss.length /\ k = ss.length - i /\ z = ((i : Int), ()) /\ L' = obs (Ae6 q step s0 (ss.take i)) ++ A /\ ok i (Ae6 q step s0 (ss.take i))) ss.length ⟨0, by omega, by omega, rfl, by simp [Ae6], by simpa [Ae6] using hs0⟩ ?_
 rintro k z L ⟨i, hi, rfl, rfl, rfl, hok⟩
 refine B9 (fun (hlt : (i : Int) < sv.len) => ?_) (fun (hge : ¬ (i : Int) < sv.len) => ?_)
 ·have hi' : i < ss.length := by omega
  have hsn := Az6 q step s0 (ss.take i) ss[i]
  rw [<- List.take_succ_eq_append_getElem hi', List.length_take, Nat.min_eq_left hi] at hsn
  have hwr := bok.wr ss[i] (List.getElem_mem hi')
  obtain ⟨a, ha, hl⟩ := (hsl (X := obs (Ae6 q step s0 (ss.take i)))).el G5 (by decide) hi'
  have hw : IntKind.i64.wrap ((i : Int) + 1) = ((i + 1 : Nat) : Int) := by rw [C1 (by omega) (by omega)]; omega
  refine V7 ho1 (B3 (h1 _ (i : Int) (fun x hx => List.mem_append_right _ hx)) (q i, ()) rfl ?_)
  refine G2 (fun hq => ?_) (fun hq => ?_)
  ·have hq' : q (i : Int) = true := hq
   rw [if_pos hq'] at hsn
   refine A5 rfl (A6 sv (b_s hm) (A5 ha (E0 (show (0 : Int) <= (i : Int) by omega) hlt (A6 (ss[i].wear, ss[i].bad, ss[i].dirty, ()) (by rw [Int.toNat_natCast]; exact hl) (V7 ho2 ?_)))))
   refine H4 [] A (h2 _ i ss[i] (by omega) hok hwr.1 hwr.2) rfl ?_
   rintro _ _ - ⟨rfl, rfl, hok'⟩
   refine ⟨(), rfl, ss.length - (i + 1), by omega, i + 1, by omega, rfl, ?_, by rw [hsn]; rfl, by rw [hsn]; exact hok'⟩
   rw [hw]
  ·have hq' : ¬ q (i : Int) = true := by rw [show q (i : Int) = false from hq]; decide
   rw [if_neg hq'] at hsn
   refine ⟨ss.length - (i + 1), by omega, i + 1, by omega, rfl, ?_, by rw [hsn], by rw [hsn]; exact hskip _ _ hok⟩
   rw [hw]
 ·obtain rfl : i = ss.length := by omega
  rw [List.take_length] at hok ⊢
  exact .of ⟨rfl, rfl, hok⟩
def A01 (ss : List BS) (us : List Int) : Int := Ae6 (N8 ss us) (fun (k : Int) _ _ => k + 1) 0 ss
theorem Cm0 (n1 : Nat) (k : Int) (hk : 0 <= k /\ k <= 1000000) (n : Int) (x : BS) : CallF PP 244 #[.i n, .agg #[.i x.wear, .bool x.bad, .bool x.dirty], .pointer (some ⟨n1, 0, none⟩)] [(n1, Obj.cells #[.i k] 3)]
  fun r L' => r = .tuple #[] /\ L' = [(n1, Obj.cells #[.i (k + 1)] 3)] := by
 refine CallF.of (args := [.i n, .agg #[.i x.wear, .bool x.bad, .bool x.dirty], .pointer (some ⟨n1, 0, none⟩)]) B5 B6 Tryz.func244 (e244 n (x.wear, x.bad, x.dirty, ()) (some ⟨n1, 0, none⟩) _) ?_
 unfold t244
 refine C3 fun n2 _ => A5 rfl (A6 k (ldB (n := n1) (c := #[.i k]) (T := 3) (fz := (0, 0)) (by simp) rfl) (A5 rfl ?_))
 rw [C1 (by omega) (by omega)]
 exact E3 (n := n1) (off := 0) (c := #[.i k]) (T := 3) (fz := (0, 0)) [_] [] rfl rfl (by simp) (.inl (Nat.le_refl _)) #[.i (k + 1)] rfl (.cons (.of ⟨rfl, rfl⟩))
theorem Bd4 {σ : Type} (q : Int -> Bool) (step : σ -> Int -> BS -> σ) (s0 : σ) (ss : List BS) (P : Nat -> σ -> Prop) (h0 : P 0 s0) (h : ∀ (i : Nat) (hi : i < ss.length) (s : σ), P i s -> P (i + 1) (if q i then step s i ss[i] else s)) : P ss.length (Ae6 q step s0 ss) := by
 have key : ∀ k, k <= ss.length -> P k (Ae6 q step s0 (ss.take k)) := by
  intro k
  induction k with
  | zero => intro _; simpa [Ae6] using h0
  | succ k ih =>
   intro hk
   have hsn := Az6 q step s0 (ss.take k) (ss[k]'(by omega))
   rw [<- List.take_succ_eq_append_getElem (by omega), List.length_take, Nat.min_eq_left (by omega)] at hsn
   rw [hsn]
   exact h k (by omega) _ (ih (by omega))
 have := key ss.length (Nat.le_refl _)
 rwa [List.take_length] at this
theorem Be6 (m : Nat) (ss : List BS) (us : List Int) (A : A4) (hA : BX m ss us A) : Reads PP 185 #[.pointer (some ⟨m, 0, none⟩)] A (.i (A01 ss us)) := by
 refine Reads.of (args := [.pointer (some ⟨m, 0, none⟩)]) B5 B6 Tryz.func185 (e185 (some ⟨m, 0, none⟩) _) ?_
 unfold t185
 refine C3 fun n1 _ => E3 [] _ rfl rfl (by simp) (.inl (Nat.le_refl _)) #[.i 0] rfl ?_
 refine H4 [] [] (Br2 m ss us A hA (N8 ss us) (fun (k : Int) _ _ => k + 1) (fun n k => 0 <= k /\ k <= n) (fun n s h => by omega) (fun k => [(n1, Obj.cells #[.i k] 3)]) 172 244 (by kernel_rfl) (by kernel_rfl) #[.pointer (some ⟨n1, 0, none⟩)]
  (fun L n hs => Ap3 L m ss us A hA hs n) (fun s n x hn hs _ _ => CallF.mono (Cm0 n1 s (by omega) n x) (by rintro r L' _ ⟨rfl, rfl⟩; exact ⟨rfl, rfl, by omega⟩)) 0 (by omega)) (by simp) ?_
 rintro _ _ - ⟨rfl, rfl, hok⟩
 rw [List.append_nil, List.nil_append]
 exact ⟨(), rfl, A6 (A01 ss us) (ldB List.mem_cons_self rfl) (.cons (.of ⟨rfl, rfl⟩))⟩
def Z5 (s : BS) : Int := if s.dirty then s.wear + 1 else s.wear
theorem Br4 (L : A4) (s : BS) (h : 0 <= s.wear /\ s.wear <= 1000000000) : Reads PP 251 #[.agg #[.i s.wear, .bool s.bad, .bool s.dirty]] L (.i (Z5 s)) := by
 refine Reads.of (args := [.agg #[.i s.wear, .bool s.bad, .bool s.dirty]]) B5 B6 Tryz.func251 (e251 (s.wear, s.bad, s.dirty, ()) _) ?_
 unfold t251
 refine C3 fun n1 _ => A6 s.dirty (ldB List.mem_cons_self rfl) (G2 (fun hd => A6 s.wear (ldB List.mem_cons_self rfl) (.cons (.of ⟨?_, rfl⟩))) (fun hd => A6 s.wear (ldB List.mem_cons_self rfl) (.cons (.of ⟨?_, rfl⟩))))
 ·unfold Z5; rw [if_pos hd, C1 (by omega) (by omega)]
 ·unfold Z5; rw [if_neg (by rw [hd]; decide)]
abbrev BPk := Bool × BS × Int
def M6 (s : BPk) (n : Int) (x : BS) : BPk := if s.1 = false \/ Z5 x < Z5 s.2.1 then (true, x, n) else s
def F5 (ss : List BS) (us : List Int) : BPk := Ae6 (N8 ss us) M6 (false, bs0, 0) ss
def Af9 (n3 n1 n2 : Nat) (s : BPk) : A4 := [(n3, Obj.cells #[.bool s.1] 4), (n1, Obj.cells #[.i s.2.1.wear, .bool s.2.1.bad, .bool s.2.1.dirty] eSt), (n2, Obj.cells #[.i s.2.2] 3)]
theorem Ci1 (n3 n1 n2 : Nat) (s : BPk) (hs : 0 <= s.2.1.wear /\ s.2.1.wear <= 1000000000) (n : Int) (x : BS) (hx : 0 <= x.wear /\ x.wear <= 1000000000) :
  CallF PP 250 #[.i n, .agg #[.i x.wear, .bool x.bad, .bool x.dirty], .pointer (some ⟨n3, 0, none⟩), .pointer (some ⟨n1, 0, none⟩), .pointer (some ⟨n2, 0, none⟩)] (Af9 n3 n1 n2 s)
  fun r L' => r = .tuple #[] /\ L' = Af9 n3 n1 n2 (M6 s n x) := by
 obtain ⟨fd, best, at'⟩ := s
 refine CallF.of (args := [.i n, .agg #[.i x.wear, .bool x.bad, .bool x.dirty], .pointer (some ⟨n3, 0, none⟩), .pointer (some ⟨n1, 0, none⟩), .pointer (some ⟨n2, 0, none⟩)]) B5 B6 Tryz.func250 (e250 n (x.wear, x.bad, x.dirty, ()) (some ⟨n3, 0, none⟩) (some ⟨n1, 0, none⟩) (some ⟨n2, 0, none⟩) _) ?_
 unfold t250 Af9
 simp only at hs ⊢
 refine C3 fun n4 _ => ?_
 generalize ho : (n4, Obj.cells #[.i x.wear, .bool x.bad, .bool x.dirty] eSt) = o4
 have l4 : ∀ {Z : A4}, D0 ⟨n4, 0, none⟩ (U2 x) (o4 :: Z) := by subst ho; exact ldB List.mem_cons_self rfl
 clear ho
 have take : M6 (fd, best, at') n x = (true, x, n) ->
   (st ⟨n2, 0, none⟩ [.i n] <| keep (D0 ⟨n4, 0, none⟩ [.i x.wear, .bool x.bad, .bool x.dirty]) <| A9 (some ⟨n1, 0, none⟩) fun a3 => st a3 [.i x.wear, .bool x.bad, .bool x.dirty] <| A9 (some ⟨n3, 0, none⟩) fun a4 => st a4 [.bool true] <|
    HL.Ends (fun r L' => r = Value.tuple #[] /\ L' = [(n3, Obj.cells #[.bool (M6 (fd, best, at') n x).1] 4), (n1, Obj.cells #[.i (M6 (fd, best, at') n x).2.1.wear, .bool (M6 (fd, best, at') n x).2.1.bad, .bool (M6 (fd, best, at') n x).2.1.dirty] eSt), (n2, Obj.cells #[.i (M6 (fd, best, at') n x).2.2] 3)]) (.tuple #[]))
    (o4 :: [(n3, Obj.cells #[.bool fd] 4), (n1, Obj.cells #[.i best.wear, .bool best.bad, .bool best.dirty] eSt), (n2, Obj.cells #[.i at'] 3)]) := by
  intro e
  rw [e]
  refine E3 (n := n2) (off := 0) (c := #[.i at']) (T := 3) (fz := (0, 0)) [o4, (n3, Obj.cells #[.bool fd] 4), (n1, Obj.cells #[.i best.wear, .bool best.bad, .bool best.dirty] eSt)] [] rfl rfl (by simp) (.inl (Nat.le_refl _)) #[.i n] rfl (E9 l4 (A5 rfl ?_))
  refine E3 (n := n1) (off := 0) (c := #[.i best.wear, .bool best.bad, .bool best.dirty]) (T := eSt) (fz := (0, 0)) [o4, (n3, Obj.cells #[.bool fd] 4)] [(n2, Obj.cells #[.i n] 3)] rfl rfl (by simp) (.inl (Nat.le_refl _)) #[.i x.wear, .bool x.bad, .bool x.dirty] rfl (A5 rfl ?_)
  exact E3 (n := n3) (off := 0) (c := #[.bool fd]) (T := 4) (fz := (0, 0)) [o4] [(n1, Obj.cells #[.i x.wear, .bool x.bad, .bool x.dirty] eSt), (n2, Obj.cells #[.i n] 3)] rfl rfl (by simp) (.inl (Nat.le_refl _)) #[.bool true] rfl (.cons (.of ⟨rfl, rfl⟩))
 refine A5 rfl (A6 fd (ldB (n := n3) (off := 0) (c := #[.bool fd]) (T := 4) (fz := (0, 0)) (by simp) rfl) (G2 (fun hf => ?_) (fun hf => ?_)))
 ·have hf' : fd = false := by simpa using hf
  refine A6 (x.wear, x.bad, x.dirty, ()) l4 (A5 rfl (take ?_))
  unfold M6
  rw [if_pos (.inl hf')]
 ·have hf' : fd = true := by simpa using hf
  have lb : D0 ⟨n1, 0, none⟩ [.i best.wear, .bool best.bad, .bool best.dirty] (o4 :: [(n3, Obj.cells #[.bool fd] 4), (n1, Obj.cells #[.i best.wear, .bool best.bad, .bool best.dirty] eSt), (n2, Obj.cells #[.i at'] 3)]) := ldB (n := n1) (off := 0) (c := #[.i best.wear, .bool best.bad, .bool best.dirty]) (T := eSt) (fz := (0, 0)) (by simp) rfl
  refine A6 (x.wear, x.bad, x.dirty, ()) l4 (A5 rfl (A6 (best.wear, best.bad, best.dirty, ()) lb (B3 (Br4 _ x hx) (Z5 x, ()) rfl (E9 lb (B3 (Br4 _ best hs) (Z5 best, ()) rfl ?_)))))
  refine B9 (fun (hc : Z5 x < Z5 best) => ?_) (fun (hc : ¬ Z5 x < Z5 best) => .cons (.of ⟨rfl, ?_⟩))
  ·refine A6 (x.wear, x.bad, x.dirty, ()) l4 (A5 rfl (take ?_))
   unfold M6
   rw [if_pos (.inr hc)]
  ·have : M6 (fd, best, at') n x = (fd, best, at') := by
    unfold M6
    rw [if_neg]
    rintro (c | c)
    ·rw [hf'] at c; cases c
    ·exact hc c
   rw [this]
theorem Cn4 (m : Nat) (ss : List BS) (us : List Int) (A : A4) (hA : BX m ss us A) : Reads PP 189 #[.pointer (some ⟨m, 0, none⟩)] A (.tuple #[.i (F5 ss us).2.2, .bool (F5 ss us).2.1.dirty, .bool (F5 ss us).1]) := by
 refine Reads.of (args := [.pointer (some ⟨m, 0, none⟩)]) B5 B6 Tryz.func189 (e189 (some ⟨m, 0, none⟩) _) ?_
 unfold t189
 refine C3 fun n1 _ => C3 fun n2 _ => C3 fun n3 _ => ?_
 refine E3 (n := n2) (off := 0) (c := #[.i 0]) (T := 3) (fz := (0, 0)) [(n3, Obj.cells #[.bool false] 4)] ((n1, Obj.cells #[.i 0, .bool false, .bool false] eSt) :: A) rfl rfl (by simp) (.inl (Nat.le_refl _)) #[.i 0] rfl ?_
 refine E3 (n := n3) (off := 0) (c := #[.bool false]) (T := 4) (fz := (0, 0)) [] ((n2, Obj.cells #[.i 0] 3) :: (n1, Obj.cells #[.i 0, .bool false, .bool false] eSt) :: A) rfl rfl (by simp) (.inl (Nat.le_refl _)) #[.bool false] rfl ?_
 refine G9 (R := []) (Br2 m ss us A hA (N8 ss us) M6 (fun _ s => 0 <= s.2.1.wear /\ s.2.1.wear <= 1000000000) (fun n s h => h) (Af9 n3 n1 n2) 172 250 (by kernel_rfl) (by kernel_rfl) #[.pointer (some ⟨n3, 0, none⟩), .pointer (some ⟨n1, 0, none⟩), .pointer (some ⟨n2, 0, none⟩)]
  (fun L n hs => Ap3 L m ss us A hA hs n) (fun s n x hn hs a b => CallF.mono (Ci1 n3 n1 n2 s hs n x ⟨a, b⟩) ?_) (false, bs0, 0) (by decide)) ?_ ?_
 ·rintro r L' _ ⟨rfl, rfl⟩
  refine ⟨rfl, rfl, ?_⟩
  unfold M6
  split
  ·exact ⟨a, b⟩
  ·exact hs
 ·rw [List.append_nil]
  unfold Af9 bs0
  exact List.Perm.cons _ (List.Perm.swap _ _ _)
 rintro _ _ ⟨rfl, rfl, hok⟩
 refine ⟨_, .refl _, (), rfl, ?_⟩
 show HL.ld _ _ _ (Af9 n3 n1 n2 (F5 ss us) ++ A ++ [])
 rw [List.append_nil]
 generalize F5 ss us = s
 unfold Af9
 refine A6 s.2.2 (ldB (n := n2) (off := 0) (c := #[.i s.2.2]) (T := 3) (fz := (0, 0)) (by simp) rfl) (A6 s.2.1.dirty (ldB (n := n1) (off := 2) (c := #[.i s.2.1.wear, .bool s.2.1.bad, .bool s.2.1.dirty]) (T := eSt) (fz := (0, 0)) (by simp) rfl) (A6 s.1 (ldB (n := n3) (off := 0) (c := #[.bool s.1]) (T := 4) (fz := (0, 0)) (by simp) rfl) ?_))
 exact .cons (.cons (.cons (.of ⟨rfl, rfl⟩)))
theorem Bw2 (m : Nat) (ss : List BS) (us : List Int) (A : A4) (hA : BX m ss us A) : Reads PP 245 #[.pointer (some ⟨m, 0, none⟩)] A (.tuple #[.i (us.headD 0), .bool (decide (us ≠ []))]) := by
 obtain ⟨sv, sseg, uv, useg, rfl, ok⟩ := hA
 refine Reads.of (args := [.pointer (some ⟨m, 0, none⟩)]) B5 B6 Tryz.func245 (e245 (some ⟨m, 0, none⟩) _) ?_
 unfold t245
 have hm : bO m sv uv ∈ bO m sv uv :: (sseg ++ useg) := List.mem_cons_self
 have husl : ISl (bO m sv uv :: (sseg ++ useg)) uv .i64 us := ok.uown.sl.right.cons
 have hlen := husl.len
 refine ifF rfl (A5 rfl (A6 uv (b_u hm) (W7 (fun h0 => .of ⟨?_, rfl⟩) (fun h0 => ?_))))
 ·cases us with
  | nil => rfl
  | cons x r => rw [List.length_cons] at hlen; have h0' : (uv.len : Int) = 0 := h0; omega
 ·cases us with
  | nil => exact absurd (show (uv.len : Int) = 0 by simp at hlen; omega) h0
  | cons x r =>
   obtain ⟨a, ha⟩ := husl.some (i := 0) (by simp)
   rw [List.length_cons] at hlen
   exact A5 rfl (A6 uv (b_u hm) (A5 ha (E0 (by decide) (by omega) (A6 x (husl.rd (i := 0) (by simp) ha _ rfl) (.of ⟨by simp, rfl⟩)))))
def Ad3 (ss : List BS) (us : List Int) (n : Int) : Bool := N8 ss us n && (match ss[n.toNat]? with | some s => !s.dirty | none => false)
theorem P9 {ss : List BS} {n : Int} (h : H7 ss n = true) : 0 <= n /\ ∃ hi : n.toNat < ss.length, ss[n.toNat].bad = false := by
 unfold H7 at h
 rw [Bool.and_eq_true] at h
 obtain ⟨h1, h2⟩ := h
 refine ⟨of_decide_eq_true h1, ?_⟩
 split at h2
 ·rename_i s hs
  obtain ⟨hi, he⟩ := List.getElem?_eq_some_iff.1 hs
  exact ⟨hi, by rw [he]; simpa using h2⟩
 ·cases h2
theorem O9 {ss : List BS} {us : List Int} {n : Int} (h : N8 ss us n = true) : H7 ss n = true /\ n ∉ us := by
 unfold N8 at h
 rw [Bool.and_eq_true] at h
 exact ⟨h.1, by simpa using h.2⟩
theorem Bw1 (m : Nat) (ss : List BS) (us : List Int) (A : A4) (hA : BX m ss us A) (hf : us.length < 100000) (n : Int) : CallF PP 255 #[.pointer (some ⟨m, 0, none⟩), .i n] A
  fun r L' => r = .bool (Ad3 ss us n) /\ BX m ss (if Ad3 ss us n = true then us ++ [n] else us) L' := by
 have hA' := hA
 obtain ⟨sv, sseg, uv, useg, rfl, ok⟩ := hA
 refine CallF.of (args := [.pointer (some ⟨m, 0, none⟩), .i n]) B5 B6 Tryz.func255 (e255 (some ⟨m, 0, none⟩) n _) ?_
 unfold t255
 have hm : bO m sv uv ∈ bO m sv uv :: (sseg ++ useg) := List.mem_cons_self
 refine B3 (Ap3 _ m ss us _ hA' (fun x hx => hx) n) (N8 ss us n, ()) rfl ?_
 cases hfr : N8 ss us n with
 | false =>
  have : Ad3 ss us n = false := by unfold Ad3; rw [hfr]; rfl
  rw [this]
  exact ifT rfl (.of ⟨rfl, hA'⟩)
 | true =>
  obtain ⟨h0, hi, hb⟩ := P9 (O9 hfr).1
  have hsl : Sl (bO m sv uv :: (sseg ++ useg)) sv 3 (ss.flatMap U2) := ok.own.sl.left.cons
  have hlen := hsl.els_len G5 (by decide)
  obtain ⟨a, ha, hl⟩ := hsl.el G5 (by decide) hi
  have hop : Ad3 ss us n = !ss[n.toNat].dirty := by unfold Ad3; rw [hfr, List.getElem?_eq_getElem hi]; rfl
  refine ifF rfl (A5 rfl (A6 sv (b_s hm) (A5 ha (E0 h0 (show n < sv.len by omega) (A6 ss[n.toNat].dirty (hl.one 2 rfl) ?_)))))
  rw [hop]
  refine G2 (fun hd => ?_) (fun hd => ?_)
  ·have hd' : ss[n.toNat].dirty = true := hd
   rw [hd']
   exact .of ⟨rfl, hA'⟩
  ·have hd' : ss[n.toNat].dirty = false := hd
   rw [hd']
   refine A5 rfl (A6 uv (b_u hm) (C3 fun n1 _ => ?_))
   have hul := ok.uown.sl.len
   rw [K9] at hul
   have hsrc : ∀ {Z : A4}, Sl ((n1, Obj.cells #[.i n] Bq0) :: Z) ⟨some ⟨n1, 0, none⟩, 1, 1⟩ 1 (ivs .i64 [n]) := fun {Z} => ⟨rfl, Nat.le_refl _, .inr ⟨_, rfl, ldB List.mem_cons_self rfl⟩⟩
   refine E5 A49 By9 ((n1, Obj.cells #[.i n] Bq0) :: bO m sv uv :: sseg) [] ok.uown (by simp) (.sl hsrc) (Ac6 _ _) (by first | omega | (simp only; omega)) fun v2 seg2 hv2 own2 => A5 rfl ?_
   rw [<- Y7] at own2
   refine E3 (n := m) (off := 1) (c := #[.slice sv.a sv.len sv.cap, .slice uv.a uv.len uv.cap]) (T := 259) (fz := (0, 0)) [(n1, Obj.cells #[.i n] Bq0)] (sseg ++ seg2) rfl (by simp [bO]) (by simp) (.inl (Nat.le_refl _)) #[.slice sv.a sv.len sv.cap, .slice v2.a v2.len v2.cap] rfl ?_
   exact .cons (.of ⟨rfl, sv, sseg, v2, seg2, rfl, ok.own, own2, ok.cnt, (by show (us ++ [n]).length <= 100000; rw [List.length_append]; simp only [List.length_cons, List.length_nil]; omega), ok.wr⟩)
def Ag6 (ss : List BS) (n : Int) (g : BS -> BS) : List BS := ss.modify n.toNat g
theorem A54 {ss : List BS} {n : Int} (hi : n.toNat < ss.length) (g : BS -> BS) : Ag6 ss n g = ss.take n.toNat ++ g ss[n.toNat] :: ss.drop (n.toNat + 1) := by
 unfold Ag6
 rw [List.modify_eq_take_cons_drop hi]
theorem C06 (us : List Int) (n : Int) : (iwo us n).length <= us.length := List.length_filter_le ..
theorem Cn3 (m : Nat) (ss : List BS) (us : List Int) (A : A4) (hA : BX m ss us A) (n : Int) (i : FuncId) (hio : Aa3 PP i = true) (caps : Array Value) (obs : A4) (g : BS -> BS) (hg : ∀ s ∈ ss, 0 <= (g s).wear /\ (g s).wear <= 1000000000)
  (h : ∀ (v : SlV) (seg : A4) (j : Nat) (a : Addr) (hj : j < ss.length), Own v 3 eSt (ss.flatMap U2) seg -> v.a = some a -> CallF PP i (#[.pointer (some (a.add (j * 3)))] ++ caps) (obs ++ seg) fun r L' => r = .tuple #[] /\ ∃ seg', L' = obs ++ seg' /\ Own v 3 eSt ((ss.take j ++ g ss[j] :: ss.drop (j + 1)).flatMap U2) seg') :
  CallF PP 299 #[.pointer (some ⟨m, 0, none⟩), .i n, .func (.func i) #[] caps] (obs ++ A)
   fun r L' => r = .bool (H7 ss n) /\ ∃ A', L' = obs ++ A' /\ BX m (if H7 ss n = true then Ag6 ss n g else ss) (if H7 ss n = true then iwo us n else us) A' := by
 have hA' := hA
 obtain ⟨sv, sseg, uv, useg, rfl, ok⟩ := hA
 refine CallF.of (args := [.pointer (some ⟨m, 0, none⟩), .i n, .func (.func i) #[] caps]) B5 B6 Tryz.func299 (e299 (some ⟨m, 0, none⟩) n ⟨.func i, #[], caps⟩ _) ?_
 unfold t299
 refine C3 fun n1 _ => A6 n (ldB List.mem_cons_self rfl) ?_
 refine B3 (Br1 _ m ss us _ hA' (fun x hx => by simp at hx ⊢; simp [hx]) n) (H7 ss n, ()) rfl ?_
 cases hgd : H7 ss n with
 | false =>
  refine ifT rfl (.cons (.of ⟨rfl, _, rfl, ?_⟩))
  simpa using hA'
 | true =>
  obtain ⟨h0, hi, hb⟩ := P9 hgd
  have hlen := ok.own.sl.els_len G5 (by decide)
  have hfew := ok.few
  refine ifF rfl (A5 rfl (A6 uv (b_u (sv := sv) (by simp)) ?_))
  refine G9 (R := obs ++ (bO m sv uv :: sseg)) (Ck7 uv us useg ok.uown (by omega) n n1) ?_ ?_
  ·classical
   rw [List.perm_iff_count]
   intro x
   simp only [List.append_eq, List.cons_append, List.count_append, List.count_cons, List.count_nil]
   omega
  rintro _ _ ⟨u2, useg2, rfl, rfl, uown2⟩
  generalize ho1 : (n1, Obj.cells #[.i n] 3) = o1
  have l1 : ∀ {Z : A4}, D0 ⟨n1, 0, none⟩ [.i n] (o1 :: Z) := by subst ho1; exact ldB List.mem_cons_self rfl
  refine ⟨(o1 :: obs) ++ bO m sv uv :: (sseg ++ useg2), ?_, (u2, ()), rfl, A5 rfl ?_⟩
  ·classical
   rw [List.perm_iff_count]
   intro x
   simp only [List.append_eq, List.cons_append, List.count_append, List.count_cons, List.count_nil]
   omega
  refine E3 (n := m) (off := 1) (c := #[.slice sv.a sv.len sv.cap, .slice uv.a uv.len uv.cap]) (T := 259) (fz := (0, 0)) (o1 :: obs) (sseg ++ useg2) rfl (by simp [bO]) (by simp) (.inl (Nat.le_refl _)) #[.slice sv.a sv.len sv.cap, .slice u2.a u2.len u2.cap] rfl ?_
  obtain ⟨a, ha, _⟩ := ok.own.sl.el G5 (by decide) hi
  refine A5 rfl (A6 sv (b_s (m := m) (uv := u2) (by unfold bO; simp)) (A6 n l1 (A5 ha (E0 h0 (show n < sv.len by omega) (V7 hio ?_)))))
  refine G9 (R := o1 :: bO m sv u2 :: useg2) (h sv sseg n.toNat a hi ok.own ha) ?_ ?_
  ·unfold bO
   classical
   rw [List.perm_iff_count]
   intro x
   simp only [List.append_eq, List.cons_append, List.count_append, List.count_cons, List.count_nil]
   omega
  rintro _ _ ⟨rfl, sseg2, rfl, own2⟩
  refine ⟨o1 :: (obs ++ (bO m sv u2 :: (sseg2 ++ useg2))), ?_, (), rfl, ?_⟩
  ·classical
   rw [List.perm_iff_count]
   intro x
   simp only [List.append_eq, List.cons_append, List.count_append, List.count_cons, List.count_nil]
   omega
  rw [<- A54 hi] at own2
  refine .cons (.of ⟨rfl, _, rfl, ?_⟩)
  simp only [if_true]
  have hil := C06 us n
  refine ⟨sv, sseg2, u2, useg2, rfl, own2, uown2, by unfold Ag6; rw [List.length_modify]; exact ok.cnt, by omega, fun s hs => ?_⟩
  rw [A54 hi] at hs
  rcases List.mem_append.1 hs with h1 | h1
  ·exact ok.wr s (List.mem_of_mem_take h1)
  ·rcases List.mem_cons.1 h1 with rfl | h2
   ·exact hg _ (List.getElem_mem hi)
   ·exact ok.wr s (List.mem_of_mem_drop h2)
theorem C41 (a : Addr) (i k : Nat) : Addr.add (a.add i) k = a.add (i + k) := by
 unfold Addr.add
 by_cases h1 : i = 0 <;> by_cases h2 : k = 0 <;> simp [h1, h2, Nat.add_assoc]
theorem Bp8 (p s : List BS) (x x' : BS) (k : Nat) (hk : k < 3) (w : Value) (hx : (U2 x).set k w = U2 x') : Aw0 ((p ++ x :: s).flatMap U2) (p.length * 3 + k) [w] = (p ++ x' :: s).flatMap U2 := by
 have hp : (p.flatMap U2).length = p.length * 3 := M7 G5 p
 rw [Ah5 (by rw [M7 G5, List.length_append, List.length_cons]; omega)]
 rw [List.flatMap_append, List.flatMap_append, List.flatMap_cons, List.flatMap_cons, <- hx, List.set_append_right _ _ (by omega), hp, show p.length * 3 + k - p.length * 3 = k by omega, List.set_append_left _ _ (by rw [G5]; exact hk)]
def T7 (bad : Bool) (s : BS) : BS := ⟨s.wear + 1, bad, false⟩
def Af3 (s : BS) : BS := { s with dirty := false }
theorem Bv4 (ss : List BS) (hw : ∀ s ∈ ss, 0 <= s.wear /\ s.wear <= 1000000000) (bad : Bool) (n1 : Nat) (v : SlV) (seg : A4) (j : Nat) (a : Addr) (hj : j < ss.length) (own : Own v 3 eSt (ss.flatMap U2) seg) (ha : v.a = some a) :
  CallF PP 300 #[.pointer (some (a.add (j * 3))), .pointer (some ⟨n1, 0, none⟩)] ([(n1, Obj.cells #[.bool bad] 4)] ++ seg)
   fun r L' => r = .tuple #[] /\ ∃ seg', L' = [(n1, Obj.cells #[.bool bad] 4)] ++ seg' /\ Own v 3 eSt ((ss.take j ++ T7 bad ss[j] :: ss.drop (j + 1)).flatMap U2) seg' := by
 refine CallF.of (args := [.pointer (some (a.add (j * 3))), .pointer (some ⟨n1, 0, none⟩)]) B5 B6 Tryz.func300 (e300 (some (a.add (j * 3))) (some ⟨n1, 0, none⟩) _) ?_
 unfold t300
 have hx := hw ss[j] (List.getElem_mem hj)
 have hs : ss = ss.take j ++ ss[j] :: ss.drop (j + 1) := by rw [<- List.drop_eq_getElem_cons hj, List.take_append_drop]
 have hpj : (ss.take j).length = j := by rw [List.length_take]; omega
 generalize ss.take j = p at hs hpj ⊢
 generalize ss.drop (j + 1) = t at hs ⊢
 generalize ss[j] = x at hs hx ⊢
 subst hs
 have hl : ∀ (y : BS), ((p ++ y :: t).flatMap U2).length = (p.length + 1 + t.length) * 3 := fun y => by rw [M7 G5, List.length_append, List.length_cons]; congr 1; omega
 have hld := own.sl.el G5 (by decide) (i := p.length) (by simp)
 obtain ⟨a', ha', hld⟩ := hld
 rw [ha] at ha'
 obtain rfl := Option.some.inj ha'
 rw [show (p ++ x :: t)[p.length]'(by simp) = x by simp, hpj] at hld
 generalize ho : (n1, Obj.cells #[.bool bad] 4) = o1
 have lb : ∀ {Z : A4}, D0 ⟨n1, 0, none⟩ [.bool bad] (o1 :: Z) := by subst ho; exact ldB List.mem_cons_self rfl
 clear ho
 refine A5 rfl (A6 x.wear ?_ (A5 rfl ?_))
 ·exact (hld.mono fun _ hx => List.mem_append_right _ hx).pre fun i u hu => by cases i with | zero => exact hu | succ i => exact absurd (show (none : Option Value) = some u from hu) (by simp)
 rw [C1 (by omega) (by omega)]
 refine own.st [o1] [] (p := j * 3 + 0) (by rw [hl]; simp only [List.length_cons, List.length_nil]; omega) (by simp) ha rfl (by simp) fun seg1 own1 => ?_
 rw [<- hpj, Bp8 p t x ⟨x.wear + 1, x.bad, x.dirty⟩ 0 (by decide) _ rfl] at own1
 refine A5 rfl (A6 bad lb (A5 rfl ?_))
 refine own1.st [o1] [] (p := j * 3 + 1) (by rw [hl]; simp only [List.length_cons, List.length_nil]; omega) (by simp) ha (C41 a (j * 3) 1) rfl fun seg2 own2 => ?_
 rw [<- hpj, Bp8 p t ⟨x.wear + 1, x.bad, x.dirty⟩ ⟨x.wear + 1, bad, x.dirty⟩ 1 (by decide) _ rfl] at own2
 refine A5 rfl (own2.st [o1] [] (p := j * 3 + 2) (by rw [hl]; simp only [List.length_cons, List.length_nil]; omega) (by simp) ha (C41 a (j * 3) 2) rfl fun seg3 own3 => ?_)
 rw [<- hpj, Bp8 p t ⟨x.wear + 1, bad, x.dirty⟩ ⟨x.wear + 1, bad, false⟩ 2 (by decide) _ rfl] at own3
 rw [List.append_nil]
 exact .of ⟨rfl, seg3, rfl, own3⟩
theorem Bw5 (m : Nat) (ss : List BS) (us : List Int) (A : A4) (hA : BX m ss us A) (hw : ∀ s ∈ ss, 0 <= s.wear /\ s.wear <= 900000000) (n : Int) (bad : Bool) : CallF PP 253 #[.pointer (some ⟨m, 0, none⟩), .i n, .bool bad] A
  fun r L' => r = .bool (H7 ss n) /\ BX m (if H7 ss n = true then Ag6 ss n (T7 bad) else ss) (if H7 ss n = true then iwo us n else us) L' := by
 refine CallF.of (args := [.pointer (some ⟨m, 0, none⟩), .i n, .bool bad]) B5 B6 Tryz.func253 (e253 (some ⟨m, 0, none⟩) n bad _) ?_
 unfold t253
 refine C3 fun n1 _ => ?_
 refine H4 [] [] (Cn3 m ss us A hA n 300 (by kernel_rfl) #[.pointer (some ⟨n1, 0, none⟩)] [(n1, Obj.cells #[.bool bad] 4)] (T7 bad) (fun s hs => by have := hw s hs; unfold T7; simp only; omega)
  (fun v seg j a hj own ha => Bv4 ss (fun s hs => by have := hw s hs; omega) bad n1 v seg j a hj own ha)) (by simp) ?_
 rintro _ _ - ⟨rfl, A', rfl, hA'⟩
 rw [List.append_nil]
 exact ⟨(H7 ss n, ()), rfl, .cons (.of ⟨rfl, hA'⟩)⟩
def Av0 : List BS -> List Int -> List Int -> Option (List BS × List Int)
 | ss, us, [] => some (ss, us)
 | ss, us, n :: r => if N8 ss us n = true then Av0 (Ag6 ss n Af3) (us ++ [n]) r else none
def Bv9 (ss : List BS) : Bool := ss.all fun s => decide (0 <= s.wear /\ s.wear <= 1048576)
def Aj3 (ss : List BS) (used : List Int) : Option (List BS × List Int) := if 1 <= ss.length /\ ss.length <= 16 /\ Bv9 ss = true then Av0 ss [] used else none
theorem A53 (ss : List BS) (n : Int) (g : BS -> BS) : (Ag6 ss n g).length = ss.length := List.length_modify ..
theorem Ba1 : ∀ (k : Nat) (l : List Int), l.Nodup -> (∀ x ∈ l, 0 <= x /\ x < k) -> l.length <= k
 | 0, l, _, h => by
  cases l with
  | nil => simp
  | cons x r => have := h x (by simp); omega
 | k + 1, l, hn, h => by
  have h1 := Ba1 k (l.erase (k : Int)) (hn.erase _) (fun x hx => by
   rw [hn.mem_erase_iff] at hx
   have := h x hx.2
   have := hx.1
   omega)
  by_cases hk : (k : Int) ∈ l
  ·rw [List.length_erase_of_mem hk] at h1; omega
  ·rw [List.erase_of_not_mem hk] at h1; omega
def bus (ss : List BS) (us : List Int) : Prop := us.Nodup /\ ∀ x ∈ us, 0 <= x /\ x < ss.length
theorem Bk6 {ss : List BS} {us : List Int} (h : bus ss us) : us.length <= ss.length := Ba1 _ _ h.1 h.2
theorem Bq8 {ss : List BS} {us : List Int} (h : bus ss us) {n : Int} (hf : N8 ss us n = true) : bus ss (us ++ [n]) := by
 obtain ⟨h1, h2⟩ := O9 hf
 obtain ⟨h0, hi, _⟩ := P9 h1
 refine ⟨?_, fun x hx => ?_⟩
 ·rw [List.nodup_append]
  exact ⟨h.1, by simp, fun a ha b hb => by rw [List.mem_singleton.1 hb]; rintro rfl; exact h2 ha⟩
 ·rcases List.mem_append.1 hx with h3 | h3
  ·exact h.2 x h3
  ·rw [List.mem_singleton.1 h3]; omega
theorem Ca3 {ss : List BS} (h : Bv9 ss = true) : ∀ s ∈ ss, 0 <= s.wear /\ s.wear <= 1048576 := by
 unfold Bv9 at h
 rw [List.all_eq_true] at h
 intro s hs
 simpa using h s hs
def Av4 (ss : List BS) (used : List Int) (A : A4) (v : Value) (L' : A4) : Prop := match Aj3 ss used with
 | none => v = .tuple #[.pointer none, .i 2] /\ L' = A
 | some r => ∃ (m : Nat) (B : A4), v = .tuple #[.pointer (some ⟨m, 0, none⟩), .i 0] /\ L' = B ++ A /\ BX m r.1 r.2 B /\ bus r.1 r.2
theorem Av4.bad {ss : List BS} {used : List Int} {A : A4} (h : Aj3 ss used = none) : Av4 ss used A (.tuple #[.pointer none, .i 2]) A := by
 unfold Av4
 rw [h]
 exact ⟨rfl, rfl⟩
theorem C38 (A : A4) (v : SlV) (ss : List BS) (hv : Sl A v 3 (ss.flatMap U2)) (u : SlV) (used : List Int) (hu : ISl A u .i64 used) (hul : used.length <= 9223372036854775807) : CallF PP 99 #[.slice v.a v.len v.cap, .slice u.a u.len u.cap] A (Av4 ss used A) := by
 refine CallF.of (args := [.slice v.a v.len v.cap, .slice u.a u.len u.cap]) B5 B6 Tryz.func99 (e99 v u _) ?_
 unfold t99
 have hvl := hv.els_len G5 (by decide)
 have hulen := hu.len
 refine B9 (fun (h1 : (v.len : Int) < 1) => .of (Av4.bad (by unfold Aj3; rw [if_neg (by omega)]))) (fun (h1 : ¬ (v.len : Int) < 1) => ?_)
 refine B9 (fun (h2 : (v.len : Int) > 16) => .of (Av4.bad (by unfold Aj3; rw [if_neg (by omega)]))) (fun (h2 : ¬ (v.len : Int) > 16) => ?_)
 refine H4 [] [] (Bs4 A v ss hv (by omega)) (by simp) ?_
 rintro _ _ - ⟨sv, sseg, rfl, rfl, sown⟩
 rw [List.append_nil, List.nil_append]
 refine ⟨(sv, ()), rfl, C3 fun m _ => ?_⟩
 refine G0 (fun k z L' => ∃ (i : Nat) (J : A4), i <= ss.length /\ k = ss.length - i /\ z = ((i : Int), ()) /\ L' = J ++ (bO m sv ⟨none, 0, 0⟩ :: (sseg ++ A)) /\ ∀ s ∈ ss.take i, 0 <= s.wear /\ s.wear <= 1048576) ss.length ⟨0, [], by omega, by omega, rfl, rfl, by simp⟩ ?_
 rintro k z L' ⟨i, J, hi, rfl, rfl, rfl, hall⟩
 refine B9 (fun (hlt : (i : Int) < v.len) => ?_) (fun (hge : ¬ (i : Int) < v.len) => ?_)
 ·have hi' : i < ss.length := by omega
  have hv' : Sl (J ++ (bO m sv ⟨none, 0, 0⟩ :: (sseg ++ A))) v 3 (ss.flatMap U2) := hv.right.cons.right
  obtain ⟨a, ha, hl⟩ := hv'.el G5 (by decide) hi'
  refine A5 ha (E0 (show (0 : Int) <= (i : Int) by omega) hlt (A6 (ss[i].wear, ss[i].bad, ss[i].dirty, ()) (by rw [Int.toNat_natCast]; exact hl) ?_))
  have hbad : ¬ (0 <= ss[i].wear /\ ss[i].wear <= 1048576) -> Aj3 ss used = none := by
   intro hc
   unfold Aj3
   rw [if_neg]
   rintro ⟨_, _, h3⟩
   exact hc (Ca3 h3 _ (List.getElem_mem hi'))
  have htk : ∀ (h : 0 <= ss[i].wear /\ ss[i].wear <= 1048576), ∀ s ∈ ss.take (i + 1), 0 <= s.wear /\ s.wear <= 1048576 := by
   intro h s hs
   rw [List.take_succ_eq_append_getElem hi'] at hs
   rcases List.mem_append.1 hs with h3 | h3
   ·exact hall s h3
   ·rw [List.mem_singleton.1 h3]; exact h
  generalize ss[i] = x at hbad htk ⊢
  refine C3 fun n2 _ => E3 [] _ rfl rfl (by simp) (.inl (Nat.le_refl _)) #[.i x.wear, .bool x.bad, .bool x.dirty] rfl ?_
  rw [List.nil_append]
  refine A6 x.wear (ldB List.mem_cons_self rfl) (B9 (fun (hc : x.wear < 0) => .cons (.app (.cons (.app (.of (Av4.bad (hbad (by omega)))))))) (fun (hc : ¬ x.wear < 0) => ?_))
  refine A6 x.wear (ldB List.mem_cons_self rfl) (B9 (fun (hc2 : x.wear > 1048576) => .cons (.app (.cons (.app (.of (Av4.bad (hbad (by omega)))))))) (fun (hc2 : ¬ x.wear > 1048576) => ?_))
  refine ⟨ss.length - (i + 1), by omega, i + 1, (n2, Obj.cells #[.i x.wear, .bool x.bad, .bool x.dirty] eSt) :: J, by omega, rfl, ?_, rfl, htk (by omega)⟩
  rw [C1 (by first | omega | (simp only; omega)) (by first | omega | (simp only; omega))]
  rfl
 ·obtain rfl : i = ss.length := by omega
  rw [List.take_length] at hall
  have hbw : Bv9 ss = true := by unfold Bv9; rw [List.all_eq_true]; intro s hs; simpa using hall s hs
  have hR : Aj3 ss used = Av0 ss [] used := by unfold Aj3; rw [if_pos ⟨by omega, by omega, hbw⟩]
  refine G0 (fun k z L' => ∃ (i : Nat) (J : A4) (cs : List BS) (us : List Int) (sseg useg : A4) (uv : SlV), i <= used.length /\ k = used.length - i /\ z = ((i : Int), ()) /\ L' = J ++ (bO m sv uv :: (sseg ++ useg)) ++ A /\ BOk sv sseg cs uv useg us /\ bus cs us /\ cs.length = ss.length /\ Av0 ss [] used = Av0 cs us (used.drop i)) used.length
   ⟨0, J, ss, [], sseg, [], ⟨none, 0, 0⟩, by omega, by omega, rfl, by simp, ⟨sown, own_z, by omega, by simp, fun s hs => by have := hall s hs; omega⟩, ⟨by simp, by simp⟩, rfl, rfl⟩ ?_
  rintro k z L' ⟨i, J, cs, us, sseg, useg, uv, hi, rfl, rfl, rfl, ok, hb, hcl, hU⟩
  refine B9 (fun (hlt : (i : Int) < u.len) => ?_) (fun (hge : ¬ (i : Int) < u.len) => ?_)
  ·have hi' : i < used.length := by omega
   have hu' : ISl (J ++ (bO m sv uv :: (sseg ++ useg)) ++ A) u .i64 used := hu.right
   obtain ⟨a, ha⟩ := hu'.some hi'
   have hdr := List.drop_eq_getElem_cons hi'
   rw [hdr] at hU
   refine A5 ha (E0 (show (0 : Int) <= (i : Int) by omega) hlt (A6 used[i] (hu'.rd hi' ha _ (by simp)) ?_))
   generalize used[i] = n at hU ⊢
   have hBX : BX m cs us (bO m sv uv :: (sseg ++ useg)) := ⟨sv, sseg, uv, useg, rfl, ok⟩
   refine B3 (Ap3 _ m cs us _ hBX (fun x hx => List.mem_append_left _ (List.mem_append_right _ hx)) n) (N8 cs us n, ()) rfl ?_
   cases hfr : N8 cs us n with
   | false =>
    refine ifT rfl (.app (.of (Av4.bad ?_)))
    rw [hR, hU]
    unfold Av0
    rw [if_neg (by rw [hfr]; decide)]
   | true =>
    have hU2 : Av0 ss [] used = Av0 (Ag6 cs n Af3) (us ++ [n]) (used.drop (i + 1)) := by
     rw [hU]
     conv => lhs; unfold Av0
     rw [if_pos hfr]
    obtain ⟨h0, hin, _⟩ := P9 (O9 hfr).1
    have hslen := ok.own.sl.els_len G5 (by decide)
    have hulen2 := ok.uown.sl.len
    rw [K9, Nat.mul_one] at hulen2
    obtain ⟨b, hb', _⟩ := ok.own.sl.el G5 (by decide) hin
    have hfew := Bk6 hb
    refine ifF rfl (A6 sv (b_s (uv := uv) (by simp)) (A5 hb' (E0 h0 (show n < sv.len by omega) ?_)))
    refine ok.own.st (J ++ [bO m sv uv]) (useg ++ A) (p := n.toNat * 3 + 2) (by rw [M7 G5]; simp only [List.length_cons, List.length_nil]; omega) (by simp) hb' (C41 b (n.toNat * 3) 2) (by simp) fun sseg2 own2 => ?_
    have hsplit : cs = cs.take n.toNat ++ cs[n.toNat] :: cs.drop (n.toNat + 1) := by rw [<- List.drop_eq_getElem_cons hin, List.take_append_drop]
    have hplen : (cs.take n.toNat).length = n.toNat := by rw [List.length_take]; omega
    have hput := Bp8 (cs.take n.toNat) (cs.drop (n.toNat + 1)) cs[n.toNat] (Af3 cs[n.toNat]) 2 (by decide) (.bool false) rfl
    rw [<- hsplit, hplen, <- A54 hin] at hput
    rw [hput] at own2
    refine A6 uv (b_u (sv := sv) (by simp)) (C3 fun n3 _ => ?_)
    have hsrc : ∀ {Z : A4}, Sl ((n3, Obj.cells #[.i n] Bq0) :: Z) ⟨some ⟨n3, 0, none⟩, 1, 1⟩ 1 (ivs .i64 [n]) := fun {Z} => ⟨rfl, Nat.le_refl _, .inr ⟨_, rfl, ldB List.mem_cons_self rfl⟩⟩
    have hcnt := ok.cnt
    refine E5 A49 By9 ((n3, Obj.cells #[.i n] Bq0) :: (J ++ (bO m sv uv :: sseg2))) A ok.uown (by simp) (.sl hsrc) (Ac6 _ _) (by first | omega | (simp only; omega)) fun v2 seg2 hv2 uown2 => ?_
    rw [<- Y7] at uown2
    refine E3 (n := m) (off := 1) (c := #[.slice sv.a sv.len sv.cap, .slice uv.a uv.len uv.cap]) (T := 259) (fz := (0, 0)) ((n3, Obj.cells #[.i n] Bq0) :: J) (sseg2 ++ (seg2 ++ A)) rfl (by simp [bO]) (by simp) (.inl (Nat.le_refl _)) #[.slice sv.a sv.len sv.cap, .slice v2.a v2.len v2.cap] rfl ?_
    have hbus := Bq8 hb hfr
    have hml := A53 cs n Af3
    refine ⟨used.length - (i + 1), by omega, i + 1, (n3, Obj.cells #[.i n] Bq0) :: J, Ag6 cs n Af3, us ++ [n], sseg2, seg2, v2, by omega, rfl, ?_, by simp [bO], ⟨own2, uown2, by omega, by have := Bk6 hbus; omega, fun s hs => ?_⟩, ⟨hbus.1, fun x hx => by rw [hml]; exact hbus.2 x hx⟩, by omega, hU2⟩
    ·rw [C1 (by first | omega | (simp only; omega)) (by first | omega | (simp only; omega))]
     rfl
    ·rw [A54 hin] at hs
     rcases List.mem_append.1 hs with h3 | h3
     ·exact ok.wr s (List.mem_of_mem_take h3)
     ·rcases List.mem_cons.1 h3 with rfl | h4
      ·exact ok.wr cs[n.toNat] (List.getElem_mem hin)
      ·exact ok.wr s (List.mem_of_mem_drop h4)
  ·obtain rfl : i = used.length := by omega
   rw [List.drop_length] at hU
   have hRR : Aj3 ss used = some (cs, us) := by rw [hR, hU]; rfl
   rw [List.append_assoc]
   refine .app (.of ?_)
   unfold Av4
   rw [hRR]
   exact ⟨m, _, rfl, rfl, ⟨sv, sseg, uv, useg, rfl, ok⟩, hb⟩
def cut (n m : Int) : Int := if n < 0 then 0 else if m < n then m else n
theorem Ac9 (n m : Int) (h : 0 <= m) : 0 <= cut n m /\ cut n m <= m := by unfold cut; split <;> (try split) <;> omega
theorem cut_id (n m : Int) (h : 0 <= n) (h2 : n <= m) : cut n m = n := by unfold cut; split <;> (try split) <;> omega
theorem Cl3 (n m : Int) (h : 0 <= m) : Ab4 (Y1 n m) 0 = cut n m := by unfold cut Ab4 Y1; split <;> split <;> (try split) <;> (try split) <;> omega
structure Bk where
 rate : Int
 last : Int
 burst : Int
 tokens : Int
structure Bk.Ok (b : Bk) : Prop where
 r0 : 0 <= b.rate
 r1 : b.rate <= 1048576
 l0 : 0 <= b.last
 l1 : b.last <= 253402300799
 b0 : 0 <= b.burst
 b1 : b.burst <= 1073741824
 t0 : 0 <= b.tokens
 t1 : b.tokens <= b.burst
def Aj4 (rate burst now tokens : Int) : Bk := ⟨cut rate 1048576, cut now 253402300799, cut burst 1073741824, cut tokens (cut burst 1073741824)⟩
theorem Cn7 (rate burst now tokens : Int) : (Aj4 rate burst now tokens).Ok := by
 have h1 := Ac9 rate 1048576 (by decide)
 have h2 := Ac9 now 253402300799 (by decide)
 have h3 := Ac9 burst 1073741824 (by decide)
 have h4 := Ac9 tokens (cut burst 1073741824) h3.1
 exact ⟨h1.1, h1.2, h2.1, h2.2, h3.1, h3.2, h4.1, h4.2⟩
def Ab0 (b : Bk) (t : Int) : Int := if t <= b.last then 0 else b.rate * (t - b.last)
def An2 (b : Bk) (now : Int) : Bk :=
 let t := cut now 253402300799
 ⟨b.rate, if t <= b.last then b.last else t, b.burst, cut (b.tokens + Ab0 b t) b.burst⟩
theorem B34 {a b : Int} (h1 : 0 <= a) (h2 : a <= 1048576) (h3 : 0 <= b) (h4 : b <= 253402300799) : 0 <= a * b /\ a * b <= 265711571000000000 := by
 refine ⟨Int.mul_nonneg h1 h3, ?_⟩
 have h5 : a * b <= 1048576 * 253402300799 := Int.mul_le_mul h2 h4 h3 (by decide)
 omega
theorem Az9 {b : Bk} (h : b.Ok) {t : Int} (h0 : 0 <= t) (h1 : t <= 253402300799) : 0 <= Ab0 b t /\ Ab0 b t <= 265711571000000000 := by
 unfold Ab0
 split
 ·omega
 ·have := h.l0
  exact B34 h.r0 h.r1 (by omega) (by omega)
theorem Ca6 {b : Bk} (h : b.Ok) (now : Int) : (An2 b now).Ok := by
 have h1 := Ac9 now 253402300799 (by decide)
 have h2 := Ac9 (b.tokens + Ab0 b (cut now 253402300799)) b.burst h.b0
 have h3 := h.l0
 have h4 := h.l1
 refine ⟨h.r0, h.r1, ?_, ?_, h.b0, h.b1, h2.1, h2.2⟩ <;> (simp only [An2]; split <;> omega)
def Al5 (b : Bk) (n : Int) : Bool := decide (0 <= n /\ n <= b.tokens)
def Aa9 (b : Bk) (n : Int) : Bk := if 0 <= n /\ n <= b.tokens then { b with tokens := b.tokens - n } else b
theorem Ca7 {b : Bk} (h : b.Ok) (n : Int) : (Aa9 b n).Ok := by
 unfold Aa9
 split
 ·have := h.t1
  exact ⟨h.r0, h.r1, h.l0, h.l1, h.b0, h.b1, by first | omega | (simp only; omega), by first | omega | (simp only; omega)⟩
 ·exact h
abbrev A02 (b : Bk) : Obj := .cells #[.i b.rate, .i b.last, .i b.burst, .i b.tokens] 171
theorem Al1 (L : A4) (n m : Int) (b : Nat) (h : 0 <= m) (hm : (b, Obj.cells #[.i m] 3) ∈ L) : Reads PP 123 #[.i n, .slice (some ⟨b, 0, none⟩) 1 1] L (.i (cut n m)) := by
 refine Reads.of (args := [.i n, .slice (some ⟨b, 0, none⟩) 1 1]) B5 B6 Tryz.func123 (e123 n ⟨some ⟨b, 0, none⟩, 1, 1⟩ _) ?_
 unfold t123
 refine G0 (fun k z L' => L' = L /\ ((k = 1 /\ z = (n, 0, ())) \/ (k = 0 /\ z = (Y1 n m, 1, ())))) 1 ⟨rfl, .inl ⟨rfl, rfl⟩⟩ ?_
 rintro k z L ⟨rfl, ⟨rfl, rfl⟩ | ⟨rfl, rfl⟩⟩
 ·refine ifP (show (0 : Int) < 1 by decide) (E0 (show (0 : Int) <= 0 by decide) (show (0 : Int) < 1 by decide) (A6 m (ldB hm rfl) ⟨0, by omega, rfl, .inr ⟨rfl, rfl⟩⟩))
 ·refine ifN (show ¬ (1 : Int) < 1 by decide) (.of ⟨?_, rfl⟩)
  simp only [Cl3 n m h]
theorem Cn6 (rate burst now tokens : Int) : CallF PP 96 #[.i rate, .i burst, .i now, .i tokens] [] fun v L' => ∃ n, v = .pointer (some ⟨n, 0, none⟩) /\ L' = [(n, A02 (Aj4 rate burst now tokens))] := by
 refine CallF.of (args := [.i rate, .i burst, .i now, .i tokens]) B5 B6 Tryz.func96 (e96 rate burst now tokens _) ?_
 unfold t96
 have h3 := Ac9 burst 1073741824 (by decide)
 refine C3 fun n1 _ => B3 (Al1 _ rate 1048576 n1 (by decide) List.mem_cons_self) (cut rate 1048576, ()) rfl ?_
 refine C3 fun n2 _ => B3 (Al1 _ now 253402300799 n2 (by decide) List.mem_cons_self) (cut now 253402300799, ()) rfl ?_
 refine C3 fun n3 _ => B3 (Al1 _ burst 1073741824 n3 (by decide) List.mem_cons_self) (cut burst 1073741824, ()) rfl ?_
 refine C3 fun n4 _ => A6 (cut burst 1073741824) (ldB List.mem_cons_self rfl) ?_
 refine C3 fun n5 _ => B3 (Al1 _ tokens (cut burst 1073741824) n5 h3.1 List.mem_cons_self) (cut tokens (cut burst 1073741824), ()) rfl ?_
 refine E3 [_] _ rfl rfl (by simp [M2]) (.inl (Nat.le_refl _)) _ rfl ?_
 exact .drop (A := [_]) (J := [_, _, _, _]) ⟨n4, rfl, rfl⟩ (List.Perm.swap _ _ _)
theorem Cf4 (L : A4) (b : Bk) (hb : b.Ok) (t : Int) (h0 : 0 <= t) (h1 : t <= 253402300799) : Reads PP 122 #[.agg #[.i b.rate, .i b.last], .i t] L
  (.tuple #[.i (Ab0 b t), .agg #[.i b.rate, .i (if t <= b.last then b.last else t)]]) := by
 refine Reads.of (args := [.agg #[.i b.rate, .i b.last], .i t]) B5 B6 Tryz.func122 (e122 (b.rate, b.last, ()) t _) ?_
 unfold t122
 have hr := Az9 hb h0 h1
 have hl0 := hb.l0
 have hl1 := hb.l1
 refine C3 fun n1 _ => C3 fun n2 _ => A6 b.last (ldB (List.mem_cons_of_mem _ List.mem_cons_self) rfl) ?_
 refine B9 (fun (h : t <= b.last) => ?_) (fun (h : ¬ t <= b.last) => ?_)
 ·refine A6 (b.rate, b.last, ()) (ldB (List.mem_cons_of_mem _ List.mem_cons_self) rfl) (E3 [] _ rfl rfl (by simp [M2]) (.inl (Nat.le_refl _)) _ rfl (A6 (b.rate, b.last, ()) (ldB List.mem_cons_self rfl) ?_))
  refine .drop (A := L) (J := [_, _]) ⟨?_, rfl⟩ (List.perm_append_comm (l₁ := [_, _]))
  unfold Ab0
  rw [if_pos h, if_pos h]
 ·refine A6 b.rate (ldB (List.mem_cons_of_mem _ List.mem_cons_self) rfl) (A6 b.last (ldB (List.mem_cons_of_mem _ List.mem_cons_self) rfl) (A6 b.rate (ldB (List.mem_cons_of_mem _ List.mem_cons_self) rfl) ?_))
  refine E3 [] _ rfl rfl (by simp [M2]) (.inl (Nat.le_refl _)) _ rfl (A6 (b.rate, t, ()) (ldB List.mem_cons_self rfl) ?_)
  refine .drop (A := L) (J := [_, _]) ⟨?_, rfl⟩ (List.perm_append_comm (l₁ := [_, _]))
  unfold Ab0 at hr ⊢
  rw [if_neg h] at hr
  rw [if_neg h, if_neg h, C1 (n := t - b.last) (by omega) (by omega), C1 (by omega) (by omega)]
theorem Cu9 (n : Nat) (b : Bk) (hb : b.Ok) (t : Int) : CallF PP 58 #[.pointer (some ⟨n, 0, none⟩), .i t] [(n, A02 b)] fun v L' => v = .tuple #[] /\ L' = [(n, A02 (An2 b t))] := by
 refine CallF.of (args := [.pointer (some ⟨n, 0, none⟩), .i t]) B5 B6 Tryz.func58 (e58 (some ⟨n, 0, none⟩) t _) ?_
 unfold t58
 have hc := Ac9 t 253402300799 (by decide)
 have hr := Az9 hb hc.1 hc.2
 have ht0 := hb.t0
 have ht1 := hb.t1
 have hb1 := hb.b1
 refine ifF rfl (A5 rfl (A6 (b.rate, b.last, ()) (ldB List.mem_cons_self rfl) ?_))
 refine C3 fun n1 _ => B3 (Al1 _ t 253402300799 n1 (by decide) List.mem_cons_self) (cut t 253402300799, ()) rfl (E9 (ldB (List.mem_cons_of_mem _ List.mem_cons_self) rfl) ?_)
 refine B3 (Cf4 _ b hb (cut t 253402300799) hc.1 hc.2) (Ab0 b (cut t 253402300799), (b.rate, (if cut t 253402300799 <= b.last then b.last else cut t 253402300799), ()), ()) rfl ?_
 refine C3 fun n2 _ => E3 [] _ rfl rfl (by simp [M2]) (.inl (Nat.le_refl _)) _ rfl ?_
 refine A5 rfl (A5 rfl (A6 b.tokens (ldB (List.mem_cons_of_mem _ (List.mem_cons_of_mem _ List.mem_cons_self)) rfl) (A6 b.burst (ldB (List.mem_cons_of_mem _ (List.mem_cons_of_mem _ List.mem_cons_self)) rfl) ?_)))
 refine A6 (b.rate, (if cut t 253402300799 <= b.last then b.last else cut t 253402300799), ()) (ldB List.mem_cons_self rfl) ?_
 have hw : IntKind.i64.wrap (b.tokens + Ab0 b (cut t 253402300799)) = b.tokens + Ab0 b (cut t 253402300799) := C1 (by omega) (by omega)
 refine C3 fun n3 _ => ?_
 simp only [hw]
 refine B3 (Al1 _ _ b.burst n3 hb.b0 List.mem_cons_self) (cut (b.tokens + Ab0 b (cut t 253402300799)) b.burst, ()) rfl (E9 (ldB (List.mem_cons_of_mem _ List.mem_cons_self) rfl) ?_)
 refine A5 rfl (E3 [_, _, _] [] rfl rfl (by simp [M2]) (.inl (Nat.le_refl _)) _ rfl (E9 (ldB (List.mem_cons_of_mem _ List.mem_cons_self) rfl) (A5 rfl (E3 [_, _, _] [] rfl rfl (by simp [M2]) (.inl (Nat.le_refl _)) _ rfl ?_))))
 exact .drop (A := [_]) (J := [_, _, _]) ⟨rfl, rfl⟩ (List.perm_append_comm (l₁ := [_, _, _]))
theorem A71 (L : A4) (n : Nat) (b : Bk) (hm : (n, A02 b) ∈ L) : Reads PP 44 #[.pointer (some ⟨n, 0, none⟩)] L (.i b.tokens) := by
 refine Reads.of (args := [.pointer (some ⟨n, 0, none⟩)]) B5 B6 Tryz.func44 (e44 (some ⟨n, 0, none⟩) _) ?_
 unfold t44
 exact ifF rfl (A5 rfl (A6 b.tokens (ldB hm rfl) (.of ⟨rfl, rfl⟩)))
theorem Cv1 (n : Nat) (b : Bk) (hb : b.Ok) (t : Int) : CallF PP 133 #[.pointer (some ⟨n, 0, none⟩), .i t] [(n, A02 b)] fun v L' => v = .bool (Al5 b t) /\ L' = [(n, A02 (Aa9 b t))] := by
 refine CallF.of (args := [.pointer (some ⟨n, 0, none⟩), .i t]) B5 B6 Tryz.func133 (e133 (some ⟨n, 0, none⟩) t _) ?_
 unfold t133
 have ht1 := hb.t1
 have hb1 := hb.b1
 unfold Al5 Aa9
 refine ifF rfl (B9 (fun (h : t < 0) => .of ⟨?_, ?_⟩) (fun (h : ¬ t < 0) => A5 rfl (A6 b.tokens (ldB List.mem_cons_self rfl) (B9 (fun (h2 : t > b.tokens) => .of ⟨?_, ?_⟩) (fun (h2 : ¬ t > b.tokens) => ?_)))))
 ·rw [decide_eq_false (by omega)]
 ·rw [if_neg (by omega)]
 ·rw [decide_eq_false (by omega)]
 ·rw [if_neg (by omega)]
 ·refine A5 rfl (A6 b.tokens (ldB List.mem_cons_self rfl) (A5 rfl (E3 [] [] rfl rfl (by simp [M2]) (.inl (Nat.le_refl _)) _ rfl (.of ⟨?_, ?_⟩))))
  ·rw [decide_eq_true (by omega)]
  ·rw [if_pos (by omega), C1 (by first | omega | (simp only; omega)) (by first | omega | (simp only; omega))]
   rfl
def Cc8 (room : Int) (l : List Int) (x : Int) : List Int := if ((l.erase x ++ [x]).length : Int) > room then (l.erase x ++ [x]).drop 1 else l.erase x ++ [x]
def Be9 (l : List Int) (x i : Int) : Prop := (i = -1 /\ x ∉ l) \/ ∃ k : Nat, i = k /\ k < l.length /\ l[k]? = some x /\ x ∉ l.take k
theorem Be9.mem {l : List Int} {x i : Int} (h : Be9 l x i) : (0 <= i ↔ x ∈ l) := by
 rcases h with ⟨rfl, h⟩ | ⟨k, rfl, hk, hx, _⟩
 ·simp [h]
 ·exact ⟨fun _ => List.mem_of_getElem? hx, fun _ => by omega⟩
theorem Be9.erase {l : List Int} {x : Int} {k : Nat} (hk : k < l.length) (hx : l[k]? = some x) (hn : x ∉ l.take k) : l.erase x = l.take k ++ l.drop (k + 1) := by
 have h1 : l = l.take k ++ x :: l.drop (k + 1) := by
  have : l[k] = x := by rw [List.getElem?_eq_getElem hk] at hx; exact Option.some.inj hx
  rw [<- this, <- List.drop_eq_getElem_cons hk, List.take_append_drop]
 conv => lhs; rw [h1]
 rw [List.erase_append_right _ hn, List.erase_cons_head]
theorem A22 {l : List Int} {x : Int} {i : Nat} (hi : i < l.length) (h : x ∉ l.take i) (hx : l[i] ≠ x) : x ∉ l.take (i + 1) := by
 rw [List.take_succ_eq_append_getElem hi, List.mem_append]
 rintro (h1 | h1)
 ·exact h h1
 ·exact hx (List.mem_singleton.1 h1).symm
abbrev tU : TypeId := 165
abbrev eU : TypeId := 91
theorem Cm8 : S2 PP tU eU 1 8 [.int .u64 0] := M0 (by kernel_rfl) (by kernel_rfl) rfl (by decide) (by decide)
theorem srcU : Ao1 PP tU := .inl ⟨eU, by kernel_rfl⟩
theorem Bn2 (L : A4) (v : SlV) (l : List Int) (h : ISl L v .u64 l) (hb : l.length <= 1000000) (x : Int) :
  CallF PP 102 #[.slice v.a v.len v.cap, .int .u64 x] L fun r L' => L' = L /\ ∃ i, r = .i i /\ Be9 l x i := by
 refine CallF.of (args := [.slice v.a v.len v.cap, .int .u64 x]) B5 B6 Tryz.func102 (e102 v x _) ?_
 unfold t102
 have hlen := h.len
 refine G0 (fun k z L' => L' = L /\ ∃ i, i <= l.length /\ k = l.length - i /\ z = ((i : Int), ()) /\ x ∉ l.take i) l.length ⟨rfl, 0, by omega, by omega, rfl, by simp⟩ ?_
 rintro k z L ⟨rfl, i, hi, rfl, rfl, hn⟩
 refine B9 (fun (hlt : (i : Int) < v.len) => ?_) (fun (hge : ¬ (i : Int) < v.len) => ?_)
 ·have hi' : i < l.length := by omega
  obtain ⟨a, ha⟩ := h.some hi'
  refine A5 ha (E0 (show (0 : Int) <= i by omega) hlt (A6 l[i] (h.rd hi' ha _ (by simp)) ?_))
  refine W7 (fun (he : x = l[i]) => .of ⟨rfl, i, rfl, .inr ⟨i, rfl, hi', by rw [List.getElem?_eq_getElem hi', he], hn⟩⟩) (fun (he : x ≠ l[i]) => ?_)
  refine ⟨l.length - (i + 1), by omega, rfl, i + 1, by omega, rfl, ?_, A22 hi' hn (fun e => he e.symm)⟩
  rw [C1 (by first | omega | (simp only; omega)) (by first | omega | (simp only; omega))]
  rfl
 ·obtain rfl : i = l.length := by omega
  rw [List.take_length] at hn
  exact .of ⟨rfl, -1, rfl, .inl ⟨rfl, hn⟩⟩
def GOb (room : Int) (l : List Int) (o : Obj) : Prop := ∃ (c : Array Value) (f : Nat), o = .cells c 256 /\ c.size = 67 /\ c[0]? = some (.i room) /\ c[65]? = some (.i f) /\ c[66]? = some (.i l.length) /\ f < 64 /\ l.length <= 64 /\
 ∀ (i : Nat) (x : Int), l[i]? = some x -> c[1 + (f + i) % 64]? = some (.int .u64 x)
theorem ldC {L : A4} {n off : Nat} {c : Array Value} {T : TypeId} {fz : Nat × Nat} {v : Value} (hm : (n, Obj.cells c T fz) ∈ L) (h : c[off]? = some v) : D0 ⟨n, off, none⟩ [v] L :=
 .blk hm fun i u hu => by
  cases i with
  | zero => simp at hu; subst hu; exact h
  | succ i => simp at hu
theorem K1 (c : Array Value) (i j : Nat) (v : Value) (hi : i < c.size) : (c.setIfInBounds i v)[j]? = if i = j then some v else c[j]? := by
 rw [Array.getElem?_setIfInBounds]; simp [hi]
theorem Ct8 (n : Nat) (room : Int) (l : List Int) (o : Obj) (h : GOb room l o) : CallF PP 103 #[.pointer (some ⟨n, 0, none⟩)] [(n, o)] fun v L' => ∃ s seg, v = .slice s.a s.len s.cap /\ L' = (n, o) :: seg /\ Own s 1 eU (ivs .u64 l) seg := by
 refine CallF.of (args := [.pointer (some ⟨n, 0, none⟩)]) B5 B6 Tryz.func103 (e103 (some ⟨n, 0, none⟩) _) ?_
 unfold t103
 obtain ⟨c, f, rfl, hsz, h0, h65, h66, hf, hl, hr⟩ := h
 refine A5 rfl (A6 (l.length : Int) (ldC List.mem_cons_self h66) ?_)
 refine G0 (fun k z L' => ∃ i s seg J, i <= l.length /\ k = l.length - i /\ z = (s, (i : Int), ()) /\ L' = J ++ seg ++ [(n, Obj.cells c 256)] /\ Own s 1 eU (ivs .u64 (l.take i)) seg) l.length
  ⟨0, ⟨none, 0, 0⟩, [], [], by omega, by omega, rfl, rfl, ⟨rfl, Nat.le_refl _, .inl ⟨rfl, rfl, rfl⟩⟩⟩ ?_
 rintro k z L' ⟨i, s, seg, J, hi, rfl, rfl, rfl, own⟩
 have hm : (n, Obj.cells c 256) ∈ J ++ seg ++ [(n, Obj.cells c 256)] := by simp
 refine B9 (fun (hlt : (i : Int) < l.length) => ?_) (fun (hge : ¬ (i : Int) < l.length) => ?_)
 ·have hi' : i < l.length := by omega
  have hw : IntKind.i64.wrap ((f : Int) + i) = ((f + i : Nat) : Int) := by rw [C1 (by omega) (by omega)]; omega
  have hmod : Int.tmod ((f + i : Nat) : Int) 64 = (((f + i) % 64 : Nat) : Int) := by rw [Int.tmod_eq_emod_of_nonneg (by omega)]; omega
  refine A5 rfl (A5 rfl (A6 (f : Int) (ldC hm h65) (Y3 (by decide) ?_)))
  simp only [hw, hmod, Int.toNat_natCast, Nat.mul_one]
  refine E0 (by omega) (by omega) (A6 l[i] ?_ ?_)
  ·rw [N2 (ad := ⟨n, 0, none⟩) rfl, N2 rfl]
   exact ldC hm (by rw [Nat.zero_add]; exact hr i l[i] (List.getElem?_eq_getElem hi'))
  refine C3 fun m _ => E5 Cm8 srcU ((m, Obj.cells #[.int .u64 l[i]] eU) :: J) [(n, Obj.cells c 256)] own rfl (.sl (ISl.const (l := [l[i]]) 1 (Nat.le_refl _) List.mem_cons_self)) (Ac6 _ _)
   (by have := own.sl.len; rw [K9, List.length_take] at this; simp only [List.length_cons, List.length_nil]; omega) fun s' seg' hs' own' => ?_
  rw [<- Y7, <- List.take_succ_eq_append_getElem hi'] at own'
  refine ⟨l.length - (i + 1), by omega, i + 1, s', seg', (m, Obj.cells #[.int .u64 l[i]] eU) :: J, by omega, rfl, ?_, rfl, own'⟩
  rw [C1 (by first | omega | (simp only; omega)) (by first | omega | (simp only; omega))]
  rfl
 ·obtain rfl : i = l.length := by omega
  rw [List.take_length] at own
  refine .drop (A := (n, Obj.cells c 256) :: seg) (J := J) ⟨s, seg, rfl, rfl, own⟩ ?_
  have h1 : (J ++ seg ++ [(n, Obj.cells c 256)]).Perm ([(n, Obj.cells c 256)] ++ (J ++ seg)) := List.perm_append_comm
  have h2 : ([(n, Obj.cells c 256)] ++ (J ++ seg)).Perm ([(n, Obj.cells c 256)] ++ (seg ++ J)) := List.Perm.append_left _ List.perm_append_comm
  simpa using h1.trans h2
theorem Bd2 (l : List Int) (x : Int) : (l.erase x).length <= l.length := List.length_erase_le ..
theorem del_cl (v : SlV) (l : List Int) (seg : A4) (own : Own v 1 eU (ivs .u64 l) seg) (hb : l.length <= 1000000) (k : Nat) (hk : k < l.length) :
  CallF PP 110 #[.slice v.a v.len v.cap, .i k, .i ((k : Int) + 1)] seg fun r L' => ∃ s, r = .slice s.a s.len s.cap /\ Own s 1 eU (ivs .u64 (l.take k ++ l.drop (k + 1))) L' := by
 refine CallF.of (args := [.slice v.a v.len v.cap, .i k, .i ((k : Int) + 1)]) B5 B6 Tryz.func110 (e110 v k ((k : Int) + 1) _) ?_
 unfold t110
 have hlen := own.sl.len
 rw [K9, Nat.mul_one] at hlen
 have hcap := own.cap
 refine J5 (l' := k) (h' := k + 1) (m' := v.len) rfl rfl rfl (by omega) (by omega) hcap ?_
 refine W7 (fun (he : (k : Int) = (k : Int) + 1) => absurd he (by omega)) (fun _ => ?_)
 refine J5 (l' := 0) (h' := k) (m' := v.cap) rfl rfl rfl (by omega) (by omega) (Nat.le_refl _) ?_
 refine J5 (l' := k + 1) (h' := v.len) (m' := v.cap) rfl rfl rfl (by omega) hcap (Nat.le_refl _) ?_
 have own2 := own.slc (l := 0) (h := k) (by omega) (by omega)
 have src2 := Sl.slc (m := v.cap) own.sl (by omega) (l := k + 1) (h' := v.len) (by omega) (Nat.le_refl _) hcap
 rw [B58] at own2 src2
 refine Ae4 Cm8 srcU [] [] own2 (by simp) (.sl src2) (Ac6 _ _) (by simp only [N9, Int.toNat_natCast]; omega) fun s seg' hs _ hcap' own' => ?_
 rw [<- Y7] at own'
 have e1 : (l.drop 0).take (k - 0) = l.take k := by simp
 have e2 : (l.drop (k + 1)).take (v.len - (k + 1)) = l.drop (k + 1) := by rw [hlen]; exact List.take_of_length_le (by rw [List.length_drop]; omega)
 rw [e1, e2] at own'
 simp only [N9, Int.toNat_natCast] at hs hcap'
 have hsc := own'.cap
 refine J5 (l' := s.len) (h' := v.len) (m' := s.cap) rfl rfl rfl (by omega) (by omega) (Nat.le_refl _) ?_
 refine Ad1 Cm8 rfl [] [] own' (by simp) (h := v.len) (by omega) (by omega) rfl fun seg2 own2 => ?_
 exact .of ⟨s, rfl, by simpa using own2⟩
def B79 (h : BitVec 64) (k : Nat) : BitVec 64 := h ^^^ h >>> k
def B40 (h : BitVec 64) (c : UInt8) : BitVec 64 := B79 ((h ^^^ BitVec.ofNat 64 c.toNat) * 1099511628211#64) 29
def Ad9 (h : BitVec 64) (l : List UInt8) : BitVec 64 := l.foldl B40 h
def Bi5 (seed : Int) (l : List UInt8) : BitVec 64 := B79 ((Ad9 (BitVec.ofInt 64 seed ^^^ 11400714819323198485#64) l ^^^ BitVec.ofNat 64 l.length) * 11400714819323198485#64) 32
theorem A24 (c : BitVec 64) (l : List UInt8) (b : UInt8) : Ad9 c (l ++ [b]) = B40 (Ad9 c l) b := by simp [Ad9]
theorem B35 (L : A4) (v : SlV) (l : List UInt8) (h : BSl L v l) (hb : l.length <= 1000000) (c : BitVec 64) : Reads PP 174 #[.int .u64 c.toNat, .slice v.a v.len v.cap] L (.int .u64 (Ad9 c l).toNat) := by
 refine Reads.of (args := [.int .u64 c.toNat, .slice v.a v.len v.cap]) B5 B6 Tryz.func174 (e174 c.toNat v _) ?_
 unfold t174
 have hlen := h.len
 refine G0 (fun k z L' => L' = L /\ ∃ i, i <= l.length /\ k = l.length - i /\ z = (((Ad9 c (l.take i)).toNat : Int), (i : Int), ())) l.length ⟨rfl, 0, by omega, by omega, rfl⟩ ?_
 rintro k z L ⟨rfl, i, hi, rfl, rfl⟩
 refine B9 (fun (hlt : (i : Int) < v.len) => ?_) (fun (hge : ¬ (i : Int) < v.len) => ?_)
 ·have hlt' : i < l.length := by omega
  obtain ⟨ad, ha⟩ := h.some hlt'
  refine A5 ha (E0 (show (0 : Int) <= i by omega) hlt (A6 (l[i].toNat : Int) (h.rd hlt' ha _ (by simp)) ?_))
  refine Y3 (by decide) ⟨l.length - (i + 1), by omega, rfl, i + 1, by omega, rfl, ?_⟩
  rw [C1 (by simp only; omega) (by simp only; omega), List.take_succ_eq_append_getElem hlt', A24]
  simp only [Bf7, BitVec.ofInt_mul, An1, xor64, shr64, Ci6]
  rfl
 ·refine .of ⟨?_, rfl⟩
  obtain rfl : i = l.length := by omega
  rw [List.take_length]
theorem Bu4 (s : ByteArray) : s.data.toList.length = s.size := by rw [Array.length_toList]; rfl
theorem Cj1 (L : A4) (seed : Int) (s : ByteArray) (hb : s.size <= 1000000) : Reads PP 104 #[.i seed, .string s] L (.int .u64 (Bi5 seed s.data.toList).toNat) := by
 refine Reads.of (args := [.i seed, .string s]) B5 B6 Tryz.func104 (e104 seed s _) ?_
 unfold t104
 refine Cq2 fun n ob v hv own hs => ?_
 have hl := Bu4 s
 simp only [xor64, Bf7, An1]
 refine B3 (B35 _ v s.data.toList (Own.sl own).head (by omega) _) (_, ()) rfl (Y3 (by decide) ?_)
 refine .drop (A := L) (J := [_]) ⟨?_, rfl⟩ (List.perm_append_comm (l₁ := [_]))
 simp only [BitVec.ofInt_mul, An1, shr64]
 unfold Bi5 B79
 rw [hl]
 rfl
abbrev tyB : TypeId := 27
abbrev tyb : TypeId := 5
structure QE where
 id : Nat
 key : ByteArray
 val : List UInt8
 freq : Int
 v : SlV
 seg : A4
def pt (o : Option Nat) : Option Addr := o.map fun n => ⟨n, 0, none⟩
def K3 (e : QE) (prev next : Option Nat) : Obj := .cells #[.string e.key, .slice e.v.a e.v.len e.v.cap, .i e.freq, .pointer (pt prev), .pointer (pt next)] 184
def C6 : List QE -> Option Nat -> Option Nat
 | [], n => n
 | e :: _, _ => some e.id
def C8 : Option Nat -> List QE -> Option Nat
 | p, [] => p
 | _, e :: r => C8 (some e.id) r
def N6 : Option Nat -> List QE -> Option Nat -> A4
 | _, [], _ => []
 | p, e :: r, n => (e.id, K3 e p (C6 r n)) :: N6 (some e.id) r n
theorem O6 (p s : List QE) (n : Option Nat) : C6 (p ++ s) n = C6 p (C6 s n) := by cases p <;> rfl
theorem O5 : ∀ (p s : List QE) (q : Option Nat), C8 q (p ++ s) = C8 (C8 q p) s
 | [], s, q => rfl
 | e :: r, s, q => O5 r s (some e.id)
theorem S7 : ∀ (p s : List QE) (q n : Option Nat), N6 q (p ++ s) n = N6 q p (C6 s n) ++ N6 (C8 q p) s n
 | [], s, q, n => rfl
 | e :: r, s, q, n => by
  show (e.id, K3 e q (C6 (r ++ s) n)) :: N6 (some e.id) (r ++ s) n = _
  rw [O6, S7 r s]
  rfl
def Ah2 (l : List QE) : A4 := l.flatMap QE.seg
def Q3 (l : List QE) : Nat := (l.map fun e => e.key.size + e.val.length).sum
def A14 (l : List QE) : List (ByteArray × Value) := l.map fun e => (e.key, .pointer (pt (some e.id)))
structure QOk (l : List QE) : Prop where
 own : ∀ e ∈ l, Own e.v 1 tyb (bvs e.val) e.seg
 small : ∀ e ∈ l, e.key.size <= 100000 /\ e.val.length <= 100000
 few : l.length <= 100000
 nd : (l.map QE.key).Nodup
 fr : ∀ e ∈ l, 0 <= e.freq /\ e.freq <= 3
def qO (room : Int) (l : List QE) (mk : Nat) (bytes : Int) : Obj := .cells #[.i room, .i bytes, .pointer (pt (C6 l none)), .pointer (pt (C8 none l)), .map (some mk)] 182
def QL (m : Nat) (room : Int) (l : List QE) (mk : Nat) (mes : Array MapEntry) (clock : Nat) : A4 :=
 (m, qO room l mk (Q3 l)) :: (mk, Obj.map mes clock) :: (N6 none l none ++ Ah2 l)
def QH (m : Nat) (room : Int) (l : List QE) (A : A4) : Prop := ∃ mk mes clock, A = QL m room l mk mes clock /\ Mp Value.string mes (A14 l) /\ QOk l
theorem Af8 (p s : List QE) : Q3 (p ++ s) = Q3 p + Q3 s := by simp [Q3]
theorem Cx2 {l : List QE} (h : ∀ e ∈ l, e.key.size <= 100000 /\ e.val.length <= 100000) : Q3 l <= l.length * 200000 := by
 induction l with
 | nil => simp [Q3]
 | cons e r ih =>
  have h1 := h e List.mem_cons_self
  have h2 := ih fun x hx => h x (List.mem_cons_of_mem _ hx)
  simp only [Q3, List.map_cons, List.sum_cons, List.length_cons] at h2 ⊢
  omega
theorem QOk.sum {l : List QE} (h : QOk l) : Q3 l <= 20000000000 := by
 have h1 := Cx2 h.small
 have h2 := h.few
 have : l.length * 200000 <= 100000 * 200000 := Nat.mul_le_mul_right _ h2
 omega
theorem QOk.sub {p s : List QE} {e : QE} (h : QOk (p ++ e :: s)) : QOk (p ++ s) := by
 have hs : ∀ x, x ∈ p ++ s -> x ∈ p ++ e :: s := fun x hx => by
  rcases List.mem_append.1 hx with h1 | h1
  ·exact List.mem_append_left _ h1
  ·exact List.mem_append_right _ (List.mem_cons_of_mem _ h1)
 have hsub : (p ++ s).Sublist (p ++ e :: s) := List.Sublist.append_left (List.sublist_cons_self e s) p
 refine ⟨fun x hx => h.own x (hs x hx), fun x hx => h.small x (hs x hx), ?_, h.nd.sublist (hsub.map QE.key), fun x hx => h.fr x (hs x hx)⟩
 have := h.few
 rw [List.length_append, List.length_cons] at this
 rw [List.length_append]; omega
abbrev tyM : TypeId := 180
theorem mapQ : Cc2 PP tyM 9 177 Value.string (.pointer none) := A30 (by kernel_rfl) (Cr7 (by kernel_rfl)) (by kernel_rfl)
def W0 (l : List QE) (k : ByteArray) : Option QE := l.find? fun e => decide (k = e.key)
theorem B41 (l : List QE) (k : ByteArray) : (As8 (A14 l) k).getD (.pointer none) = .pointer (pt ((W0 l k).map QE.id)) := by
 induction l with
 | nil => rfl
 | cons e r ih =>
  unfold As8 W0 A14 at *
  rw [List.map_cons]
  by_cases h : k = e.key
  ·rw [List.find?_cons_of_pos (by simpa using h), List.find?_cons_of_pos (by simpa using h)]; rfl
  ·rw [List.find?_cons_of_neg (by simpa using h), List.find?_cons_of_neg (by simpa using h)]; exact ih
theorem Bh3 (m : Nat) (room : Int) (l : List QE) (A : A4) (h : QH m room l A) (k : ByteArray) :
  Reads PP 116 #[.pointer (some ⟨m, 0, none⟩), .string k] A (.pointer (pt ((W0 l k).map QE.id))) := by
 obtain ⟨mk, mes, clock, rfl, hm, ok⟩ := h
 refine Reads.of (args := [.pointer (some ⟨m, 0, none⟩), .string k]) B5 B6 Tryz.func116 (e116 (some ⟨m, 0, none⟩) k _) ?_
 unfold t116
 refine ifF rfl (A5 rfl (A6 (some mk) (ldB (c := #[.i room, .i (Q3 l), .pointer (pt (C6 l none)), .pointer (pt (C8 none l)), .map (some mk)]) (T := 182) (fz := (0, 0)) List.mem_cons_self rfl) ?_))
 refine ⟨(pt ((W0 l k).map QE.id), ()), ?_, .of ⟨rfl, rfl⟩⟩
 have := Ai2 (P := PP) (L := QL m room l mk mes clock) mapQ (r := mk) (es := mes) (clock := clock) (m := A14 l) (by unfold QL; simp) hm k
 rw [B41] at this
 exact this
theorem Bz2 (L : A4) (e : QE) (p n : Option Nat) (hm : (e.id, K3 e p n) ∈ L) (hv : e.v.len = e.val.length) (hs : e.key.size <= 100000 /\ e.val.length <= 100000) :
  Reads PP 112 #[.pointer (some ⟨e.id, 0, none⟩)] L (.i ((e.key.size + e.val.length : Nat) : Int)) := by
 refine Reads.of (args := [.pointer (some ⟨e.id, 0, none⟩)]) B5 B6 Tryz.func112 (e112 (some ⟨e.id, 0, none⟩) _) ?_
 unfold t112
 unfold K3 at hm
 refine A5 rfl (A5 rfl (A6 e.key (ldB hm rfl) (A6 e.v (ldB hm rfl) (.of ⟨?_, rfl⟩))))
 rw [hv, C1 (by first | omega | (simp only; omega)) (by first | omega | (simp only; omega))]
 congr 1
section
variable {L : A4} {e : QE} {p n : Option Nat}
theorem Ci9 (h : (e.id, K3 e p n) ∈ L) : D0 ⟨e.id, 0, none⟩ [.string e.key] L := ldB (by unfold K3 at h; exact h) rfl
theorem Ci8 (h : (e.id, K3 e p n) ∈ L) : D0 ⟨e.id, 1, none⟩ [.slice e.v.a e.v.len e.v.cap] L := ldB (by unfold K3 at h; exact h) rfl
theorem B33 (h : (e.id, K3 e p n) ∈ L) : D0 ⟨e.id, 2, none⟩ [.i e.freq] L := ldB (by unfold K3 at h; exact h) rfl
theorem Ai0 (h : (e.id, K3 e p n) ∈ L) : D0 ⟨e.id, 3, none⟩ [.pointer (pt p)] L := ldB (by unfold K3 at h; exact h) rfl
theorem Ai1 (h : (e.id, K3 e p n) ∈ L) : D0 ⟨e.id, 4, none⟩ [.pointer (pt n)] L := ldB (by unfold K3 at h; exact h) rfl
theorem Bu3 (h : (e.id, K3 e p n) ∈ L) : D0 ⟨e.id, 0, none⟩ [.string e.key, .slice e.v.a e.v.len e.v.cap, .i e.freq] L := ldB (by unfold K3 at h; exact h) rfl
end
def qG (room bytes : Int) (o y : Option Nat) (mk : Nat) : Obj := .cells #[.i room, .i bytes, .pointer (pt o), .pointer (pt y), .map (some mk)] 182
section
variable {L : A4} {m mk : Nat} {room bytes : Int} {o y : Option Nat}
theorem q_room (h : (m, qG room bytes o y mk) ∈ L) : D0 ⟨m, 0, none⟩ [.i room] L := ldB (by unfold qG at h; exact h) rfl
theorem Ar7 (h : (m, qG room bytes o y mk) ∈ L) : D0 ⟨m, 1, none⟩ [.i bytes] L := ldB (by unfold qG at h; exact h) rfl
theorem q_old (h : (m, qG room bytes o y mk) ∈ L) : D0 ⟨m, 2, none⟩ [.pointer (pt o)] L := ldB (by unfold qG at h; exact h) rfl
theorem B18 (h : (m, qG room bytes o y mk) ∈ L) : D0 ⟨m, 3, none⟩ [.pointer (pt y)] L := ldB (by unfold qG at h; exact h) rfl
theorem q_map (h : (m, qG room bytes o y mk) ∈ L) : D0 ⟨m, 4, none⟩ [.map (some mk)] L := ldB (by unfold qG at h; exact h) rfl
end
theorem B44 {p s : List QE} {e : QE} (h : ((p ++ e :: s).map QE.key).Nodup) : A62 (A14 (p ++ e :: s)) e.key = A14 (p ++ s) := by
 induction p with
 | nil =>
  show (if e.key = e.key then _ else _) = _
  rw [if_pos rfl]; rfl
 | cons a r ih =>
  rw [List.cons_append, List.map_cons, List.nodup_cons] at h
  have hne : e.key ≠ a.key := fun he => h.1 (by rw [<- he]; simp)
  show (if e.key = a.key then _ else _) = _
  rw [if_neg hne]
  have := ih h.2
  show (a.key, Value.pointer (pt (some a.id))) :: A62 (A14 (r ++ e :: s)) e.key = _
  rw [this]; rfl
theorem Ax8 (p : List QE) : p = [] \/ ∃ p0 a, p = p0 ++ [a] := by
 rcases List.eq_nil_or_concat p with h | ⟨p0, a, h⟩
 ·exact .inl h
 ·exact .inr ⟨p0, a, by simpa using h⟩
theorem Y4 (p0 : List QE) (a : QE) (q n : Option Nat) : N6 q (p0 ++ [a]) n = N6 q p0 (some a.id) ++ [(a.id, K3 a (C8 q p0) n)] := by
 rw [S7]; rfl
theorem U9 (p0 : List QE) (a : QE) (q : Option Nat) : C8 q (p0 ++ [a]) = some a.id := by rw [O5]; rfl
theorem A68 (m : Nat) (room : Int) (p s : List QE) (e : QE) (mk : Nat) (mes : Array MapEntry) (clock : Nat) (hm : Mp Value.string mes (A14 (p ++ e :: s))) (ok : QOk (p ++ e :: s)) :
  CallF PP 175 #[.pointer (some ⟨m, 0, none⟩), .pointer (some ⟨e.id, 0, none⟩)] (QL m room (p ++ e :: s) mk mes clock)
   fun v L' => v = .tuple #[] /\ ∃ mes' clock', L' = QL m room (p ++ s) mk mes' clock' ++ ((e.id, K3 e (C8 none p) (C6 s none)) :: e.seg) /\ Mp Value.string mes' (A14 (p ++ s)) := by
 refine CallF.of (args := [.pointer (some ⟨m, 0, none⟩), .pointer (some ⟨e.id, 0, none⟩)]) B5 B6 Tryz.func175 (e175 (some ⟨m, 0, none⟩) (some ⟨e.id, 0, none⟩) _) ?_
 unfold t175
 have hsum := ok.sum
 have hmem : e ∈ p ++ e :: s := by simp
 have hve := (ok.own e hmem).sl.len
 rw [E6, Nat.mul_one] at hve
 have hsm := ok.small e hmem
 have hqs : Q3 (p ++ e :: s) = Q3 (p ++ s) + (e.key.size + e.val.length) := by
  rw [Af8, Af8]
  simp only [Q3, List.map_cons, List.sum_cons]; omega
 refine Y6 (fun y L1 => L1 = (m, qG room (Q3 (p ++ e :: s)) (C6 (p ++ s) none) (C8 none (p ++ e :: s)) mk) :: (mk, Obj.map mes clock) :: ((N6 none p (C6 s none) ++ (e.id, K3 e (C8 none p) (C6 s none)) :: N6 (some e.id) s none) ++ Ah2 (p ++ e :: s))) ?_ ?_
 ·rintro y L1 rfl
  refine Y6 (fun y L2 => L2 = (m, qG room (Q3 (p ++ e :: s)) (C6 (p ++ s) none) (C8 none (p ++ s)) mk) :: (mk, Obj.map mes clock) :: ((N6 none p (C6 s none) ++ (e.id, K3 e (C8 none p) (C6 s none)) :: N6 (C8 none p) s none) ++ Ah2 (p ++ e :: s))) ?_ ?_
  ·rintro y L2 rfl
   refine A5 rfl (A6 ((Q3 (p ++ e :: s) : Nat) : Int) (Ar7 List.mem_cons_self) ?_)
   refine B3 (Bz2 _ e (C8 none p) (C6 s none) (by simp) hve hsm) (((e.key.size + e.val.length : Nat) : Int), ()) rfl (E9 (Ar7 List.mem_cons_self) ?_)
   have hw : IntKind.i64.wrap (((Q3 (p ++ e :: s) : Nat) : Int) - ((e.key.size + e.val.length : Nat) : Int)) = ((Q3 (p ++ s) : Nat) : Int) := by rw [C1 (by omega) (by omega)]; omega
   simp only [hw]
   refine A5 rfl (E3 [] _ rfl rfl (by simp) (.inl (Nat.le_refl _)) #[.i room, .i ((Q3 (p ++ s) : Nat) : Int), .pointer (pt (C6 (p ++ s) none)), .pointer (pt (C8 none (p ++ s))), .map (some mk)] rfl ?_)
   refine A5 rfl (A5 rfl (A6 (some mk) (ldB (n := m) (c := #[.i room, .i ((Q3 (p ++ s) : Nat) : Int), .pointer (pt (C6 (p ++ s) none)), .pointer (pt (C8 none (p ++ s))), .map (some mk)]) (T := 182) (fz := (0, 0)) List.mem_cons_self rfl) (A6 e.key (Ci9 (p := C8 none p) (n := C6 s none) (by simp)) ?_)))
   refine Bd6 mapQ [(m, _)] _ rfl hm e.key fun mes' clock' hm' => ?_
   rw [B44 ok.nd] at hm'
   refine .drop (A := QL m room (p ++ s) mk mes' clock' ++ ((e.id, K3 e (C8 none p) (C6 s none)) :: e.seg)) (J := []) ⟨rfl, mes', clock', rfl, hm'⟩ ?_
   rw [List.append_nil]
   unfold QL
   refine List.Perm.cons _ (List.Perm.cons _ ?_)
   rw [S7]
   unfold Ah2
   classical
   rw [List.perm_iff_count]
   intro x
   simp only [List.append_eq, List.flatMap_append, List.flatMap_cons, List.count_append, List.count_cons]
   omega
  ·intro j2 hj2
   refine A5 rfl (A6 (pt (C6 s none)) (Ai1 (p := C8 none p) (by simp)) ?_)
   cases s with
   | nil =>
    refine ifF rfl (A5 rfl (A6 (pt (C8 none p)) (Ai0 (n := C6 [] none) (by simp)) (A5 rfl (E3 [] _ rfl rfl (by simp) (.inl (Nat.le_refl _)) #[.i room, .i (Q3 (p ++ [e])), .pointer (pt (C6 (p ++ []) none)), .pointer (pt (C8 none p)), .map (some mk)] rfl (hj2 _ _ ?_)))))
    rw [List.append_nil]
    rfl
   | cons b s0 =>
    refine ifT rfl (A5 rfl (A5 rfl (A6 (pt (some b.id)) (Ai1 (p := C8 none p) (by simp [C6])) (A6 (pt (C8 none p)) (Ai0 (n := C6 (b :: s0) none) (by simp)) (A5 rfl ?_)))))
    refine E3 (n := b.id) (off := 3) (c := #[.string b.key, .slice b.v.a b.v.len b.v.cap, .i b.freq, .pointer (pt (some e.id)), .pointer (pt (C6 s0 none))]) (T := 184) (fz := (0, 0))
     ((m, qG room (Q3 (p ++ e :: b :: s0)) (C6 (p ++ b :: s0) none) (C8 none (p ++ e :: b :: s0)) mk) :: (mk, Obj.map mes clock) :: (N6 none p (C6 (b :: s0) none) ++ [(e.id, K3 e (C8 none p) (C6 (b :: s0) none))]))
     (N6 (some b.id) s0 none ++ Ah2 (p ++ e :: b :: s0)) rfl (by simp [N6, K3]) (by simp) (.inl (Nat.le_refl _)) #[.string b.key, .slice b.v.a b.v.len b.v.cap, .i b.freq, .pointer (pt (C8 none p)), .pointer (pt (C6 s0 none))] rfl (hj2 _ _ ?_)
    have hl : C8 none (p ++ e :: b :: s0) = C8 none (p ++ b :: s0) := by rw [O5, O5]; rfl
    rw [hl]
    simp [N6, K3]
 ·intro j1 hj1
  have hQL : QL m room (p ++ e :: s) mk mes clock = (m, qG room (Q3 (p ++ e :: s)) (C6 (p ++ e :: s) none) (C8 none (p ++ e :: s)) mk) :: (mk, Obj.map mes clock) :: ((N6 none p (some e.id) ++ (e.id, K3 e (C8 none p) (C6 s none)) :: N6 (some e.id) s none) ++ Ah2 (p ++ e :: s)) := by
   unfold QL
   rw [S7]
   rfl
  rw [hQL]
  refine A5 rfl (A6 (pt (C8 none p)) (Ai0 (n := C6 s none) (by simp)) ?_)
  rcases Ax8 p with rfl | ⟨p0, a, rfl⟩
  ·refine ifF rfl (A5 rfl (A6 (pt (C6 s none)) (Ai1 (p := none) (by simp [C8])) (A5 rfl (E3 [] _ rfl rfl (by simp) (.inl (Nat.le_refl _)) #[.i room, .i (Q3 ([] ++ e :: s)), .pointer (pt (C6 s none)), .pointer (pt (C8 none ([] ++ e :: s))), .map (some mk)] rfl (hj1 _ _ ?_)))))
   rfl
  ·rw [U9]
   refine ifT rfl (A5 rfl (A5 rfl (A6 (pt (some a.id)) (Ai0 (n := C6 s none) (by simp)) (A6 (pt (C6 s none)) (Ai1 (p := some a.id) (by simp)) (A5 rfl ?_)))))
   refine E3 (n := a.id) (off := 4) (c := #[.string a.key, .slice a.v.a a.v.len a.v.cap, .i a.freq, .pointer (pt (C8 none p0)), .pointer (pt (some e.id))]) (T := 184) (fz := (0, 0))
    ((m, qG room (Q3 (p0 ++ [a] ++ e :: s)) (C6 (p0 ++ [a] ++ e :: s) none) (C8 none (p0 ++ [a] ++ e :: s)) mk) :: (mk, Obj.map mes clock) :: N6 none p0 (some a.id))
    ((e.id, K3 e (some a.id) (C6 s none)) :: N6 (some e.id) s none ++ Ah2 (p0 ++ [a] ++ e :: s)) rfl (by simp [Y4, K3]) (by simp) (.inl (Nat.le_refl _)) #[.string a.key, .slice a.v.a a.v.len a.v.cap, .i a.freq, .pointer (pt (C8 none p0)), .pointer (pt (C6 s none))] rfl (hj1 _ _ ?_)
   have hh : C6 (p0 ++ [a] ++ e :: s) none = C6 (p0 ++ [a] ++ s) none := by
    rw [O6, O6]
    cases p0 <;> rfl
   rw [hh, Y4, U9]
   simp [K3]
def Ar6 (l : List QE) (k : ByteArray) : List QE := l.eraseP fun e => decide (k = e.key)
theorem Ak3 {l : List QE} {k : ByteArray} {e : QE} (h : W0 l k = some e) : ∃ p s, l = p ++ e :: s /\ e.key = k /\ Ar6 l k = p ++ s := by
 unfold W0 at h
 rw [List.find?_eq_some_iff_append] at h
 obtain ⟨hk, p, s, rfl, hp⟩ := h
 refine ⟨p, s, rfl, (of_decide_eq_true hk).symm, ?_⟩
 unfold Ar6
 rw [List.eraseP_append_right _ (fun b hb => by simpa using hp b hb), List.eraseP_cons_of_pos (p := fun e : QE => decide (k = e.key)) hk]
theorem Ad7 {l : List QE} {k : ByteArray} (h : W0 l k = none) : Ar6 l k = l /\ k ∉ l.map QE.key := by
 unfold W0 at h
 rw [List.find?_eq_none] at h
 refine ⟨List.eraseP_of_forall_not h, fun hm => ?_⟩
 obtain ⟨e, he, rfl⟩ := List.mem_map.1 hm
 exact h e he (by simp)
theorem B14 {l : List QE} {k : ByteArray} (ok : QOk l) : k ∉ (Ar6 l k).map QE.key := by
 cases hf : W0 l k with
 | none => rw [(Ad7 hf).1]; exact (Ad7 hf).2
 | some e =>
  obtain ⟨p, s, rfl, rfl, hd⟩ := Ak3 hf
  rw [hd]
  have h := ok.nd
  rw [List.map_append, List.map_cons] at h
  have h2 : (e.key :: (p.map QE.key ++ s.map QE.key)).Nodup := (List.perm_middle.nodup_iff).1 h
  rw [List.map_append]
  exact (List.nodup_cons.1 h2).1
theorem B15 (l : List QE) (k : ByteArray) : (Ar6 l k).length <= l.length := List.length_eraseP_le ..
theorem Cx5 (room : Int) : CallF PP 97 #[.i room] [] fun r L' => ∃ m, r = .pointer (some ⟨m, 0, none⟩) /\ QH m (Ab4 room 0) [] L' := by
 refine CallF.of (args := [.i room]) B5 B6 Tryz.func97 (e97 room _) ?_
 unfold t97
 refine C3 fun mk _ => C3 fun m _ => .of ⟨m, rfl, mk, #[], 0, rfl, rfl, ?_⟩
 exact ⟨fun e h => by simp at h, fun e h => by simp at h, by simp, by simp, fun e h => by simp at h⟩
theorem Bm8 (m : Nat) (room : Int) (l : List QE) (A : A4) (h : QH m room l A) (k : ByteArray) :
  CallF PP 105 #[.pointer (some ⟨m, 0, none⟩), .string k] A fun r L' => r = .bool (W0 l k).isSome /\ QH m room (Ar6 l k) L' := by
 refine CallF.of (args := [.pointer (some ⟨m, 0, none⟩), .string k]) B5 B6 Tryz.func105 (e105 (some ⟨m, 0, none⟩) k _) ?_
 unfold t105
 refine B3 (Bh3 m room l A h k) (pt ((W0 l k).map QE.id), ()) rfl ?_
 cases hf : W0 l k with
 | none =>
  refine ifT rfl (.of ⟨rfl, ?_⟩)
  rw [(Ad7 hf).1]; exact h
 | some e =>
  obtain ⟨mk, mes, clock, rfl, hm, ok⟩ := h
  obtain ⟨p, s, rfl, rfl, hd⟩ := Ak3 hf
  refine ifF rfl (H4 [] [] (A68 m room p s e mk mes clock hm ok) (by simp) ?_)
  rintro _ _ - ⟨rfl, mes', clock', rfl, hm'⟩
  rw [hd]
  exact ⟨(), rfl, .drop (A := QL m room (p ++ s) mk mes' clock') (J := (e.id, K3 e (C8 none p) (C6 s none)) :: e.seg) ⟨rfl, mk, mes', clock', rfl, hm', ok.sub⟩ (by simp)⟩
theorem elemY : S2 PP tyB tyb 1 1 [.int .u8 0] := M0 (by kernel_rfl) (by kernel_rfl) rfl (by decide) (by decide)
theorem srcY : Ao1 PP tyB := .inl ⟨tyb, by kernel_rfl⟩
theorem own_e {n : Nat} {e : TypeId} : Own ⟨some ⟨n, 0, none⟩, 0, 0⟩ 1 e [] [(n, Obj.cells #[] e)] := ⟨rfl, Nat.le_refl _, .inr ⟨n, 0, #[], (0, 0), rfl, rfl, by simp, .inl (Nat.le_refl _), fun i u hu => by simp at hu⟩⟩
theorem Ba3 : ∀ (l : List QE) (k : ByteArray) (v : Value), k ∉ l.map QE.key -> Aw3 (A14 l) k v = A14 l ++ [(k, v)]
 | [], k, v, _ => rfl
 | e :: r, k, v, h => by
  rw [List.map_cons, List.mem_cons, not_or] at h
  show (if k = e.key then _ else _) = _
  rw [if_neg h.1]
  show (e.key, Value.pointer (pt (some e.id))) :: Aw3 (A14 r) k v = _
  rw [Ba3 r k v h.2]; rfl
theorem Cx3 (m : Nat) (room : Int) (l : List QE) (A A0 : A4) (h : QH m room l A) (hfew : l.length < 100000) (k : ByteArray) (hk : k.size <= 100000) (v : SlV) (b : List UInt8) (hv : BSl A0 v b) (hb : b.length <= 100000) :
  CallF PP 50 #[.pointer (some ⟨m, 0, none⟩), .string k, .slice v.a v.len v.cap] (A ++ A0)
   fun r L' => r = .tuple #[] /\ ∃ A' e, L' = A' ++ A0 /\ QH m room (Ar6 l k ++ [e]) A' /\ e.key = k /\ e.val = b /\ e.freq = 0 := by
 refine CallF.of (args := [.pointer (some ⟨m, 0, none⟩), .string k, .slice v.a v.len v.cap]) B5 B6 Tryz.func50 (e50 (some ⟨m, 0, none⟩) k v _) ?_
 unfold t50
 have hnot : k ∉ (Ar6 l k).map QE.key := by obtain ⟨_, _, _, _, _, ok⟩ := h; exact B14 ok
 have hfew2 := B15 l k
 refine ifF rfl (H4 [] A0 (Bm8 m room l A h k) (by simp) ?_)
 rintro _ _ - ⟨rfl, mk, mes, clock, rfl, hm, ok⟩
 refine ⟨((W0 l k).isSome, ()), rfl, ?_⟩
 generalize Ar6 l k = l1 at hnot hfew2 hm ok ⊢
 have hlen := hv.len
 have hsum := ok.sum
 have hQ : QL m room l1 mk mes clock = (m, qG room (Q3 l1) (C6 l1 none) (C8 none l1) mk) :: (mk, Obj.map mes clock) :: (N6 none l1 none ++ Ah2 l1) := rfl
 rw [hQ]
 refine A5 rfl (A6 (pt (C8 none l1)) (B18 (by simp; exact .inl rfl)) (C3 fun n1 _ => ?_))
 refine E5 elemY srcY [] ([] ++ ((m, qG room (Q3 l1) (C6 l1 none) (C8 none l1) mk) :: (mk, Obj.map mes clock) :: (N6 none l1 none ++ Ah2 l1)) ++ A0) own_e (by simp) (.sl ((hv.right (R := [] ++ ((m, qG room (Q3 l1) (C6 l1 none) (C8 none l1) mk) :: (mk, Obj.map mes clock) :: (N6 none l1 none ++ Ah2 l1)))).cons)) (K4 _)
  (by first | omega | (simp only; omega)) fun v2 seg hv2 own => ?_
 rw [List.nil_append] at own
 refine E9 (B18 (room := room) (bytes := Q3 l1) (o := C6 l1 none) (mk := mk) (by simp)) (C3 fun n2 _ => ?_)
 obtain ⟨e, rfl, rfl, rfl, hfr0, rfl, rfl⟩ : ∃ e : QE, e.id = n2 /\ e.key = k /\ e.val = b /\ e.freq = 0 /\ e.v = v2 /\ e.seg = seg := ⟨⟨n2, k, b, 0, v2, seg⟩, rfl, rfl, rfl, rfl, rfl, rfl⟩
 have hve : e.v.len = e.val.length := by have := own.sl.len; rw [E6] at this; omega
 have hnode : (e.id, Obj.cells #[.string e.key, .slice e.v.a e.v.len e.v.cap, .i 0, .pointer (pt (C8 none l1)), .pointer none] 184) = (e.id, K3 e (C8 none l1) none) := by unfold K3; rw [hfr0]; rfl
 have hok : QOk (l1 ++ [e]) := by
  refine ⟨fun x hx => ?_, fun x hx => ?_, ?_, ?_, fun x hx => ?_⟩
  ·rcases List.mem_append.1 hx with h1 | h1
   ·exact ok.own x h1
   ·rw [List.mem_singleton.1 h1]; exact own
  ·rcases List.mem_append.1 hx with h1 | h1
   ·exact ok.small x h1
   ·rw [List.mem_singleton.1 h1]; exact ⟨hk, hb⟩
  ·rw [List.length_append]; simp only [List.length_cons, List.length_nil]; omega
  ·rw [List.map_append, List.nodup_append]
   refine ⟨ok.nd, by simp, fun x hx y hy => ?_⟩
   simp only [List.map_cons, List.map_nil, List.mem_singleton] at hy
   rintro rfl
   rw [hy] at hx
   exact hnot hx
  ·rcases List.mem_append.1 hx with h1 | h1
   ·exact ok.fr x h1
   ·rw [List.mem_singleton.1 h1, hfr0]; omega
 have hsum2 := hok.sum
 have hqs : Q3 (l1 ++ [e]) = Q3 l1 + (e.key.size + e.val.length) := by rw [Af8]; simp [Q3]
 refine Y6 (fun y L' => L' = (e.id, K3 e (C8 none l1) none) :: (e.seg ++ ((m, qG room (Q3 l1) (C6 (l1 ++ [e]) none) (C8 none l1) mk) :: (mk, Obj.map mes clock) :: (N6 none l1 (some e.id) ++ Ah2 l1) ++ A0))) ?_ ?_
 ·rintro y L' rfl
  refine A5 rfl (E3 ((e.id, K3 e (C8 none l1) none) :: e.seg) ((mk, Obj.map mes clock) :: (N6 none l1 (some e.id) ++ Ah2 l1) ++ A0) rfl rfl (by simp) (.inl (Nat.le_refl _)) #[.i room, .i (Q3 l1), .pointer (pt (C6 (l1 ++ [e]) none)), .pointer (some ⟨e.id, 0, none⟩), .map (some mk)] rfl ?_)
  have hm1 : ∀ {bb : Int}, (m, qG room bb (C6 (l1 ++ [e]) none) (some e.id) mk) ∈ ((e.id, K3 e (C8 none l1) none) :: e.seg) ++ (m, qG room bb (C6 (l1 ++ [e]) none) (some e.id) mk) :: ((mk, Obj.map mes clock) :: (N6 none l1 (some e.id) ++ Ah2 l1) ++ A0) := by simp
  refine A5 rfl (A6 ((Q3 l1 : Nat) : Int) (Ar7 hm1) ?_)
  have hsz := Bz2 (((e.id, K3 e (C8 none l1) none) :: e.seg) ++ (m, qG room (Q3 l1) (C6 (l1 ++ [e]) none) (some e.id) mk) :: ((mk, Obj.map mes clock) :: (N6 none l1 (some e.id) ++ Ah2 l1) ++ A0)) e (C8 none l1) none List.mem_cons_self hve ⟨hk, hb⟩
  refine B3 hsz (((e.key.size + e.val.length : Nat) : Int), ()) rfl (E9 (Ar7 hm1) ?_)
  have hw : IntKind.i64.wrap (((Q3 l1 : Nat) : Int) + ((e.key.size + e.val.length : Nat) : Int)) = ((Q3 (l1 ++ [e]) : Nat) : Int) := by
   rw [C1 (by omega) (by omega)]; omega
  simp only [hw]
  refine A5 rfl (E3 ((e.id, K3 e (C8 none l1) none) :: e.seg) ((mk, Obj.map mes clock) :: (N6 none l1 (some e.id) ++ Ah2 l1) ++ A0) rfl rfl (by simp) (.inl (Nat.le_refl _)) #[.i room, .i ((Q3 (l1 ++ [e]) : Nat) : Int), .pointer (pt (C6 (l1 ++ [e]) none)), .pointer (some ⟨e.id, 0, none⟩), .map (some mk)] rfl ?_)
  refine A5 rfl (A6 (some mk) (q_map (room := room) (bytes := ((Q3 (l1 ++ [e]) : Nat) : Int)) (o := C6 (l1 ++ [e]) none) (y := some e.id) hm1) ?_)
  refine A67 mapQ (((e.id, K3 e (C8 none l1) none) :: e.seg) ++ [(m, qG room ((Q3 (l1 ++ [e]) : Nat) : Int) (C6 (l1 ++ [e]) none) (some e.id) mk)]) ((N6 none l1 (some e.id) ++ Ah2 l1) ++ A0) (es := mes) (clock := clock) (by simp [qG, pt]) hm e.key _ fun mes' clock' hm' => ?_
  rw [Ba3 l1 e.key _ hnot] at hm'
  have hmap : A14 l1 ++ [(e.key, Value.pointer (some ⟨e.id, 0, none⟩))] = A14 (l1 ++ [e]) := by simp [A14, pt]
  rw [hmap] at hm'
  refine .drop (A := QL m room (l1 ++ [e]) mk mes' clock' ++ A0) (J := []) ⟨rfl, _, e, rfl, ⟨mk, mes', clock', rfl, hm', hok⟩, rfl, rfl, hfr0⟩ ?_
  have hlast : C8 none (l1 ++ [e]) = some e.id := by rw [U9]
  have hseg : Ah2 (l1 ++ [e]) = Ah2 l1 ++ e.seg := by unfold Ah2; simp
  unfold QL
  rw [Y4, hseg]
  have hq : qO room (l1 ++ [e]) mk (Q3 (l1 ++ [e])) = qG room ((Q3 (l1 ++ [e]) : Nat) : Int) (C6 (l1 ++ [e]) none) (some e.id) mk := by unfold qO; rw [hlast]; rfl
  rw [hq]
  classical
  rw [List.perm_iff_count]
  intro x
  simp only [List.append_eq, List.cons_append, List.nil_append, List.append_nil, List.count_append, List.count_cons, List.count_nil]
  omega
 ·intro j hj
  rw [hnode]
  rcases Ax8 l1 with rfl | ⟨p0, a, rfl⟩
  ·refine A5 rfl (A6 (pt (C8 none [])) (B18 (room := room) (bytes := Q3 []) (o := C6 [] none) (mk := mk) (by simp)) (ifF rfl (A5 rfl ?_)))
   refine E3 (n := m) (off := 2) (c := #[.i room, .i (Q3 []), .pointer (pt (C6 [] none)), .pointer (pt (C8 none [])), .map (some mk)]) (T := 182) (fz := (0, 0)) ((e.id, K3 e (C8 none []) none) :: e.seg) ((mk, Obj.map mes clock) :: (N6 none [] none ++ Ah2 []) ++ A0) rfl (by simp [qG]) (by simp) (.inl (Nat.le_refl _)) #[.i room, .i (Q3 []), .pointer (some ⟨e.id, 0, none⟩), .pointer (pt (C8 none [])), .map (some mk)] rfl (hj _ _ ?_)
   rfl
  ·refine A5 rfl (A6 (pt (C8 none (p0 ++ [a]))) (B18 (room := room) (bytes := Q3 (p0 ++ [a])) (o := C6 (p0 ++ [a]) none) (mk := mk) (by simp)) ?_)
   rw [U9]
   refine ifT rfl (A5 rfl (A6 (pt (some a.id)) (B18 (room := room) (bytes := Q3 (p0 ++ [a])) (o := C6 (p0 ++ [a]) none) (mk := mk) (by simp)) (A5 rfl ?_)))
   refine E3 (n := a.id) (off := 4) (c := #[.string a.key, .slice a.v.a a.v.len a.v.cap, .i a.freq, .pointer (pt (C8 none p0)), .pointer (pt none)]) (T := 184) (fz := (0, 0))
    ((e.id, K3 e (some a.id) none) :: (e.seg ++ ((m, qG room (Q3 (p0 ++ [a])) (C6 (p0 ++ [a]) none) (some a.id) mk) :: (mk, Obj.map mes clock) :: N6 none p0 (some a.id))))
    (Ah2 (p0 ++ [a]) ++ A0) rfl (by simp [Y4, K3]) (by simp) (.inl (Nat.le_refl _)) #[.string a.key, .slice a.v.a a.v.len a.v.cap, .i a.freq, .pointer (pt (C8 none p0)), .pointer (some ⟨e.id, 0, none⟩)] rfl (hj _ _ ?_)
   have hh : C6 (p0 ++ [a] ++ [e]) none = C6 (p0 ++ [a]) none := by rw [O6]; cases p0 <;> rfl
   rw [hh, Y4, U9]
   simp [K3, pt]
def Ao0 (e : QE) : QE := { e with freq := Y1 (e.freq + 1) 3 }
def Bh4 (l : List QE) (k : ByteArray) : List QE := l.map fun e => if e.key = k then Ao0 e else e
theorem Ch5 {p s : List QE} {e : QE} (h : ((p ++ e :: s).map QE.key).Nodup) : Bh4 (p ++ e :: s) e.key = p ++ Ao0 e :: s := by
 rw [List.map_append, List.map_cons] at h
 have h2 : (e.key :: (p.map QE.key ++ s.map QE.key)).Nodup := (List.perm_middle.nodup_iff).1 h
 have h3 := (List.nodup_cons.1 h2).1
 rw [List.mem_append, not_or] at h3
 have id_of : ∀ l : List QE, e.key ∉ l.map QE.key -> l.map (fun x => if x.key = e.key then Ao0 x else x) = l := by
  intro l hl
  induction l with
  | nil => rfl
  | cons a r ih =>
   rw [List.map_cons, List.mem_cons, not_or] at hl
   rw [List.map_cons, if_neg (fun he => hl.1 he.symm), ih hl.2]
 unfold Bh4
 rw [List.map_append, List.map_cons, id_of p h3.1, id_of s h3.2, if_pos rfl]
theorem C37 {p s : List QE} {e : QE} (ok : QOk (p ++ e :: s)) : QOk (p ++ Ao0 e :: s) := by
 have hk : (p ++ Ao0 e :: s).map QE.key = (p ++ e :: s).map QE.key := by simp [Ao0]
 have hx : ∀ x, x ∈ p ++ Ao0 e :: s -> x = Ao0 e \/ x ∈ p ++ e :: s := by
  intro x hx
  rw [List.mem_append, List.mem_cons] at hx
  rcases hx with h | h | h
  ·exact .inr (by simp [h])
  ·exact .inl h
  ·exact .inr (by simp [h])
 have he : e ∈ p ++ e :: s := by simp
 refine ⟨fun x h => ?_, fun x h => ?_, ?_, by rw [hk]; exact ok.nd, fun x h => ?_⟩
 ·rcases hx x h with rfl | h
  ·exact ok.own e he
  ·exact ok.own x h
 ·rcases hx x h with rfl | h
  ·exact ok.small e he
  ·exact ok.small x h
 ·have := ok.few
  rw [List.length_append, List.length_cons] at this ⊢
  exact this
 ·rcases hx x h with rfl | h
  ·have := ok.fr e he
   show 0 <= Y1 (e.freq + 1) 3 /\ Y1 (e.freq + 1) 3 <= 3
   unfold Y1; split <;> omega
  ·exact ok.fr x h
theorem C42 (m : Nat) (room : Int) (p s : List QE) (e : QE) (mk : Nat) (mes : Array MapEntry) (clock : Nat) : QL m room (p ++ e :: s) mk mes clock =
  (m, qG room (Q3 (p ++ e :: s)) (C6 (p ++ e :: s) none) (C8 none (p ++ e :: s)) mk) :: (mk, Obj.map mes clock) :: ((N6 none p (some e.id) ++ (e.id, K3 e (C8 none p) (C6 s none)) :: N6 (some e.id) s none) ++ Ah2 (p ++ e :: s)) := by
 unfold QL
 rw [S7]
 rfl
theorem Bn6 {m : Nat} {room : Int} {p s : List QE} {e : QE} {mk : Nat} {mes : Array MapEntry} {clock : Nat} : (e.id, K3 e (C8 none p) (C6 s none)) ∈ QL m room (p ++ e :: s) mk mes clock := by
 rw [C42]; simp
theorem Cw3 {m : Nat} {room : Int} {l : List QE} {mk : Nat} {mes : Array MapEntry} {clock : Nat} : ∀ x ∈ Ah2 l, x ∈ QL m room l mk mes clock := by
 intro x hx
 unfold QL; simp [hx]
theorem own_in {l : List QE} {e : QE} {L : A4} (ok : QOk l) (he : e ∈ l) (hL : ∀ x ∈ Ah2 l, x ∈ L) : BSl L e.v e.val :=
 (ok.own e he).sl.mono fun x hx => hL x (List.mem_flatMap.2 ⟨e, he, hx⟩)
theorem Cx8 (m : Nat) (room : Int) (l : List QE) (A : A4) (h : QH m room l A) (k : ByteArray) :
  CallF PP 59 #[.pointer (some ⟨m, 0, none⟩), .string k] A fun r L' => ∃ (u : SlV) (seg A' : A4), r = .tuple #[.slice u.a u.len u.cap, .bool (W0 l k).isSome] /\ L' = seg ++ A' /\ Own u 1 tyb (bvs (((W0 l k).map QE.val).getD [])) seg /\ QH m room (Bh4 l k) A' := by
 refine CallF.of (args := [.pointer (some ⟨m, 0, none⟩), .string k]) B5 B6 Tryz.func59 (e59 (some ⟨m, 0, none⟩) k _) ?_
 unfold t59
 refine B3 (Bh3 m room l A h k) (pt ((W0 l k).map QE.id), ()) rfl ?_
 cases hf : W0 l k with
 | none =>
  have hb : Bh4 l k = l := by
   have hn := (Ad7 hf).2
   unfold Bh4
   clear hf h
   induction l with
   | nil => rfl
   | cons a r ih =>
    rw [List.map_cons, List.mem_cons, not_or] at hn
    rw [List.map_cons, if_neg (fun he => hn.1 he.symm), ih hn.2]
  exact ifT rfl (.of ⟨⟨none, 0, 0⟩, [], A, rfl, rfl, ⟨rfl, Nat.le_refl _, .inl ⟨rfl, rfl, rfl⟩⟩, by rw [hb]; exact h⟩)
 | some e =>
  obtain ⟨mk, mes, clock, rfl, hm, ok⟩ := h
  obtain ⟨p, s, rfl, rfl, hd⟩ := Ak3 hf
  have he : e ∈ p ++ e :: s := by simp
  have hsm := ok.small e he
  have hfr := ok.fr e he
  have hw : IntKind.i64.wrap (e.freq + 1) = e.freq + 1 := C1 (by omega) (by omega)
  refine ifF rfl (A5 rfl (A6 e.freq (B33 Bn6) (A5 rfl ?_)))
  rw [hw]
  have ok' := C37 ok
  have he' : Ao0 e ∈ p ++ Ao0 e :: s := by simp
  refine E3 (n := e.id) (off := 2) (c := #[.string e.key, .slice e.v.a e.v.len e.v.cap, .i e.freq, .pointer (pt (C8 none p)), .pointer (pt (C6 s none))]) (T := 184) (fz := (0, 0))
   ((m, qG room (Q3 (p ++ e :: s)) (C6 (p ++ e :: s) none) (C8 none (p ++ e :: s)) mk) :: (mk, Obj.map mes clock) :: N6 none p (some e.id)) (N6 (some e.id) s none ++ Ah2 (p ++ e :: s)) rfl (by rw [C42]; simp [K3]) (by simp) (.inl (Nat.le_refl _))
   #[.string e.key, .slice e.v.a e.v.len e.v.cap, .i (Y1 (e.freq + 1) 3), .pointer (pt (C8 none p)), .pointer (pt (C6 s none))] rfl ?_
  have e1 : Q3 (p ++ e :: s) = Q3 (p ++ Ao0 e :: s) := by simp [Q3, Ao0]
  have e2 : C6 (p ++ e :: s) none = C6 (p ++ Ao0 e :: s) none := by rw [O6, O6]; rfl
  have e3 : C8 none (p ++ e :: s) = C8 none (p ++ Ao0 e :: s) := by rw [O5, O5]; rfl
  have e4 : Ah2 (p ++ e :: s) = Ah2 (p ++ Ao0 e :: s) := by simp [Ah2, Ao0]
  have e5 : A14 (p ++ e :: s) = A14 (p ++ Ao0 e :: s) := by simp [A14, Ao0]
  have hL : ((m, qG room (Q3 (p ++ e :: s)) (C6 (p ++ e :: s) none) (C8 none (p ++ e :: s)) mk) :: (mk, Obj.map mes clock) :: N6 none p (some e.id)) ++ (e.id, Obj.cells #[.string e.key, .slice e.v.a e.v.len e.v.cap, .i (Y1 (e.freq + 1) 3), .pointer (pt (C8 none p)), .pointer (pt (C6 s none))] 184) :: (N6 (some e.id) s none ++ Ah2 (p ++ e :: s)) =
    QL m room (p ++ Ao0 e :: s) mk mes clock := by
   rw [C42, <- e1, <- e2, <- e3, <- e4]
   simp [Ao0, K3]
  rw [hL]
  refine C3 fun n1 _ => A5 rfl (A6 e.v (Ci8 (e := Ao0 e) (List.mem_cons_of_mem _ Bn6)) ?_)
  have hsl := own_in (L := (n1, Obj.cells #[] tyb) :: QL m room (p ++ Ao0 e :: s) mk mes clock) ok' he' (fun x hx => List.mem_cons_of_mem _ (Cw3 x hx))
  have hvl : e.v.len = e.val.length := hsl.len
  refine E5 elemY srcY [] (QL m room (p ++ Ao0 e :: s) mk mes clock) own_e rfl (.sl hsl) (K4 _) (by first | omega | (simp only; omega) | (show (0 + e.v.len) * 1 <= _; omega)) fun u seg hu own => ?_
  rw [Ch5 ok.nd]
  refine .of ⟨u, seg, _, rfl, rfl, own, mk, mes, clock, rfl, by rw [<- e5]; exact hm, ok'⟩
theorem Cx7 (m : Nat) (room : Int) (l : List QE) (A : A4) (h : QH m room l A) (k : ByteArray) : Reads PP 52 #[.pointer (some ⟨m, 0, none⟩), .string k] A (.bool (W0 l k).isSome) := by
 refine Reads.of (args := [.pointer (some ⟨m, 0, none⟩), .string k]) B5 B6 Tryz.func52 (e52 (some ⟨m, 0, none⟩) k _) ?_
 unfold t52
 refine B3 (Bh3 m room l A h k) (pt ((W0 l k).map QE.id), ()) rfl (.of ⟨?_, rfl⟩)
 cases W0 l k <;> rfl
theorem Cx6 (m : Nat) (room : Int) (l : List QE) (A : A4) (h : QH m room l A) : Reads PP 70 #[.pointer (some ⟨m, 0, none⟩)] A (.i l.length) := by
 obtain ⟨mk, mes, clock, rfl, hm, ok⟩ := h
 refine Reads.of (args := [.pointer (some ⟨m, 0, none⟩)]) B5 B6 Tryz.func70 (e70 (some ⟨m, 0, none⟩) _) ?_
 unfold t70
 refine ifF rfl (A5 rfl (A6 (some mk) (q_map (room := room) (bytes := Q3 l) (o := C6 l none) (y := C8 none l) List.mem_cons_self) ?_))
 have hlen : mes.size = l.length := by rw [hm.size]; simp [A14]
 refine ⟨((l.length : Int), ()), ?_, .of ⟨rfl, rfl⟩⟩
 have := Cz9 (P := PP) (L := QL m room l mk mes clock) (t := tyM) (ty := 3) mapQ.und (r := mk) (es := mes) (clock := clock) (by unfold QL; simp)
 rw [hlen] at this
 exact this
theorem Cg8 (m : Nat) (room : Int) (l : List QE) (A : A4) (h : QH m room l A) : Reads PP 113 #[.pointer (some ⟨m, 0, none⟩)] A (.bool (decide ((Q3 l : Int) > room))) := by
 obtain ⟨mk, mes, clock, rfl, hm, ok⟩ := h
 refine Reads.of (args := [.pointer (some ⟨m, 0, none⟩)]) B5 B6 Tryz.func113 (e113 (some ⟨m, 0, none⟩) _) ?_
 unfold t113
 exact ifT rfl (A5 rfl (A5 rfl (A6 ((Q3 l : Nat) : Int) (Ar7 (room := room) (o := C6 l none) (y := C8 none l) (mk := mk) List.mem_cons_self) (A6 room (q_room (bytes := Q3 l) (o := C6 l none) (y := C8 none l) (mk := mk) List.mem_cons_self) (.of ⟨rfl, rfl⟩)))))
theorem Cx4 (m : Nat) (room : Int) (e : QE) (s : List QE) (A : A4) (h : QH m room (e :: s) A) :
  CallF PP 114 #[.pointer (some ⟨m, 0, none⟩)] A fun r L' => r = .tuple #[.agg #[.string e.key, .slice e.v.a e.v.len e.v.cap, .i e.freq], .bool true] /\ ∃ A', L' = A' ++ e.seg /\ QH m room s A' := by
 obtain ⟨mk, mes, clock, rfl, hm, ok⟩ := h
 refine CallF.of (args := [.pointer (some ⟨m, 0, none⟩)]) B5 B6 Tryz.func114 (e114 (some ⟨m, 0, none⟩) _) ?_
 unfold t114
 have hold : ∀ {n1 : Nat} {o : Obj}, D0 ⟨m, 2, none⟩ [.pointer (pt (some e.id))] ((n1, o) :: QL m room (e :: s) mk mes clock) := q_old (room := room) (bytes := Q3 (e :: s)) (o := some e.id) (y := C8 none (e :: s)) (mk := mk) (List.mem_cons_of_mem _ List.mem_cons_self)
 refine C3 fun n1 _ => ifF rfl (A5 rfl (A6 (pt (some e.id)) hold (ifF rfl (A5 rfl (A6 (pt (some e.id)) hold ?_)))))
 refine H4 [(n1, Obj.cells #[.string ByteArray.empty, .slice none 0 0, .i 0] 179)] [] (A68 m room [] s e mk mes clock hm ok) (by simp) ?_
 rintro _ _ - ⟨rfl, mes', clock', rfl, hm'⟩
 refine ⟨(), rfl, A5 rfl (A6 (e.key, e.v, e.freq, ()) (Bu3 (p := C8 none []) (n := C6 s none) (by simp)) ?_)⟩
 refine E3 (n := n1) (off := 0) (c := #[.string ByteArray.empty, .slice none 0 0, .i 0]) (T := 179) (fz := (0, 0)) [] ((QL m room ([] ++ s) mk mes' clock' ++ ((e.id, K3 e (C8 none []) (C6 s none)) :: e.seg)) ++ []) rfl rfl (by simp) (.inl (Nat.le_refl _)) #[.string e.key, .slice e.v.a e.v.len e.v.cap, .i e.freq] rfl ?_
 refine A6 (e.key, e.v, e.freq, ()) (ldB (n := n1) (c := #[.string e.key, .slice e.v.a e.v.len e.v.cap, .i e.freq]) (T := 179) (fz := (0, 0)) List.mem_cons_self rfl) ?_
 refine .drop (A := QL m room s mk mes' clock' ++ e.seg) (J := [(n1, Obj.cells #[.string e.key, .slice e.v.a e.v.len e.v.cap, .i e.freq] 179), (e.id, K3 e (C8 none []) (C6 s none))]) ⟨rfl, _, rfl, mk, mes', clock', rfl, hm', ok.sub (p := [])⟩ ?_
 classical
 rw [List.perm_iff_count]
 intro x
 simp only [List.nil_append, List.append_nil, List.count_append, List.count_cons, List.count_nil]
 omega
structure Reg where
 b : Int
 ep : Int
 nx : Int
 l : List It
abbrev QD := ByteArray × List UInt8 × Int
structure SC where
 c : Cfg
 sets : Int
 ways : Int
 small : Int
 ghost : Int
 rate : Int
 burst : Int
 seed : Int
structure Sto where
 sc : SC
 d : Dev
 ss : List BS
 rs : List Reg
 op : Option Reg
 bk : Bk
 epoch : Int
 pend : List It
 down : Bool
 q : List QD
 gh : List Int
 ix : List (List C9)
def T3 (c : Cfg) : Cf := ((c.B : Int), (c.P : Int), (c.S : Int), (c.W : Int), ())
def Sto.us (s : Sto) : List Int := s.rs.map Reg.b ++ (s.op.map Reg.b).toList
def Sto.hash (s : Sto) (key : ByteArray) : Nat := (Bi5 s.sc.seed key.data.toList).toNat
def Sto.cost (s : Sto) (n : Int) : Int := n * s.sc.c.S
def Sto.pays (s : Sto) (n : Int) : Bool := decide (s.bk.tokens ≥ s.cost n)
def Sto.fits (s : Sto) (n : Int) : Bool := match s.op with | none => false | some o => decide (o.nx + n < s.sc.c.P)
def Sto.met (s : Sto) (e : Int) : Sto := { s with down := s.down || decide (e = 11) }
def Sto.pay (s : Sto) (n : Int) : Sto := { s with bk := Aa9 s.bk (s.cost n) }
def Sto.dev (s : Sto) (d : Dev) : Sto := { s with d := d }
def Reg.grown (o : Reg) (kind : Int) (n : Nat) : Reg := { o with nx := o.nx + n, l := o.l ++ [(kind, o.nx, (n : Int), ())] }
def Sto.write (s : Sto) (kind : Int) (parts : List (List UInt8)) : Sto × It × Int :=
 match s.op with
 | none => (s, (0, 0, 0, ()), 0)
 | some o =>
  let q := Ax0 s.d o.b o.ep o.nx kind parts
  let s1 := (s.pay parts.length).dev q.2
  if q.1 ≠ 0 then (s1.met q.1, (o.b, o.nx, o.ep, ()), q.1) else ({ s1 with op := some (o.grown kind parts.length) }, (o.b, o.nx, o.ep, ()), 0)
def Sto.seals (s : Sto) : Sto × Int :=
 match s.op with
 | none => (s, 0)
 | some o =>
  let q := Ab2 s.d o.b o.ep o.nx o.l
  (({ (s.pay 1).dev q.2 with op := none, rs := s.rs ++ [o] }).met q.1, q.1)
def Sto.begins (s : Sto) (b : Int) : Sto × Int :=
 let q := Ag2 s.d b (s.epoch + 1)
 let s1 := (s.pay 1).dev q.2
 if q.1 ≠ 0 then (s1.met q.1, q.1) else ({ s1 with epoch := s.epoch + 1, op := some ⟨b, s.epoch + 1, 1, []⟩ }, 0)
def Sto.erase (s : Sto) (b : Int) : Sto × Int :=
 let q := J8 s.d b
 if q.1 = 11 then ((s.dev q.2).met 11, 11) else
 ({ s.dev q.2 with ss := if H7 s.ss b = true then Ag6 s.ss b (T7 (decide (q.1 = 10))) else s.ss, rs := s.rs.filter fun r => !decide (r.b = b) }, 0)
def Sto.list (s : Sto) (key : ByteArray) (p : It) : Sto :=
 let h := s.hash key
 { s with ix := Cr8 s.ix s.sc.ways h p, pend := if Z9 (G3 (O2 s.ix h) (inm h p)) s.sc.ways = true then s.pend ++ [(B67 (O2 s.ix h) s.sc.ways h p).pl] else s.pend }
def Sto.ixdrop (s : Sto) (h : Nat) (p : It) : Sto := { s with ix := iset s.ix h (G3 (O2 s.ix h) (inm h p)) }
def Sto.move (s : Sto) (p : It) (n beside : Int) : Sto × Int :=
 let f := C7 s.d p
 let h := s.hash (An5 f.1)
 if f.2.2 ≠ 0 \/ p ∉ P0 (O2 s.ix h) h then (s, 0) else
 if At8 s.ix h p = 0 \/ s.fits (n + beside) = false \/ s.pays (n + beside) = false then (s.ixdrop h p, 0) else
 let c := T0 f.1 f.2.1 (T3 s.sc.c)
 if c.2 ≠ 0 then (s, c.2) else
 let w := s.write 2 c.1
 if w.2.2 = 0 then ({ w.1 with ix := At6 w.1.ix h p w.2.1 }, 0) else (w.1, w.2.2)
def Sto.moves (b ep beside : Int) : List It -> Sto -> Sto × Int
 | [], s => (s, 0)
 | x :: r, s => if x.1 ≠ 2 then Sto.moves b ep beside r s else
  let w := s.move (b, x.2.1, ep, ()) x.2.2.1 beside
  if w.2 ≠ 0 then w else Sto.moves b ep beside r w.1
def Sto.reclaim (s : Sto) (h : Reg) (beside : Int) : Sto × Int :=
 let w := Sto.moves h.b h.ep beside h.l s
 if w.2 ≠ 0 then w else Sto.erase { w.1 with pend := w.1.pend.filter fun p => !decide (p.1 = h.b) } h.b
def Sto.free (s : Sto) : Int := A01 s.ss s.us
def Sto.frees (n : Int) : Nat -> Sto -> Sto × Int
 | 0, s => (s, 0)
 | k + 1, s => if s.free = 0 then (match s.rs with
  | [] => (s, 0)
  | h :: _ => let w := s.reclaim h n
   if w.2 ≠ 0 then w else Sto.frees n k w.1) else (s, 0)
def Sto.badAt (s : Sto) (b : Int) : Bool := match s.d.bs[b.toNat]? with | some k => k.bad | none => false
def Sto.sealN (s : Sto) : Int := match s.op with | none => 0 | some _ => 1
def Sto.more (s : Sto) (n : Int) : Sto × Int :=
 if s.pays (n + 1 + s.sealN) = false then (s, 13) else
 if s.epoch ≥ 1073741824 then (s, 7) else
 if s.free = 0 then (match s.rs with
  | [] => (s, 7)
  | h :: _ => s.reclaim h n) else
 let w := s.seals
 if w.2 ≠ 0 then w else
 let p := F5 w.1.ss w.1.us
 let z := if p.2.1.dirty then w.1.erase p.2.2 else (w.1, 0)
 if z.2 ≠ 0 then z else
 if p.2.1.dirty = true /\ z.1.badAt p.2.2 = true then (z.1, 0) else
 let y := z.1.begins p.2.2
 if y.2 ≠ 0 then y else Sto.frees n (y.1.rs.length + 1) y.1
def Sto.room (n : Int) : Nat -> Sto -> Sto × Int
 | 0, s => (s, 13)
 | k + 1, s => if s.fits n = true then (if s.pays n = true then (s, 0) else (s, 13)) else
  let w := s.more n
  if w.2 ≠ 0 then w else Sto.room n k w.1
def Sto.mu (s : Sto) : Nat := s.bk.tokens.toNat * 1000 + s.ss.length * 20 + s.us.length
def Sto.roomy (s : Sto) (n : Int) : Sto × Int := Sto.room n (s.mu + 1) s
def Sto.adm (s : Sto) (key : ByteArray) (val : List UInt8) : Sto × Int :=
 let c := T0 key.data.toList val (T3 s.sc.c)
 if c.2 ≠ 0 then (s, c.2) else
 let w := s.roomy c.1.length
 if w.2 ≠ 0 then w else
 let z := w.1.write 2 c.1
 if z.2.2 = 0 then (z.1.list key z.2.1, 0) else (z.1, z.2.2)
def Sto.place (s : Sto) (key : ByteArray) : Option It := (P0 (O2 s.ix (s.hash key)) (s.hash key)).find? fun p => decide ((C7 s.d p).2.2 = 0 /\ An5 (C7 s.d p).1 = key)
def Y0 (l : List QD) (k : ByteArray) : Option QD := l.find? fun e => decide (k = e.1)
def Aa2 (l : List QD) (k : ByteArray) : List QD := l.eraseP fun e => decide (k = e.1)
def An9 (l : List QD) (k : ByteArray) : List QD := l.map fun e => if e.1 = k then (e.1, e.2.1, Y1 (e.2.2 + 1) 3) else e
def Bq1 (l : List QD) : Nat := (l.map fun e => e.1.size + e.2.1.length).sum
def Sto.forget (s : Sto) (key : ByteArray) : Sto × Bool :=
 let s1 := { s with q := Aa2 s.q key }
 match s1.place key with
 | none => (s1, (Y0 s.q key).isSome)
 | some p => ({ s1.ixdrop (s.hash key) p with pend := s.pend ++ [p] }, true)
def Sto.trim : Nat -> Sto -> Sto × Int
 | 0, s => (s, 0)
 | k + 1, s => if (Bq1 s.q : Int) > s.sc.small then (match s.q with
  | [] => (s, 0)
  | y :: r =>
   let s1 := { s with q := r }
   let w := if y.2.2 > 0 then s1.adm y.1 y.2.1 else (s1, 8)
   if w.2 = 0 then Sto.trim k w.1 else if w.2 = 11 then w else Sto.trim k { w.1 with gh := Cc8 s.sc.ghost w.1.gh (s.hash y.1) }) else (s, 0)
def Sto.asked (s : Sto) (key : ByteArray) : Int := if s.down = true then 11 else if key.size = 0 \/ key.size > 255 then 2 else 0
def Sto.putYoung (s : Sto) (key : ByteArray) (val : List UInt8) : Sto × Int := Sto.trim (s.q.length + 2) { s with q := Aa2 s.q key ++ [(key, val, 0)] }
def Sto.put (s : Sto) (key : ByteArray) (val : List UInt8) : Sto × Int :=
 if s.asked key ≠ 0 then (s, s.asked key) else
 if val.length > 65536 then (s, 4) else
 let s1 := (s.forget key).1
 if H1 key.size val.length (T3 s.sc.c) = 0 then (s1, 14) else
 let h := s.hash key
 if (h : Int) ∈ s1.gh then
  let s2 := { s1 with gh := s1.gh.erase (h : Int) }
  let w := s2.adm key val
  if w.2 = 0 \/ w.2 = 11 then w else w.1.putYoung key val
 else s1.putYoung key val
def Sto.get (s : Sto) (key : ByteArray) : Sto × List UInt8 × Int :=
 if s.asked key ≠ 0 then (s, [], s.asked key) else
 match Y0 s.q key with
 | some e => ({ s with q := An9 s.q key }, e.2.1, 0)
 | none => match s.place key with
  | none => (s, [], 8)
  | some p => ({ s with ix := iset s.ix (s.hash key) (An8 (O2 s.ix (s.hash key)) (inm (s.hash key) p)) }, (C7 s.d p).2.1, 0)
def Sto.delete (s : Sto) (key : ByteArray) : Sto × Bool × Int := if s.asked key ≠ 0 then (s, false, s.asked key) else ((s.forget key).1, (s.forget key).2, 0)
def Sto.flushes : Nat -> Sto -> Sto × Int
 | 0, s => (s, 0)
 | k + 1, s => match s.pend with
  | [] => (s, 0)
  | p :: r =>
   let w := s.roomy 1
   if w.2 ≠ 0 then w else
   let n := min w.1.pend.length (D7 w.1.sc.c.S / 6).toNat
   if n = 0 then (w.1, 0) else
   let l := V0 (w.1.pend.take n)
   if l.2 ≠ 0 then (w.1, l.2) else
   let z := w.1.write 3 [l.1]
   if z.2.2 ≠ 0 then (z.1, z.2.2) else Sto.flushes k { z.1 with pend := z.1.pend.drop n }
def Sto.flush (s : Sto) : Sto × Int := if s.down = true then (s, 11) else Sto.flushes (s.pend.length + 1) s
def Sto.tick (s : Sto) (now : Int) : Sto := if s.down = true then s else { s with bk := An2 s.bk now }
def Sto.has (s : Sto) (key : ByteArray) : Int := if s.asked key ≠ 0 then 0 else if (Y0 s.q key).isSome then 1 else if (s.place key).isSome then 2 else 0
theorem _root_.Go.HL.CallF.imp {P : Program} {f : FuncId} {args : Array Value} {L : A4} {K K' : Value -> HP} (h : CallF P f args L K) (hk : ∀ v L', K v L' -> K' v L') : CallF P f args L K' := CallF.mono h fun v L' _ hK => hk v L' hK
def QE.dat (e : QE) : QD := (e.key, e.val, e.freq)
def QHd (m : Nat) (room : Int) (l : List QD) (A : A4) : Prop := ∃ l' : List QE, QH m room l' A /\ l'.map QE.dat = l
theorem Aj1 (l : List QE) (k : ByteArray) : Y0 (l.map QE.dat) k = (W0 l k).map QE.dat := by
 unfold Y0 W0
 rw [List.find?_map]; rfl
theorem Bd8 (l : List QE) (k : ByteArray) : Aa2 (l.map QE.dat) k = (Ar6 l k).map QE.dat := by
 unfold Aa2 Ar6
 rw [List.eraseP_map]; rfl
theorem B97 (l : List QE) (k : ByteArray) : An9 (l.map QE.dat) k = (Bh4 l k).map QE.dat := by
 unfold An9 Bh4
 rw [List.map_map, List.map_map]
 refine List.map_congr_left fun e _ => ?_
 by_cases h : e.key = k
 ·simp [Function.comp, QE.dat, Ao0, h]
 ·simp [Function.comp, QE.dat, Ao0, h]
theorem Cm9 (l : List QE) : Bq1 (l.map QE.dat) = Q3 l := by
 unfold Bq1 Q3
 rw [List.map_map]; rfl
theorem Ch1 (room : Int) : CallF PP 97 #[.i room] [] fun r L' => ∃ m, r = .pointer (some ⟨m, 0, none⟩) /\ QHd m (Ab4 room 0) [] L' :=
 (Cx5 room).imp fun r L' ⟨m, e, h⟩ => ⟨m, e, [], h, rfl⟩
theorem B17 (m : Nat) (room : Int) (l : List QD) (A : A4) (h : QHd m room l A) (k : ByteArray) :
  CallF PP 105 #[.pointer (some ⟨m, 0, none⟩), .string k] A fun r L' => r = .bool (Y0 l k).isSome /\ QHd m room (Aa2 l k) L' := by
 obtain ⟨l', h, rfl⟩ := h
 refine (Bm8 m room l' A h k).imp ?_
 rintro r L' ⟨rfl, h'⟩
 refine ⟨by rw [Aj1, Option.isSome_map], _, h', (Bd8 l' k).symm⟩
theorem Cg9 (m : Nat) (room : Int) (l : List QD) (A A0 : A4) (h : QHd m room l A) (hfew : l.length < 100000) (k : ByteArray) (hk : k.size <= 100000) (v : SlV) (b : List UInt8) (hv : BSl A0 v b) (hb : b.length <= 100000) :
  CallF PP 50 #[.pointer (some ⟨m, 0, none⟩), .string k, .slice v.a v.len v.cap] (A ++ A0) fun r L' => r = .tuple #[] /\ ∃ A', L' = A' ++ A0 /\ QHd m room (Aa2 l k ++ [(k, b, 0)]) A' := by
 obtain ⟨l', h, rfl⟩ := h
 rw [List.length_map] at hfew
 refine (Cx3 m room l' A A0 h hfew k hk v b hv hb).imp ?_
 rintro r L' ⟨rfl, A', e, rfl, h', rfl, rfl, hf⟩
 refine ⟨rfl, A', rfl, _, h', ?_⟩
 rw [Bd8, List.map_append]
 simp [QE.dat, hf]
theorem Ch4 (m : Nat) (room : Int) (l : List QD) (A : A4) (h : QHd m room l A) (k : ByteArray) :
  CallF PP 59 #[.pointer (some ⟨m, 0, none⟩), .string k] A fun r L' => ∃ (u : SlV) (seg A' : A4), r = .tuple #[.slice u.a u.len u.cap, .bool (Y0 l k).isSome] /\ L' = seg ++ A' /\ Own u 1 tyb (bvs (((Y0 l k).map fun e => e.2.1).getD [])) seg /\ QHd m room (An9 l k) A' := by
 obtain ⟨l', h, rfl⟩ := h
 refine (Cx8 m room l' A h k).imp ?_
 rintro r L' ⟨u, seg, A', rfl, rfl, o, h'⟩
 refine ⟨u, seg, A', by rw [Aj1, Option.isSome_map], rfl, ?_, _, h', (B97 l' k).symm⟩
 rw [Aj1, Option.map_map]; exact o
theorem Ch3 (m : Nat) (room : Int) (l : List QD) (A : A4) (h : QHd m room l A) (k : ByteArray) : Reads PP 52 #[.pointer (some ⟨m, 0, none⟩), .string k] A (.bool (Y0 l k).isSome) := by
 obtain ⟨l', h, rfl⟩ := h
 rw [Aj1, Option.isSome_map]; exact Cx7 m room l' A h k
theorem Ch2 (m : Nat) (room : Int) (l : List QD) (A : A4) (h : QHd m room l A) : Reads PP 70 #[.pointer (some ⟨m, 0, none⟩)] A (.i l.length) := by
 obtain ⟨l', h, rfl⟩ := h
 rw [List.length_map]; exact Cx6 m room l' A h
theorem B16 (m : Nat) (room : Int) (l : List QD) (A : A4) (h : QHd m room l A) : Reads PP 113 #[.pointer (some ⟨m, 0, none⟩)] A (.bool (decide ((Bq1 l : Int) > room))) := by
 obtain ⟨l', h, rfl⟩ := h
 rw [Cm9]; exact Cg8 m room l' A h
theorem Ch0 (m : Nat) (room : Int) (e : QD) (s : List QD) (A : A4) (h : QHd m room (e :: s) A) :
  CallF PP 114 #[.pointer (some ⟨m, 0, none⟩)] A fun r L' => ∃ (u : SlV) (seg A' : A4), r = .tuple #[.agg #[.string e.1, .slice u.a u.len u.cap, .i e.2.2], .bool true] /\ L' = A' ++ seg /\ BSl seg u e.2.1 /\ QHd m room s A' := by
 obtain ⟨l', h, hl⟩ := h
 cases l' with
 | nil => cases hl
 | cons x r =>
  injection hl with h1 h2
  subst h1; subst h2
  have ok : QOk (x :: r) := by obtain ⟨mk, mes, clock, rfl, hm, ok⟩ := h; exact ok
  refine (Cx4 m room x r A h).imp ?_
  rintro _ L' ⟨rfl, A', rfl, h'⟩
  exact ⟨x.v, x.seg, A', rfl, rfl, (ok.own x (by simp)).sl, r, h', rfl⟩
theorem set_cl (n : Nat) (room : Int) (l0 l : List Int) (o : Obj) (h : GOb room l0 o) (v : SlV) (seg : A4) (hs : ISl seg v .u64 l) (hl : l.length <= 64) :
  CallF PP 109 #[.pointer (some ⟨n, 0, none⟩), .slice v.a v.len v.cap] ((n, o) :: seg) fun r L' => r = .tuple #[] /\ ∃ o', L' = (n, o') :: seg /\ GOb room l o' := by
 refine CallF.of (args := [.pointer (some ⟨n, 0, none⟩), .slice v.a v.len v.cap]) B5 B6 Tryz.func109 (e109 (some ⟨n, 0, none⟩) v _) ?_
 unfold t109
 obtain ⟨c, f, rfl, hsz, h0, h65, h66, hf, hl0, hr⟩ := h
 have hlen := hs.len
 refine A5 rfl (J5 (l' := 0) (h' := 64) (m' := 64) rfl rfl rfl (by omega) (by omega) (Nat.le_refl _) ?_)
 have hmin : min v.len 64 = l.length := by omega
 have htk : (ivs .u64 l).take (min v.len 64 * 1) = ivs .u64 l := by rw [hmin]; exact List.take_of_length_le (by rw [K9]; omega)
 refine Ca0 (A := []) (B := seg) (b := n) (off := 1) (T := 256) (fz := (0, 0)) (c := c) (v := N9 ⟨some (Addr.add ⟨n, 0, none⟩ 1), 64, 64⟩ (0 : Nat) (64 : Nat) (64 : Nat) 1) (vs := v) (ws := ivs .u64 l) (sz := 1) Cm8.und (by kernel_rfl) rfl hs.cons (Ac6 _ _) ?_ (.inl (Nat.le_refl _)) ?_
 ·simp only [N9, Int.toNat_natCast]; omega
 ·have hvl : (N9 ⟨some (Addr.add ⟨n, 0, none⟩ 1), 64, 64⟩ (0 : Nat) (64 : Nat) (64 : Nat) 1).len = 64 := rfl
  rw [hvl, htk, hmin]
  have w1 := Aa6 (ivs .u64 l) c 1
  have w1s := M2 (ivs .u64 l) c 1
  generalize wr c 1 (ivs .u64 l) = c1 at w1 w1s ⊢
  refine A5 rfl (E3 (n := n) (off := 65) [] seg rfl rfl (by rw [w1s, hsz]; exact (show 66 <= 67 by decide)) (.inl (Nat.le_refl _)) (c1.setIfInBounds 65 (.i 0)) rfl ?_)
  refine A5 rfl (E3 (n := n) (off := 66) [] seg rfl rfl (by rw [Array.size_setIfInBounds, w1s, hsz]; exact Nat.le_refl 67) (.inl (Nat.le_refl _)) ((c1.setIfInBounds 65 (.i 0)).setIfInBounds 66 (.i l.length)) rfl ?_)
  rw [K9] at w1
  refine .of ⟨rfl, _, rfl, _, 0, rfl, by simp [w1s, hsz], ?_, ?_, ?_, by omega, hl, ?_⟩
  ·rw [K1 _ _ _ _ (by rw [Array.size_setIfInBounds]; omega), K1 _ _ _ _ (by omega), if_neg (by omega), if_neg (by omega), w1 _ (by omega), if_neg (by omega)]; exact h0
  ·rw [K1 _ _ _ _ (by rw [Array.size_setIfInBounds]; omega), K1 _ _ _ _ (by omega), if_neg (by omega), if_pos rfl]; rfl
  ·rw [K1 _ _ _ _ (by rw [Array.size_setIfInBounds]; omega), if_pos rfl]
  ·intro i x hx
   have hi := (List.getElem?_eq_some_iff.1 hx).1
   have hm : (0 + i) % 64 = i := by omega
   rw [hm, K1 _ _ _ _ (by rw [Array.size_setIfInBounds]; omega), K1 _ _ _ _ (by omega), if_neg (by omega), if_neg (by omega), w1 _ (by omega), if_pos (by omega), show 1 + i - 1 = i by omega]
   rw [List.getElem?_eq_getElem hi] at hx
   rw [B59 hi, Option.some.inj hx]
theorem B95 (n : Nat) (room : Int) (l : List Int) (o : Obj) (h : GOb room l o) (x : Int) :
  CallF PP 48 #[.pointer (some ⟨n, 0, none⟩), .int .u64 x] [(n, o)] fun r L' => r = .bool (decide (x ∈ l)) /\ ∃ o', L' = [(n, o')] /\ GOb room (l.erase x) o' := by
 refine CallF.of (args := [.pointer (some ⟨n, 0, none⟩), .int .u64 x]) B5 B6 Tryz.func48 (e48 (some ⟨n, 0, none⟩) x _) ?_
 unfold t48
 have hl : l.length <= 64 := by obtain ⟨_, _, _, _, _, _, _, _, hl, _⟩ := h; exact hl
 refine ifF rfl ?_
 refine H4 [] [] (Ct8 n room l o h) rfl ?_
 rintro w A' - ⟨s, seg, rfl, rfl, own⟩
 refine ⟨(s, ()), rfl, ?_⟩
 refine H4 [(n, o)] [] (Bn2 seg s l own.sl (by omega) x) (by simp) ?_
 rintro w A' - ⟨rfl, i, rfl, hst⟩
 refine ⟨(i, ()), rfl, ?_⟩
 refine B9 (fun (h1 : i < 0) => ?_) (fun (h1 : ¬ i < 0) => ?_)
 ·have hx : x ∉ l := fun e => by have := hst.mem.2 e; omega
  refine .drop (A := [(n, o)]) (J := A') ⟨by rw [decide_eq_false hx], o, rfl, by rw [List.erase_of_not_mem hx]; exact h⟩ (by simp)
 ·rcases hst with ⟨rfl, _⟩ | ⟨k, rfl, hk, hx, hn⟩
  ·omega
  ·have hw : IntKind.i64.wrap ((k : Int) + 1) = (k : Int) + 1 := C1 (by omega) (by omega)
   simp only [hw]
   refine H4 [(n, o)] [] (del_cl s l A' own (by omega) k hk) (by simp) ?_
   rintro w A2 - ⟨s2, rfl, own2⟩
   rw [<- Be9.erase hk hx hn] at own2
   refine ⟨(s2, ()), rfl, ?_⟩
   have hle := Bd2 l x
   refine H4 [] [] (set_cl n room l (l.erase x) o h s2 A2 own2.sl (by omega)) (by simp) ?_
   rintro w A3 - ⟨rfl, o', rfl, ho'⟩
   refine ⟨(), rfl, ?_⟩
   have hxl : x ∈ l := List.mem_of_getElem? hx
   exact .drop (A := [(n, o')]) (J := A2) ⟨by rw [decide_eq_true hxl], o', rfl, ho'⟩ (by simp)
theorem has_cl (n : Nat) (room : Int) (l : List Int) (o : Obj) (h : GOb room l o) (x : Int) :
  Reads PP 40 #[.pointer (some ⟨n, 0, none⟩), .int .u64 x] [(n, o)] (.bool (decide (x ∈ l))) := by
 refine Reads.of (args := [.pointer (some ⟨n, 0, none⟩), .int .u64 x]) B5 B6 Tryz.func40 (e40 (some ⟨n, 0, none⟩) x _) ?_
 unfold t40
 have hl : l.length <= 64 := by obtain ⟨_, _, _, _, _, _, _, _, hl, _⟩ := h; exact hl
 refine ifT rfl ?_
 refine H4 [] [] (Ct8 n room l o h) rfl ?_
 rintro w A' - ⟨s, seg, rfl, rfl, own⟩
 refine ⟨(s, ()), rfl, ?_⟩
 refine H4 [(n, o)] [] (Bn2 seg s l own.sl (by omega) x) (by simp) ?_
 rintro w A' - ⟨rfl, i, rfl, hst⟩
 refine ⟨(i, ()), rfl, .drop (A := [(n, o)]) (J := A') ⟨?_, rfl⟩ (by simp)⟩
 congr 1
 exact decide_eq_decide.2 hst.mem
theorem B09 {room : Int} {l : List Int} {c : Array Value} {f : Nat} (hsz : c.size = 67) (h0 : c[0]? = some (.i room)) (h65 : c[65]? = some (.i f)) (hf : f < 64) (hl : l.length < 64)
  (hr : ∀ (i : Nat) (x : Int), l[i]? = some x -> c[1 + (f + i) % 64]? = some (.int .u64 x)) (x : Int) :
  GOb room (l ++ [x]) (.cells ((c.setIfInBounds (1 + (f + l.length) % 64) (.int .u64 x)).setIfInBounds 66 (.i ((l.length : Int) + 1))) 256) := by
 have hm : (f + l.length) % 64 < 64 := Nat.mod_lt _ (by omega)
 refine ⟨_, f, rfl, by simp [hsz], ?_, ?_, ?_, hf, by rw [List.length_append]; simp only [List.length_cons, List.length_nil]; omega, ?_⟩
 ·rw [K1 _ _ _ _ (by simp [hsz]), K1 _ _ _ _ (by omega), if_neg (by omega), if_neg (by omega)]; exact h0
 ·rw [K1 _ _ _ _ (by simp [hsz]), K1 _ _ _ _ (by omega), if_neg (by omega), if_neg (by omega)]; exact h65
 ·rw [K1 _ _ _ _ (by simp [hsz]), if_pos rfl, List.length_append]; rfl
 ·intro i y hy
  have hmi : (f + i) % 64 < 64 := Nat.mod_lt _ (by omega)
  have hi := (List.getElem?_eq_some_iff.1 hy).1
  rw [List.length_append] at hi
  simp only [List.length_cons, List.length_nil] at hi
  rw [K1 _ _ _ _ (by simp [hsz]), if_neg (by omega), K1 _ _ _ _ (by omega)]
  by_cases he : i = l.length
  ·subst he
   rw [if_pos rfl]
   simp at hy
   rw [hy]
  ·rw [if_neg (by omega)]
   rw [List.getElem?_append_left (by omega)] at hy
   exact hr i y hy
theorem add_cl (n : Nat) (room : Int) (l : List Int) (o : Obj) (h : GOb room l o) (h1 : (l.length : Int) <= room) (h2 : room <= 64) (x : Int) :
  CallF PP 115 #[.pointer (some ⟨n, 0, none⟩), .int .u64 x] [(n, o)] fun r L' => r = .tuple #[] /\ ∃ o', L' = [(n, o')] /\ GOb room (Cc8 room l x) o' := by
 refine CallF.of (args := [.pointer (some ⟨n, 0, none⟩), .int .u64 x]) B5 B6 Tryz.func115 (e115 (some ⟨n, 0, none⟩) x _) ?_
 unfold t115
 have hroom : D0 ⟨n, 0, none⟩ [.i room] [(n, o)] := by
  obtain ⟨c, f, rfl, hsz, h0, _⟩ := h
  exact ldC List.mem_cons_self h0
 refine ifF rfl (A5 rfl (A6 room hroom ?_))
 refine W7 (fun (he : room = 0) => ?_) (fun (hne : room ≠ 0) => ?_)
 ·have hl : l = [] := List.length_eq_zero_iff.1 (by omega)
  subst hl he
  exact .of ⟨rfl, o, rfl, h⟩
 refine H4 [] [] (B95 n room l o h x) rfl ?_
 rintro w A' - ⟨rfl, o1, rfl, ho1⟩
 refine ⟨(decide (x ∈ l), ()), rfl, ?_⟩
 have hel := Bd2 l x
 unfold Cc8
 generalize l.erase x = e at ho1 hel ⊢
 clear hroom h
 have hle : ((e ++ [x]).length : Int) = e.length + 1 := by rw [List.length_append]; rfl
 rw [hle]
 refine Y6 (fun y L' => ∃ (c : Array Value) (f : Nat) (l' : List Int), L' = [(n, Obj.cells c 256)] /\ c.size = 67 /\ c[0]? = some (.i room) /\ c[65]? = some (.i f) /\ c[66]? = some (.i l'.length) /\ f < 64 /\ l'.length < 64 /\
   (∀ (i : Nat) (x : Int), l'[i]? = some x -> c[1 + (f + i) % 64]? = some (.int .u64 x)) /\ l' ++ [x] = if ((e.length : Int) + 1) > room then (e ++ [x]).drop 1 else e ++ [x]) ?_ ?_
 ·rintro y L' ⟨c, f, l', rfl, hsz, h0, h65, h66, hf, hl', hr, he⟩
  have hw : IntKind.i64.wrap ((f : Int) + l'.length) = ((f + l'.length : Nat) : Int) := by rw [C1 (by omega) (by omega)]; omega
  have hmod : Int.tmod ((f + l'.length : Nat) : Int) 64 = (((f + l'.length) % 64 : Nat) : Int) := by rw [Int.tmod_eq_emod_of_nonneg (by omega)]; omega
  have hm : (f + l'.length) % 64 < 64 := Nat.mod_lt _ (by omega)
  refine A5 rfl (A5 rfl (A5 rfl (A6 (f : Int) (ldC List.mem_cons_self h65) (A6 (l'.length : Int) (ldC List.mem_cons_self h66) (Y3 (by decide) ?_)))))
  simp only [hw, hmod, Int.toNat_natCast, Nat.mul_one]
  refine E0 (by omega) (by omega) (E3 (n := n) (off := 1 + (f + l'.length) % 64) [] [] (by rw [N2 (ad := ⟨n, 0, none⟩) rfl, N2 rfl, Nat.zero_add]) rfl (by simp only [List.length_cons, List.length_nil]; omega) (.inl (Nat.le_refl _)) _ rfl ?_)
  have g66 : (c.setIfInBounds (1 + (f + l'.length) % 64) (.int .u64 x))[66]? = some (.i l'.length) := by
   rw [K1 _ _ _ _ (by omega), if_neg (by omega)]; exact h66
  refine A5 rfl (A6 (l'.length : Int) (ldC List.mem_cons_self g66) (A5 rfl (E3 (n := n) (off := 66) [] [] rfl rfl (by simp [hsz, M2]) (.inl (Nat.le_refl _)) _ rfl ?_)))
  refine .of ⟨rfl, _, rfl, ?_⟩
  rw [<- he]
  have := B09 hsz h0 h65 hf hl' hr x
  simp only [C1 (n := (l'.length : Int) + 1) (by omega) (by omega)]
  exact this
 ·intro j hj
  obtain ⟨c, f, rfl, hsz, h0, h65, h66, hf, hl', hr⟩ := ho1
  refine A5 rfl (A5 rfl (A6 (e.length : Int) (ldC List.mem_cons_self h66) (A6 room (ldC List.mem_cons_self h0) ?_)))
  refine W7 (fun (he : (e.length : Int) = room) => ?_) (fun (he : (e.length : Int) ≠ room) => ?_)
  ·have hw : IntKind.i64.wrap ((f : Int) + 1) = ((f + 1 : Nat) : Int) := by rw [C1 (by omega) (by omega)]; omega
   have hmod : Int.tmod ((f + 1 : Nat) : Int) 64 = (((f + 1) % 64 : Nat) : Int) := by rw [Int.tmod_eq_emod_of_nonneg (by omega)]; omega
   refine A5 rfl (A6 (f : Int) (ldC List.mem_cons_self h65) (Y3 (by decide) ?_))
   simp only [hw, hmod]
   refine A5 rfl (E3 (n := n) (off := 65) [] [] rfl rfl (by simp [hsz]) (.inl (Nat.le_refl _)) (c.setIfInBounds 65 (.i (((f + 1) % 64 : Nat) : Int))) rfl ?_)
   have g66 : (c.setIfInBounds 65 (.i (((f + 1) % 64 : Nat) : Int)))[66]? = some (.i e.length) := by
    rw [K1 _ _ _ _ (by omega), if_neg (by omega)]; exact h66
   refine A5 rfl (A6 (e.length : Int) (ldC List.mem_cons_self g66) (A5 rfl (E3 (n := n) (off := 66) [] [] rfl rfl (by simp [hsz]) (.inl (Nat.le_refl _)) _ rfl (hj _ _ ?_))))
   cases e with
   | nil => simp at he; omega
   | cons a r =>
    have hlr : (((a :: r).length : Nat) : Int) = (r.length : Int) + 1 := by simp
    have hm : (f + 1) % 64 < 64 := Nat.mod_lt _ (by omega)
    simp only [List.length_cons] at hl' hel
    refine ⟨_, (f + 1) % 64, r, rfl, ?_, ?_, ?_, ?_, hm, by omega, ?_, ?_⟩
    ·simp [M2, hsz]
    ·show ((c.setIfInBounds 65 _).setIfInBounds 66 _)[0]? = _
     rw [K1 _ _ _ _ (by simp [hsz]), K1 _ _ _ _ (by omega), if_neg (by omega), if_neg (by omega)]; exact h0
    ·show ((c.setIfInBounds 65 _).setIfInBounds 66 _)[65]? = _
     rw [K1 _ _ _ _ (by simp [hsz]), K1 _ _ _ _ (by omega), if_neg (by omega), if_pos rfl]
    ·show ((c.setIfInBounds 65 _).setIfInBounds 66 _)[66]? = _
     rw [K1 _ _ _ _ (by simp [hsz]), if_pos rfl, hlr, C1 (by omega) (by omega)]
     congr 2; omega
    ·intro i y hy
     show ((c.setIfInBounds 65 _).setIfInBounds 66 _)[1 + ((f + 1) % 64 + i) % 64]? = _
     have hmi : ((f + 1) % 64 + i) % 64 < 64 := Nat.mod_lt _ (by omega)
     rw [K1 _ _ _ _ (by simp [hsz]), K1 _ _ _ _ (by omega), if_neg (by omega), if_neg (by omega)]
     have := hr (i + 1) y (by simpa using hy)
     rw [<- this]
     congr 2
     omega
    ·rw [if_pos (by omega)]; rfl
  ·refine hj _ _ ⟨c, f, e, rfl, hsz, h0, h65, h66, hf, by omega, hr, ?_⟩
   rw [if_neg (by omega)]
theorem C19 (room : Int) : CallF PP 98 #[.i room] [] fun r L' => ∃ n o, r = .pointer (some ⟨n, 0, none⟩) /\ L' = [(n, o)] /\ GOb (Y1 (Ab4 room 0) 64) [] o := by
 refine CallF.of (args := [.i room]) B5 B6 Tryz.func98 (e98 room _) ?_
 unfold t98
 refine C3 fun n _ => .of ⟨n, _, rfl, rfl, _, 0, rfl, rfl, rfl, rfl, rfl, by omega, by simp, fun i x h => by simp at h⟩
structure SP where
 n : Nat
 m : Nat
 nb : Nat
 nk : Nat
 nr : Nat
 nq : Nat
 ng : Nat
 ni : Nat
structure RN where
 r : Reg
 id : Nat
 v : SlV
 seg : A4
def RN.o (x : RN) : Nat × Obj := (x.id, Obj.cells #[.i x.r.b, .i x.r.ep, .i x.r.nx, .slice x.v.a x.v.len x.v.cap] 156)
def RN.objs (x : RN) : A4 := x.o :: x.seg
def RN.Ok (x : RN) : Prop := Own x.v 3 Bv6 (x.r.l.flatMap N7) x.seg
def rns (l : List RN) : A4 := l.flatMap RN.objs
theorem B08 (a b : List RN) : rns (a ++ b) = rns a ++ rns b := List.flatMap_append
theorem Ak1 (a : RN) : rns [a] = a.objs := by simp [rns]
def RN.ptr (x : RN) : Option Addr := some ⟨x.id, 0, none⟩
def T9 (l : List RN) : List (Int × Value) := l.map fun x => (x.r.b, .pointer x.ptr)
def onp (o : Option RN) : Option Addr := match o with | none => none | some x => x.ptr
structure SG where
 ns : List RN
 on : Option RN
 es : Array MapEntry
 ck : Nat
 pv : SlV
 pseg : A4
 Ad : A4
 Ab : A4
 Aq : A4
 Ai : A4
 go : Obj
def SG.all (g : SG) : List RN := g.ns ++ g.on.toList
def stC (p : SP) (sc : SC) (op : Option Addr) (epoch : Int) (pv : SlV) (down : Bool) : List Value :=
  [.i sc.c.B, .i sc.c.P, .i sc.c.S, .i sc.c.W, .i sc.sets, .i sc.ways, .i sc.small, .i sc.ghost, .i sc.rate, .i sc.burst, .i sc.seed,
   .pointer (some ⟨p.m, 0, none⟩), .pointer (some ⟨p.nb, 0, none⟩), .pointer (some ⟨p.nk, 0, none⟩), .map (some p.nr), .pointer op, .i epoch, .slice pv.a pv.len pv.cap, .bool down,
   .pointer (some ⟨p.nq, 0, none⟩), .pointer (some ⟨p.ng, 0, none⟩), .pointer (some ⟨p.ni, 0, none⟩)]
def stO (p : SP) (s : Sto) (g : SG) : Nat × Obj := (p.n, Obj.cells (stC p s.sc (onp g.on) s.epoch g.pv s.down).toArray 89)
def kO (p : SP) (s : Sto) : Nat × Obj := (p.nk, A02 s.bk)
def mO (p : SP) (g : SG) : Nat × Obj := (p.nr, Obj.map g.es g.ck)
def gO (p : SP) (g : SG) : Nat × Obj := (p.ng, g.go)
def SL (p : SP) (s : Sto) (g : SG) : A4 := stO p s g :: (kO p s :: (mO p g :: (gO p g :: (g.Ad ++ (g.Ab ++ (rns g.ns ++ (rns g.on.toList ++ (g.pseg ++ (g.Aq ++ g.Ai)))))))))
structure SX (p : SP) (s : Sto) (g : SG) : Prop where
 cfg : s.d.c = s.sc.c
 dev : FH p.m s.d g.Ad
 blk : BX p.nb s.ss s.us g.Ab
 que : QHd p.nq s.sc.small s.q g.Aq
 gho : GOb s.sc.ghost s.gh g.go
 idx : IX p.ni s.sc.ways s.ix g.Ai
 mp : Mp (Value.i) g.es (T9 g.all)
 rs : g.ns.map RN.r = s.rs
 op : g.on.map RN.r = s.op
 ok : ∀ x ∈ g.all, x.Ok
 pd : Own g.pv 3 Av5 (s.pend.flatMap N7) g.pseg
def Has (L A : A4) : Prop := ∃ Y, L.Perm (A ++ Y)
theorem Reads.has {P : Program} {f : FuncId} {args : Array Value} {L A : A4} {v : Value} (h : Has L A) (r : Reads P f args A v) : Reads P f args L v := by
 obtain ⟨Y, hp⟩ := h
 intro E F w hw
 refine Calls.mono (CallF.frame (R := Y) r E F w (hw.perm (hp.append_right F))) ?_
 rintro e w' ⟨v', L', he, hw', A', rfl, hv, hA'⟩
 subst hv
 rw [hA'] at hw'
 exact ⟨v', L, he, hw'.perm (hp.symm.append_right F), rfl, rfl⟩
theorem has_of {P : Program} {f : FuncId} {args : Array Value} {L A : A4} {v : Value} (h : Has L A) (r : CallF P f args A fun r L' => r = v /\ L' = A) : Reads P f args L v := Reads.has h r
section
variable {p : SP} {s : Sto} {g : SG} {L R : A4}
theorem SL.st (hp : L.Perm (SL p s g ++ R)) : stO p s g ∈ L := hp.symm.subset (by simp [SL])
theorem SL.k (hp : L.Perm (SL p s g ++ R)) : kO p s ∈ L := hp.symm.subset (by simp [SL])
theorem SL.m (hp : L.Perm (SL p s g ++ R)) : mO p g ∈ L := hp.symm.subset (by simp [SL])
theorem SL.gh (hp : L.Perm (SL p s g ++ R)) : Has L [gO p g] := ⟨stO p s g :: (kO p s :: (mO p g :: (g.Ad ++ (g.Ab ++ (rns g.ns ++ (rns g.on.toList ++ (g.pseg ++ (g.Aq ++ (g.Ai ++ R))))))))), pc fun z => by have := pcn hp z; simp only [SL, B7, C5, D8] at *; omega⟩
theorem SL.d (hp : L.Perm (SL p s g ++ R)) : Has L g.Ad := ⟨stO p s g :: (kO p s :: (mO p g :: (gO p g :: (g.Ab ++ (rns g.ns ++ (rns g.on.toList ++ (g.pseg ++ (g.Aq ++ (g.Ai ++ R))))))))), pc fun z => by have := pcn hp z; simp only [SL, B7, C5, D8] at *; omega⟩
theorem SL.b (hp : L.Perm (SL p s g ++ R)) : Has L g.Ab := ⟨stO p s g :: (kO p s :: (mO p g :: (gO p g :: (g.Ad ++ (rns g.ns ++ (rns g.on.toList ++ (g.pseg ++ (g.Aq ++ (g.Ai ++ R))))))))), pc fun z => by have := pcn hp z; simp only [SL, B7, C5, D8] at *; omega⟩
theorem SL.q (hp : L.Perm (SL p s g ++ R)) : Has L g.Aq := ⟨stO p s g :: (kO p s :: (mO p g :: (gO p g :: (g.Ad ++ (g.Ab ++ (rns g.ns ++ (rns g.on.toList ++ (g.pseg ++ (g.Ai ++ R))))))))), pc fun z => by have := pcn hp z; simp only [SL, B7, C5, D8] at *; omega⟩
theorem SL.i (hp : L.Perm (SL p s g ++ R)) : Has L g.Ai := ⟨stO p s g :: (kO p s :: (mO p g :: (gO p g :: (g.Ad ++ (g.Ab ++ (rns g.ns ++ (rns g.on.toList ++ (g.pseg ++ (g.Aq ++ R))))))))), pc fun z => by have := pcn hp z; simp only [SL, B7, C5, D8] at *; omega⟩
theorem SL.ps (hp : L.Perm (SL p s g ++ R)) : ∀ x ∈ g.pseg, x ∈ L := fun x hx => hp.symm.subset (by simp [SL, hx])
theorem SL.rn (hp : L.Perm (SL p s g ++ R)) {x : RN} (hx : x ∈ g.all) : ∀ y ∈ x.objs, y ∈ L := fun y hy => hp.symm.subset (by
 rcases List.mem_append.1 hx with h | h
 ·have : y ∈ rns g.ns := List.mem_flatMap.2 ⟨x, h, hy⟩
  simp [SL, this]
 ·have : y ∈ rns g.on.toList := List.mem_flatMap.2 ⟨x, h, hy⟩
  simp [SL, this])
theorem E8 {k : Nat} {v : Value} (hm : stO p s g ∈ L) (h : (stC p s.sc (onp g.on) s.epoch g.pv s.down)[k]? = some v) : D0 ⟨p.n, k, none⟩ [v] L := by
 unfold stO at hm
 exact ldC hm (by rw [List.getElem?_toArray]; exact h)
theorem Ce4 (hm : stO p s g ∈ L) : D0 ⟨p.n, 0, none⟩ [.i s.sc.c.B, .i s.sc.c.P, .i s.sc.c.S, .i s.sc.c.W] L := ldB hm rfl
theorem st1 {n k : Nat} {cs : List Value} {T : TypeId} {v : Value} {Y : A4} {K : HP} (cs' : List Value) (hL : L.Perm ((n, Obj.cells cs.toArray T) :: Y)) (hk : k < cs.length) (hc : cs.set k v = cs') (h : ∀ L', L'.Perm ((n, Obj.cells cs'.toArray T) :: Y) -> K L') : HL.st ⟨n, k, none⟩ [v] K L := by
 refine Bs2 (fz := (0, 0)) hL rfl (by simp only [List.size_toArray, List.length_cons, List.length_nil]; omega) (.inl (Nat.le_refl _)) cs'.toArray ?_ h
 show cs.toArray.setIfInBounds k v = _
 rw [List.setIfInBounds_toArray, hc]
end
theorem Z4 {L : A4} {m : Nat} {d : Dev} {A : A4} (hA : Has L A) (h : FH m d A) : Reads PP 93 #[.pointer (some ⟨m, 0, none⟩)] L (.agg #[.i d.c.B, .i d.c.P, .i d.c.S, .i d.c.W]) := has_of hA (Aj2 m d A h)
theorem Bb5 (l : List Int) (x : Int) : (l ++ [x]).sum = l.sum + x := by simp
theorem B61 {l : List Int} {b : Nat} (h : ∀ x ∈ l, 0 <= x /\ x <= b) : 0 <= l.sum /\ l.sum <= l.length * b := by
 induction l with
 | nil => simp
 | cons a r ih =>
  have h1 := h a (by simp)
  have h2 := ih fun x hx => h x (by simp [hx])
  rw [List.sum_cons, List.length_cons, Int.natCast_add, Int.add_mul]
  omega
theorem A51 {L R : A4} {p : SP} {s : Sto} {g : SG} (hp : L.Perm (SL p s g ++ R)) (X : SX p s g) (hS : s.sc.c.S <= 512) (v : SlV) (l : List Int) (hv : ISl L v .i64 l) (hl : l.length <= 10) (hb : ∀ x ∈ l, 0 <= x /\ x <= (1000000 : Nat)) :
  Reads PP 134 #[.pointer (some ⟨p.n, 11, none⟩), .slice v.a v.len v.cap] L (.i (s.cost l.sum)) := by
 unfold Reads
 refine c134 (some ⟨p.n, 11, none⟩) v ?_
 unfold s134
 have hvl := hv.len
 refine G0 (fun z' z L' => ∃ i : Nat, i <= l.length /\ z' = l.length - i /\ z = ((l.take i).sum, (i : Int), ()) /\ L' = L) l.length ⟨0, by omega, by omega, rfl, rfl⟩ ?_
 rintro z' z L' ⟨i, hi, rfl, rfl, hL'⟩
 rw [hL']
 dsimp only
 have hle : ∀ j, 0 <= (l.take j).sum /\ (l.take j).sum <= 10000000 := fun j => by
  have h1 := B61 (l := l.take j) (b := 1000000) fun x hx => hb x (List.mem_of_mem_take hx)
  have h2 : (l.take j).length <= 10 := by rw [List.length_take]; omega
  generalize (l.take j).sum = t at *
  generalize (l.take j).length = u at *
  have : (u : Int) * (1000000 : Nat) <= 10000000 := by omega
  omega
 refine C0 (fun (hlt : (i : Int) < v.len) => ?_) (fun (hge : ¬ (i : Int) < v.len) => ?_)
 ·have hi' : i < l.length := by omega
  refine elp_i hv (n := i) rfl hi' fun a ha => A6 l[i] ha ?_
  have h1 := hle i
  have h2 := hle (i + 1)
  have h3 := hb l[i] (List.getElem_mem hi')
  refine D9 (by omega) (D9 (by omega) ⟨l.length - (i + 1), by omega, i + 1, by omega, rfl, ?_, rfl⟩)
  rw [List.take_succ_eq_append_getElem hi', Bb5]; rfl
 ·obtain rfl : i = l.length := by omega
  rw [List.take_length]
  have h1 := hle l.length
  rw [List.take_length] at h1
  refine A5 rfl (A6 (some ⟨p.m, 0, none⟩) (E8 (SL.st hp) rfl) (B3 (Z4 (SL.d hp) X.dev) ((s.d.c.B, s.d.c.P, s.d.c.S, s.d.c.W, ()), ()) rfl ?_))
  dsimp only
  rw [X.cfg]
  have h2 : 0 <= l.sum * (s.sc.c.S : Int) /\ l.sum * (s.sc.c.S : Int) <= 10000000 * 512 := ⟨Int.mul_nonneg h1.1 (by omega), Int.mul_le_mul h1.2 (by omega) (by omega) (by omega)⟩
  exact D9 (by omega) (.of ⟨rfl, rfl⟩)
theorem Bh9 {L R : A4} {p : SP} {s : Sto} {g : SG} (hp : L.Perm (SL p s g ++ R)) (X : SX p s g) (hS : s.sc.c.S <= 512) (v : SlV) (l : List Int) (hv : ISl L v .i64 l) (hl : l.length <= 10) (hb : ∀ x ∈ l, 0 <= x /\ x <= (1000000 : Nat)) :
  Reads PP 128 #[.pointer (some ⟨p.n, 11, none⟩), .slice v.a v.len v.cap] L (.bool (s.pays l.sum)) := by
 unfold Reads
 refine c128 (some ⟨p.n, 11, none⟩) v ?_
 unfold s128
 refine A5 rfl (A6 (some ⟨p.nk, 0, none⟩) (E8 (SL.st hp) rfl) ?_)
 refine B3 (A71 L p.nk s.bk (SL.k hp)) (s.bk.tokens, ()) rfl ?_
 exact B3 (A51 hp X hS v l hv hl hb) (s.cost l.sum, ()) rfl (.of ⟨rfl, rfl⟩)
theorem B81 {L R : A4} {p : SP} {s : Sto} {g : SG} (hp : L.Perm (SL p s g ++ R)) (X : SX p s g) (hnx : ∀ o, s.op = some o -> 0 <= o.nx /\ o.nx <= 1000) (v : SlV) (l : List Int) (hv : ISl L v .i64 l) (hl : l.length <= 10) (hb : ∀ x ∈ l, 0 <= x /\ x <= (1000000 : Nat)) :
  Reads PP 126 #[.pointer (some ⟨p.n, 11, none⟩), .slice v.a v.len v.cap] L (.bool (s.fits l.sum)) := by
 unfold Reads
 refine c126 (some ⟨p.n, 11, none⟩) v ?_
 unfold s126
 have hop := X.op
 refine A5 rfl (A6 (onp g.on) (E8 (SL.st hp) rfl) ?_)
 cases hon : g.on with
 | none =>
  refine ifT rfl (.of ⟨?_, rfl⟩)
  rw [hon] at hop
  unfold Sto.fits
  rw [<- hop]; rfl
 | some x =>
  rw [hon] at hop
  have hx := hnx x.r hop.symm
  have hall : x ∈ g.all := by unfold SG.all; rw [hon]; simp
  have hm : x.o ∈ L := SL.rn hp hall _ (by unfold RN.objs; exact List.mem_cons_self)
  refine ifF rfl (A6 x.ptr (E8 (SL.st hp) (by rw [hon]; rfl)) (A5 (a := ⟨x.id, 0, none⟩) rfl ?_))
  refine A6 x.r.nx (ldB (n := x.id) (off := 2) hm rfl) ?_
  have hvl := hv.len
  refine G0 (fun z' z L' => ∃ i : Nat, i <= l.length /\ z' = l.length - i /\ z = (x.r.nx + (l.take i).sum, (i : Int), ()) /\ L' = L) l.length ⟨0, by omega, by omega, by simp, rfl⟩ ?_
  rintro z' z L' ⟨i, hi, rfl, rfl, hL'⟩
  rw [hL']
  dsimp only
  have hle : ∀ j, 0 <= (l.take j).sum /\ (l.take j).sum <= 10000000 := fun j => by
   have h1 := B61 (l := l.take j) (b := 1000000) fun x hx => hb x (List.mem_of_mem_take hx)
   have h2 : (l.take j).length <= 10 := by rw [List.length_take]; omega
   generalize (l.take j).sum = t at *
   generalize (l.take j).length = u at *
   have : (u : Int) * (1000000 : Nat) <= 10000000 := by omega
   omega
  refine C0 (fun (hlt : (i : Int) < v.len) => ?_) (fun (hge : ¬ (i : Int) < v.len) => ?_)
  ·have hi' : i < l.length := by omega
   refine elp_i hv (n := i) rfl hi' fun a ha => A6 l[i] ha ?_
   have h1 := hle i
   have h2 := hle (i + 1)
   have h3 := hb l[i] (List.getElem_mem hi')
   refine D9 (by omega) (D9 (by omega) ⟨l.length - (i + 1), by omega, i + 1, by omega, rfl, ?_, rfl⟩)
   rw [List.take_succ_eq_append_getElem hi', Bb5, Int.add_assoc]; rfl
  ·obtain rfl : i = l.length := by omega
   rw [List.take_length]
   refine A6 (some ⟨p.m, 0, none⟩) (E8 (SL.st hp) rfl) (B3 (Z4 (SL.d hp) X.dev) ((s.d.c.B, s.d.c.P, s.d.c.S, s.d.c.W, ()), ()) rfl (.of ⟨?_, rfl⟩))
   unfold Sto.fits
   rw [<- hop, X.cfg]
   rfl
theorem Cy2 (d : Dev) (i p : Nat) (k : Blk) (data : List UInt8) : (Aw1 d i p k data).2.c = d.c := by
 have := (W2 d).1
 unfold Aw1
 split <;> exact this
theorem Cq9 (d : Dev) (b p : Int) (data : List UInt8) : (prog d b p data).2.c = d.c := by
 unfold prog
 split
 ·rfl
 ·split
  ·rfl
  ·split
   ·rfl
   ·split
    ·rfl
    ·split
     ·rfl
     ·exact Cy2 ..
theorem A18 (d : Dev) (b : Int) (h : Hd) (p : List UInt8) : (U0 d b h p).2.c = d.c := by
 unfold U0
 split
 ·rfl
 ·exact Cq9 ..
theorem Ct7 (b ep at' kind n : Int) : ∀ (l : List (List UInt8)) (d : Dev) (i : Nat), (Bw6 b ep at' kind n d i l).2.c = d.c
 | [], d, i => rfl
 | p :: r, d, i => by
  unfold Bw6
  split
  ·rw [Ct7 b ep at' kind n r]; exact A18 ..
  ·exact A18 ..
theorem appR_c (d : Dev) (b ep at' kind : Int) (l : List (List UInt8)) : (Ax0 d b ep at' kind l).2.c = d.c := by
 unfold Ax0
 split
 ·rfl
 ·exact Ct7 ..
theorem Cz1 (d : Dev) (b ep : Int) : (Ag2 d b ep).2.c = d.c := A18 ..
theorem Cw7 (d : Dev) (b ep at' : Int) (l : List It) : (Ab2 d b ep at' l).2.c = d.c := by
 unfold Ab2
 split
 ·exact A18 ..
 ·rfl
theorem Bp7 (d : Dev) (b : Int) : (J8 d b).2.c = d.c := by
 have h0 := (Ax5 d).1
 unfold J8
 split
 ·rfl
 ·split
  ·rfl
  ·split
   ·rfl
   ·unfold Am6
    split <;> exact h0
structure DSt (d d' : Dev) (e : Int) : Prop where
 c : d'.c = d.c
 ok : S3 d'
 dn : d'.down = decide (e = 11)
 tn : d'.torn.length + (if d'.down = true then 0 else 1) <= d.torn.length + 1
 ln : d'.bs.length = d.bs.length
 wr : ∀ (i : Nat) k', d'.bs[i]? = some k' -> ∃ k, d.bs[i]? = some k /\ k'.wear = k.wear /\ k'.bad = k.bad
theorem DSt.same {d : Dev} (ok : S3 d) (hdn : d.down = false) {e : Int} (he : e ≠ 11) : DSt d d e := ⟨rfl, ok, by rw [hdn]; exact (decide_eq_false he).symm, by rw [hdn]; simp, rfl, fun i k h => ⟨k, h, rfl, rfl⟩⟩
theorem DSt.then {d d1 d2 : Dev} {e : Int} (h1 : DSt d d1 0) (h2 : DSt d1 d2 e) : DSt d d2 e := by
 have hd1 : d1.down = false := by rw [h1.dn]; rfl
 refine ⟨h2.c.trans h1.c, h2.ok, h2.dn, ?_, h2.ln.trans h1.ln, fun i k' hk' => ?_⟩
 ·have := h1.tn
  have := h2.tn
  rw [hd1] at *
  simp at *
  omega
 ·obtain ⟨k1, e1, w1, b1⟩ := h2.wr i k' hk'
  obtain ⟨k, e0, w0, b0⟩ := h1.wr i k1 e1
  exact ⟨k, e0, w1.trans w0, b1.trans b0⟩
theorem A73 {d : Dev} (h : d.down = false) : (V9 d).2.down = (V9 d).1 := by
 unfold V9
 split
 ·exact h
 ·rfl
theorem Cy1 {d : Dev} (ok : S3 d) (hdn : d.down = false) (b p : Int) (data : List UInt8) : DSt d (prog d b p data).2 (prog d b p data).1 /\ ((prog d b p data).1 = 0 -> 0 <= p /\ p < d.c.P) := by
 have hok := B22 ok b p data
 have hc := Cq9 d b p data
 unfold prog at hok hc ⊢
 have hfe : H6 d b p ≠ 11 := by
  unfold H6
  rw [if_neg (by rw [hdn]; decide)]
  split
  ·decide
  ·split <;> decide
 by_cases hf : H6 d b p = 0
 ·rw [if_neg (by simpa using hf)] at hok hc ⊢
  have hp : 0 <= p /\ p < d.c.P := by
   unfold H6 at hf
   rw [if_neg (by rw [hdn]; decide)] at hf
   split at hf
   ·cases hf
   ·split at hf
    ·cases hf
    ·rename_i h; exact Decidable.not_not.1 h
  split
  ·exact ⟨.same (e := 2) ok hdn (by decide), fun h => absurd (show (2 : Int) = 0 from h) (by decide)⟩
  ·rename_i hlen
   rw [if_neg hlen] at hok hc
   split
   ·exact ⟨.same (e := 2) ok hdn (by decide), fun h => absurd (show (2 : Int) = 0 from h) (by decide)⟩
   ·rename_i k hk
    rw [hk] at hok hc
    dsimp only at hok hc
    split
    ·exact ⟨.same (e := 10) ok hdn (by decide), fun h => absurd (show (10 : Int) = 0 from h) (by decide)⟩
    ·rename_i hb
     rw [if_neg hb] at hok hc
     split
     ·exact ⟨.same (e := 9) ok hdn (by decide), fun h => absurd (show (9 : Int) = 0 from h) (by decide)⟩
     ·rename_i hn
      rw [if_neg hn] at hok hc
      have hcd : (J7 d).down = false := hdn
      have htd := A73 hcd
      obtain ⟨t1, t2, t3, t4⟩ := W2 d
      have wr : ∀ (img : List UInt8) (i : Nat) (k' : Blk), (d.bs.set b.toNat (k.put p.toNat img))[i]? = some k' -> ∃ k, d.bs[i]? = some k /\ k'.wear = k.wear /\ k'.bad = k.bad := fun img i k' hk' => by
       rw [List.getElem?_set] at hk'
       split at hk'
       ·rename_i hi
        split at hk'
        ·obtain rfl := Option.some.inj hk'
         exact ⟨k, hi ▸ hk, rfl, rfl⟩
        ·cases hk'
       ·exact ⟨k', hk', rfl, rfl⟩
      refine ⟨?_, fun _ => hp⟩
      unfold Aw1 at hok hc ⊢
      by_cases ht : (V9 (J7 d)).1 = true
      ·rw [if_pos ht] at hok hc ⊢
       refine ⟨hc, hok, ?_, ?_, by simp, wr _⟩
       ·show (V9 (J7 d)).2.down = _
        rw [htd, ht]; rfl
       ·show (d.torn ++ [_]).length + (if (V9 (J7 d)).2.down = true then 0 else 1) <= _
        rw [htd, ht, List.length_append]; simp
      ·rw [if_neg ht] at hok hc ⊢
       have ht : (V9 (J7 d)).1 = false := by simpa using ht
       refine ⟨hc, hok, ?_, ?_, by simp, wr _⟩
       ·show (V9 (J7 d)).2.down = _
        rw [htd, ht]; rfl
       ·show (V9 (J7 d)).2.torn.length + (if (V9 (J7 d)).2.down = true then 0 else 1) <= _
        rw [htd, ht, t3]; simp
 ·rw [if_pos hf]
  exact ⟨.same ok hdn hfe, fun h => absurd h hf⟩
theorem imgR_e (h : Hd) (p : List UInt8) (size : Int) : (At7 h p size).2 ≠ 11 := by
 unfold At7 Am3
 repeat' split
 all_goals simp
theorem A17 {d : Dev} (ok : S3 d) (hdn : d.down = false) (b : Int) (h : Hd) (p : List UInt8) : DSt d (U0 d b h p).2 (U0 d b h p).1 /\ ((U0 d b h p).1 = 0 -> 0 <= h.2.2.2.2.1 /\ h.2.2.2.2.1 < d.c.P) := by
 unfold U0
 split
 ·rename_i he
  exact ⟨.same ok hdn (imgR_e h p _), fun h => absurd h he⟩
 ·exact Cy1 ok hdn b _ _
theorem Cb6 (b ep at' kind n : Int) : ∀ (l : List (List UInt8)) {d : Dev} (i : Nat), S3 d -> d.down = false -> DSt d (Bw6 b ep at' kind n d i l).2 (Bw6 b ep at' kind n d i l).1 /\ ((Bw6 b ep at' kind n d i l).1 = 0 -> l ≠ [] -> 0 <= at' + i /\ at' + i + l.length <= d.c.P)
 | [], d, i, ok, hdn => ⟨.same (e := 0) ok hdn (by decide), fun _ h => absurd rfl h⟩
 | p :: r, d, i, ok, hdn => by
  have h1 := A17 ok hdn b (kind, i, n, ep, at' + i, ()) p
  unfold Bw6
  split
  ·rename_i h0
   have h2 := h1.2 h0
   have hst := h1.1
   rw [h0] at hst
   have h3 := Cb6 b ep at' kind n r (i + 1) hst.ok (by rw [hst.dn]; rfl)
   refine ⟨hst.then h3.1, fun he _ => ?_⟩
   have h4 := h3.2 he
   rw [hst.c] at h4
   simp only at h2
   refine ⟨h2.1, ?_⟩
   cases r with
   | nil => simp; omega
   | cons x y =>
    have := h4 (by simp)
    simp only [List.length_cons] at *
    omega
  ·rename_i h0
   exact ⟨h1.1, fun h => absurd h h0⟩
theorem C40 {d : Dev} (ok : S3 d) (hdn : d.down = false) (b ep at' kind : Int) (l : List (List UInt8)) : DSt d (Ax0 d b ep at' kind l).2 (Ax0 d b ep at' kind l).1 /\ ((Ax0 d b ep at' kind l).1 = 0 -> l ≠ [] /\ 0 <= at' /\ at' + l.length <= d.c.P) := by
 unfold Ax0
 split
 ·exact ⟨.same (e := 2) ok hdn (by decide), fun h => absurd (show (2 : Int) = 0 from h) (by decide)⟩
 ·rename_i hl
  have h := Cb6 b ep at' kind l.length l 0 ok hdn
  exact ⟨h.1, fun h0 => by have := h.2 h0 hl; simp at this; exact ⟨hl, by omega, by omega⟩⟩
theorem Ci4 {d : Dev} (ok : S3 d) (hdn : d.down = false) (b ep : Int) : DSt d (Ag2 d b ep).2 (Ag2 d b ep).1 := (A17 ok hdn _ _ _).1
theorem Cg0 {d : Dev} (ok : S3 d) (hdn : d.down = false) (b ep at' : Int) (l : List It) : DSt d (Ab2 d b ep at' l).2 (Ab2 d b ep at' l).1 := by
 unfold Ab2
 split
 ·exact (A17 ok hdn _ _ _).1
 ·exact .same (e := 3) ok hdn (by decide)
structure ESt (d d' : Dev) (b e : Int) : Prop where
 c : d'.c = d.c
 ok : S3 d'
 dn : d'.down = decide (e = 11)
 tn : d'.torn = d.torn
 ln : d'.bs.length = d.bs.length
 wr : e ≠ 11 -> ∀ (i : Nat) k', d'.bs[i]? = some k' -> ∃ k, d.bs[i]? = some k /\ ((((i : Int) = b /\ k.bad = false) /\ k'.wear = k.wear + 1 /\ k'.bad = decide (e = 10)) \/ (¬ ((i : Int) = b /\ k.bad = false) /\ k'.wear = k.wear /\ k'.bad = k.bad))
theorem B88 {d : Dev} (ok : S3 d) (hdn : d.down = false) (b : Int) : ESt d (J8 d b).2 b (J8 d b).1 := by
 have hok := Cm4 ok b
 have hc := Bp7 d b
 have ht := Bv5 d b
 have same : ∀ e : Int, e ≠ 11 -> (∀ (i : Nat) k, d.bs[i]? = some k -> ¬ ((i : Int) = b /\ k.bad = false)) -> ESt d d b e := fun e he hn => ⟨rfl, ok, by rw [hdn]; exact (decide_eq_false he).symm, rfl, rfl, fun _ i k h => ⟨k, h, .inr ⟨hn i k h, rfl, rfl⟩⟩⟩
 unfold J8 at hok hc ht ⊢
 have hP := ok.c.p
 by_cases hf : H6 d b 0 = 0
 ·rw [if_neg (by simpa using hf)] at hok hc ht ⊢
  have hb : 0 <= b /\ b < d.bs.length := by
   unfold H6 at hf
   rw [if_neg (by rw [hdn]; decide)] at hf
   split at hf
   ·cases hf
   ·rename_i h; exact Decidable.not_not.1 h
  have hbi : b.toNat < d.bs.length := by omega
  rw [List.getElem?_eq_getElem hbi] at hok hc ht ⊢
  dsimp only at hok hc ht ⊢
  by_cases hbad : d.bs[b.toNat].bad = true
  ·rw [if_pos hbad]
   refine same 10 (by decide) fun i k hk hh => ?_
   have : i = b.toNat := by omega
   subst this
   rw [List.getElem?_eq_getElem hbi] at hk
   obtain rfl := Option.some.inj hk
   rw [hbad] at hh
   exact absurd hh.2 (by decide)
  ·have hbf : d.bs[b.toNat].bad = false := by simpa using hbad
   rw [if_neg hbad] at hok hc ht ⊢
   have htd := A73 hdn
   unfold Am6 at hok hc ht ⊢
   by_cases hte : (V9 d).1 = true
   ·rw [if_pos hte] at hok hc ht ⊢
    refine ⟨hc, hok, ?_, ht, by simp, fun h => absurd rfl h⟩
    show (V9 d).2.down = _
    rw [htd, hte]; rfl
   ·have hte : (V9 d).1 = false := by simpa using hte
    rw [if_neg (by rw [hte]; decide)] at hok hc ht ⊢
    refine ⟨hc, hok, ?_, ht, by simp, fun _ i k' hk' => ?_⟩
    ·show (V9 d).2.down = _
     rw [htd, hte]
     split <;> rfl
    ·simp only at hk'
     rw [List.getElem?_set] at hk'
     split at hk'
     ·rename_i hi
      subst hi
      obtain rfl := Option.some.inj hk'
      refine ⟨d.bs[b.toNat], List.getElem?_eq_getElem hbi, .inl ⟨⟨by omega, hbf⟩, rfl, ?_⟩⟩
      unfold Blk.fresh
      simp only
      split <;> rename_i h <;> simp [h]
     ·rename_i hi
      exact ⟨k', hk', .inr ⟨fun h => hi (by omega), rfl, rfl⟩⟩
 ·rw [if_pos hf]
  unfold H6 at hf ⊢
  rw [if_neg (by rw [hdn]; decide)] at hf ⊢
  by_cases hr : 0 <= b /\ b < d.bs.length
  ·rw [if_neg (fun h => h hr), if_neg (by omega)] at hf
   exact absurd rfl hf
  ·rw [if_pos hr]
   refine same 2 (by decide) fun i k hk hh => ?_
   have := (List.getElem?_eq_some_iff.1 hk).1
   omega
def SK (p : SP) (w : Sto × Int) (R : A4) (r : Value) (L' : A4) : Prop := ∃ g', L' = SL p w.1 g' ++ R /\ SX p w.1 g' /\ r = .i w.2
def WK (p : SP) (w : Sto × It × Int) (ns : List RN) (R : A4) (r : Value) (L' : A4) : Prop := ∃ g', L' = SL p w.1 g' ++ R /\ SX p w.1 g' /\ g'.ns = ns /\ r = .tuple #[.agg #[.i w.2.1.1, .i w.2.1.2.1, .i w.2.1.2.2.1], .i w.2.2]
section
variable {p : SP} {s : Sto} {g : SG} {L R : A4}
theorem W3 (hp : L.Perm (SL p s g ++ R)) (key : ByteArray) (hk : key.size <= 1000000) : Reads PP 41 #[.pointer (some ⟨p.n, 0, none⟩), .string key] L (.int .u64 (s.hash key : Nat)) := by
 unfold Reads
 refine c41 (some ⟨p.n, 0, none⟩) key ?_
 unfold s41
 exact A5 rfl (A6 s.sc.seed (E8 (SL.st hp) rfl) (B3 (Cj1 L s.sc.seed key hk) (((s.hash key : Nat) : Int), ()) rfl (.of ⟨rfl, rfl⟩)))
theorem Au1 (s : Sto) (key : ByteArray) : s.hash key < 2 ^ 64 := by unfold Sto.hash; exact BitVec.isLt _
theorem By3 (hp : L.Perm (SL p s g ++ R)) : Reads PP 57 #[.pointer (some ⟨p.n, 0, none⟩)] L (.bool (!s.down)) := by
 unfold Reads
 refine c57 (some ⟨p.n, 0, none⟩) ?_
 unfold s57
 exact ifF rfl (A5 rfl (A6 s.down (E8 (SL.st hp) rfl) (.of ⟨rfl, rfl⟩)))
theorem Bg0 (L : A4) : Reads PP 57 #[.pointer none] L (.bool false) := by
 unfold Reads
 refine c57 none ?_
 unfold s57
 exact ifT rfl (.of ⟨rfl, rfl⟩)
theorem size0 (key : ByteArray) : key = ByteArray.mk #[] ↔ key.size = 0 := by
 constructor
 ·rintro rfl; rfl
 ·intro h
  cases key with
  | mk d =>
   have : d.size = 0 := h
   rw [Array.size_eq_zero_iff] at this
   rw [this]
theorem Ab7 (hp : L.Perm (SL p s g ++ R)) (key : ByteArray) : Reads PP 39 #[.pointer (some ⟨p.n, 0, none⟩), .string key] L (.i (s.asked key)) := by
 unfold Reads
 refine c39 (some ⟨p.n, 0, none⟩) key ?_
 unfold s39
 refine ifF rfl (A5 rfl (A6 s.down (E8 (SL.st hp) rfl) ?_))
 unfold Sto.asked
 refine G2 (fun h => ?_) (fun h => ?_)
 ·rw [if_pos h]; exact .of ⟨rfl, rfl⟩
 ·rw [if_neg (by rw [h]; decide)]
  refine C0 (fun h0 => ?_) (fun h0 => ?_)
  ·rw [if_pos (.inl ((size0 key).1 h0))]; exact .of ⟨rfl, rfl⟩
  ·refine C0 (fun (h1 : (key.size : Int) > 255) => ?_) (fun (h1 : ¬ (key.size : Int) > 255) => ?_)
   ·rw [if_pos (.inr (by omega))]; exact .of ⟨rfl, rfl⟩
   ·rw [if_neg (by rintro (h2 | h2); exact h0 ((size0 key).2 h2); omega)]; exact .of ⟨rfl, rfl⟩
theorem S1 (L : A4) (key : ByteArray) : Reads PP 39 #[.pointer none, .string key] L (.i 1) := by
 unfold Reads
 refine c39 none key ?_
 unfold s39
 exact ifT rfl (.of ⟨rfl, rfl⟩)
end
theorem Bg2 {p : SP} {s : Sto} {g : SG} {L Y : A4} {k : Nat} {v : Value} {K : HP} (s' : Sto) (g' : SG) (hL : L.Perm (stO p s g :: Y)) (hk : k < 22) (hc : (stC p s.sc (onp g.on) s.epoch g.pv s.down).set k v = stC p s'.sc (onp g'.on) s'.epoch g'.pv s'.down) (h : ∀ L', L'.Perm (stO p s' g' :: Y) -> K L') : HL.st ⟨p.n, k, none⟩ [v] K L := by
 unfold stO at hL
 exact st1 (stC p s'.sc (onp g'.on) s'.epoch g'.pv s'.down) hL (by simpa [stC] using hk) hc h
theorem Bm0 (p : SP) (s : Sto) (g : SG) (X : SX p s g) (e : Int) : CallF PP 136 #[.pointer (some ⟨p.n, 11, none⟩), .i e] (SL p s g) (fun r L' => L' = SL p (s.met e) g /\ SX p (s.met e) g /\ r = .i e) := by
 refine c136 (some ⟨p.n, 11, none⟩) e ?_
 unfold s136
 have fin : ∀ (b : Bool), b = (s.met e).down -> HL.st ⟨p.n, 18, none⟩ [.bool b] (HL.Ends (fun r L' => L' = SL p (s.met e) g /\ SX p (s.met e) g /\ r = .i e) (.i e)) (SL p s g) := fun b hb => by
  refine Bg2 (s.met e) g (List.Perm.refl _) (by decide) (by rw [hb]; rfl) fun L' hL' => ?_
  exact .drop (A := SL p (s.met e) g) (J := []) ⟨rfl, { X with cfg := X.cfg, dev := X.dev, blk := X.blk }, rfl⟩ (by rw [List.append_nil]; exact hL')
 refine A5 rfl (A6 s.down (E8 (s := s) (g := g) (k := 18) (by simp [SL]) rfl) (G2 (fun h => ?_) (fun h => ?_)))
 ·exact fin true (by unfold Sto.met; rw [h]; rfl)
 ·refine fin _ ?_
  unfold Sto.met
  rw [h, Bool.false_or]
  rfl
theorem Bg5 (p : SP) (s : Sto) (g : SG) (X : SX p s g) (e : Int) : CallF PP 136 #[.pointer (some ⟨p.n, 11, none⟩), .i e] (SL p s g) (SK p (s.met e, e) []) :=
 CallF.imp (Bm0 p s g X e) fun r L' ⟨h1, h2, h3⟩ => ⟨g, by rw [h1, List.append_nil], h2, h3⟩
theorem Bg4 {p : SP} {s : Sto} {g : SG} {L R : A4} (hp : L.Perm (SL p s g ++ R)) (hb : s.bk.Ok) (n : Int) {rs : List Sh} {k : RsV rs -> HP} (r : RsV rs) (hr : Value.bool (Al5 s.bk (s.cost n)) = Ab9 rs r) (hk : ∀ L', L'.Perm (SL p (s.pay n) g ++ R) -> k r L') :
  cl PP 133 #[.pointer (some ⟨p.nk, 0, none⟩), .i (s.cost n)] rs k L := by
 refine G9 (Cv1 p.nk s.bk hb (s.cost n)) (R := stO p s g :: (mO p g :: (gO p g :: (g.Ad ++ (g.Ab ++ (rns g.ns ++ (rns g.on.toList ++ (g.pseg ++ (g.Aq ++ (g.Ai ++ R)))))))))) (pc fun z => by have := pcn hp z; simp only [SL, kO, B7, C5, D8] at *; omega) ?_
 rintro _ _ ⟨rfl, rfl⟩
 refine ⟨_, List.Perm.refl _, r, hr, hk _ (pc fun z => ?_)⟩
 have e1 : kO p (s.pay n) = (p.nk, A02 (Aa9 s.bk (s.cost n))) := rfl
 have e2 : stO p (s.pay n) g = stO p s g := rfl
 simp only [SL, e1, e2, B7, C5, D8]
 omega
theorem SX.pay {p : SP} {s : Sto} {g : SG} (X : SX p s g) (n : Int) : SX p (s.pay n) g := { X with cfg := X.cfg, dev := X.dev, blk := X.blk }
theorem C31 (s : Sto) (n : Int) : s.cost n = s.cost [n].sum := by simp
theorem Aq0 (p : SP) (s : Sto) (g : SG) (X : SX p s g) (hS : s.sc.c.S <= 512) (hb : s.bk.Ok) (R : A4) (u : SlV) (l : List PV) (hu : U3 R u l) (hl : l.length <= 1000000) (G : DG s.d l.length) (o : Reg) (ho : s.op = some o) (hnx : 0 <= o.nx /\ o.nx <= 1000) (hol : o.l.length <= 1000) (kind : Int) :
  CallF PP 64 #[.pointer (some ⟨p.n, 11, none⟩), .i kind, .slice u.a u.len u.cap] (SL p s g ++ R) (WK p (s.write kind (l.map Prod.snd)) g.ns R) := by
 refine c64 (some ⟨p.n, 11, none⟩) kind u ?_
 unfold s64
 obtain ⟨x, hx, rfl⟩ : ∃ x, g.on = some x /\ x.r = o := by
  have := X.op
  rw [ho] at this
  cases h : g.on with
  | none => rw [h] at this; cases this
  | some x => rw [h] at this; exact ⟨x, rfl, Option.some.inj this⟩
 have hall : x ∈ g.all := by unfold SG.all; rw [hx]; simp
 have hul := hu.len
 have hmem : ∀ {s' : Sto} {L R' : A4}, L.Perm (SL p s' g ++ R') -> x.o ∈ L := fun hp => SL.rn hp hall _ (by unfold RN.objs; exact List.mem_cons_self)
 refine A5 rfl (A6 x.ptr (E8 (s := s) (g := g) (k := 15) (by simp [SL]) (by rw [hx]; rfl)) (A6 (some ⟨p.nk, 0, none⟩) (E8 (s := s) (g := g) (k := 13) (by simp [SL]) rfl) ?_))
 refine C3 fun n2 _ => ?_
 obtain ⟨c2, hc2⟩ : ∃ c2 : Nat × Obj, c2 = (n2, Obj.cells #[.i u.len] 3) := ⟨_, rfl⟩
 rw [<- hc2]
 have hp1 : (c2 :: (SL p s g ++ R)).Perm (SL p s g ++ (c2 :: R)) := pc fun z => by simp only [B7, C5]; omega
 have hc2m : (n2, Obj.cells (ivs .i64 [(u.len : Int)]).toArray 3) ∈ c2 :: (SL p s g ++ R) := by rw [hc2]; exact List.mem_cons_self
 refine B3 (A51 hp1 X hS ⟨some ⟨n2, 0, none⟩, 1, 1⟩ [(u.len : Int)] (ISl.const 1 (by simp) hc2m) (by simp) (fun y hy => by rw [List.mem_singleton.1 hy]; omega)) (s.cost (u.len : Int), ()) (by rw [<- C31]; rfl) ?_
 refine E9 (E8 (SL.st hp1) rfl) ?_
 refine Bg4 hp1 hb (u.len : Int) (Al5 s.bk (s.cost u.len), ()) rfl fun L2 hp2 => ?_
 have X2 := X.pay (u.len : Int)
 have hm2 := hmem hp2
 refine A5 (a := ⟨x.id, 0, none⟩) rfl ?_
 have f0 : ∀ {L : A4}, x.o ∈ L -> D0 ⟨x.id, 0, none⟩ [.i x.r.b] L := fun hm => ldB hm rfl
 have f1 : ∀ {L : A4}, x.o ∈ L -> D0 ⟨x.id, 1, none⟩ [.i x.r.ep] L := fun hm => ldB hm rfl
 have f2 : ∀ {L : A4}, x.o ∈ L -> D0 ⟨x.id, 2, none⟩ [.i x.r.nx] L := fun hm => ldB hm rfl
 have f3 : ∀ {L : A4}, x.o ∈ L -> D0 ⟨x.id, 3, none⟩ [.slice x.v.a x.v.len x.v.cap] L := fun hm => ldB hm rfl
 refine A6 x.r.b (f0 hm2) (A6 x.r.nx (f2 hm2) (A6 x.r.ep (f1 hm2) ?_))
 refine A6 (some ⟨p.m, 0, none⟩) (E8 (SL.st hp2) rfl) (A6 x.r.b (f0 hm2) (A6 x.r.ep (f1 hm2) (A6 x.r.nx (f2 hm2) ?_)))
 have hG : DG (s.pay u.len).d l.length := G
 refine Aw8 (Cb5 p.m (s.pay u.len).d g.Ad (stO p s g :: (kO p (s.pay u.len) :: (mO p g :: (gO p g :: (g.Ab ++ (rns g.ns ++ (rns g.on.toList ++ (g.pseg ++ (g.Aq ++ (g.Ai ++ (c2 :: R))))))))))) X2.dev u l (hu.mono fun y hy => by simp [hy]) hl hG x.r.b x.r.ep x.r.nx kind (A65 (by omega)))
  (pc fun z => by have := pcn hp2 z; simp only [SL, show stO p (s.pay (u.len : Int)) g = stO p s g from rfl, B7, C5, D8] at *; omega) ?_
 rintro _ _ ⟨A', rfl, rfl, hA'⟩
 have e0 : (s.pay (u.len : Int)).d = s.d := rfl
 rw [e0] at hA'
 refine ⟨((Ax0 s.d x.r.b x.r.ep x.r.nx kind (l.map Prod.snd)).1, ()), by rw [e0]; rfl, ?_⟩
 have hw : s.write kind (l.map Prod.snd) = (if (Ax0 s.d x.r.b x.r.ep x.r.nx kind (l.map Prod.snd)).1 ≠ 0 then (((s.pay (l.map Prod.snd).length).dev (Ax0 s.d x.r.b x.r.ep x.r.nx kind (l.map Prod.snd)).2).met (Ax0 s.d x.r.b x.r.ep x.r.nx kind (l.map Prod.snd)).1, (x.r.b, x.r.nx, x.r.ep, ()), (Ax0 s.d x.r.b x.r.ep x.r.nx kind (l.map Prod.snd)).1)
   else ({ (s.pay (l.map Prod.snd).length).dev (Ax0 s.d x.r.b x.r.ep x.r.nx kind (l.map Prod.snd)).2 with op := some (x.r.grown kind (l.map Prod.snd).length) }, (x.r.b, x.r.nx, x.r.ep, ()), 0)) := by
  unfold Sto.write; rw [ho]
 have hlm : (l.map Prod.snd).length = u.len := by rw [List.length_map]; omega
 rw [hw, hlm]
 have hqc : (Ax0 s.d x.r.b x.r.ep x.r.nx kind (l.map Prod.snd)).2.c = s.d.c := appR_c s.d x.r.b x.r.ep x.r.nx kind (l.map Prod.snd)
 generalize Ax0 s.d x.r.b x.r.ep x.r.nx kind (l.map Prod.snd) = q at hA' hqc
 obtain ⟨s2, hs2⟩ : ∃ s2, s2 = (s.pay (u.len : Int)).dev q.2 := ⟨_, rfl⟩
 have g2X : SX p s2 { g with Ad := A' } := by subst hs2; exact { X2 with cfg := hqc.trans X.cfg, dev := hA', blk := X2.blk }
 have hp3 : (A' ++ (stO p s g :: (kO p (s.pay u.len) :: (mO p g :: (gO p g :: (g.Ab ++ (rns g.ns ++ (rns g.on.toList ++ (g.pseg ++ (g.Aq ++ (g.Ai ++ (c2 :: R)))))))))))).Perm (SL p s2 { g with Ad := A' } ++ (c2 :: R)) := by
  subst hs2
  exact pc fun z => by
   simp only [SL, show stO p ((s.pay (u.len : Int)).dev q.2) { g with Ad := A' } = stO p s g from rfl, show kO p ((s.pay (u.len : Int)).dev q.2) = kO p (s.pay (u.len : Int)) from rfl, show mO p { g with Ad := A' } = mO p g from rfl, show gO p { g with Ad := A' } = gO p g from rfl, B7, C5, D8]
   omega
 generalize A' ++ (stO p s g :: (kO p (s.pay u.len) :: (mO p g :: (gO p g :: (g.Ab ++ (rns g.ns ++ (rns g.on.toList ++ (g.pseg ++ (g.Aq ++ (g.Ai ++ (c2 :: R))))))))))) = L3 at hp3
 rw [<- hs2]
 refine C0 (fun (h0 : q.1 = 0) => ?_) (fun (h0 : ¬ q.1 = 0) => ?_)
 ·rw [if_neg (by simpa using h0)]
  have hall2 : x ∈ ({ g with Ad := A' } : SG).all := hall
  have hm3 : x.o ∈ L3 := SL.rn hp3 hall2 _ (by unfold RN.objs; exact List.mem_cons_self)
  refine A6 x.v (f3 hm3) (A6 x.r.nx (f2 hm3) ?_)
  have hok := X.ok x hall
  have hvl := hok.sl.els_len E1 (by decide)
  have hrn : rns g.on.toList = x.o :: x.seg := by rw [hx]; exact Ak1 x
  refine Af6 Bk1 By8 hok (Y := stO p s2 { g with Ad := A' } :: (kO p s2 :: (mO p g :: (gO p g :: (A' ++ (g.Ab ++ (rns g.ns ++ (x.o :: (g.pseg ++ (g.Aq ++ (g.Ai ++ (c2 :: R)))))))))))) (ws := N7 (kind, x.r.nx, (u.len : Int), ())) (pc fun z => by
    have := pcn hp3 z
    simp only [SL, hrn, show mO p { g with Ad := A' } = mO p g from rfl, show gO p { g with Ad := A' } = gO p g from rfl, B7, C5, D8] at *
    omega) rfl rfl (by omega) fun s1 seg1 hl1 own1 => ?_
  refine st1 (n := x.id) (k := 3) [.i x.r.b, .i x.r.ep, .i x.r.nx, .slice s1.a s1.len s1.cap] (cs := [.i x.r.b, .i x.r.ep, .i x.r.nx, .slice x.v.a x.v.len x.v.cap]) (T := 156) (Y := stO p s2 { g with Ad := A' } :: (kO p s2 :: (mO p g :: (gO p g :: (A' ++ (g.Ab ++ (rns g.ns ++ (seg1 ++ (g.pseg ++ (g.Aq ++ (g.Ai ++ (c2 :: R)))))))))))) (pc fun z => by
    rw [show x.o = (x.id, Obj.cells [Value.i x.r.b, .i x.r.ep, .i x.r.nx, .slice x.v.a x.v.len x.v.cap].toArray 156) from rfl]
    simp only [B7, C5, D8]
    omega) (by simp) rfl fun L4 hp4 => ?_
  have hm4 := hp4.symm.subset List.mem_cons_self
  refine A6 x.r.nx (ldB (n := x.id) (off := 2) hm4 rfl) (D9 (by omega) ?_)
  refine st1 (n := x.id) (k := 2) [.i x.r.b, .i x.r.ep, .i (x.r.nx + u.len), .slice s1.a s1.len s1.cap] hp4 (by simp) rfl fun L5 hp5 => ?_
  obtain ⟨x', hx'⟩ : ∃ x' : RN, x' = ⟨x.r.grown kind u.len, x.id, s1, seg1⟩ := ⟨_, rfl⟩
  have ho' : x'.o = (x.id, Obj.cells [Value.i x.r.b, .i x.r.ep, .i (x.r.nx + u.len), .slice s1.a s1.len s1.cap].toArray 156) := by rw [hx']; rfl
  obtain ⟨g', hg'⟩ : ∃ g' : SG, g' = { g with Ad := A', on := some x' } := ⟨_, rfl⟩
  have hst : stO p { s2 with op := some (x.r.grown kind u.len) } g' = stO p s2 { g with Ad := A' } := by
   unfold stO
   rw [hg']
   have : onp (some x') = onp g.on := by rw [hx, hx']; rfl
   simp only [this]
  refine .drop (A := SL p { s2 with op := some (x.r.grown kind u.len) } g' ++ R) (J := [c2]) ⟨g', rfl, ?_, by rw [hg'], rfl⟩ (pc fun z => ?_)
  ·subst hg'
   have hmap : T9 (g.ns ++ (some x').toList) = T9 (g.ns ++ g.on.toList) := by
    unfold T9
    rw [hx, List.map_append, List.map_append, hx']; rfl
   have hus : ({ s2 with op := some (x.r.grown kind u.len) } : Sto).us = s2.us := by
    unfold Sto.us
    rw [hs2]
    show s.rs.map Reg.b ++ _ = s.rs.map Reg.b ++ (s.op.map Reg.b).toList
    rw [ho]; rfl
   refine ⟨g2X.cfg, g2X.dev, by rw [hus]; exact g2X.blk, g2X.que, g2X.gho, g2X.idx, ?_, g2X.rs, by rw [hx']; rfl, ?_, g2X.pd⟩
   ·show Mp _ g.es (T9 (g.ns ++ (some x').toList))
    rw [hmap]; exact X.mp
   ·intro y hy
    rcases List.mem_append.1 hy with hy | hy
    ·exact X.ok y (List.mem_append_left _ hy)
    ·rw [List.mem_singleton.1 hy, hx']
     unfold RN.Ok
     show Own s1 3 Bv6 ((x.r.l ++ [(kind, x.r.nx, (u.len : Int), ())]).flatMap N7) seg1
     rw [List.flatMap_append, List.flatMap_singleton]; exact own1
  ·have h5 := pcn hp5 z
   rw [<- ho'] at h5
   have hrn' : rns g'.on.toList = x'.o :: seg1 := by rw [hg']; refine (Ak1 x').trans ?_; unfold RN.objs; rw [hx']
   have hk2 : kO p ({ s2 with op := some (x.r.grown kind u.len) } : Sto) = kO p s2 := rfl
   simp only [SL, hst, hrn', hk2, B7, C5, D8]
   simp only [hg', show mO p ({ g with Ad := A', on := some x' } : SG) = mO p g from rfl, show gO p ({ g with Ad := A', on := some x' } : SG) = gO p g from rfl, B7, C5, D8] at *
   omega
 ·rw [if_pos (by simpa using h0)]
  refine G9 (Bm0 p s2 { g with Ad := A' } g2X q.1) hp3 ?_
  rintro _ _ ⟨hL', X', rfl⟩
  rw [hL']
  exact ⟨_, List.Perm.refl _, (q.1, ()), rfl, .drop (A := SL p (s2.met q.1) { g with Ad := A' } ++ R) (J := [c2]) ⟨{ g with Ad := A' }, rfl, X', rfl, rfl⟩ (pc fun z => by simp only [B7, C5, D8]; omega)⟩
theorem mapR : Cc2 PP 79 3 80 (Value.i) (.pointer none) := A30 (by kernel_rfl) (keyInt (by kernel_rfl)) (by kernel_rfl)
theorem As5 {κ : Type} [DecidableEq κ] : ∀ (m : List (κ × Value)) (k : κ) (v : Value), k ∉ m.map Prod.fst -> Aw3 m k v = m ++ [(k, v)]
 | [], k, v, _ => rfl
 | p :: r, k, v, h => by
  rw [List.map_cons, List.mem_cons, not_or] at h
  rw [Aw3, if_neg h.1, As5 r k v h.2]; rfl
theorem Ba8 {κ : Type} [DecidableEq κ] : ∀ (m : List (κ × Value)) (k : κ), (m.map Prod.fst).Nodup -> A62 m k = m.filter fun p => !decide (p.1 = k)
 | [], k, _ => rfl
 | p :: r, k, h => by
  rw [List.map_cons, List.nodup_cons] at h
  rw [A62]
  by_cases e : k = p.1
  ·rw [if_pos e, List.filter_cons_of_neg (by simp [e])]
   symm
   rw [List.filter_eq_self]
   intro q hq
   have : q.1 ≠ k := fun e2 => h.1 (e ▸ e2 ▸ List.mem_map_of_mem hq)
   simp [this]
  ·rw [if_neg e, List.filter_cons_of_pos (by simp [Ne.symm e]), Ba8 r k h.2]
theorem Ay2 (l : List RN) : (T9 l).map Prod.fst = (l.map RN.r).map Reg.b := by unfold T9; rw [List.map_map, List.map_map]; rfl
theorem SX.keys {p : SP} {s : Sto} {g : SG} (X : SX p s g) : (T9 g.all).map Prod.fst = s.us := by
 rw [Ay2]
 unfold SG.all Sto.us
 rw [List.map_append, List.map_append, X.rs, <- X.op]
 cases g.on <;> rfl
theorem SX.one {p : SP} {s : Sto} {g : SG} (X : SX p s g) {o : Reg} (ho : s.op = some o) : ∃ x, g.on = some x /\ x.r = o := by
 have := X.op
 rw [ho] at this
 cases h : g.on with
 | none => rw [h] at this; cases this
 | some x => rw [h] at this; exact ⟨x, rfl, Option.some.inj this⟩
theorem SX.non {p : SP} {s : Sto} {g : SG} (X : SX p s g) (ho : s.op = none) : g.on = none := by
 have := X.op
 rw [ho] at this
 cases h : g.on with
 | none => rfl
 | some x => rw [h] at this; cases this
theorem Ce6 (p : SP) (s : Sto) (g : SG) (X : SX p s g) (hS : s.sc.c.S <= 512) (hb : s.bk.Ok) (G : DG s.d 1) (hol : ∀ o, s.op = some o -> o.l.length <= 300) :
  CallF PP 188 #[.pointer (some ⟨p.n, 11, none⟩)] (SL p s g) (SK p s.seals []) := by
 refine c188 (some ⟨p.n, 11, none⟩) ?_
 unfold s188
 refine A5 rfl (A6 (onp g.on) (E8 (s := s) (g := g) (k := 15) (by simp [SL]) rfl) ?_)
 cases ho : s.op with
 | none =>
  have hn := X.non ho
  refine ifT (by rw [hn]; rfl) (.of ?_)
  have e : s.seals = (s, 0) := by unfold Sto.seals; rw [ho]
  rw [e]
  exact ⟨g, by simp, X, rfl⟩
 | some o =>
  obtain ⟨x, hx, rfl⟩ := X.one ho
  have hall : x ∈ g.all := by unfold SG.all; rw [hx]; simp
  refine ifF (by rw [hx]; rfl) ?_
  obtain ⟨s0, hs0⟩ : ∃ s0 : Sto, s0 = { s with op := none, rs := s.rs ++ [x.r] } := ⟨_, rfl⟩
  obtain ⟨g0, hg0⟩ : ∃ g0 : SG, g0 = { g with ns := g.ns ++ [x], on := none } := ⟨_, rfl⟩
  have hga : g0.all = g.all := by rw [hg0]; unfold SG.all; rw [hx]; simp
  have hus : s0.us = s.us := by rw [hs0]; unfold Sto.us; rw [ho]; simp
  have X0 : SX p s0 g0 := by
   refine ⟨by rw [hs0]; exact X.cfg, by rw [hs0, hg0]; exact X.dev, ?_, by rw [hs0, hg0]; exact X.que, by rw [hs0, hg0]; exact X.gho, by rw [hs0, hg0]; exact X.idx, ?_, by rw [hs0, hg0]; simp [X.rs], by rw [hs0, hg0]; rfl, by rw [hga]; exact X.ok, by rw [hs0, hg0]; exact X.pd⟩
   ·rw [hus]
    have e1 : s0.ss = s.ss := by rw [hs0]
    have e2 : g0.Ab = g.Ab := by rw [hg0]
    rw [e1, e2]; exact X.blk
   ·rw [hga]
    have e2 : g0.es = g.es := by rw [hg0]
    rw [e2]; exact X.mp
  have hrn : rns g.on.toList = x.objs := by rw [hx]; exact Ak1 x
  refine Bg2 (s := s) (g := g) (k := 15) s0 g0 (Y := kO p s :: (mO p g :: (gO p g :: (g.Ad ++ (g.Ab ++ (rns g.ns ++ (x.objs ++ (g.pseg ++ (g.Aq ++ g.Ai))))))))) (by unfold SL; rw [hrn]) (by decide) (by rw [hs0, hg0]; rfl) fun L1 hp1 => ?_
  have hp1 : L1.Perm (SL p s0 g0 ++ []) := pc fun z => by
   have := pcn hp1 z
   have e1 : kO p s0 = kO p s := by rw [hs0]; rfl
   have e2 : mO p g0 = mO p g := by rw [hg0]; rfl
   have e3 : gO p g0 = gO p g := by rw [hg0]; rfl
   have e4 : rns g0.ns = rns g.ns ++ x.objs := by rw [hg0]; show rns (g.ns ++ [x]) = _; rw [B08, Ak1]
   have e5 : rns g0.on.toList = [] := by rw [hg0]; rfl
   have e6 : g0.Ad = g.Ad /\ g0.Ab = g.Ab /\ g0.pseg = g.pseg /\ g0.Aq = g.Aq /\ g0.Ai = g.Ai := by rw [hg0]; exact ⟨rfl, rfl, rfl, rfl, rfl⟩
   simp only [SL, e1, e2, e3, e4, e5, e6.1, e6.2.1, e6.2.2.1, e6.2.2.2.1, e6.2.2.2.2, B7, C5, D8] at *
   omega
  have hS0 : s0.sc.c.S <= 512 := by rw [hs0]; exact hS
  have hb0 : s0.bk.Ok := by rw [hs0]; exact hb
  refine A6 (some ⟨p.nk, 0, none⟩) (E8 (SL.st hp1) rfl) (C3 fun n1 _ => ?_)
  obtain ⟨c2, hc2⟩ : ∃ c2 : Nat × Obj, c2 = (n1, Obj.cells #[.i 1] 3) := ⟨_, rfl⟩
  rw [<- hc2]
  have hp2 : (c2 :: L1).Perm (SL p s0 g0 ++ [c2]) := pc fun z => by have := pcn hp1 z; simp only [B7, C5, D8] at *; omega
  have hc2m : (n1, Obj.cells (ivs .i64 [(1 : Int)]).toArray 3) ∈ c2 :: L1 := by rw [hc2]; exact List.mem_cons_self
  refine B3 (A51 hp2 X0 hS0 ⟨some ⟨n1, 0, none⟩, 1, 1⟩ [(1 : Int)] (ISl.const 1 (by simp) hc2m) (by simp) (fun y hy => by rw [List.mem_singleton.1 hy]; omega)) (s0.cost 1, ()) (by rw [<- C31]; rfl) ?_
  refine E9 (E8 (SL.st hp2) rfl) ?_
  refine Bg4 hp2 hb0 1 (Al5 s0.bk (s0.cost 1), ()) rfl fun L3 hp3 => ?_
  have X3 := X0.pay 1
  have hall0 : x ∈ g0.all := by rw [hga]; exact hall
  have hm3 : x.o ∈ L3 := SL.rn hp3 hall0 _ (by unfold RN.objs; exact List.mem_cons_self)
  refine A5 (a := ⟨x.id, 0, none⟩) (by rw [hx]; rfl) (A6 (some ⟨p.m, 0, none⟩) (E8 (SL.st hp3) rfl) ?_)
  refine A6 x.r.b (ldB (n := x.id) (off := 0) hm3 rfl) (A6 x.r.ep (ldB (n := x.id) (off := 1) hm3 rfl) (A6 x.r.nx (ldB (n := x.id) (off := 2) hm3 rfl) (A6 x.v (ldB (n := x.id) (off := 3) hm3 rfl) ?_)))
  have hok := X.ok x hall
  have hd0 : (s0.pay 1).d = s.d := by rw [hs0]; rfl
  have hseg : ∀ y ∈ x.seg, y ∈ rns g0.ns := fun y hy => by rw [hg0]; exact List.mem_flatMap.2 ⟨x, by simp, by unfold RN.objs; simp [hy]⟩
  refine Aw8 (B00 p.m (s0.pay 1).d g0.Ad (stO p (s0.pay 1) g0 :: (kO p (s0.pay 1) :: (mO p g0 :: (gO p g0 :: (g0.Ab ++ (rns g0.ns ++ (rns g0.on.toList ++ (g0.pseg ++ (g0.Aq ++ (g0.Ai ++ [c2])))))))))) X3.dev x.v x.r.l (hok.sl.mono fun y hy => by simp [hseg y hy]) (hol x.r ho) (by rw [hd0]; exact G) x.r.b x.r.ep x.r.nx)
   (pc fun z => by have := pcn hp3 z; simp only [SL, B7, C5, D8] at *; omega) ?_
  rw [hd0]
  rintro _ _ ⟨A', rfl, rfl, hA'⟩
  refine ⟨((Ab2 s.d x.r.b x.r.ep x.r.nx x.r.l).1, ()), rfl, ?_⟩
  have hqc : (Ab2 s.d x.r.b x.r.ep x.r.nx x.r.l).2.c = s.d.c := Cw7 ..
  have hw : s.seals = (({ (s.pay 1).dev (Ab2 s.d x.r.b x.r.ep x.r.nx x.r.l).2 with op := none, rs := s.rs ++ [x.r] }).met (Ab2 s.d x.r.b x.r.ep x.r.nx x.r.l).1, (Ab2 s.d x.r.b x.r.ep x.r.nx x.r.l).1) := by
   unfold Sto.seals; rw [ho]
  rw [hw]
  generalize Ab2 s.d x.r.b x.r.ep x.r.nx x.r.l = q at hA' hqc
  obtain ⟨s2, hs2⟩ : ∃ s2 : Sto, s2 = { (s.pay 1).dev q.2 with op := none, rs := s.rs ++ [x.r] } := ⟨_, rfl⟩
  have e2 : s2 = (s0.pay 1).dev q.2 := by rw [hs2, hs0]; rfl
  have X2 : SX p s2 { g0 with Ad := A' } := by rw [e2]; exact { X3 with cfg := by rw [show ((s0.pay 1).dev q.2).d = q.2 from rfl, hqc, hs0]; exact X.cfg, dev := hA', blk := X3.blk }
  rw [<- hs2]
  refine G9 (Bg5 p s2 { g0 with Ad := A' } X2 q.1) (R := [c2]) (pc fun z => ?_) ?_
  ·rw [e2]
   simp only [SL, show stO p ((s0.pay 1).dev q.2) { g0 with Ad := A' } = stO p (s0.pay 1) g0 from rfl, show kO p ((s0.pay 1).dev q.2) = kO p (s0.pay 1) from rfl, show mO p { g0 with Ad := A' } = mO p g0 from rfl, show gO p { g0 with Ad := A' } = gO p g0 from rfl, B7, C5, D8]
   omega
  ·rintro _ _ ⟨g', hL', X', rfl⟩
   exact ⟨_, List.Perm.refl _, (q.1, ()), rfl, .drop (A := SL p (s2.met q.1) g') (J := [c2]) ⟨g', by simp, X', rfl⟩ (by rw [hL', List.append_nil])⟩
theorem Ax7 {p : SP} {s : Sto} {g : SG} {L R : A4} (hp : L.Perm (SL p s g ++ R)) (X : SX p s g) (hnd : s.us.Nodup) :
  Reads PP 186 #[.pointer (some ⟨p.n, 11, none⟩)] L (.pointer (match g.ns with | [] => none | x :: _ => x.ptr)) := by
 unfold Reads
 refine c186 (some ⟨p.n, 11, none⟩) ?_
 unfold s186
 refine A5 rfl (A6 (some ⟨p.nb, 0, none⟩) (E8 (SL.st hp) rfl) ?_)
 refine B3 (Reads.has (SL.b hp) (Bw2 p.nb s.ss s.us g.Ab X.blk)) (s.us.headD 0, decide (s.us ≠ []), ()) rfl ?_
 have hk := X.keys
 have lk := Ai2 (P := PP) mapR (SL.m hp) X.mp (s.us.headD 0)
 have hus : s.us = (g.ns.map fun x => x.r.b) ++ (g.on.map fun x => x.r.b).toList := by
  unfold Sto.us
  rw [<- X.rs, <- X.op, List.map_map, Option.map_map]; rfl
 refine Y6 (fun _ L' => L' = L /\ ∃ x r, g.ns = x :: r) ?_ ?_
 ·rintro _ _ ⟨rfl, x, r, hns⟩
  refine A6 (some p.nr) (E8 (SL.st hp) rfl) ?_
  refine ⟨(x.ptr, ()), ?_, .of ⟨by rw [hns], rfl⟩⟩
  have : (As8 (T9 g.all) (s.us.headD 0)).getD (.pointer none) = .pointer x.ptr := by
   rw [hus, hns]
   unfold SG.all T9
   rw [hns, List.cons_append, List.map_cons, P6]
   simp
  rw [this] at lk
  exact lk
 ·intro j hj
  refine G2 (fun (h : decide (s.us ≠ []) = true) => ?_) (fun (h : decide (s.us ≠ []) = false) => ?_)
  ·have hne := of_decide_eq_true h
   refine A6 (onp g.on) (E8 (SL.st hp) rfl) ?_
   cases hon : g.on with
   | none =>
    refine ifT rfl (hj _ _ ⟨rfl, ?_⟩)
    cases hns : g.ns with
    | nil => rw [hus, hns, hon] at hne; exact absurd rfl hne
    | cons x r => exact ⟨x, r, rfl⟩
   | some y =>
    have hall : y ∈ g.all := by unfold SG.all; rw [hon]; simp
    have hm : y.o ∈ L := SL.rn hp hall _ (by unfold RN.objs; exact List.mem_cons_self)
    refine ifF rfl (A6 y.ptr (E8 (SL.st hp) (by rw [hon]; rfl)) (A5 (a := ⟨y.id, 0, none⟩) rfl (A6 y.r.b (ldB (n := y.id) (off := 0) hm rfl) ?_)))
    refine C0 (fun (he : y.r.b = s.us.headD 0) => ?_) (fun (he : ¬ y.r.b = s.us.headD 0) => ?_)
    ·cases hns : g.ns with
     | nil => exact .of ⟨rfl, rfl⟩
     | cons x r =>
      rw [hus, hns, hon] at he hnd
      simp at he hnd
      exact absurd he (fun e => hnd.1.2 e.symm)
    ·cases hns : g.ns with
     | nil =>
      rw [hus, hns, hon] at he
      simp at he
     | cons x r => exact hj _ _ ⟨rfl, x, r, hns⟩
  ·have hn : s.us = [] := by
    have := of_decide_eq_false h
    exact Decidable.not_not.1 this
   rw [hus] at hn
   cases hns : g.ns with
   | nil => exact .of ⟨rfl, rfl⟩
   | cons x r => rw [hns] at hn; simp at hn
theorem B04 (p : SP) (s : Sto) (g : SG) (X : SX p s g) (hS : s.sc.c.S <= 512) (hb : s.bk.Ok) (G : DG s.d 1) (hop : s.op = none) (hep : 0 <= s.epoch /\ s.epoch <= 1073741824) (hfew : s.us.length < 100000) (b : Int) (hbo : Ad3 s.ss s.us b = true) (hnew : b ∉ s.us) :
  CallF PP 191 #[.pointer (some ⟨p.n, 11, none⟩), .i b] (SL p s g) (SK p (s.begins b) []) := by
 refine c191 (some ⟨p.n, 11, none⟩) b ?_
 unfold s191
 have hon := X.non hop
 refine A5 rfl (A6 (some ⟨p.nk, 0, none⟩) (E8 (s := s) (g := g) (k := 13) (by simp [SL]) rfl) (C3 fun n1 _ => ?_))
 obtain ⟨c2, hc2⟩ : ∃ c2 : Nat × Obj, c2 = (n1, Obj.cells #[.i 1] 3) := ⟨_, rfl⟩
 rw [<- hc2]
 have hp2 : (c2 :: SL p s g).Perm (SL p s g ++ [c2]) := pc fun z => by simp only [B7, C5, D8]; omega
 have hc2m : (n1, Obj.cells (ivs .i64 [(1 : Int)]).toArray 3) ∈ c2 :: SL p s g := by rw [hc2]; exact List.mem_cons_self
 refine B3 (A51 hp2 X hS ⟨some ⟨n1, 0, none⟩, 1, 1⟩ [(1 : Int)] (ISl.const 1 (by simp) hc2m) (by simp) (fun y hy => by rw [List.mem_singleton.1 hy]; omega)) (s.cost 1, ()) (by rw [<- C31]; rfl) ?_
 refine E9 (E8 (SL.st hp2) rfl) ?_
 refine Bg4 hp2 hb 1 (Al5 s.bk (s.cost 1), ()) rfl fun L3 hp3 => ?_
 have X3 := X.pay 1
 refine A6 (some ⟨p.m, 0, none⟩) (E8 (SL.st hp3) rfl) (A6 s.epoch (E8 (SL.st hp3) rfl) (D9 (by omega) ?_))
 refine Aw8 (Cz0 p.m s.d g.Ad (stO p (s.pay 1) g :: (kO p (s.pay 1) :: (mO p g :: (gO p g :: (g.Ab ++ (rns g.ns ++ (rns g.on.toList ++ (g.pseg ++ (g.Aq ++ (g.Ai ++ [c2])))))))))) X.dev G b (s.epoch + 1))
  (pc fun z => by have := pcn hp3 z; simp only [SL, B7, C5, D8] at *; omega) ?_
 rintro _ _ ⟨A', rfl, rfl, hA'⟩
 refine ⟨((Ag2 s.d b (s.epoch + 1)).1, ()), rfl, ?_⟩
 have hqc : (Ag2 s.d b (s.epoch + 1)).2.c = s.d.c := Cz1 ..
 have hw : s.begins b = (if (Ag2 s.d b (s.epoch + 1)).1 ≠ 0 then (((s.pay 1).dev (Ag2 s.d b (s.epoch + 1)).2).met (Ag2 s.d b (s.epoch + 1)).1, (Ag2 s.d b (s.epoch + 1)).1) else ({ (s.pay 1).dev (Ag2 s.d b (s.epoch + 1)).2 with epoch := s.epoch + 1, op := some ⟨b, s.epoch + 1, 1, []⟩ }, 0)) := rfl
 rw [hw]
 generalize Ag2 s.d b (s.epoch + 1) = q at hA' hqc
 obtain ⟨s2, hs2⟩ : ∃ s2 : Sto, s2 = (s.pay 1).dev q.2 := ⟨_, rfl⟩
 have X2 : SX p s2 { g with Ad := A' } := by rw [hs2]; exact { X3 with cfg := hqc.trans X.cfg, dev := hA', blk := X3.blk }
 rw [<- hs2]
 have eqs : stO p s2 { g with Ad := A' } = stO p (s.pay 1) g /\ kO p s2 = kO p (s.pay 1) := by rw [hs2]; exact ⟨rfl, rfl⟩
 have hp4 : (A' ++ (stO p (s.pay 1) g :: (kO p (s.pay 1) :: (mO p g :: (gO p g :: (g.Ab ++ (rns g.ns ++ (rns g.on.toList ++ (g.pseg ++ (g.Aq ++ (g.Ai ++ [c2]))))))))))).Perm (SL p s2 { g with Ad := A' } ++ [c2]) := pc fun z => by
  simp only [SL, eqs.1, eqs.2, show mO p { g with Ad := A' } = mO p g from rfl, show gO p { g with Ad := A' } = gO p g from rfl, B7, C5, D8]
  omega
 generalize A' ++ (stO p (s.pay 1) g :: (kO p (s.pay 1) :: (mO p g :: (gO p g :: (g.Ab ++ (rns g.ns ++ (rns g.on.toList ++ (g.pseg ++ (g.Aq ++ (g.Ai ++ [c2])))))))))) = L4 at hp4
 obtain ⟨g2, hg2⟩ : ∃ g2 : SG, g2 = { g with Ad := A' } := ⟨_, rfl⟩
 rw [<- hg2] at X2 hp4
 refine C0 (fun (h0 : q.1 = 0) => ?_) (fun (h0 : ¬ q.1 = 0) => ?_)
 ·rw [if_neg (by simpa using h0)]
  have hep2 : s2.epoch = s.epoch := by rw [hs2]; rfl
  have hus2 : s2.us = s.us := by rw [hs2]; rfl
  have hss2 : s2.ss = s.ss := by rw [hs2]; rfl
  have hon2 : g2.on = none := by rw [hg2]; exact hon
  refine A6 s2.epoch (E8 (SL.st hp4) rfl) (D9 (by omega) ?_)
  obtain ⟨s3, hs3⟩ : ∃ s3 : Sto, s3 = { s2 with epoch := s2.epoch + 1 } := ⟨_, rfl⟩
  have X3 : SX p s3 g2 := by rw [hs3]; exact { X2 with cfg := X2.cfg, dev := X2.dev, blk := X2.blk }
  refine Bg2 (s := s2) (g := g2) (k := 16) s3 g2 (Y := kO p s2 :: (mO p g2 :: (gO p g2 :: (g2.Ad ++ (g2.Ab ++ (rns g2.ns ++ (rns g2.on.toList ++ (g2.pseg ++ (g2.Aq ++ (g2.Ai ++ [c2])))))))))) (pc fun z => by have := pcn hp4 z; simp only [SL, B7, C5, D8] at *; omega) (by decide) (by rw [hs3]; rfl) fun L5 hp5 => ?_
  have hp5 : L5.Perm (SL p s3 g2 ++ [c2]) := pc fun z => by
   have := pcn hp5 z
   have e1 : kO p s3 = kO p s2 := by rw [hs3]; rfl
   simp only [SL, e1, B7, C5, D8] at *
   omega
  refine A6 (some ⟨p.nb, 0, none⟩) (E8 (SL.st hp5) rfl) ?_
  have hus3 : s3.us = s.us := by rw [hs3]; exact hus2
  have hss3 : s3.ss = s.ss := by rw [hs3]; exact hss2
  have hblk : BX p.nb s.ss s.us g2.Ab := by have := X3.blk; rwa [hus3, hss3] at this
  refine G9 (Bw1 p.nb s.ss s.us g2.Ab hblk hfew b) (R := stO p s3 g2 :: (kO p s3 :: (mO p g2 :: (gO p g2 :: (g2.Ad ++ (rns g2.ns ++ (rns g2.on.toList ++ (g2.pseg ++ (g2.Aq ++ (g2.Ai ++ [c2])))))))))) (pc fun z => by have := pcn hp5 z; simp only [SL, B7, C5, D8] at *; omega) ?_
  rintro _ Ab' ⟨rfl, hAb'⟩
  rw [if_pos hbo] at hAb'
  refine ⟨_, List.Perm.refl _, (Ad3 s.ss s.us b, ()), rfl, ?_⟩
  have hep3 : s3.epoch = s.epoch + 1 := by rw [hs3]; show s2.epoch + 1 = _; rw [hep2]
  refine A6 s3.epoch (E8 (s := s3) (g := g2) (k := 16) (by simp) rfl) (C3 fun n2 _ => ?_)
  obtain ⟨x, hx⟩ : ∃ x : RN, x = ⟨⟨b, s.epoch + 1, 1, []⟩, n2, ⟨none, 0, 0⟩, []⟩ := ⟨_, rfl⟩
  have hxo : (n2, Obj.cells #[Value.i b, .i s3.epoch, .i 1, .slice none 0 0] 156) = x.o := by rw [hx, hep3]; rfl
  rw [hxo]
  obtain ⟨s4, hs4⟩ : ∃ s4 : Sto, s4 = { s3 with op := some ⟨b, s.epoch + 1, 1, []⟩ } := ⟨_, rfl⟩
  refine Bg2 (s := s3) (g := g2) (k := 15) s4 { g2 with on := some x } (Y := x.o :: (kO p s3 :: (mO p g2 :: (gO p g2 :: (g2.Ad ++ (Ab' ++ (rns g2.ns ++ (g2.pseg ++ (g2.Aq ++ (g2.Ai ++ [c2])))))))))) (pc fun z => by rw [hon2]; simp only [show rns (none : Option RN).toList = [] from rfl, B7, C5, D8]; omega) (by decide) (by rw [hs4, hx]; rfl) fun L6 hp6 => ?_
  have hm6 := hp6.symm.subset List.mem_cons_self
  refine A6 (some p.nr) (E8 hm6 rfl) (A6 x.ptr (E8 hm6 rfl) ?_)
  refine Ah1 mapR (r := p.nr) (es := g2.es) (clock := g2.ck) (m := T9 g2.all) (Y := stO p s4 { g2 with on := some x } :: (x.o :: (kO p s3 :: (gO p g2 :: (g2.Ad ++ (Ab' ++ (rns g2.ns ++ (g2.pseg ++ (g2.Aq ++ (g2.Ai ++ [c2])))))))))) (pc fun z => by have := pcn hp6 z; rw [show (p.nr, Obj.map g2.es g2.ck) = mO p g2 from rfl]; simp only [B7, C5, D8] at *; omega) X2.mp b (.pointer x.ptr) fun es' ck' L7 hmp hp7 => ?_
  obtain ⟨g', hg'⟩ : ∃ g' : SG, g' = { g2 with on := some x, Ab := Ab', es := es', ck := ck' } := ⟨_, rfl⟩
  have hfin : ({ s2 with epoch := s.epoch + 1, op := some ⟨b, s.epoch + 1, 1, []⟩ } : Sto) = s4 := by rw [hs4, hs3, hep2]
  rw [hfin]
  have hk2 := X2.keys
  rw [hus2] at hk2
  refine .drop (A := SL p s4 g') (J := [c2]) ⟨g', by simp, ?_, rfl⟩ (pc fun z => ?_)
  ·have hall : g'.all = g2.all ++ [x] := by rw [hg']; unfold SG.all; rw [hon2]; simp
   have hus4 : s4.us = s.us ++ [b] := by
    have hrs3 : s3.rs = s.rs := by rw [hs3, hs2]; rfl
    unfold Sto.us
    rw [hs4]
    show s3.rs.map Reg.b ++ [b] = _
    rw [hop, hrs3]
    simp
   refine ⟨by rw [hs4, hs3]; exact X2.cfg, by rw [hs4, hs3, hg']; exact X2.dev, ?_, by rw [hs4, hs3, hg']; exact X2.que, by rw [hs4, hs3, hg']; exact X2.gho, by rw [hs4, hs3, hg']; exact X2.idx, ?_, by rw [hs4, hs3, hg']; exact X2.rs, by rw [hs4, hg', hx]; rfl, ?_, by rw [hs4, hs3, hg']; exact X2.pd⟩
   ·rw [hus4]
    have e1 : s4.ss = s.ss := by rw [hs4]; exact hss3
    have e2 : g'.Ab = Ab' := by rw [hg']
    rw [e1, e2]; exact hAb'
   ·rw [As5 _ _ _ (by rw [hk2]; exact hnew)] at hmp
    rw [hall]
    have : T9 (g2.all ++ [x]) = T9 g2.all ++ [(b, .pointer x.ptr)] := by unfold T9; rw [List.map_append, hx]; rfl
    rw [this]
    have e2 : g'.es = es' := by rw [hg']
    rw [e2]; exact hmp
   ·intro y hy
    rw [hall] at hy
    rcases List.mem_append.1 hy with hy | hy
    ·exact X2.ok y hy
    ·rw [List.mem_singleton.1 hy, hx]; exact F7
  ·have h7 := pcn hp7 z
   have e1 : stO p s4 g' = stO p s4 { g2 with on := some x } := by rw [hg']; rfl
   have e2 : kO p s4 = kO p s3 := by rw [hs4]; rfl
   have e3 : mO p g' = (p.nr, Obj.map es' ck') := by rw [hg']; rfl
   have e4 : gO p g' = gO p g2 := by rw [hg']; rfl
   have e5 : rns g'.on.toList = [x.o] := by rw [hg']; refine (Ak1 x).trans ?_; unfold RN.objs; rw [hx]
   have e6 : g'.Ad = g2.Ad /\ g'.Ab = Ab' /\ g'.ns = g2.ns /\ g'.pseg = g2.pseg /\ g'.Aq = g2.Aq /\ g'.Ai = g2.Ai := by rw [hg']; exact ⟨rfl, rfl, rfl, rfl, rfl, rfl⟩
   simp only [SL, e1, e2, e3, e4, e5, e6.1, e6.2.1, e6.2.2.1, e6.2.2.2.1, e6.2.2.2.2.1, e6.2.2.2.2.2, B7, C5, D8] at *
   omega
 ·rw [if_pos (by simpa using h0)]
  refine G9 (Bg5 p s2 g2 X2 q.1) hp4 ?_
  rintro _ _ ⟨g', hL', X', rfl⟩
  exact ⟨_, List.Perm.refl _, (q.1, ()), rfl, .drop (A := SL p (s2.met q.1) g') (J := [c2]) ⟨g', by simp, X', rfl⟩ (by rw [hL', List.append_nil])⟩
theorem Bc8 {α : Type} (f : α -> A4) (q : α -> Bool) (l : List α) (z : Nat × Obj) : cnt (l.flatMap f) z = cnt ((l.filter q).flatMap f) z + cnt ((l.filter fun x => !q x).flatMap f) z := by
 have h := List.filter_append_perm q l
 have h2 := Au5 f h z
 rw [List.flatMap_append, B7] at h2
 exact h2.symm
theorem A79 (p : SP) (s : Sto) (g : SG) (X : SX p s g) (ok : S3 s.d) (hw : ∀ x ∈ s.ss, 0 <= x.wear /\ x.wear <= 900000000) (hnd : s.us.Nodup) (b : Int) (h1 : ∀ o, s.op = some o -> o.b ≠ b) (h2 : H7 s.ss b = false -> b ∉ s.us) :
  CallF PP 190 #[.pointer (some ⟨p.n, 11, none⟩), .i b] (SL p s g) (SK p (s.erase b) []) := by
 refine c190 (some ⟨p.n, 11, none⟩) b ?_
 unfold s190
 refine A5 rfl (A6 (some ⟨p.m, 0, none⟩) (E8 (s := s) (g := g) (k := 11) (by simp [SL]) rfl) ?_)
 refine G9 (Cm5 p.m s.d g.Ad X.dev ok b) (R := stO p s g :: (kO p s :: (mO p g :: (gO p g :: (g.Ab ++ (rns g.ns ++ (rns g.on.toList ++ (g.pseg ++ (g.Aq ++ g.Ai))))))))) (pc fun z => by simp only [SL, B7, C5, D8]; omega) ?_
 rintro _ A' ⟨rfl, hA'⟩
 refine ⟨_, List.Perm.refl _, ((J8 s.d b).1, ()), rfl, ?_⟩
 have hqc : (J8 s.d b).2.c = s.d.c := Bp7 ..
 have hwf : s.erase b = (if (J8 s.d b).1 = 11 then ((s.dev (J8 s.d b).2).met 11, 11) else
  ({ s.dev (J8 s.d b).2 with ss := if H7 s.ss b = true then Ag6 s.ss b (T7 (decide ((J8 s.d b).1 = 10))) else s.ss, rs := s.rs.filter fun r => !decide (r.b = b) }, 0)) := rfl
 rw [hwf]
 generalize J8 s.d b = q at hA' hqc
 obtain ⟨s2, hs2⟩ : ∃ s2 : Sto, s2 = s.dev q.2 := ⟨_, rfl⟩
 have X2 : SX p s2 { g with Ad := A' } := by rw [hs2]; exact { X with cfg := hqc.trans X.cfg, dev := hA', blk := X.blk }
 rw [<- hs2]
 have eqs : stO p s2 { g with Ad := A' } = stO p s g /\ kO p s2 = kO p s := by rw [hs2]; exact ⟨rfl, rfl⟩
 have hp2 : (A' ++ (stO p s g :: (kO p s :: (mO p g :: (gO p g :: (g.Ab ++ (rns g.ns ++ (rns g.on.toList ++ (g.pseg ++ (g.Aq ++ g.Ai)))))))))).Perm (SL p s2 { g with Ad := A' } ++ []) := pc fun z => by
  simp only [SL, eqs.1, eqs.2, show mO p { g with Ad := A' } = mO p g from rfl, show gO p { g with Ad := A' } = gO p g from rfl, B7, C5, D8]
  omega
 generalize A' ++ (stO p s g :: (kO p s :: (mO p g :: (gO p g :: (g.Ab ++ (rns g.ns ++ (rns g.on.toList ++ (g.pseg ++ (g.Aq ++ g.Ai))))))))) = L2 at hp2
 obtain ⟨g2, hg2⟩ : ∃ g2 : SG, g2 = { g with Ad := A' } := ⟨_, rfl⟩
 rw [<- hg2] at X2 hp2
 refine C0 (fun (h0 : q.1 = 11) => ?_) (fun (h0 : ¬ q.1 = 11) => ?_)
 ·rw [if_pos h0, h0]
  refine G9 (Bg5 p s2 g2 X2 11) hp2 ?_
  rintro _ _ ⟨g', hL', X', rfl⟩
  exact ⟨_, List.Perm.refl _, (11, ()), rfl, .drop (A := SL p (s2.met 11) g') (J := []) ⟨g', by simp, X', rfl⟩ (by rw [hL', List.append_nil])⟩
 ·rw [if_neg h0]
  have hus2 : s2.us = s.us := by rw [hs2]; rfl
  have hss2 : s2.ss = s.ss := by rw [hs2]; rfl
  have hblk : BX p.nb s.ss s.us g2.Ab := by have := X2.blk; rwa [hus2, hss2] at this
  refine A6 (some ⟨p.nb, 0, none⟩) (E8 (SL.st hp2) rfl) ?_
  refine G9 (Bw5 p.nb s.ss s.us g2.Ab hblk hw b (decide (q.1 = 10))) (R := stO p s2 g2 :: (kO p s2 :: (mO p g2 :: (gO p g2 :: (g2.Ad ++ (rns g2.ns ++ (rns g2.on.toList ++ (g2.pseg ++ (g2.Aq ++ g2.Ai))))))))) (pc fun z => by have := pcn hp2 z; simp only [SL, B7, C5, D8] at *; omega) ?_
  rintro _ Ab' ⟨rfl, hAb'⟩
  refine ⟨_, List.Perm.refl _, (H7 s.ss b, ()), rfl, ?_⟩
  refine A6 (some p.nr) (E8 (s := s2) (g := g2) (k := 14) (by simp) rfl) ?_
  refine Bd5 mapR (r := p.nr) (es := g2.es) (clock := g2.ck) (m := T9 g2.all) (Y := stO p s2 g2 :: (kO p s2 :: (gO p g2 :: (g2.Ad ++ (Ab' ++ (rns g2.ns ++ (rns g2.on.toList ++ (g2.pseg ++ (g2.Aq ++ g2.Ai))))))))) (pc fun z => by rw [show (p.nr, Obj.map g2.es g2.ck) = mO p g2 from rfl]; simp only [B7, C5, D8]; omega) X2.mp b fun es' ck' L4 hmp hp4 => ?_
  obtain ⟨s3, hs3⟩ : ∃ s3 : Sto, s3 = { s2 with ss := if H7 s.ss b = true then Ag6 s.ss b (T7 (decide (q.1 = 10))) else s.ss, rs := s.rs.filter fun r => !decide (r.b = b) } := ⟨_, rfl⟩
  rw [<- hs3]
  have hrs2 : s2.rs = s.rs := by rw [hs2]; rfl
  have hop2 : s2.op = s.op := by rw [hs2]; rfl
  obtain ⟨g3, hg3⟩ : ∃ g3 : SG, g3 = { g2 with ns := g2.ns.filter (fun x => !decide (x.r.b = b)), Ab := Ab', es := es', ck := ck' } := ⟨_, rfl⟩
  have hopb : s3.op = s.op := by rw [hs3]; exact hop2
  have hr3 : s3.rs = s.rs.filter fun r => !decide (r.b = b) := by rw [hs3]
  have hon2 : g2.on.map RN.r = s.op := by rw [X2.op, hop2]
  have hus3 : s3.us = iwo s.us b := by
   unfold Sto.us iwo
   rw [hopb, hr3, List.filter_append]
   congr 1
   ·rw [List.filter_map]
    congr 1
    refine List.filter_congr fun x _ => ?_
    simp
   ·cases ho : s.op with
    | none => rfl
    | some o =>
     have := h1 o ho
     simp [this]
  have hall3 : g3.all = g2.all.filter fun x => !decide (x.r.b = b) := by
   rw [hg3]
   unfold SG.all
   rw [List.filter_append]
   congr 1
   cases ho : g2.on with
   | none => rfl
   | some x =>
    rw [ho] at hon2
    have := h1 x.r hon2.symm
    simp [this]
  refine .drop (A := SL p s3 g3) (J := (g2.ns.filter fun x => !!decide (x.r.b = b)).flatMap RN.objs) ⟨g3, by simp, ?_, rfl⟩ (pc fun z => ?_)
  ·refine ⟨by rw [hs3]; exact X2.cfg, by rw [hs3, hg3]; exact X2.dev, ?_, by rw [hs3, hg3]; exact X2.que, by rw [hs3, hg3]; exact X2.gho, by rw [hs3, hg3]; exact X2.idx, ?_, ?_, by rw [hopb, hg3]; exact hon2, ?_, by rw [hs3, hg3]; exact X2.pd⟩
   ·rw [hus3]
    have e1 : s3.ss = if H7 s.ss b = true then Ag6 s.ss b (T7 (decide (q.1 = 10))) else s.ss := by rw [hs3]
    have e2 : g3.Ab = Ab' := by rw [hg3]
    have e3 : (if H7 s.ss b = true then iwo s.us b else s.us) = iwo s.us b := by
     split
     ·rfl
     ·rename_i hh
      have := h2 (by simpa using hh)
      unfold iwo
      symm
      rw [List.filter_eq_self]
      intro y hy
      have : y ≠ b := fun e => this (e ▸ hy)
      simp [this]
    rw [e1, e2, <- e3]; exact hAb'
   ·have hk := X2.keys
    rw [Ba8 _ _ (by rw [hk, hus2]; exact hnd)] at hmp
    rw [hall3]
    have : T9 (g2.all.filter fun x => !decide (x.r.b = b)) = (T9 g2.all).filter fun p => !decide (p.1 = b) := by
     unfold T9
     rw [List.filter_map]; rfl
    rw [this]
    have e2 : g3.es = es' := by rw [hg3]
    rw [e2]; exact hmp
   ·rw [hr3, hg3]
    show (g2.ns.filter _).map RN.r = _
    rw [<- hrs2, <- X2.rs, List.filter_map]; rfl
   ·intro y hy
    rw [hall3] at hy
    exact X2.ok y (List.mem_filter.1 hy).1
  ·have h4 := pcn hp4 z
   have hfs := Bc8 RN.objs (fun x : RN => !decide (x.r.b = b)) g2.ns z
   have e1 : stO p s3 g3 = stO p s2 g2 := by rw [hs3, hg3]; rfl
   have e2 : kO p s3 = kO p s2 := by rw [hs3]; rfl
   have e3 : mO p g3 = (p.nr, Obj.map es' ck') := by rw [hg3]; rfl
   have e4 : gO p g3 = gO p g2 := by rw [hg3]; rfl
   have e6 : g3.Ad = g2.Ad /\ g3.Ab = Ab' /\ g3.ns = g2.ns.filter (fun x => !decide (x.r.b = b)) /\ g3.on = g2.on /\ g3.pseg = g2.pseg /\ g3.Aq = g2.Aq /\ g3.Ai = g2.Ai := by rw [hg3]; exact ⟨rfl, rfl, rfl, rfl, rfl, rfl, rfl⟩
   simp only [SL, e1, e2, e3, e4, e6.1, e6.2.1, e6.2.2.1, e6.2.2.2.1, e6.2.2.2.2.1, e6.2.2.2.2.2.1, e6.2.2.2.2.2.2, rns, B7, C5, D8] at *
   omega
end Go.Proofs.YtbaoieipijmakaaGreatDoor
