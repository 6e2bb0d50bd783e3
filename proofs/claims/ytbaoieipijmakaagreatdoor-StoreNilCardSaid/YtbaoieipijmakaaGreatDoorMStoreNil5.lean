/-
  It is proved what the functions that the law StoreNil reaches compute, part 5. There are no further conditions than those that each theorem names.
-/
import Derived.Test.YtbaoieipijmakaaGreatDoorMStoreNil4
set_option linter.unusedVariables false
set_option linter.unusedSimpArgs false
namespace Go.Proofs.YtbaoieipijmakaaGreatDoor
open Go.HL
def SU (p : SP) (s : Sto) (R : A4) (r : Value) (L' : A4) : Prop := ∃ g', L' = SL p s g' ++ R /\ SX p s g' /\ r = .tuple #[]
theorem SX.pendLen {p : SP} {s : Sto} {g : SG} (X : SX p s g) : g.pv.len = s.pend.length := X.pd.sl.els_len E1 (by decide)
theorem Bl9 {p : SP} {s : Sto} {g : SG} {L R : A4} (hp : L.Perm (SL p s g ++ R)) (X : SX p s g) (hpl : s.pend.length <= 1000000000) (x : It) {K : HP} (s' : Sto) (hs' : s' = { s with pend := s.pend ++ [x] }) (hk : ∀ g' L', L'.Perm (SL p s' g' ++ R) -> SX p s' g' -> K L') :
  ld ⟨p.n, 17, none⟩ (.lf .sl) (fun v2 => apv PP 55 55 55 102 v2 1 [.i x.1, .i x.2.1, .i x.2.2.1] fun s1 => HL.st ⟨p.n, 17, none⟩ [.slice s1.a s1.len s1.cap] K) L := by
 have hl := X.pendLen
 refine A6 g.pv (E8 (SL.st hp) rfl) ?_
 refine Af6 Al4 Bl7 X.pd (Y := stO p s g :: (kO p s :: (mO p g :: (gO p g :: (g.Ad ++ (g.Ab ++ (rns g.ns ++ (rns g.on.toList ++ (g.Aq ++ (g.Ai ++ R)))))))))) (ws := N7 x) (pc fun z => by have := pcn hp z; simp only [SL, B7, C5, D8] at *; omega) rfl rfl (by omega) fun s1 seg1 hl1 own1 => ?_
 refine Bg2 (s := s) (g := g) (k := 17) s' { g with pv := s1, pseg := seg1 } (Y := seg1 ++ (kO p s :: (mO p g :: (gO p g :: (g.Ad ++ (g.Ab ++ (rns g.ns ++ (rns g.on.toList ++ (g.Aq ++ (g.Ai ++ R)))))))))) (pc fun z => by simp only [B7, C5, D8]; omega) (by decide) (by rw [hs']; rfl) fun L2 hp2 => hk { g with pv := s1, pseg := seg1 } L2 (pc fun z => ?_) ?_
 ·have := pcn hp2 z
  have e1 : kO p s' = kO p s := by rw [hs']; rfl
  simp only [SL, e1, show mO p { g with pv := s1, pseg := seg1 } = mO p g from rfl, show gO p { g with pv := s1, pseg := seg1 } = gO p g from rfl, B7, C5, D8] at *
  omega
 ·rw [hs']
  refine { X with cfg := X.cfg, dev := X.dev, blk := X.blk, pd := ?_ }
  show Own s1 3 Av5 ((s.pend ++ [x]).flatMap N7) seg1
  rw [List.flatMap_append, List.flatMap_singleton]; exact own1
theorem Bm1 (p : SP) (s : Sto) (g : SG) (X : SX p s g) (hw : 1 <= s.sc.ways) (key : ByteArray) (hk : key.size <= 1000000) (hrow : (O2 s.ix (s.hash key)).length < 100) (hpl : s.pend.length <= 1000000000) (x : It) :
  CallF PP 101 #[.pointer (some ⟨p.n, 0, none⟩), .string key, .agg #[.i x.1, .i x.2.1, .i x.2.2.1]] (SL p s g) (SU p (s.list key x) []) := by
 refine c101 (some ⟨p.n, 0, none⟩) key x ?_
 unfold s101
 have hp0 : (SL p s g).Perm (SL p s g ++ []) := by rw [List.append_nil]
 refine A5 rfl (A6 (some ⟨p.ni, 0, none⟩) (E8 (SL.st hp0) rfl) (B3 (W3 hp0 key hk) (((s.hash key : Nat) : Int), ()) rfl (E9 (E8 (SL.st hp0) rfl) ?_)))
 refine G9 (C09 p.ni s.sc.ways s.ix g.Ai X.idx hw (s.hash key) (Au1 s key) x hrow) (R := stO p s g :: (kO p s :: (mO p g :: (gO p g :: (g.Ad ++ (g.Ab ++ (rns g.ns ++ (rns g.on.toList ++ (g.pseg ++ g.Aq))))))))) (pc fun z => by simp only [SL, B7, C5, D8]; omega) ?_
 rintro _ Ai' ⟨⟨gn, rfl, hgn⟩, hAi'⟩
 refine ⟨_, List.Perm.refl _, ((gn.b, gn.p, gn.e, ()), Z9 (G3 (O2 s.ix (s.hash key)) (inm (s.hash key) x)) s.sc.ways, ()), rfl, ?_⟩
 obtain ⟨s1, hs1⟩ : ∃ s1 : Sto, s1 = { s with ix := Cr8 s.ix s.sc.ways (s.hash key) x } := ⟨_, rfl⟩
 obtain ⟨g1, hg1⟩ : ∃ g1 : SG, g1 = { g with Ai := Ai' } := ⟨_, rfl⟩
 have X1 : SX p s1 g1 := by rw [hs1, hg1]; exact { X with cfg := X.cfg, dev := X.dev, blk := X.blk, idx := hAi' }
 have hp1 : (Ai' ++ (stO p s g :: (kO p s :: (mO p g :: (gO p g :: (g.Ad ++ (g.Ab ++ (rns g.ns ++ (rns g.on.toList ++ (g.pseg ++ g.Aq)))))))))).Perm (SL p s1 g1 ++ []) := pc fun z => by
  have e1 : stO p s1 g1 = stO p s g := by rw [hs1, hg1]; rfl
  have e2 : kO p s1 = kO p s := by rw [hs1]; rfl
  have e3 : mO p g1 = mO p g := by rw [hg1]; rfl
  have e4 : gO p g1 = gO p g := by rw [hg1]; rfl
  simp only [SL, e1, e2, e3, e4, B7, C5, D8]
  simp only [hg1]
  omega
 generalize Ai' ++ (stO p s g :: (kO p s :: (mO p g :: (gO p g :: (g.Ad ++ (g.Ab ++ (rns g.ns ++ (rns g.on.toList ++ (g.pseg ++ g.Aq))))))))) = L1 at hp1
 have hl : s.list key x = { s1 with pend := if Z9 (G3 (O2 s.ix (s.hash key)) (inm (s.hash key) x)) s.sc.ways = true then s.pend ++ [(B67 (O2 s.ix (s.hash key)) s.sc.ways (s.hash key) x).pl] else s.pend } := by rw [hs1]; rfl
 have hpe : s1.pend = s.pend := by rw [hs1]
 rw [hl]
 dsimp only
 refine G2 (fun h => ?_) (fun h => ?_)
 ·rw [if_pos h]
  refine Bl9 (x := gn.pl) hp1 X1 (by rw [hpe]; exact hpl) _ rfl fun g' L' hp' X' => ?_
  rw [hpe, hgn] at hp' X'
  exact .drop (A := SL p _ g') (J := []) ⟨g', by simp, X', rfl⟩ hp'
 ·rw [if_neg (by rw [h]; decide)]
  have : ({ s1 with pend := s.pend } : Sto) = s1 := by rw [<- hpe]
  rw [this]
  exact .drop (A := SL p s1 g1) (J := []) ⟨g1, by simp, X1, rfl⟩ hp1
theorem C23 {α : Type} {q : α -> Bool} {l : List α} {i : Nat} (hi : i < l.length) (hn : (l.take i).find? q = none) (hq : q l[i] = true) : l.find? q = some l[i] := by
 conv => lhs; rw [<- List.take_append_drop i l]
 rw [List.find?_append, hn, List.drop_eq_getElem_cons hi, List.find?_cons_of_pos hq]; rfl
def Sto.placeV (s : Sto) (key : ByteArray) : List UInt8 := match s.place key with
 | none => []
 | some p => (C7 s.d p).2.1
def PlK (s : Sto) (key : ByteArray) (A : A4) (r : Value) (L' : A4) : Prop := ∃ (u : SlV) (sg : A4), r = .tuple #[.agg #[.i ((s.place key).getD (0, 0, 0, ())).1, .i ((s.place key).getD (0, 0, 0, ())).2.1, .i ((s.place key).getD (0, 0, 0, ())).2.2.1], .slice u.a u.len u.cap, .bool (s.place key).isSome] /\
 L' = sg ++ A /\ Own u 1 eB (bvs (s.placeV key)) sg
theorem Aq3 (p : SP) (s : Sto) (g : SG) (X : SX p s g) (ok : S3 s.d) (key : ByteArray) (hk : key.size <= 1000000) (hrow : (O2 s.ix (s.hash key)).length < 100) (hwf : ∀ x ∈ P0 (O2 s.ix (s.hash key)) (s.hash key), W1 .i64 x.2.1) :
  CallF PP 53 #[.pointer (some ⟨p.n, 0, none⟩), .string key] (SL p s g) (PlK s key (SL p s g)) := by
 refine c53 (some ⟨p.n, 0, none⟩) key ?_
 unfold s53
 have hp0 : (SL p s g).Perm (SL p s g ++ []) := by rw [List.append_nil]
 refine A5 rfl (A6 (some ⟨p.ni, 0, none⟩) (E8 (SL.st hp0) rfl) (B3 (W3 hp0 key hk) (((s.hash key : Nat) : Int), ()) rfl (E9 (E8 (SL.st hp0) rfl) ?_)))
 refine G9 (Bo4 p.ni s.sc.ways s.ix g.Ai X.idx (s.hash key) (Au1 s key)) (R := stO p s g :: (kO p s :: (mO p g :: (gO p g :: (g.Ad ++ (g.Ab ++ (rns g.ns ++ (rns g.on.toList ++ (g.pseg ++ g.Aq))))))))) (pc fun z => by simp only [SL, B7, C5, D8]; omega) ?_
 rintro _ _ ⟨u, seg, rfl, rfl, own⟩
 refine ⟨seg ++ SL p s g, pc fun z => by simp only [SL, B7, C5, D8]; omega, (u, ()), rfl, ?_⟩
 dsimp only
 have hpe : s.place key = (P0 (O2 s.ix (s.hash key)) (s.hash key)).find? fun p => decide ((C7 s.d p).2.2 = 0 /\ An5 (C7 s.d p).1 = key) := rfl
 have hlen : (P0 (O2 s.ix (s.hash key)) (s.hash key)).length < 100 := by
  unfold P0
  rw [List.length_map]
  exact Nat.lt_of_le_of_lt (List.length_filter_le ..) hrow
 have hpv : s.placeV key = match s.place key with | none => [] | some p => (C7 s.d p).2.1 := rfl
 generalize P0 (O2 s.ix (s.hash key)) (s.hash key) = l at own hpe hwf hlen
 have hul := own.sl.els_len Ac2 (by decide)
 refine G0 (fun z' z L' => ∃ i : Nat, i <= l.length /\ z' = l.length - i /\ z = ((i : Int), ()) /\ (l.take i).find? (fun p => decide ((C7 s.d p).2.2 = 0 /\ An5 (C7 s.d p).1 = key)) = none /\ ∃ J, L'.Perm (seg ++ (J ++ SL p s g))) l.length ⟨0, by omega, by omega, rfl, rfl, [], by simp⟩ ?_
 rintro z' z L1 ⟨i, hi, rfl, rfl, hno, J, hp1⟩
 dsimp only
 have hp1' : L1.Perm (SL p s g ++ (seg ++ J)) := pc fun z => by have := pcn hp1 z; simp only [B7, C5, D8] at *; omega
 refine C0 (fun (hlt : (i : Int) < u.len) => ?_) (fun (hge : ¬ (i : Int) < u.len) => ?_)
 ·have hi' : i < l.length := by omega
  refine V5 Ac2 (by decide) (own.sl.mono fun x hx => hp1.symm.subset (by simp [hx])) (n := i) rfl hi' fun a ha => ?_
  have hwi := hwf _ (List.getElem_mem hi')
  refine A6 (sh := .agg [.int .i64, .int .i64, .int .i64]) l[i] ha (A6 (some ⟨p.m, 0, none⟩) (E8 (SL.st hp1') rfl) ?_)
  refine G9 (A47 p.m s.d g.Ad X.dev ok l[i] hwi) (R := stO p s g :: (kO p s :: (mO p g :: (gO p g :: (g.Ab ++ (rns g.ns ++ (rns g.on.toList ++ (g.pseg ++ (g.Aq ++ (g.Ai ++ (seg ++ J))))))))))) (pc fun z => by have := pcn hp1 z; simp only [SL, B7, C5, D8] at *; omega) ?_
  rintro _ _ ⟨q, rfl, rfl, hq, hql⟩
  refine ⟨_, List.Perm.refl _, (An5 (C7 s.d l[i]).1, q.v, (C7 s.d l[i]).2.2, ()), rfl, ?_⟩
  dsimp only
  have more : ¬ ((C7 s.d l[i]).2.2 = 0 /\ An5 (C7 s.d l[i]).1 = key) -> ∃ k', k' < l.length - i /\ ∃ i' : Nat, i' <= l.length /\ k' = l.length - i' /\ (((i : Int) + 1, ()) : RsV [lI]) = ((i' : Int), ()) /\ (l.take i').find? (fun p => decide ((C7 s.d p).2.2 = 0 /\ An5 (C7 s.d p).1 = key)) = none /\ ∃ J', ((q.seg ++ g.Ad) ++ (stO p s g :: (kO p s :: (mO p g :: (gO p g :: (g.Ab ++ (rns g.ns ++ (rns g.on.toList ++ (g.pseg ++ (g.Aq ++ (g.Ai ++ (seg ++ J)))))))))))).Perm (seg ++ (J' ++ SL p s g)) := fun hne =>
   ⟨l.length - (i + 1), by omega, i + 1, by omega, rfl, rfl, by rw [List.take_succ_eq_append_getElem hi', List.find?_append, hno]; simp [hne], q.seg ++ J, pc fun z => by simp only [SL, B7, C5, D8]; omega⟩
  refine C0 (fun (h0 : (C7 s.d l[i]).2.2 = 0) => ?_) (fun (h0 : ¬ (C7 s.d l[i]).2.2 = 0) => D9 (by omega) (more fun h => h0 h.1))
  refine C0 (fun (h1 : An5 (C7 s.d l[i]).1 = key) => ?_) (fun (h1 : ¬ An5 (C7 s.d l[i]).1 = key) => D9 (by omega) (more fun h => h1 h.2))
  have hf : s.place key = some l[i] := by rw [hpe]; exact C23 hi' hno (by simp [h0, h1])
  refine .drop (A := q.seg ++ SL p s g) (J := seg ++ J) ⟨q.v, q.seg, by rw [hf]; rfl, rfl, ?_⟩ (pc fun z => by simp only [SL, B7, C5, D8]; omega)
  rw [hpv, hf]
  show Own q.v 1 eB (bvs (C7 s.d l[i]).2.1) q.seg
  rw [<- hql]; exact hq
 ·obtain rfl : i = l.length := by omega
  rw [List.take_length] at hno
  have hf : s.place key = none := by rw [hpe]; exact hno
  refine .drop (A := SL p s g) (J := seg ++ J) ⟨⟨none, 0, 0⟩, [], by rw [hf]; rfl, rfl, ?_⟩ hp1'
  rw [hpv, hf]; exact F7
structure Ae8 (ways : Int) (l : List C9) : Prop where
 len : (l.length : Int) <= ways
 nd : (l.map C9.nm).Nodup
 fr : ∀ s ∈ l, 0 <= s.freq /\ s.freq <= 3
theorem Ae8.erase {ways : Int} {l : List C9} (g : Ae8 ways l) (nm : Al6) : Ae8 ways (G3 l nm) := by
 have hs : (G3 l nm).Sublist l := List.eraseP_sublist ..
 exact ⟨by have := hs.length_le; have := g.len; omega, (hs.map _).nodup g.nd, fun s h => g.fr s (hs.subset h)⟩
theorem Bd1 {ways : Int} {l : List C9} (g : Ae8 ways l) (nm : Al6) : nm ∉ (G3 l nm).map C9.nm := by
 rcases S9 l nm with ⟨e1, e2, e3⟩ | ⟨j, hj, e1, e2, e4, e3⟩
 ·rw [e3]
  intro h
  obtain ⟨s, hs, he⟩ := List.mem_map.1 h
  rw [List.find?_eq_none] at e2
  exact e2 s hs (by simpa using he)
 ·rw [e3]
  have hl : l = l.take j ++ l[j] :: l.drop (j + 1) := by rw [<- List.drop_eq_getElem_cons hj, List.take_append_drop]
  have hn := g.nd
  rw [hl, List.map_append, List.map_cons, List.nodup_append] at hn
  obtain ⟨n1, n2, n3⟩ := hn
  rw [List.nodup_cons] at n2
  rw [List.map_append, List.mem_append]
  rintro (h | h)
  ·exact n3 _ h l[j].nm (by simp) (by rw [e4])
  ·exact n2.1 (by rw [e4]; exact h)
theorem Aq5 {ways : Int} {l : List C9} {x : C9} (g : Ae8 ways l) (h1 : (l.length : Int) + 1 <= ways) (h2 : x.nm ∉ l.map C9.nm) (h3 : 0 <= x.freq /\ x.freq <= 3) : Ae8 ways (l ++ [x]) := by
 refine ⟨by rw [List.length_append]; simp only [List.length_cons, List.length_nil]; omega, ?_, fun s hs => ?_⟩
 ·rw [List.map_append, List.nodup_append]
  refine ⟨g.nd, by simp, fun a ha b hb => ?_⟩
  simp only [List.map_cons, List.map_nil, List.mem_singleton] at hb
  rintro rfl
  rw [hb] at ha
  exact h2 ha
 ·rcases List.mem_append.1 hs with h | h
  ·exact g.fr s h
  ·rw [List.mem_singleton.1 h]; exact h3
theorem Bj3 (h : Nat) (p : Pl) (f : Int) : (Cc5 h p f).nm = inm h p := rfl
theorem Bm9 {ways : Int} {l : List C9} (g : Ae8 ways l) (hw : 1 <= ways) (h : Nat) (p : Pl) : Ae8 ways (Bu8 l ways h p) := by
 have g1 := g.erase (inm h p)
 have hn := Bd1 g (inm h p)
 unfold Bu8
 generalize G3 l (inm h p) = l1 at g1 hn ⊢
 by_cases hf : Z9 l1 ways = true
 ·rw [if_pos hf]
  unfold Z9 at hf
  have hl : (l1.length : Int) = ways := by simpa using hf
  have hs : (l1.drop 1).Sublist l1 := List.drop_sublist ..
  refine Aq5 ⟨?_, (hs.map _).nodup g1.nd, fun s h => g1.fr s (hs.subset h)⟩ ?_ ?_ (by simp [Cc5])
  ·rw [List.length_drop]; omega
  ·rw [List.length_drop]; omega
  ·rw [Bj3]; exact fun h => hn ((hs.map _).subset h)
 ·rw [if_neg hf]
  unfold Z9 at hf
  have hl : (l1.length : Int) ≠ ways := by simpa using hf
  have := g1.len
  exact Aq5 g1 (by omega) (by rw [Bj3]; exact hn) (by simp [Cc5])
theorem Bo7 {ways : Int} {l : List C9} (g : Ae8 ways l) (nm : Al6) : Ae8 ways (An8 l nm) := by
 unfold An8
 cases hx : l.findIdx? (fun s => decide (s.nm = nm)) with
 | none => exact g
 | some j =>
  simp only
  have hm : (l.modify j Cc6).map C9.nm = l.map C9.nm := by
   apply List.ext_getElem?
   intro i
   rw [List.getElem?_map, List.getElem?_map, List.getElem?_modify]
   cases l[i]? with
   | none => rfl
   | some s =>
    by_cases hij : j = i
    ·simp [hij, Cc6, C9.nm]
    ·simp [hij]
  refine ⟨by rw [List.length_modify]; exact g.len, by rw [hm]; exact g.nd, fun s hs => ?_⟩
  obtain ⟨i, hi, rfl⟩ := List.mem_iff_getElem.1 hs
  rw [List.getElem_modify]
  rw [List.length_modify] at hi
  have h1 := g.fr l[i] (List.getElem_mem hi)
  split
  ·unfold Cc6 Y1
   simp only
   split <;> omega
  ·exact h1
theorem B36 {ways : Int} {l : List C9} {x : C9} (g : Ae8 ways l) (h : Nat) (p q : Pl) (hx : l.find? (fun s => decide (s.nm = inm h p)) = some x) : Ae8 ways (G3 (G3 l (inm h p)) (inm h q) ++ [Cc5 h q (Ab4 (x.freq - 1) 0)]) := by
 have g1 := g.erase (inm h p)
 have g2 := g1.erase (inm h q)
 have hn := Bd1 g1 (inm h q)
 have hlt : (G3 l (inm h p)).length < l.length := by
  rcases S9 l (inm h p) with ⟨_, e, _⟩ | ⟨j, hj, _, _, _, e⟩
  ·rw [hx] at e; cases e
  ·rw [e, List.length_append, List.length_take, List.length_drop]; omega
 have hle : (G3 (G3 l (inm h p)) (inm h q)).length <= (G3 l (inm h p)).length := List.length_eraseP_le ..
 have hfx := g.fr x (List.mem_of_find?_eq_some hx)
 have := g.len
 refine Aq5 g2 (by omega) (by rw [Bj3]; exact hn) ?_
 show 0 <= Ab4 (x.freq - 1) 0 /\ Ab4 (x.freq - 1) 0 <= 3
 unfold Ab4
 split <;> omega
def Cc9 (ways : Int) (ss : List (List C9)) : Prop := ∀ l ∈ ss, Ae8 ways l
theorem Cc9.row {ways : Int} {ss : List (List C9)} (g : Cc9 ways ss) {h : Nat} (hl : isi ss h < ss.length) : Ae8 ways (O2 ss h) := by
 unfold O2
 rw [List.getD_eq_getElem?_getD, List.getElem?_eq_getElem hl]
 exact g _ (List.getElem_mem hl)
theorem Cc9.iset {ways : Int} {ss : List (List C9)} (g : Cc9 ways ss) (h : Nat) {row : List C9} (hr : Ae8 ways row) : Cc9 ways (iset ss h row) := by
 intro l hl
 unfold Go.Proofs.YtbaoieipijmakaaGreatDoor.iset at hl
 rcases List.mem_or_eq_of_mem_set hl with h1 | h1
 ·exact g l h1
 ·rw [h1]; exact hr
theorem Ai4 (ss : List (List C9)) (h : Nat) (row : List C9) : (iset ss h row).length = ss.length := List.length_set ..
def iact (ways : Int) (ss : List (List C9)) (kind : Int) (h : Nat) (p q : Pl) : List (List C9) :=
 if kind = 0 then Cr8 ss ways h p else if kind = 1 then ss else if kind = 2 then iset ss h (G3 (O2 ss h) (inm h p)) else if kind = 3 then iset ss h (An8 (O2 ss h) (inm h p)) else At6 ss h p q
theorem Ck4 {ways : Int} {ss : List (List C9)} (g : Cc9 ways ss) (hw : 1 <= ways) {h : Nat} (hl : isi ss h < ss.length) (p : Pl) : Cc9 ways (Cr8 ss ways h p) := g.iset h (Bm9 (g.row hl) hw h p)
theorem Cl1 {ways : Int} {ss : List (List C9)} (g : Cc9 ways ss) (hw : 1 <= ways) (kind : Int) {h : Nat} (hl : isi ss h < ss.length) (p q : Pl) : Cc9 ways (iact ways ss kind h p q) /\ (iact ways ss kind h p q).length = ss.length := by
 unfold iact
 split
 ·exact ⟨Ck4 g hw hl p, Ai4 ..⟩
 ·split
  ·exact ⟨g, rfl⟩
  ·split
   ·exact ⟨g.iset h ((g.row hl).erase _), Ai4 ..⟩
   ·split
    ·exact ⟨g.iset h (Bo7 (g.row hl) _), Ai4 ..⟩
    ·unfold At6
     split
     ·exact ⟨g, rfl⟩
     ·rename_i x hx
      exact ⟨g.iset h (B36 (g.row hl) h p q hx), Ai4 ..⟩
def bct (q : Nat -> Bool) : Nat -> Nat
 | 0 => 0
 | k + 1 => bct q k + (if q k = true then 1 else 0)
theorem Av2 {q r : Nat -> Bool} : ∀ {k : Nat}, (∀ i, i < k -> q i = r i) -> bct q k = bct r k
 | 0, _ => rfl
 | k + 1, h => by
  unfold bct
  rw [Av2 (fun i hi => h i (by omega)), h k (by omega)]
theorem Cb1 (q r : Nat -> Bool) : ∀ k, bct (fun i => q i && !r i) k + bct (fun i => q i && r i) k = bct q k
 | 0 => rfl
 | k + 1 => by
  have := Cb1 q r k
  unfold bct
  cases q k <;> cases r k <;> simp <;> omega
theorem Ct4 (q : Nat -> Bool) : ∀ k, bct q k <= k
 | 0 => Nat.le_refl _
 | k + 1 => by
  have := Ct4 q k
  unfold bct
  split <;> omega
theorem Cb0 {q r : Nat -> Bool} {j : Nat} : ∀ {k : Nat}, (∀ i, i < k -> i ≠ j -> q i = r i) -> j < k -> bct q k + (if r j = true then 1 else 0) = bct r k + (if q j = true then 1 else 0)
 | 0, _, hj => by omega
 | k + 1, h, hj => by
  unfold bct
  by_cases hk : j = k
  ·subst hk
   rw [Av2 (q := q) (r := r) (fun i hi => h i (by omega) (by omega))]
   omega
  ·have h1 := Cb0 (q := q) (r := r) (j := j) (k := k) (fun i hi hne => h i (by omega) hne) (by omega)
   have h2 := h k (by omega) (fun e => hk e.symm)
   rw [h2]
   omega
theorem Br3 : ∀ k, bct (fun _ => false) k = 0
 | 0 => rfl
 | k + 1 => by unfold bct; rw [Br3 k]; rfl
theorem Bw4 (ss : List BS) (us : List Int) : A01 ss us = ((bct (fun i => N8 ss us (i : Int)) ss.length : Nat) : Int) := by
 unfold A01
 refine Bd4 (N8 ss us) (fun (k : Int) _ _ => k + 1) 0 ss (fun n k => k = ((bct (fun i => N8 ss us (i : Int)) n : Nat) : Int)) rfl ?_
 intro i hi s hs
 subst hs
 show _ = ((bct (fun i => N8 ss us (i : Int)) i + (if N8 ss us (i : Int) = true then 1 else 0) : Nat) : Int)
 split <;> simp
def Ca4 (ss : List BS) (us : List Int) : Prop := us.Nodup /\ ∀ x ∈ us, H7 ss x = true
theorem Cn8 {ss : List BS} {x : Int} (h : H7 ss x = true) : 0 <= x /\ x < ss.length := by
 obtain ⟨h0, hi, _⟩ := P9 h
 omega
theorem Bq7 {ss : List BS} {us : List Int} (h : Ca4 ss us) : bus ss us := ⟨h.1, fun x hx => Cn8 (h.2 x hx)⟩
def V8 (ss : List BS) : Nat := bct (fun i => H7 ss (i : Int)) ss.length
theorem Be1 {ss : List BS} {us : List Int} (h : Ca4 ss us) {n : Int} (hf : N8 ss us n = true) : Ca4 ss (us ++ [n]) := by
 refine ⟨(Bq8 (Bq7 h) hf).1, fun x hx => ?_⟩
 rcases List.mem_append.1 hx with h1 | h1
 ·exact h.2 x h1
 ·rw [List.mem_singleton.1 h1]; exact (O9 hf).1
theorem Be5 {ss : List BS} {n : Int} (g : BS -> BS) {x : Int} (hn : 0 <= n) (hx : x ≠ n) : H7 (Ag6 ss n g) x = H7 ss x := by
 unfold H7 Ag6
 by_cases h0 : 0 <= x
 ·rw [List.getElem?_modify]
  have : ¬ n.toNat = x.toNat := by omega
  simp [this]
 ·rw [decide_eq_false h0]; rfl
theorem Be4 {ss : List BS} {n : Int} (g : BS -> BS) (hg : H7 ss n = true) : ∃ s, ss[n.toNat]? = some s /\ H7 (Ag6 ss n g) n = !(g s).bad := by
 obtain ⟨h0, hi, hb⟩ := P9 hg
 refine ⟨ss[n.toNat], List.getElem?_eq_getElem hi, ?_⟩
 unfold H7 Ag6
 rw [List.getElem?_modify, decide_eq_true h0, List.getElem?_eq_getElem hi]
 simp
theorem C05 {us : List Int} {n x : Int} : x ∈ iwo us n ↔ x ∈ us /\ x ≠ n := by
 unfold iwo
 rw [List.mem_filter]
 simp
theorem Cn2 {ss : List BS} {us : List Int} (h : Ca4 ss us) {n : Int} (hn : H7 ss n = true) (g : BS -> BS) : Ca4 (Ag6 ss n g) (iwo us n) := by
 have h0 := (P9 hn).1
 refine ⟨h.1.filter _, fun x hx => ?_⟩
 obtain ⟨h1, h2⟩ := C05.1 hx
 rw [Be5 g h0 h2]
 exact h.2 x h1
theorem A00 {ss : List BS} {n : Int} (hn : H7 ss n = true) (g : BS -> BS) {bad : Bool} (hb : ∀ s, ss[n.toNat]? = some s -> (g s).bad = bad) : (V8 (Ag6 ss n g) : Int) = V8 ss - (if bad = true then 1 else 0) := by
 obtain ⟨h0, hi, hbb⟩ := P9 hn
 obtain ⟨s, hs, hg⟩ := Be4 g hn
 rw [hb s hs] at hg
 have h1 := Cb0 (q := fun i => H7 (Ag6 ss n g) (i : Int)) (r := fun i => H7 ss (i : Int)) (j := n.toNat) (k := ss.length) (fun i hi hne => Be5 g h0 (by omega)) (by omega)
 have e : ((n.toNat : Nat) : Int) = n := by omega
 simp only [e] at h1
 rw [hn, hg] at h1
 unfold V8
 rw [A53]
 cases bad <;> simp at h1 ⊢ <;> omega
def bat (ss : List BS) (n : Int) : BS := (ss[n.toNat]?).getD bs0
theorem Br5 {ss : List BS} {i : Nat} (hi : i < ss.length) : bat ss (i : Int) = ss[i] := by
 unfold bat
 rw [Int.toNat_natCast, List.getElem?_eq_getElem hi]; rfl
theorem Bw0 (ss : List BS) (us : List Int) : ((F5 ss us).1 = false -> ∀ i : Nat, i < ss.length -> N8 ss us i = false) /\
  ((F5 ss us).1 = true -> N8 ss us (F5 ss us).2.2 = true /\ (F5 ss us).2.1 = bat ss (F5 ss us).2.2 /\ ∀ i : Nat, i < ss.length -> N8 ss us i = true -> Z5 (bat ss (F5 ss us).2.2) <= Z5 (bat ss i)) /\ ((F5 ss us).1 = false -> (F5 ss us).2.1 = bs0 /\ (F5 ss us).2.2 = 0) := by
 unfold F5
 refine Bd4 (N8 ss us) M6 (false, bs0, 0) ss (fun n (s : BPk) => (s.1 = false -> ∀ i : Nat, i < n -> N8 ss us i = false) /\ (s.1 = true -> N8 ss us s.2.2 = true /\ s.2.1 = bat ss s.2.2 /\ ∀ i : Nat, i < n -> N8 ss us i = true -> Z5 (bat ss s.2.2) <= Z5 (bat ss i)) /\ (s.1 = false -> s.2.1 = bs0 /\ s.2.2 = 0)) ⟨fun _ i hi => by omega, fun h => by simp at h, fun _ => ⟨rfl, rfl⟩⟩ ?_
 rintro i hi ⟨fd, best, at'⟩ ⟨h1, h2, h3⟩
 simp only at h1 h2 h3
 by_cases hf : N8 ss us (i : Int) = true
 ·rw [if_pos hf]
  unfold M6
  simp only
  by_cases hc : fd = false \/ Z5 ss[i] < Z5 best
  ·rw [if_pos hc]
   refine ⟨fun h => by simp at h, fun _ => ⟨hf, (Br5 hi).symm, fun j hj hfj => ?_⟩, fun h => by simp at h⟩
   simp only [Br5 hi]
   rcases Nat.lt_or_ge j i with hji | hji
   ·rcases hc with hc | hc
    ·rw [h1 hc j hji] at hfj; cases hfj
    ·cases fd with
     | false => rw [h1 rfl j hji] at hfj; cases hfj
     | true =>
      obtain ⟨a, b, c⟩ := h2 rfl
      have := c j hji hfj
      rw [b] at hc
      omega
   ·obtain rfl : j = i := by omega
    rw [Br5 hi]
    exact Int.le_refl _
  ·rw [if_neg hc]
   have hfd : fd = true := by
    cases fd with
    | true => rfl
    | false => exact absurd (.inl rfl) hc
   subst hfd
   obtain ⟨a, b, c⟩ := h2 rfl
   refine ⟨fun h => by simp at h, fun _ => ⟨a, b, fun j hj hfj => ?_⟩, fun h => by simp at h⟩
   rcases Nat.lt_or_ge j i with hji | hji
   ·exact c j hji hfj
   ·obtain rfl : j = i := by omega
    have : ¬ Z5 ss[j] < Z5 best := fun q => hc (.inr q)
    rw [b, <- Br5 hi] at this
    show Z5 (bat ss at') <= _
    omega
 ·rw [if_neg hf]
  have hf' : N8 ss us (i : Int) = false := by simpa using hf
  refine ⟨fun h j hj => ?_, fun h => ⟨(h2 h).1, (h2 h).2.1, fun j hj hfj => ?_⟩, h3⟩
  ·rcases Nat.lt_or_ge j i with hji | hji
   ·exact h1 h j hji
   ·obtain rfl : j = i := by omega
    exact hf'
  ·rcases Nat.lt_or_ge j i with hji | hji
   ·exact (h2 h).2.2 j hji hfj
   ·obtain rfl : j = i := by omega
    rw [hf'] at hfj; cases hfj
structure RowOk (s : Sto) (h : Nat) : Prop where
 len : (O2 s.ix h).length < 100
 wf : ∀ x ∈ P0 (O2 s.ix h) h, W1 .i64 x.2.1
 fr : ∀ x ∈ O2 s.ix h, 0 <= x.freq /\ x.freq <= 3
def Reg.Good (r : Reg) : Prop := r.l.length <= 256 /\ ∀ x ∈ r.l, (0 <= x.2.1 /\ x.2.1 <= 255) /\ 0 <= x.2.2.1 /\ x.2.2.1 <= 255
structure SOk (s : Sto) (M : Nat) : Prop where
 dv : S3 s.d
 dn : s.down = s.d.down
 few : s.d.torn.length + (if s.d.down = true then 0 else 1) <= 1000
 cfg : s.d.c = s.sc.c
 bk : s.bk.Ok
 ixi : Cc9 s.sc.ways s.ix
 ixl : 1 <= s.ix.length
 ixw : ∀ row ∈ s.ix, ∀ x ∈ row, W1 .i64 x.p
 wy : 1 <= s.sc.ways /\ s.sc.ways <= 8
 sm : 0 <= s.sc.small /\ s.sc.small <= 65536
 gs : 0 <= s.sc.ghost /\ s.sc.ghost <= 64
 gl : (s.gh.length : Int) <= s.sc.ghost
 op : ∀ o, s.op = some o -> 1 <= o.nx /\ o.nx <= 16 /\ (o.l.length : Int) <= o.nx
 it : ∀ r, r ∈ s.rs \/ s.op = some r -> r.Good
 use : Ca4 s.ss s.us
 ssl : s.ss.length = s.d.bs.length
 ssd : s.down = false -> ∀ (i : Nat) k, s.d.bs[i]? = some k -> ∃ x, s.ss[i]? = some x /\ x.wear = k.wear /\ x.bad = k.bad
 sw : ∀ x ∈ s.ss, 0 <= x.wear /\ x.wear <= 1048576
 ep : 0 <= s.epoch /\ s.epoch <= 1073741824
 qs : ∀ e ∈ s.q, 1 <= e.1.size /\ e.1.size <= 255 /\ e.2.1.length <= 65536
 ql : s.q.length <= 66000
 pl : s.pend.length <= M
section
variable {s : Sto} {M : Nat}
theorem SOk.S (h : SOk s M) : 64 <= s.sc.c.S /\ s.sc.c.S <= 512 := by rw [<- h.cfg]; exact h.dv.c.s
theorem SOk.P (h : SOk s M) : 4 <= s.sc.c.P /\ s.sc.c.P <= 16 := by rw [<- h.cfg]; exact h.dv.c.p
theorem SOk.isi (h : SOk s M) (k : Nat) : isi s.ix k < s.ix.length := Nat.mod_lt _ h.ixl
theorem Ai6 {ss : List (List C9)} {k : Nat} (h : isi ss k < ss.length) : O2 ss k ∈ ss := by
 unfold O2
 rw [List.getD_eq_getElem?_getD, List.getElem?_eq_getElem h]
 exact List.getElem_mem h
theorem SOk.row (h : SOk s M) (k : Nat) : RowOk s k := by
 have g := h.ixi.row (h.isi k)
 have hm := Ai6 (h.isi k)
 refine ⟨by have := g.len; have := h.wy; omega, fun x hx => ?_, g.fr⟩
 unfold P0 at hx
 obtain ⟨y, hy, rfl⟩ := List.mem_map.1 hx
 exact h.ixw _ hm y (List.mem_filter.1 hy).1
theorem SOk.dg (h : SOk s M) (n : Nat) (hn : n <= 1000000) : DG s.d n := ⟨h.dv, by have := h.few; split at this <;> omega⟩
theorem SOk.upto {N : Nat} (h : SOk s M) (hn : M <= N) : SOk s N := { h with pl := Nat.le_trans h.pl hn }
theorem SOk.usl (h : SOk s M) : s.us.length <= 16 := by
 have h1 := Bk6 (Bq7 h.use)
 have h2 := h.ssl
 have h3 := h.dv.len
 have h4 := h.dv.c.b
 omega
theorem SOk.pay (h : SOk s M) (n : Int) : SOk (s.pay n) M := { h with dv := h.dv, bk := Ca7 h.bk _ }
theorem SOk.step (h : SOk s M) (hd : s.down = false) {d' : Dev} {e : Int} (st : DSt s.d d' e) : SOk ((s.dev d').met e) M := by
 have e1 : ((s.dev d').met e).down = decide (e = 11) := by
  show (s.down || decide (e = 11)) = _
  rw [hd]; rfl
 refine { h with dv := st.ok, dn := by rw [e1]; exact st.dn.symm, few := ?_, cfg := st.c.trans h.cfg, ssl := h.ssl.trans st.ln.symm, ssd := fun hx i k hk => ?_ }
 ·have h1 := st.tn
  have h2 := h.few
  rw [<- h.dn, hd] at h2
  simp at h2
  show d'.torn.length + (if d'.down = true then 0 else 1) <= 1000
  omega
 ·obtain ⟨k0, hk0, w, b⟩ := st.wr i k hk
  obtain ⟨x, hx, w2, b2⟩ := h.ssd hd i k0 hk0
  exact ⟨x, hx, by rw [w2, w], b2.trans b.symm⟩
theorem met0 (s : Sto) : s.met 0 = s := by unfold Sto.met; simp
theorem Cj3 {s : Sto} {e : Int} (hd : s.down = false) (he : e = 0) : (s.met e).down = false := by rw [he, met0]; exact hd
theorem bat_lt {l : List It} {x : It} {P : It -> Prop} (h : ∀ y ∈ l, P y) (hx : P x) : ∀ y ∈ l ++ [x], P y := fun y hy => by
 rcases List.mem_append.1 hy with hy | hy
 ·exact h y hy
 ·rw [List.mem_singleton.1 hy]; exact hx
theorem SOk.write (h : SOk s M) (hd : s.down = false) (kind : Int) (l : List (List UInt8)) : SOk (s.write kind l).1 M /\ ((s.write kind l).2.2 = 0 -> (s.write kind l).1.down = false) := by
 unfold Sto.write
 split
 ·exact ⟨h, fun _ => hd⟩
 ·rename_i o ho
  have hP := h.P
  obtain ⟨st, hok⟩ := C40 h.dv (by rw [<- h.dn]; exact hd) o.b o.ep o.nx kind l
  rw [h.cfg] at hok
  dsimp only
  generalize Ax0 s.d o.b o.ep o.nx kind l = q at st hok
  have h2 : SOk ((((s.pay l.length).dev q.2)).met q.1) M := SOk.step (h.pay _) hd st
  by_cases h0 : q.1 = 0
  ·rw [if_neg (by simpa using h0)]
   rw [h0, met0] at h2
   obtain ⟨hl, hn1, hn2⟩ := hok h0
   have hl1 : 1 <= l.length := by cases l with | nil => exact absurd rfl hl | cons a b => simp
   have hop := h.op o ho
   have hg := h.it o (.inr ho)
   refine ⟨{ h2 with dv := h2.dv, op := fun o' ho' => ?_, it := fun r hr => ?_, use := ?_ }, fun _ => hd⟩
   ·obtain rfl := Option.some.inj ho'
    unfold Reg.grown
    refine ⟨by simp only; omega, by simp only; omega, ?_⟩
    simp only [List.length_append, List.length_cons, List.length_nil]
    omega
   ·rcases hr with hr | hr
    ·exact h.it r (.inl hr)
    ·obtain rfl := Option.some.inj hr
     unfold Reg.grown
     refine ⟨by simp only [List.length_append, List.length_cons, List.length_nil]; omega, ?_⟩
     exact bat_lt hg.2 ⟨⟨by simp only; omega, by simp only; omega⟩, by simp only; omega, by simp only; omega⟩
   ·have : ({ (s.pay l.length).dev q.2 with op := some (o.grown kind l.length) } : Sto).us = s.us := by
     show s.rs.map Reg.b ++ [o.b] = s.rs.map Reg.b ++ (s.op.map Reg.b).toList
     rw [ho]; rfl
    rw [this]; exact h.use
  ·rw [if_pos (by simpa using h0)]
   exact ⟨h2, fun he => absurd he h0⟩
theorem SOk.seals (h : SOk s M) (hd : s.down = false) : SOk s.seals.1 M /\ (s.seals.2 = 0 -> s.seals.1.down = false) /\ s.seals.1.op = none /\ s.seals.1.us = s.us /\ s.seals.1.ss = s.ss /\ s.seals.1.epoch = s.epoch /\ s.seals.1.sc = s.sc := by
 unfold Sto.seals
 split
 ·rename_i ho
  exact ⟨h, fun _ => hd, ho, rfl, rfl, rfl, rfl⟩
 ·rename_i o ho
  have st := Cg0 h.dv (by rw [<- h.dn]; exact hd) o.b o.ep o.nx o.l
  dsimp only
  generalize Ab2 s.d o.b o.ep o.nx o.l = q at st
  have h2 : SOk ((((s.pay 1).dev q.2)).met q.1) M := SOk.step (h.pay _) hd st
  have hus : (({ (s.pay 1).dev q.2 with op := none, rs := s.rs ++ [o] } : Sto).met q.1).us = s.us := by
   show (s.rs ++ [o]).map Reg.b ++ [] = s.rs.map Reg.b ++ (s.op.map Reg.b).toList
   rw [ho]; simp
  refine ⟨{ h2 with dv := h2.dv, op := fun o' ho' => (by cases ho'), it := fun r hr => ?_, use := by rw [hus]; exact h.use }, fun he => Cj3 hd he, rfl, hus, rfl, rfl, rfl⟩
  rcases hr with hr | hr
  ·rcases List.mem_append.1 hr with hr | hr
   ·exact h.it r (.inl hr)
   ·rw [List.mem_singleton.1 hr]; exact h.it o (.inr ho)
  ·cases hr
theorem SOk.begins (h : SOk s M) (hd : s.down = false) (hop : s.op = none) (hep : s.epoch < 1073741824) {b : Int} (hb : N8 s.ss s.us b = true) : SOk (s.begins b).1 M /\ ((s.begins b).2 = 0 -> (s.begins b).1.down = false /\ (s.begins b).1.us = s.us ++ [b]) := by
 unfold Sto.begins
 have st := Ci4 h.dv (by rw [<- h.dn]; exact hd) b (s.epoch + 1)
 dsimp only
 generalize Ag2 s.d b (s.epoch + 1) = q at st
 have h2 : SOk ((((s.pay 1).dev q.2)).met q.1) M := SOk.step (h.pay _) hd st
 by_cases h0 : q.1 = 0
 ·rw [if_neg (by simpa using h0)]
  rw [h0, met0] at h2
  have hus : ({ (s.pay 1).dev q.2 with epoch := s.epoch + 1, op := some ⟨b, s.epoch + 1, 1, []⟩ } : Sto).us = s.us ++ [b] := by
   show s.rs.map Reg.b ++ [b] = s.rs.map Reg.b ++ (s.op.map Reg.b).toList ++ [b]
   rw [hop]; simp
  refine ⟨{ h2 with dv := h2.dv, op := fun o' ho' => ?_, it := fun r hr => ?_, use := by rw [hus]; exact Be1 h.use hb, ep := by have := h.ep; show 0 <= s.epoch + 1 /\ s.epoch + 1 <= 1073741824; omega }, fun _ => ⟨hd, hus⟩⟩
  ·obtain rfl := Option.some.inj ho'
   exact ⟨Int.le_refl 1, show (1 : Int) <= 16 by decide, by simp⟩
  ·rcases hr with hr | hr
   ·exact h.it r (.inl hr)
   ·obtain rfl := Option.some.inj hr
    exact ⟨by simp, by simp⟩
 ·rw [if_pos (by simpa using h0)]
  exact ⟨h2, fun he => absurd he h0⟩
theorem SOk.erase (h : SOk s M) (hd : s.down = false) {b : Int} (hb : ∀ o, s.op = some o -> o.b ≠ b) :
  SOk (s.erase b).1 M /\ ((s.erase b).2 = 0 -> (s.erase b).1.down = false /\ (s.erase b).1.us = iwo s.us b /\ (s.erase b).1.ss = (if H7 s.ss b = true then Ag6 s.ss b (T7 (decide ((J8 s.d b).1 = 10))) else s.ss)) /\ (s.erase b).1.op = s.op /\ (s.erase b).1.bk = s.bk /\ (s.erase b).1.epoch = s.epoch /\ (s.erase b).1.sc = s.sc := by
 unfold Sto.erase
 have st := B88 h.dv (by rw [<- h.dn]; exact hd) b
 dsimp only
 generalize J8 s.d b = q at st
 have hfew := h.few
 rw [<- h.dn, hd] at hfew
 simp at hfew
 by_cases h0 : q.1 = 11
 ·rw [if_pos h0]
  refine ⟨{ h with dv := st.ok, dn := ?_, few := ?_, cfg := st.c.trans h.cfg, ssl := h.ssl.trans st.ln.symm, ssd := fun hx => ?_ }, fun he => absurd (show (11 : Int) = 0 from he) (by decide), rfl, rfl, rfl, rfl⟩
  ·show (s.down || decide ((11 : Int) = 11)) = q.2.down
   rw [st.dn, h0, hd]; rfl
  ·show q.2.torn.length + (if q.2.down = true then 0 else 1) <= 1000
   rw [st.tn]
   split <;> omega
  ·have : (s.down || decide ((11 : Int) = 11)) = false := hx
   rw [hd] at this
   exact absurd this (by decide)
 ·rw [if_neg h0]
  obtain ⟨s', hs'⟩ : ∃ s' : Sto, s' = { s.dev q.2 with ss := if H7 s.ss b = true then Ag6 s.ss b (T7 (decide (q.1 = 10))) else s.ss, rs := s.rs.filter fun r => !decide (r.b = b) } := ⟨_, rfl⟩
  rw [<- hs']
  have hss : s'.ss = if H7 s.ss b = true then Ag6 s.ss b (T7 (decide (q.1 = 10))) else s.ss := by rw [hs']
  have hus : s'.us = iwo s.us b := by
   have e1 : s'.rs = s.rs.filter fun r => !decide (r.b = b) := by rw [hs']
   have e2 : s'.op = s.op := by rw [hs']; rfl
   unfold Sto.us iwo
   rw [e1, e2, List.filter_append]
   congr 1
   ·rw [List.filter_map]
    congr 1
    refine List.filter_congr fun x _ => ?_
    simp
   ·cases ho : s.op with
    | none => rfl
    | some o =>
     have := hb o ho
     simp [this]
  have hdd : s'.d = q.2 := by rw [hs']; rfl
  have hssl : s'.ss.length = s'.d.bs.length := by
   rw [hdd, st.ln, <- h.ssl, hss]
   split
   ·exact A53 ..
   ·rfl
  have hssd : ∀ (i : Nat) k, s'.d.bs[i]? = some k -> ∃ x, s'.ss[i]? = some x /\ x.wear = k.wear /\ x.bad = k.bad := fun i k' hk' => by
   rw [hdd] at hk'
   obtain ⟨k, hk, hcase⟩ := st.wr h0 i k' hk'
   obtain ⟨x, hx, hw, hbd⟩ := h.ssd hd i k hk
   have hbg : (i : Int) = b -> H7 s.ss b = !x.bad := fun e => by
    unfold H7
    subst e
    rw [Int.toNat_natCast, hx]
    simp
   rw [hss]
   rcases hcase with ⟨⟨e, kb⟩, w, bd⟩ | ⟨hn, w, bd⟩
   ·have hg : H7 s.ss b = true := by rw [hbg e, hbd, kb]; rfl
    rw [if_pos hg]
    refine ⟨T7 (decide (q.1 = 10)) x, ?_, ?_, ?_⟩
    ·unfold Ag6
     rw [List.getElem?_modify, hx]
     simp [show b.toNat = i by omega]
    ·show x.wear + 1 = _
     rw [hw, w]; simp
    ·exact bd.symm
   ·refine ⟨x, ?_, by rw [hw, w], hbd.trans bd.symm⟩
    split
    ·rename_i hg
     have : (i : Int) ≠ b := fun e => by
      rw [hbg e, hbd] at hg
      exact hn ⟨e, by simpa using hg⟩
     unfold H7 at hg
     simp only [Bool.and_eq_true, decide_eq_true_eq] at hg
     unfold Ag6
     rw [List.getElem?_modify, hx]
     simp [show ¬ b.toNat = i by omega]
    ·exact hx
  have hsw : ∀ x ∈ s'.ss, 0 <= x.wear /\ x.wear <= 1048576 := fun x hx => by
   obtain ⟨i, hi, rfl⟩ := List.getElem_of_mem hx
   obtain ⟨y, hy, hw, -⟩ := hssd i (s'.d.bs[i]'(by omega)) (List.getElem?_eq_getElem (by omega))
   rw [List.getElem?_eq_getElem hi] at hy
   obtain rfl := Option.some.inj hy
   have h1 := st.ok.nx _ (show s'.d.bs[i]'(by omega) ∈ q.2.bs by rw [<- hdd]; exact List.getElem_mem _)
   have h2 := st.ok.c.w
   rw [hw]
   omega
  have hdn' : s'.down = false := by rw [hs']; exact hd
  have huse : Ca4 s'.ss s'.us := by
   rw [hss, hus]
   split
   ·rename_i hg
    exact Cn2 h.use hg _
   ·rename_i hg
    have : b ∉ s.us := fun hm => hg (h.use.2 b hm)
    have e : iwo s.us b = s.us := by
     unfold iwo
     rw [List.filter_eq_self]
     intro y hy
     have : y ≠ b := fun e => this (e ▸ hy)
     simp [this]
    rw [e]; exact h.use
  refine ⟨?_, fun _ => ⟨hdn', hus, hss⟩, by rw [hs']; rfl, by rw [hs']; rfl, by rw [hs']; rfl, by rw [hs']; rfl⟩
  refine ⟨by rw [hdd]; exact st.ok, ?_, ?_, ?_, by rw [hs']; exact h.bk, by rw [hs']; exact h.ixi, by rw [hs']; exact h.ixl, by rw [hs']; exact h.ixw, by rw [hs']; exact h.wy, by rw [hs']; exact h.sm, by rw [hs']; exact h.gs, by rw [hs']; exact h.gl, by rw [hs']; exact h.op, ?_, huse, hssl, fun _ => hssd, hsw, by rw [hs']; exact h.ep, by rw [hs']; exact h.qs, by rw [hs']; exact h.ql, by rw [hs']; exact h.pl⟩
  ·rw [hdn', hdd, st.dn]; exact (decide_eq_false h0).symm
  ·rw [hdd, st.tn]; split <;> omega
  ·rw [hdd, st.c]; rw [hs']; exact h.cfg
  ·intro r hr
   rw [hs'] at hr
   rcases hr with hr | hr
   ·exact h.it r (.inl (List.mem_filter.1 hr).1)
   ·exact h.it r (.inr hr)
theorem Bn8 {ss : List (List C9)} {k : Nat} {row r : List C9} (h : r ∈ iset ss k row) : r ∈ ss \/ r = row := by
 unfold iset at h
 exact List.mem_or_eq_of_mem_set h
theorem SOk.ixset (h : SOk s M) (k : Nat) {row : List C9} (hg : Ae8 s.sc.ways row) (hw : ∀ x ∈ row, W1 .i64 x.p) : SOk { s with ix := iset s.ix k row } M := by
 refine { h with dv := h.dv, ixi := h.ixi.iset k hg, ixl := by rw [Ai4]; exact h.ixl, ixw := fun r hr => ?_ }
 rcases Bn8 hr with hr | rfl
 ·exact h.ixw r hr
 ·exact hw
theorem Y8 (l : List C9) (nm : Al6) : ∀ x ∈ G3 l nm, x ∈ l := fun x hx => (List.eraseP_sublist ..).subset hx
theorem SOk.ixdrop (h : SOk s M) (k : Nat) (p : It) : SOk (s.ixdrop k p) M := h.ixset k ((h.ixi.row (h.isi k)).erase _) fun x hx => h.ixw _ (Ai6 (h.isi k)) x (Y8 _ _ x hx)
theorem B64 {l : List C9} {ways : Int} {k : Nat} {p : Pl} : ∀ x ∈ Bu8 l ways k p, x ∈ l \/ x = Cc5 k p 0 := fun x hx => by
 unfold Bu8 at hx
 rcases List.mem_append.1 hx with hx | hx
 ·left
  split at hx
  ·exact Y8 _ _ x (List.mem_of_mem_drop hx)
  ·exact Y8 _ _ x hx
 ·right; exact List.mem_singleton.1 hx
theorem SOk.list (h : SOk s M) (key : ByteArray) (p : It) (hp : W1 .i64 p.2.1) : SOk (s.list key p) (M + 1) := by
 have h1 : SOk { s with ix := Cr8 s.ix s.sc.ways (s.hash key) p } M := h.ixset _ (Bm9 (h.ixi.row (h.isi _)) h.wy.1 _ _) fun x hx => by
  rcases B64 x hx with hx | rfl
  ·exact h.ixw _ (Ai6 (h.isi _)) x hx
  ·exact hp
 unfold Sto.list
 refine { h1 with dv := h1.dv, pl := ?_ }
 have := h.pl
 simp only
 split
 ·rw [List.length_append]; simp; omega
 ·omega
end
theorem Ck2 (b : List UInt8) : (Ae5 b).1.length <= 65536 /\ (Ae5 b).2.1.length <= 65536 := by
 have h1 := Ag9 (b := b) (a := 0) (by omega)
 have h2 := Ag9 (b := b) (a := (F9 b 0).2.1) h1.2.1
 unfold Ae5
 repeat' split
 all_goals first | exact ⟨h1.2.2.1, h2.2.2.1⟩ | exact ⟨Nat.zero_le _, Nat.zero_le _⟩
theorem Bc9 (d : Dev) (p : It) : (C7 d p).1.length <= 65536 /\ (C7 d p).2.1.length <= 65536 := by
 unfold C7
 repeat' split
 all_goals first | exact Ck2 _ | exact ⟨Nat.zero_le _, Nat.zero_le _⟩
theorem Bb2 (l : List UInt8) : (An5 l).size = l.length := by unfold An5; exact List.size_toArray
theorem Bz4 (L : A4) (v : SlV) (l : List It) (h : Sl L v 3 (l.flatMap Bh8)) (hl : l.length <= 1000000) (x : It) :
  CallF PP 323 #[.slice v.a v.len v.cap, .agg #[.i x.1, .i x.2.1, .i x.2.2.1]] L fun r L' => (∃ n : Int, r = .i n /\ (0 <= n ↔ x ∈ l)) /\ L' = L := by
 refine c323 v x ?_
 unfold s323
 have hvl := h.els_len Ac2 (by decide)
 refine G0 (fun z' z L' => ∃ i : Nat, i <= l.length /\ z' = l.length - i /\ z = ((i : Int), ()) /\ x ∉ l.take i /\ L' = L) l.length ⟨0, by omega, by omega, rfl, by simp, rfl⟩ ?_
 rintro z' z L' ⟨i, hi, rfl, rfl, hno, hL'⟩
 rw [hL']
 dsimp only
 refine C0 (fun (hlt : (i : Int) < v.len) => ?_) (fun (hge : ¬ (i : Int) < v.len) => ?_)
 ·have hi' : i < l.length := by omega
  refine V5 Ac2 (by decide) h (n := i) rfl hi' fun a ha => ?_
  refine A6 (sh := .agg [.int .i64, .int .i64, .int .i64]) l[i] ha (eqPlc x l[i] (C0 (fun he => ?_) (fun he => ?_)))
  ·exact .of ⟨⟨(i : Int), rfl, ⟨fun _ => he ▸ List.getElem_mem hi', fun _ => by omega⟩⟩, rfl⟩
  ·refine D9 (by omega) ⟨l.length - (i + 1), by omega, i + 1, by omega, rfl, rfl, ?_, rfl⟩
   rw [List.take_succ_eq_append_getElem hi', List.mem_append, List.mem_singleton]
   rintro (h1 | h1)
   ·exact hno h1
   ·exact he h1
 ·obtain rfl : i = l.length := by omega
  rw [List.take_length] at hno
  exact .of ⟨⟨-1, rfl, ⟨fun h => absurd h (by decide), fun h => absurd h hno⟩⟩, rfl⟩
theorem A81 (L : A4) (v : SlV) (l : List It) (h : Sl L v 3 (l.flatMap Bh8)) (hl : l.length <= 1000000) (x : It) :
  Reads PP 292 #[.slice v.a v.len v.cap, .agg #[.i x.1, .i x.2.1, .i x.2.2.1]] L (.bool (decide (x ∈ l))) := by
 unfold Reads
 refine c292 v x ?_
 unfold s292
 refine Q2 (Bz4 L v l h hl x) ?_
 rintro _ _ - ⟨⟨n, rfl, hn⟩, rfl⟩
 refine ⟨(n, ()), rfl, .of ⟨?_, rfl⟩⟩
 congr 1
 exact decide_eq_decide.2 hn
theorem six {p : SP} {s : Sto} {g : SG} {L R : A4} (hp : L.Perm (SL p s g ++ R)) (X : SX p s g) {ix' : List (List C9)} {f : FuncId} {args : Array Value} {v : Value} (h : CallF PP f args g.Ai fun r L' => r = v /\ IX p.ni s.sc.ways ix' L') {rs : List Sh} {k : RsV rs -> HP} (r : RsV rs) (hr : v = Ab9 rs r)
  (s' : Sto) (hs' : s' = { s with ix := ix' }) (hk : ∀ g' L', L'.Perm (SL p s' g' ++ R) -> SX p s' g' -> g'.ns = g.ns -> k r L') : cl PP f args rs k L := by
 refine G9 h (R := stO p s g :: (kO p s :: (mO p g :: (gO p g :: (g.Ad ++ (g.Ab ++ (rns g.ns ++ (rns g.on.toList ++ (g.pseg ++ (g.Aq ++ R)))))))))) (pc fun z => by have := pcn hp z; simp only [SL, B7, C5, D8] at *; omega) ?_
 rintro _ Ai' ⟨rfl, hAi'⟩
 refine ⟨_, List.Perm.refl _, r, hr, hk { g with Ai := Ai' } _ (pc fun z => ?_) ?_ rfl⟩
 ·have e1 : stO p s' { g with Ai := Ai' } = stO p s g := by rw [hs']; rfl
  have e2 : kO p s' = kO p s := by rw [hs']; rfl
  simp only [SL, e1, e2, show mO p { g with Ai := Ai' } = mO p g from rfl, show gO p { g with Ai := Ai' } = gO p g from rfl, B7, C5, D8]
  omega
 ·rw [hs']; exact { X with cfg := X.cfg, dev := X.dev, blk := X.blk, idx := hAi' }
theorem squ {p : SP} {s : Sto} {g : SG} {L R : A4} (hp : L.Perm (SL p s g ++ R)) (X : SX p s g) {q' : List QD} {f : FuncId} {args : Array Value} {v : Value} (h : CallF PP f args g.Aq fun r L' => r = v /\ QHd p.nq s.sc.small q' L') {rs : List Sh} {k : RsV rs -> HP} (r : RsV rs) (hr : v = Ab9 rs r)
  (s' : Sto) (hs' : s' = { s with q := q' }) (hk : ∀ g' L', L'.Perm (SL p s' g' ++ R) -> SX p s' g' -> k r L') : cl PP f args rs k L := by
 refine G9 h (R := stO p s g :: (kO p s :: (mO p g :: (gO p g :: (g.Ad ++ (g.Ab ++ (rns g.ns ++ (rns g.on.toList ++ (g.pseg ++ (g.Ai ++ R)))))))))) (pc fun z => by have := pcn hp z; simp only [SL, B7, C5, D8] at *; omega) ?_
 rintro _ Aq' ⟨rfl, hAq'⟩
 refine ⟨_, List.Perm.refl _, r, hr, hk { g with Aq := Aq' } _ (pc fun z => ?_) ?_⟩
 ·have e1 : stO p s' { g with Aq := Aq' } = stO p s g := by rw [hs']; rfl
  have e2 : kO p s' = kO p s := by rw [hs']; rfl
  simp only [SL, e1, e2, show mO p { g with Aq := Aq' } = mO p g from rfl, show gO p { g with Aq := Aq' } = gO p g from rfl, B7, C5, D8]
  omega
 ·rw [hs']; exact { X with cfg := X.cfg, dev := X.dev, blk := X.blk, que := hAq' }
theorem sgh {p : SP} {s : Sto} {g : SG} {L R : A4} (hp : L.Perm (SL p s g ++ R)) (X : SX p s g) {gh' : List Int} {f : FuncId} {args : Array Value} {v : Value} (h : CallF PP f args [gO p g] fun r L' => r = v /\ ∃ o', L' = [(p.ng, o')] /\ GOb s.sc.ghost gh' o') {rs : List Sh} {k : RsV rs -> HP} (r : RsV rs) (hr : v = Ab9 rs r)
  (s' : Sto) (hs' : s' = { s with gh := gh' }) (hk : ∀ g' L', L'.Perm (SL p s' g' ++ R) -> SX p s' g' -> k r L') : cl PP f args rs k L := by
 refine G9 h (R := stO p s g :: (kO p s :: (mO p g :: (g.Ad ++ (g.Ab ++ (rns g.ns ++ (rns g.on.toList ++ (g.pseg ++ (g.Aq ++ (g.Ai ++ R)))))))))) (pc fun z => by have := pcn hp z; simp only [SL, B7, C5, D8] at *; omega) ?_
 rintro _ _ ⟨rfl, o', rfl, ho'⟩
 refine ⟨_, List.Perm.refl _, r, hr, hk { g with go := o' } _ (pc fun z => ?_) ?_⟩
 ·have e1 : stO p s' { g with go := o' } = stO p s g := by rw [hs']; rfl
  have e2 : kO p s' = kO p s := by rw [hs']; rfl
  simp only [SL, e1, e2, show mO p { g with go := o' } = mO p g from rfl, show gO p { g with go := o' } = (p.ng, o') from rfl, B7, C5, D8]
  omega
 ·rw [hs']; exact { X with cfg := X.cfg, dev := X.dev, blk := X.blk, gho := ho' }
def SB (p : SP) (w : Sto × Bool) (R : A4) (r : Value) (L' : A4) : Prop := ∃ g', L' = SL p w.1 g' ++ R /\ SX p w.1 g' /\ r = .bool w.2
theorem Ax9 (p : SP) (s : Sto) (g : SG) (X : SX p s g) (ok : S3 s.d) (key : ByteArray) (hk : key.size <= 1000000) (hrow : RowOk s (s.hash key)) (hpl : s.pend.length <= 1000000000) :
  CallF PP 46 #[.pointer (some ⟨p.n, 0, none⟩), .string key] (SL p s g) (SB p (s.forget key) []) := by
 refine c46 (some ⟨p.n, 0, none⟩) key ?_
 unfold s46
 have hp0 : (SL p s g).Perm (SL p s g ++ []) := by rw [List.append_nil]
 refine A5 rfl (A6 (some ⟨p.nq, 0, none⟩) (E8 (SL.st hp0) rfl) ?_)
 obtain ⟨s1, hs1⟩ : ∃ s1 : Sto, s1 = { s with q := Aa2 s.q key } := ⟨_, rfl⟩
 refine squ hp0 X (B17 p.nq s.sc.small s.q g.Aq X.que key) ((Y0 s.q key).isSome, ()) rfl s1 hs1 fun g1 L1 hp1 X1 => ?_
 have hh : s1.hash key = s.hash key := by rw [hs1]; rfl
 have hix : s1.ix = s.ix := by rw [hs1]
 have hd : s1.d = s.d := by rw [hs1]
 have hfo : s.forget key = (match s1.place key with | none => (s1, (Y0 s.q key).isSome) | some x => ({ s1.ixdrop (s.hash key) x with pend := s.pend ++ [x] }, true)) := by rw [hs1]; rfl
 refine G9 (Aq3 p s1 g1 X1 (by rw [hd]; exact ok) key hk (by rw [hix, hh]; exact hrow.len) (by rw [hix, hh]; exact hrow.wf)) hp1 ?_
 rintro _ _ ⟨u, sg, rfl, rfl, own⟩
 refine ⟨SL p s1 g1 ++ sg, pc fun z => by simp only [B7, D8]; omega, ((((s1.place key).getD (0, 0, 0, ())).1, ((s1.place key).getD (0, 0, 0, ())).2.1, ((s1.place key).getD (0, 0, 0, ())).2.2.1, ()), u, (s1.place key).isSome, ()), rfl, ?_⟩
 dsimp only
 obtain ⟨L2, hL2⟩ : ∃ L2, L2 = SL p s1 g1 ++ sg := ⟨_, rfl⟩
 rw [<- hL2]
 have hp2 : L2.Perm (SL p s1 g1 ++ sg) := by rw [hL2]
 cases hpl2 : s1.place key with
 | none =>
  refine ifF rfl ?_
  rw [hpl2] at hfo
  have e : ∀ b : Bool, b = (Y0 s.q key).isSome -> HL.Ends (SB p (s.forget key) []) (.bool b) L2 := fun b hb => by
   rw [hfo]
   exact .drop (A := SL p s1 g1) (J := sg) ⟨g1, by simp, X1, by rw [hb]⟩ (by simpa using hp2)
  exact G2 (fun h => e _ h.symm) (fun h => e _ h.symm)
 | some x =>
  refine ifT rfl (A6 (some ⟨p.ni, 0, none⟩) (E8 (SL.st hp2) rfl) (B3 (W3 hp2 key hk) (((s1.hash key : Nat) : Int), ()) rfl (E9 (E8 (SL.st hp2) rfl) ?_)))
  rw [hpl2] at hfo
  refine six hp2 X1 (Bo5 p.ni s1.sc.ways s1.ix g1.Ai X1.idx (s1.hash key) (Au1 s1 key) x) ((P2 s1.ix (s1.hash key) x).isSome, ()) rfl (s1.ixdrop (s1.hash key) x) rfl fun g3 L3 hp3 X3 _ => ?_
  have hpe : (s1.ixdrop (s1.hash key) x).pend = s.pend := by rw [hs1]; rfl
  refine Bl9 (x := x) hp3 X3 (by rw [hpe]; exact hpl) _ rfl fun g4 L4 hp4 X4 => ?_
  have e : ∀ b : Bool, b = true -> HL.Ends (SB p (s.forget key) []) (.bool b) L4 := fun b hb => by
   rw [hfo]
   have hst : ({ s1.ixdrop (s.hash key) x with pend := s.pend ++ [x] } : Sto) = { s1.ixdrop (s1.hash key) x with pend := (s1.ixdrop (s1.hash key) x).pend ++ [x] } := by rw [hpe, hh]
   dsimp only
   rw [hst]
   exact .drop (A := SL p _ g4) (J := sg) ⟨g4, by simp, X4, by rw [hb]⟩ hp4
  exact G2 (fun h => e _ rfl) (fun h => e _ rfl)
structure Mv (s s' : Sto) : Prop where
 rs : s'.rs = s.rs
 ob : s'.op.map Reg.b = s.op.map Reg.b
 ss : s'.ss = s.ss
 pend : s'.pend = s.pend
 epoch : s'.epoch = s.epoch
 sc : s'.sc = s.sc
 q : s'.q = s.q
 gh : s'.gh = s.gh
 tk : s'.bk.tokens <= s.bk.tokens
theorem Mv.us {s s' : Sto} (h : Mv s s') : s'.us = s.us := by unfold Sto.us; rw [h.rs, h.ob]
theorem Mv.refl (s : Sto) : Mv s s := ⟨rfl, rfl, rfl, rfl, rfl, rfl, rfl, rfl, Int.le_refl _⟩
theorem Mv.trans {a b c : Sto} (h : Mv a b) (k : Mv b c) : Mv a c := ⟨k.rs.trans h.rs, k.ob.trans h.ob, k.ss.trans h.ss, k.pend.trans h.pend, k.epoch.trans h.epoch, k.sc.trans h.sc, k.q.trans h.q, k.gh.trans h.gh, Int.le_trans k.tk h.tk⟩
theorem Cv0 (b : Bk) (n : Int) : (Aa9 b n).tokens <= b.tokens := by
 unfold Aa9
 split
 ·rename_i h; simp only; omega
 ·exact Int.le_refl _
theorem Mv.write (s : Sto) (kind : Int) (l : List (List UInt8)) : Mv s (s.write kind l).1 := by
 unfold Sto.write
 split
 ·exact .refl s
 ·rename_i o ho
  dsimp only
  have ht := Cv0 s.bk (s.cost l.length)
  split
  ·exact ⟨rfl, rfl, rfl, rfl, rfl, rfl, rfl, rfl, ht⟩
  ·exact ⟨rfl, by rw [ho]; rfl, rfl, rfl, rfl, rfl, rfl, rfl, ht⟩
theorem Bl0 {s : Sto} {M : Nat} (h : SOk s M) (kind : Int) (l : List (List UInt8)) : W1 .i64 (s.write kind l).2.1.2.1 := by
 unfold Sto.write
 split
 ·exact A65 (by simp)
 ·rename_i o ho
  have := (h.op o ho)
  dsimp only
  split <;> exact A65 (by simp only; omega)
theorem SOk.ixmove {s : Sto} {M : Nat} (h : SOk s M) (k : Nat) (p q : It) (hq : W1 .i64 q.2.1) : SOk { s with ix := At6 s.ix k p q } M := by
 have hg := (Cl1 h.ixi h.wy.1 4 (h.isi k) p q)
 have e : iact s.sc.ways s.ix 4 k p q = At6 s.ix k p q := by unfold iact; simp
 rw [e] at hg
 refine { h with dv := h.dv, ixi := hg.1, ixl := by rw [hg.2]; exact h.ixl, ixw := ?_ }
 intro r hr x hx
 unfold At6 at hr
 split at hr
 ·exact h.ixw r hr x hx
 ·rcases Bn8 hr with hr | rfl
  ·exact h.ixw r hr x hx
  ·rcases List.mem_append.1 hx with hx | hx
   ·exact h.ixw _ (Ai6 (h.isi k)) x (Y8 _ _ x (Y8 _ _ x hx))
   ·rw [List.mem_singleton.1 hx]; exact hq
theorem SOk.move {s : Sto} {M : Nat} (h : SOk s M) (hd : s.down = false) (p : It) (n beside : Int) : SOk (s.move p n beside).1 M /\ ((s.move p n beside).2 = 0 -> (s.move p n beside).1.down = false) /\ Mv s (s.move p n beside).1 := by
 unfold Sto.move
 dsimp only
 split
 ·exact ⟨h, fun _ => hd, .refl s⟩
 ·split
  ·exact ⟨h.ixdrop _ _, fun _ => hd, rfl, rfl, rfl, rfl, rfl, rfl, rfl, rfl, Int.le_refl _⟩
  ·split
   ·exact ⟨h, fun _ => hd, .refl s⟩
   ·have hw := h.write hd 2 (T0 (C7 s.d p).1 (C7 s.d p).2.1 (T3 s.sc.c)).1
    have hm := Mv.write s 2 (T0 (C7 s.d p).1 (C7 s.d p).2.1 (T3 s.sc.c)).1
    have hq := Bl0 h 2 (T0 (C7 s.d p).1 (C7 s.d p).2.1 (T3 s.sc.c)).1
    generalize s.write 2 (T0 (C7 s.d p).1 (C7 s.d p).2.1 (T3 s.sc.c)).1 = w at hw hm hq
    split
    ·rename_i h0
     exact ⟨hw.1.ixmove _ _ _ hq, fun _ => hw.2 h0, hm.rs, hm.ob, hm.ss, hm.pend, hm.epoch, hm.sc, hm.q, hm.gh, hm.tk⟩
    ·rename_i h0
     exact ⟨hw.1, fun he => absurd he h0, hm⟩
theorem SOk.moves {b ep beside : Int} : ∀ (l : List It) {s : Sto} {M : Nat}, SOk s M -> s.down = false -> SOk (Sto.moves b ep beside l s).1 M /\ ((Sto.moves b ep beside l s).2 = 0 -> (Sto.moves b ep beside l s).1.down = false) /\ Mv s (Sto.moves b ep beside l s).1
 | [], s, M, h, hd => ⟨h, fun _ => hd, .refl s⟩
 | x :: r, s, M, h, hd => by
  unfold Sto.moves
  split
  ·exact SOk.moves r h hd
  ·have h1 := h.move hd (b, x.2.1, ep, ()) x.2.2.1 beside
   dsimp only
   generalize s.move (b, x.2.1, ep, ()) x.2.2.1 beside = w at h1
   split
   ·rename_i h0
    exact ⟨h1.1, fun he => absurd he h0, h1.2.2⟩
   ·rename_i h0
    have h0 : w.2 = 0 := by simpa using h0
    have h2 := SOk.moves (b := b) (ep := ep) (beside := beside) r h1.1 (h1.2.1 h0)
    exact ⟨h2.1, h2.2.1, h1.2.2.trans h2.2.2⟩
theorem SOk.cutp {s : Sto} {M : Nat} (h : SOk s M) (b : Int) : SOk { s with pend := s.pend.filter fun p => !decide (p.1 = b) } M :=
 { h with dv := h.dv, pl := Nat.le_trans (List.length_filter_le ..) h.pl }
theorem SOk.reclaim {s : Sto} {M : Nat} (h : SOk s M) (hd : s.down = false) {r : Reg} {t : List Reg} (hr : s.rs = r :: t) (beside : Int) :
  SOk (s.reclaim r beside).1 M /\ ((s.reclaim r beside).2 = 0 -> (s.reclaim r beside).1.down = false /\ (s.reclaim r beside).1.us.length + 1 = s.us.length /\ V8 (s.reclaim r beside).1.ss <= V8 s.ss /\ (s.reclaim r beside).1.bk.tokens <= s.bk.tokens /\ (s.reclaim r beside).1.op.isSome = s.op.isSome) /\ (s.reclaim r beside).1.sc = s.sc := by
 unfold Sto.reclaim
 obtain ⟨h1, h2, mv⟩ := SOk.moves (b := r.b) (ep := r.ep) (beside := beside) r.l h hd
 dsimp only
 generalize Sto.moves r.b r.ep beside r.l s = w at h1 h2 mv
 split
 ·rename_i h0
  exact ⟨h1, fun he => absurd he h0, mv.sc⟩
 ·rename_i h0
  have h0 : w.2 = 0 := by simpa using h0
  have hus : r.b ∈ w.1.us := by rw [mv.us]; unfold Sto.us; rw [hr]; simp
  have hnd := h.use.1
  have hob : ∀ o, w.1.op = some o -> o.b ≠ r.b := fun o ho e => by
   have h3 := mv.ob
   rw [ho] at h3
   unfold Sto.us at hnd
   rw [<- h3, hr] at hnd
   simp [e] at hnd
  have hc := (h1.cutp r.b)
  have he := hc.erase (h2 h0) (b := r.b) hob
  obtain ⟨s2, hs2⟩ : ∃ s2 : Sto, s2 = { w.1 with pend := w.1.pend.filter fun p => !decide (p.1 = r.b) } := ⟨_, rfl⟩
  rw [<- hs2] at he ⊢
  have e1 : s2.us = s.us := by rw [hs2]; exact mv.us
  have e2 : s2.ss = s.ss := by rw [hs2]; exact mv.ss
  have e3 : s2.bk.tokens <= s.bk.tokens := by rw [hs2]; exact mv.tk
  have e4 : s2.sc = s.sc := by rw [hs2]; exact mv.sc
  have e5 : s2.op.isSome = s.op.isSome := by
   have h3 := congrArg Option.isSome mv.ob
   rw [Option.isSome_map, Option.isSome_map] at h3
   rw [hs2]; exact h3
  obtain ⟨g1, g2, g3, g4, g5, g6⟩ := he
  refine ⟨g1, fun hz => ?_, g6.trans e4⟩
  obtain ⟨k1, k2, k3⟩ := g2 hz
  have hbg : H7 s2.ss r.b = true := by rw [e2]; exact h.use.2 _ (by rw [<- mv.us]; exact hus)
  refine ⟨k1, ?_, ?_, by rw [g4]; exact e3, by rw [g3]; exact e5⟩
  ·rw [k2, e1]
   have hm : r.b ∈ s.us := by rw [<- mv.us]; exact hus
   have h4 : iwo s.us r.b = s.us.erase r.b := by
    unfold iwo
    rw [List.Nodup.erase_eq_filter hnd]
    refine List.filter_congr fun x _ => ?_
    by_cases e : x = r.b <;> simp [e]
   rw [h4, List.length_erase_of_mem hm]
   have := List.length_pos_of_mem hm
   omega
  ·rw [k3, if_pos hbg]
   have := A00 hbg (T7 (decide ((J8 s2.d r.b).1 = 10))) (bad := decide ((J8 s2.d r.b).1 = 10)) fun s _ => rfl
   rw [<- e2]
   split at this <;> omega
theorem A69 {L : A4} {b : Nat} {x y : Int} (hm : (b, Obj.cells #[.i x, .i y] 3) ∈ L) : ISl L ⟨some ⟨b, 0, none⟩, 2, 2⟩ .i64 [x, y] := ISl.const (l := [x, y]) 2 (by simp) hm
theorem A75 {L : A4} {ov : SlV} {oseg : A4} {gs : List PG} (own : Own ov 1 tB (gs.map PG.val) oseg) (hg : ∀ g ∈ gs, g.Ok) (h1 : ∀ x ∈ oseg, x ∈ L) (h2 : ∀ x ∈ pgs gs, x ∈ L) : U3 L ov (pvs gs) := by
 refine ⟨?_, fun x hx => ?_⟩
 ·have := own.sl.mono h1
  have e : (pvs gs).map pvV = gs.map PG.val := by unfold pvs; rw [List.map_map]; rfl
  rw [e]; exact this
 ·unfold pvs at hx
  obtain ⟨y, hy, rfl⟩ := List.mem_map.1 hx
  exact (hg y hy).sl.mono fun z hz => h2 z (List.mem_flatMap.2 ⟨y, hy, hz⟩)
theorem B98 (key val : List UInt8) (c : Cf) : (T0 key val c).1.length <= 8 := by
 unfold T0
 split
 ·simp
 ·split
  ·simp
  ·split
   ·simp
   ·rename_i h
    have := (Ay7 h)
    simp only [Am8, List.length_map, List.length_range]
    omega
def MK (p : SP) (w : Sto × Int) (ns : List RN) (R : A4) (r : Value) (L' : A4) : Prop := ∃ g', L' = SL p w.1 g' ++ R /\ SX p w.1 g' /\ g'.ns = ns /\ r = .i w.2
theorem Cf1 (p : SP) (s : Sto) (g : SG) (X : SX p s g) {M : Nat} (h : SOk s M) (R : A4) (hT : Tab R) (pl : It) (hpl : W1 .i64 pl.2.1) (x : It) (hx : 0 <= x.2.2.1 /\ x.2.2.1 <= 255) (beside : Int) (hbs : 0 <= beside /\ beside <= 1000) :
  CallF PP 246 #[.pointer (some ⟨p.n, 0, none⟩), .agg #[.i pl.1, .i pl.2.1, .i pl.2.2.1], .agg #[.i x.1, .i x.2.1, .i x.2.2.1], .i beside] (SL p s g ++ R) (MK p (s.move pl x.2.2.1 beside) g.ns R) := by
 refine c246 (some ⟨p.n, 0, none⟩) pl x beside ?_
 unfold s246
 have hS := h.S
 have hP := h.P
 have hp0 : (SL p s g ++ R).Perm (SL p s g ++ R) := List.Perm.refl _
 refine A5 rfl (A6 (some ⟨p.m, 0, none⟩) (E8 (SL.st hp0) rfl) ?_)
 refine G9 (A47 p.m s.d g.Ad X.dev h.dv pl hpl) (R := stO p s g :: (kO p s :: (mO p g :: (gO p g :: (g.Ab ++ (rns g.ns ++ (rns g.on.toList ++ (g.pseg ++ (g.Aq ++ (g.Ai ++ R)))))))))) (pc fun z => by simp only [SL, B7, C5, D8]; omega) ?_
 rintro _ _ ⟨q, rfl, rfl, hq, hql⟩
 obtain ⟨L1, hL1⟩ : ∃ L1, L1 = SL p s g ++ (q.seg ++ R) := ⟨_, rfl⟩
 have hp1 : L1.Perm (SL p s g ++ (q.seg ++ R)) := by rw [hL1]
 refine ⟨L1, pc fun z => by rw [hL1]; simp only [SL, B7, C5, D8]; omega, (An5 (C7 s.d pl).1, q.v, (C7 s.d pl).2.2, ()), rfl, ?_⟩
 dsimp only
 have hfl := Bc9 s.d pl
 have hks : (An5 (C7 s.d pl).1).size <= 1000000 := by rw [Bb2]; omega
 have hmv : s.move pl x.2.2.1 beside = (if (C7 s.d pl).2.2 ≠ 0 \/ pl ∉ P0 (O2 s.ix (s.hash (An5 (C7 s.d pl).1))) (s.hash (An5 (C7 s.d pl).1)) then (s, 0) else
   if At8 s.ix (s.hash (An5 (C7 s.d pl).1)) pl = 0 \/ s.fits (x.2.2.1 + beside) = false \/ s.pays (x.2.2.1 + beside) = false then (s.ixdrop (s.hash (An5 (C7 s.d pl).1)) pl, 0) else
   if (T0 (C7 s.d pl).1 (C7 s.d pl).2.1 (T3 s.sc.c)).2 ≠ 0 then (s, (T0 (C7 s.d pl).1 (C7 s.d pl).2.1 (T3 s.sc.c)).2) else
   if (s.write 2 (T0 (C7 s.d pl).1 (C7 s.d pl).2.1 (T3 s.sc.c)).1).2.2 = 0 then ({ (s.write 2 (T0 (C7 s.d pl).1 (C7 s.d pl).2.1 (T3 s.sc.c)).1).1 with ix := At6 (s.write 2 (T0 (C7 s.d pl).1 (C7 s.d pl).2.1 (T3 s.sc.c)).1).1.ix (s.hash (An5 (C7 s.d pl).1)) pl (s.write 2 (T0 (C7 s.d pl).1 (C7 s.d pl).2.1 (T3 s.sc.c)).1).2.1 }, 0)
   else ((s.write 2 (T0 (C7 s.d pl).1 (C7 s.d pl).2.1 (T3 s.sc.c)).1).1, (s.write 2 (T0 (C7 s.d pl).1 (C7 s.d pl).2.1 (T3 s.sc.c)).1).2.2)) := rfl
 obtain ⟨kk, hkk⟩ : ∃ kk, kk = An5 (C7 s.d pl).1 := ⟨_, rfl⟩
 rw [<- hkk] at hks hmv ⊢
 have hkd : kk.data.toList = (C7 s.d pl).1 := by rw [hkk]; rfl
 obtain ⟨hh, hhh⟩ : ∃ hh, hh = s.hash kk := ⟨_, rfl⟩
 have hlt : hh < 2 ^ 64 := by rw [hhh]; exact Au1 s kk
 have hrow := h.row hh
 refine B3 (W3 hp1 kk hks) ((hh : Int), ()) (by rw [hhh]; rfl) ?_
 rw [<- hhh] at hmv
 obtain ⟨f, hf⟩ : ∃ f, f = C7 s.d pl := ⟨_, rfl⟩
 rw [<- hf] at hmv hql hkd hfl ⊢
 have skip : ∀ {L2 J : A4}, L2.Perm (SL p s g ++ (J ++ R)) -> (f.2.2 ≠ 0 \/ pl ∉ P0 (O2 s.ix hh) hh) -> HL.Ends (MK p (s.move pl x.2.2.1 beside) g.ns R) (.i 0) L2 := fun {L2 J} hp hc => by
  rw [hmv, if_pos hc]
  exact .drop (A := SL p s g ++ R) (J := J) ⟨g, rfl, X, rfl, rfl⟩ (pc fun z => by have := pcn hp z; simp only [B7] at *; omega)
 refine Y6 (fun _ L' => (f.2.2 = 0 /\ pl ∈ P0 (O2 s.ix hh) hh) /\ ∃ J, L'.Perm (SL p s g ++ (q.seg ++ (J ++ R)))) ?_ ?_
 ·rintro _ L2 ⟨hc1, J, hp2⟩
  rw [if_neg (by rintro (hn | hn); exact hn hc1.1; exact hn hc1.2)] at hmv
  have drop : ∀ {L3 J3 : A4} {rs : List Sh} {K : RsV rs -> HP} , L3.Perm (SL p s g ++ (J3 ++ R)) -> (At8 s.ix hh pl = 0 \/ s.fits (x.2.2.1 + beside) = false \/ s.pays (x.2.2.1 + beside) = false) ->
    ld ⟨p.n, 21, none⟩ (.lf .ptr) (fun v4 => cl PP 106 #[.pointer v4, .int .u64 (hh : Int), .agg #[.i pl.1, .i pl.2.1, .i pl.2.2.1]] [.lf .bool] fun r6 => HL.Ends (MK p (s.move pl x.2.2.1 beside) g.ns R) (.i 0)) L3 := fun {L3 J3 rs K} hp hc => by
   refine A6 (some ⟨p.ni, 0, none⟩) (E8 (SL.st hp) rfl) ?_
   refine six hp X (Bo5 p.ni s.sc.ways s.ix g.Ai X.idx hh hlt pl) ((P2 s.ix hh pl).isSome, ()) rfl (s.ixdrop hh pl) rfl fun g' L4 hp4 X4 hn4 => ?_
   rw [hmv, if_pos hc]
   exact .drop (A := SL p (s.ixdrop hh pl) g' ++ R) (J := J3) ⟨g', rfl, X4, hn4, rfl⟩ (pc fun z => by have := pcn hp4 z; simp only [B7] at *; omega)
  refine Y6 (fun _ L' => (At8 s.ix hh pl ≠ 0 /\ s.fits (x.2.2.1 + beside) = true /\ s.pays (x.2.2.1 + beside) = true) /\ ∃ J, L'.Perm (SL p s g ++ (q.seg ++ (J ++ R)))) ?_ ?_
  ·rintro _ L3 ⟨hc2, J3, hp3⟩
   rw [if_neg (by rintro (hn | hn | hn); exact hc2.1 hn; rw [hc2.2.1] at hn; cases hn; rw [hc2.2.2] at hn; cases hn)] at hmv
   refine A6 (sh := .agg [.int .i64, .int .i64, .int .i64, .int .i64]) ((s.sc.c.B : Int), (s.sc.c.P : Int), (s.sc.c.S : Int), (s.sc.c.W : Int), ()) (Ce4 (SL.st hp3)) ?_
   refine G9 (Ct1 (q.seg ++ R) (hT.mono fun y hy => by simp [hy]) kk (Nat.le_trans hks (by decide)) q.v f.2.1 (by have := hq.sl; rw [hql] at this; exact this.mono fun y hy => by simp [hy]) (T3 s.sc.c) (by show (s.sc.c.P : Int) <= _; omega)) (R := SL p s g ++ J3) (pc fun z => by have := pcn hp3 z; simp only [B7] at *; omega) ?_
   rintro _ _ ⟨ov, oseg, gs, rfl, rfl, own, hgs, hgl⟩
   rw [hkd] at hgl ⊢
   have hcl := B98 f.1 f.2.1 (T3 s.sc.c)
   obtain ⟨c, hc⟩ : ∃ c, c = T0 f.1 f.2.1 (T3 s.sc.c) := ⟨_, rfl⟩
   rw [<- hc] at hgl hmv hcl ⊢
   refine ⟨_, List.Perm.refl _, (ov, c.2, ()), rfl, ?_⟩
   have hp4 : ((oseg ++ (pgs gs ++ (q.seg ++ R))) ++ (SL p s g ++ J3)).Perm (SL p s g ++ (oseg ++ (pgs gs ++ (q.seg ++ (J3 ++ R))))) := pc fun z => by simp only [B7]; omega
   generalize (oseg ++ (pgs gs ++ (q.seg ++ R))) ++ (SL p s g ++ J3) = L4 at hp4
   dsimp only
   refine C0 (fun (h0 : c.2 = 0) => ?_) (fun (h0 : ¬ c.2 = 0) => ?_)
   ·rw [if_neg (by simpa using h0)] at hmv
    obtain ⟨o, ho⟩ : ∃ o, s.op = some o := by
     have := hc2.2.1
     unfold Sto.fits at this
     cases hop : s.op with
     | none => rw [hop] at this; cases this
     | some o => exact ⟨o, rfl⟩
    have hopk := h.op o ho
    have hsnd : (pvs gs).map Prod.snd = c.1 := by rw [Ar8]; exact hgl
    have hpl2 : (pvs gs).length <= 8 := by rw [<- hsnd, List.length_map] at hcl; exact hcl
    refine Aw8 (Aq0 p s g X hS.2 h.bk (oseg ++ (pgs gs ++ (q.seg ++ (J3 ++ R)))) ov (pvs gs) (A75 own hgs (fun y hy => by simp [hy]) (fun y hy => by simp [hy])) (by omega) (h.dg _ (by omega)) o ho (by omega) (by omega) 2) hp4 ?_
    rw [hsnd]
    rintro _ _ ⟨g5, rfl, X5, hn5, rfl⟩
    obtain ⟨w, hw⟩ : ∃ w, w = s.write 2 c.1 := ⟨_, rfl⟩
    rw [<- hw] at X5 hmv ⊢
    refine ⟨(((w.2.1.1, w.2.1.2.1, w.2.1.2.2.1, ()), w.2.2, ())), rfl, ?_⟩
    dsimp only
    have hp5 : (SL p w.1 g5 ++ (oseg ++ (pgs gs ++ (q.seg ++ (J3 ++ R))))).Perm (SL p w.1 g5 ++ (oseg ++ (pgs gs ++ (q.seg ++ (J3 ++ R))))) := List.Perm.refl _
    refine C0 (fun (h1 : w.2.2 = 0) => ?_) (fun (h1 : ¬ w.2.2 = 0) => ?_)
    ·rw [if_pos h1] at hmv
     refine A6 (some ⟨p.ni, 0, none⟩) (E8 (SL.st hp5) rfl) ?_
     have hix : w.1.ix = s.ix /\ w.1.sc = s.sc := by
      rw [hw]; unfold Sto.write; rw [ho]; dsimp only; split <;> exact ⟨rfl, rfl⟩
     refine six hp5 X5 (Ck8 p.ni w.1.sc.ways w.1.ix g5.Ai X5.idx hh hlt pl w.2.1 (by rw [hix.1]; exact hrow.fr)) ((P2 w.1.ix hh pl).isSome, ()) rfl { w.1 with ix := At6 w.1.ix hh pl w.2.1 } rfl fun g6 L6 hp6 X6 hn6 => ?_
     rw [hmv, h1]
     exact .drop (A := SL p _ g6 ++ R) (J := oseg ++ (pgs gs ++ (q.seg ++ J3))) ⟨g6, rfl, X6, hn6.trans hn5, rfl⟩ (pc fun z => by have := pcn hp6 z; simp only [B7] at *; omega)
    ·rw [if_neg h1] at hmv
     rw [hmv]
     exact .drop (A := SL p w.1 g5 ++ R) (J := oseg ++ (pgs gs ++ (q.seg ++ J3))) ⟨g5, rfl, X5, hn5, rfl⟩ (pc fun z => by simp only [B7]; omega)
   ·rw [if_pos (by simpa using h0)] at hmv
    rw [hmv]
    exact .drop (A := SL p s g ++ R) (J := oseg ++ (pgs gs ++ (q.seg ++ J3))) ⟨g, rfl, X, rfl, rfl⟩ (pc fun z => by have := pcn hp4 z; simp only [B7] at *; omega)
  ·intro j2 hj2
   have hp2' : L2.Perm (SL p s g ++ ((q.seg ++ J) ++ R)) := pc fun z => by have := pcn hp2 z; simp only [B7] at *; omega
   refine A6 (some ⟨p.ni, 0, none⟩) (E8 (SL.st hp2) rfl) ?_
   refine B3 (Reads.has (SL.i hp2) (Ck9 p.ni s.sc.ways s.ix g.Ai X.idx hh hlt pl)) (At8 s.ix hh pl, ()) rfl ?_
   refine C0 (fun hz => drop (rs := []) (K := fun _ _ => True) hp2' (.inl hz)) (fun hz => ?_)
   refine C3 fun n3 _ => ?_
   obtain ⟨c3, hc3⟩ : ∃ c3 : Nat × Obj, c3 = (n3, Obj.cells #[.i x.2.2.1, .i beside] 3) := ⟨_, rfl⟩
   rw [<- hc3]
   have hp3 : (c3 :: L2).Perm (SL p s g ++ (c3 :: (q.seg ++ (J ++ R)))) := pc fun z => by have := pcn hp2 z; simp only [B7, C5] at *; omega
   have hsum : ∀ y ∈ [x.2.2.1, beside], 0 <= y /\ y <= (1000000 : Nat) := fun y hy => by
    simp at hy
    rcases hy with rfl | rfl <;> omega
   have hs2 : [x.2.2.1, beside].sum = x.2.2.1 + beside := by simp
   refine B3 (B81 hp3 X (fun o ho => by have := h.op o ho; omega) ⟨some ⟨n3, 0, none⟩, 2, 2⟩ [x.2.2.1, beside] (A69 (by rw [hc3]; exact List.mem_cons_self)) (by simp) hsum) (s.fits (x.2.2.1 + beside), ()) (by rw [hs2]; rfl) ?_
   refine G2 (fun hfi => ?_) (fun hfi => drop (rs := []) (K := fun _ _ => True) (J3 := c3 :: (q.seg ++ J)) (pc fun z => by have := pcn hp3 z; simp only [B7, C5] at *; omega) (.inr (.inl hfi)))
   refine C3 fun n4 _ => ?_
   obtain ⟨c4, hc4⟩ : ∃ c4 : Nat × Obj, c4 = (n4, Obj.cells #[.i x.2.2.1, .i beside] 3) := ⟨_, rfl⟩
   rw [<- hc4]
   have hp4 : (c4 :: (c3 :: L2)).Perm (SL p s g ++ (q.seg ++ ((c3 :: (c4 :: J)) ++ R))) := pc fun z => by have := pcn hp3 z; simp only [B7, C5] at *; omega
   refine B3 (Bh9 hp4 X hS.2 ⟨some ⟨n4, 0, none⟩, 2, 2⟩ [x.2.2.1, beside] (A69 (by rw [hc4]; exact List.mem_cons_self)) (by simp) hsum) (s.pays (x.2.2.1 + beside), ()) (by rw [hs2]; rfl) ?_
   refine G2 (fun hpa => hj2 _ _ ⟨⟨hz, hfi, hpa⟩, _, hp4⟩) (fun hpa => drop (rs := []) (K := fun _ _ => True) (J3 := q.seg ++ (c3 :: (c4 :: J))) (pc fun z => by have := pcn hp4 z; simp only [B7, C5] at *; omega) (.inr (.inr hpa)))
 ·intro j1 hj1
  refine C0 (fun (h0 : f.2.2 = 0) => ?_) (fun (h0 : ¬ f.2.2 = 0) => skip (J := q.seg) (pc fun z => by have := pcn hp1 z; simp only [B7] at *; omega) (.inl h0))
  refine A6 (some ⟨p.ni, 0, none⟩) (E8 (SL.st hp1) rfl) ?_
  refine G9 (Bo4 p.ni s.sc.ways s.ix g.Ai X.idx hh hlt) (R := stO p s g :: (kO p s :: (mO p g :: (gO p g :: (g.Ad ++ (g.Ab ++ (rns g.ns ++ (rns g.on.toList ++ (g.pseg ++ (g.Aq ++ (q.seg ++ R))))))))))) (pc fun z => by have := pcn hp1 z; simp only [SL, B7, C5, D8] at *; omega) ?_
  rintro _ _ ⟨u, seg, rfl, rfl, own⟩
  refine ⟨_, List.Perm.refl _, (u, ()), rfl, ?_⟩
  have hp2 : ((seg ++ g.Ai) ++ (stO p s g :: (kO p s :: (mO p g :: (gO p g :: (g.Ad ++ (g.Ab ++ (rns g.ns ++ (rns g.on.toList ++ (g.pseg ++ (g.Aq ++ (q.seg ++ R)))))))))))).Perm (SL p s g ++ (q.seg ++ (seg ++ R))) := pc fun z => by simp only [SL, B7, C5, D8]; omega
  generalize (seg ++ g.Ai) ++ (stO p s g :: (kO p s :: (mO p g :: (gO p g :: (g.Ad ++ (g.Ab ++ (rns g.ns ++ (rns g.on.toList ++ (g.pseg ++ (g.Aq ++ (q.seg ++ R))))))))))) = L2 at hp2
  have hfl2 : (P0 (O2 s.ix hh) hh).length <= 1000000 := by
   unfold P0
   rw [List.length_map]
   have := List.length_filter_le (fun s : C9 => decide (s.part = Q8 hh)) (O2 s.ix hh)
   have := hrow.len
   omega
  refine B3 (A81 L2 u _ (own.sl.mono fun y hy => hp2.symm.subset (by simp [hy])) hfl2 pl) (decide (pl ∈ P0 (O2 s.ix hh) hh), ()) rfl ?_
  refine C0 (fun hin => hj1 _ _ ⟨⟨h0, hin⟩, seg, hp2⟩) (fun hin => skip (J := q.seg ++ seg) (pc fun z => by have := pcn hp2 z; simp only [B7] at *; omega) (.inr hin))
theorem B11 (L : A4) (x : It) (n1 m : Nat) (b : Int) (h1 : D0 ⟨n1, 0, none⟩ [.pointer (some ⟨m, 0, none⟩)] L) (h2 : D0 ⟨m, 0, none⟩ [.i b] L) :
  Reads PP 248 #[.agg #[.i x.1, .i x.2.1, .i x.2.2.1], .pointer (some ⟨n1, 0, none⟩)] L (.bool (decide (x.1 = b))) := by
 unfold Reads
 refine c248 x (some ⟨n1, 0, none⟩) ?_
 unfold s248
 exact A5 rfl (A6 (some ⟨m, 0, none⟩) h1 (A5 rfl (A6 b h2 (.of ⟨rfl, rfl⟩))))
def ofb (l : List It) (b : Int) : List It := l.filter fun p => !decide (p.1 = b)
theorem Bn5 (l : List It) (b : Int) (y : It) : ofb (l ++ [y]) b = ofb l b ++ (if y.1 = b then [] else [y]) := by
 unfold ofb
 rw [List.filter_append]
 by_cases h : y.1 = b <;> simp [h]
theorem Cf5 (L : A4) (v : SlV) (l : List It) (h : Sl L v 3 (l.flatMap N7)) (hl : l.length <= 1000000000) (n1 m : Nat) (b : Int) (h1 : D0 ⟨n1, 0, none⟩ [.pointer (some ⟨m, 0, none⟩)] L) (h2 : D0 ⟨m, 0, none⟩ [.i b] L) :
  Reads PP 295 #[.slice v.a v.len v.cap, .func (.func 248) #[] #[.pointer (some ⟨n1, 0, none⟩)]] L (.i (match l.findIdx? (fun y => decide (y.1 = b)) with | some i => (i : Int) | none => -1)) := by
 unfold Reads
 refine c295 v ⟨.func 248, #[], #[.pointer (some ⟨n1, 0, none⟩)]⟩ ?_
 unfold s295
 have hvl := h.els_len E1 (by decide)
 refine G0 (fun k z L' => L' = L /\ ∃ i : Nat, i <= l.length /\ k = l.length - i /\ z = ((i : Int), ()) /\ ∀ y ∈ l.take i, y.1 ≠ b) l.length ⟨rfl, 0, by omega, by omega, rfl, by simp⟩ ?_
 rintro k z L' ⟨hL', i, hi, rfl, rfl, hn⟩
 rw [hL']
 dsimp only
 refine C0 (fun (hlt : (i : Int) < v.len) => ?_) (fun (hge : ¬ (i : Int) < v.len) => ?_)
 ·have hi' : i < l.length := by omega
  refine V5 E1 (by decide) h (n := i) rfl hi' fun a ha => A6 (sh := .agg [.int .i64, .int .i64, .int .i64]) l[i] ha (V7 (by kernel_rfl) (B3 (B11 _ l[i] n1 m b h1 h2) (decide (l[i].1 = b), ()) rfl ?_))
  refine C0 (fun (he : l[i].1 = b) => .of ⟨?_, rfl⟩) (fun (he : ¬ l[i].1 = b) => D9 (by omega) ⟨l.length - (i + 1), by omega, rfl, i + 1, by omega, rfl, rfl, fun y hy => ?_⟩)
  ·have : l.findIdx? (fun y => decide (y.1 = b)) = some i := by
    rw [List.findIdx?_eq_some_iff_getElem]
    refine ⟨hi', by simpa using he, fun j hj => ?_⟩
    have := hn l[j] (by rw [List.mem_take_iff_getElem]; exact ⟨j, by omega, rfl⟩)
    simpa using this
   rw [this]
  ·rw [List.take_succ_eq_append_getElem hi'] at hy
   rcases List.mem_append.1 hy with hy | hy
   ·exact hn y hy
   ·rw [List.mem_singleton.1 hy]; exact he
 ·obtain rfl : i = l.length := by omega
  rw [List.take_length] at hn
  have : l.findIdx? (fun y => decide (y.1 = b)) = none := by
   rw [List.findIdx?_eq_none_iff]
   intro y hy
   simpa using hn y hy
  rw [this]
  exact .of ⟨rfl, rfl⟩
theorem Cv9 (v : SlV) (i h : Nat) : N9 v ((i : Nat) : Int) ((h : Nat) : Int) ((v.cap : Nat) : Int) 3 = N9 (N9 v ((0 : Nat) : Int) ((i : Nat) : Int) ((v.cap : Nat) : Int) 3) ((N9 v ((0 : Nat) : Int) ((i : Nat) : Int) ((v.cap : Nat) : Int) 3).len) ((h : Nat) : Int) ((N9 v ((0 : Nat) : Int) ((i : Nat) : Int) ((v.cap : Nat) : Int) 3).cap) 3 := by
 have ea : ∀ o : Option Addr, o.map (·.add 0) = o := fun o => by cases o <;> simp [Addr.add]
 simp only [N9, Int.toNat_natCast, Nat.sub_zero, Nat.zero_mul, ea, ite_self]
theorem Cg1 (v : SlV) (l : List It) (seg Y : A4) (own : Own v 3 Av5 (l.flatMap N7) seg) (hl : l.length <= 1000000000) (n1 m : Nat) (b : Int) (h1 : D0 ⟨n1, 0, none⟩ [.pointer (some ⟨m, 0, none⟩)] Y) (h2 : D0 ⟨m, 0, none⟩ [.i b] Y) :
  CallF PP 247 #[.slice v.a v.len v.cap, .func (.func 248) #[] #[.pointer (some ⟨n1, 0, none⟩)]] (seg ++ Y)
   fun r L' => ∃ (s : SlV) (seg' : A4), r = .slice s.a s.len s.cap /\ L' = seg' ++ Y /\ Own s 3 Av5 ((ofb l b).flatMap N7) seg' := by
 refine c247 v ⟨.func 248, #[], #[.pointer (some ⟨n1, 0, none⟩)]⟩ ?_
 unfold s247
 have l1 : ∀ {sg L : A4}, L.Perm (sg ++ Y) -> D0 ⟨n1, 0, none⟩ [.pointer (some ⟨m, 0, none⟩)] L := fun hp => h1.mono fun x hx => hp.symm.subset (by simp [hx])
 have l2 : ∀ {sg L : A4}, L.Perm (sg ++ Y) -> D0 ⟨m, 0, none⟩ [.i b] L := fun hp => h2.mono fun x hx => hp.symm.subset (by simp [hx])
 have hlen := own.sl.els_len E1 (by decide)
 have hcap := own.cap
 refine B3 (Cf5 _ v l (own.sl.mono fun x hx => by simp [hx]) hl n1 m b (l1 (List.Perm.refl _)) (l2 (List.Perm.refl _))) (_, ()) rfl ?_
 cases hf : l.findIdx? (fun y => decide (y.1 = b)) with
 | none =>
  rw [List.findIdx?_eq_none_iff] at hf
  have : ofb l b = l := by
   unfold ofb
   rw [List.filter_eq_self]
   intro y hy
   have := hf y hy
   simpa using this
  rw [this]
  exact ifT rfl (.of ⟨v, seg, rfl, rfl, own⟩)
 | some i0 =>
  rw [List.findIdx?_eq_some_iff_getElem] at hf
  obtain ⟨hi0, h1', h2'⟩ := hf
  have h1' : l[i0].1 = b := by simpa using h1'
  have hpre : ofb (l.take i0) b = l.take i0 := by
   unfold ofb
   rw [List.filter_eq_self]
   intro y hy
   obtain ⟨j, hj, rfl⟩ := List.mem_take_iff_getElem.1 hy
   have := h2' j (by omega)
   simpa using this
  have hsn := Bn5 (l.take i0) b l[i0]
  rw [<- List.take_succ_eq_append_getElem hi0, if_pos h1', hpre, List.append_nil] at hsn
  dsimp only
  refine ifF (by simp) (D9 (by omega) ?_)
  refine G0 (fun k z L' => ∃ (i j : Nat) (cur : List It) (sg : A4), i <= j /\ j <= l.length /\ k = l.length - j /\ z = ((i : Int), (j : Int), ()) /\ L'.Perm (sg ++ Y) /\ Own v 3 Av5 (cur.flatMap N7) sg /\ cur.length = l.length /\ i = (ofb (l.take j) b).length /\ cur.take i = ofb (l.take j) b /\ cur.drop j = l.drop j) (l.length - (i0 + 1))
   ⟨i0, i0 + 1, l, seg, by omega, by omega, by omega, rfl, List.Perm.refl _, own, rfl, by rw [hsn, List.length_take]; omega, by rw [hsn], rfl⟩ ?_
  clear hsn hpre own
  rintro k z L' ⟨i, j, cur, sg, hij, hj, rfl, rfl, hp, own, hcl, hil, htk, hdr⟩
  dsimp only
  have h0 : Sl L' v 3 (cur.flatMap N7) := own.sl.mono fun x hx => hp.symm.subset (by simp [hx])
  refine C0 (fun (hlt : (j : Int) < v.len) => ?_) (fun (hge : ¬ (j : Int) < v.len) => ?_)
  ·have hj' : j < cur.length := by omega
   have hjl : j < l.length := by omega
   have hcj : cur[j] = l[j] := by
    have a1 := List.drop_eq_getElem_cons hj'
    have a2 := List.drop_eq_getElem_cons hjl
    rw [hdr, a2] at a1
    injection a1 with b1 b2
    exact b1.symm
   have hdr' : cur.drop (j + 1) = l.drop (j + 1) := by
    rw [<- List.drop_drop, hdr, List.drop_drop]
   have hsn := Bn5 (l.take j) b l[j]
   rw [<- List.take_succ_eq_append_getElem hjl] at hsn
   refine V5 E1 (by decide) h0 (n := j) rfl hj' fun a ha => ?_
   rw [hcj] at ha
   refine A6 (sh := .agg [.int .i64, .int .i64, .int .i64]) l[j] ha (V7 (by kernel_rfl) (B3 (B11 _ l[j] n1 m b (l1 hp) (l2 hp)) (decide (l[j].1 = b), ()) rfl ?_))
   refine C0 (fun (he : l[j].1 = b) => ?_) (fun (he : ¬ l[j].1 = b) => ?_)
   ·rw [if_pos he, List.append_nil] at hsn
    exact D9 (by omega) ⟨l.length - (j + 1), by omega, i, j + 1, cur, sg, by omega, by omega, rfl, rfl, hp, own, hcl, by rw [hsn]; exact hil, by rw [hsn]; exact htk, hdr'⟩
   ·rw [if_neg he] at hsn
    obtain ⟨a2, ha2, hla2⟩ := h0.el E1 (by decide) (show i < cur.length by omega)
    refine A5 ha2 (E0 (show (0 : Int) <= (i : Int) by omega) (show (i : Int) < v.len by omega) ?_)
    rw [Int.toNat_natCast]
    refine By7 E1 (by decide) own ha2 (show i < cur.length by omega) l[j] hp fun sg' L2 hp2 own2 => ?_
    refine D9 (by omega) (D9 (by omega) ⟨l.length - (j + 1), by omega, i + 1, j + 1, cur.set i l[j], sg', by omega, by omega, rfl, rfl, hp2, own2, by rw [List.length_set]; exact hcl, ?_, ?_, ?_⟩)
    ·rw [hsn, List.length_append, <- hil]; rfl
    ·rw [hsn, <- htk, List.take_succ_eq_append_getElem (by rw [List.length_set]; omega), List.take_set_of_le (by omega), List.getElem_set_self]
    ·rw [List.drop_set_of_lt (by omega)]; exact hdr'
  ·obtain rfl : j = l.length := by omega
   rw [List.take_length] at hil htk
   have own' := own.slc (l := 0) (h := i) (by omega) (by omega)
   rw [Ap1 E1, List.drop_zero, Nat.sub_zero, htk] at own'
   refine J5 (l' := i) (h' := v.len) (m' := v.cap) rfl rfl rfl (by omega) hcap (Nat.le_refl _) ?_
   refine Ap5.permL hp (Ad1 Al4 rfl [] Y own' (by simp) (h := v.len) (by simp only [N9, Int.toNat_natCast]; omega) (by simp only [N9, Int.toNat_natCast]; omega) (Cv9 v i v.len) fun seg2 own2 => ?_)
   refine J5 (l' := 0) (h' := i) (m' := v.cap) rfl rfl rfl (by omega) (by omega) (Nat.le_refl _) (.of ⟨_, seg2, rfl, by simp, own2⟩)
theorem Cw8 (v : SlV) (l : List It) (seg : A4) (own : Own v 3 Av5 (l.flatMap N7) seg) (hb : l.length <= 1000000000) (k : Nat) (hk : k <= l.length) (h0 : 0 < k) :
  CallF PP 65 #[.slice v.a v.len v.cap, .i 0, .i k] seg fun r L' => ∃ s, r = .slice s.a s.len s.cap /\ Own s 3 Av5 ((l.drop k).flatMap N7) L' := by
 refine c65 v 0 k ?_
 unfold s65
 have hlen := own.sl.els_len E1 (by decide)
 have hcap := own.cap
 refine J5 (l' := 0) (h' := k) (m' := v.len) rfl rfl rfl (by omega) (by omega) hcap ?_
 refine ifN (show ¬ ((0 : Int) = (k : Int)) by omega) ?_
 refine J5 (l' := 0) (h' := 0) (m' := v.cap) rfl rfl rfl (by omega) (by omega) (Nat.le_refl _) ?_
 refine J5 (l' := k) (h' := v.len) (m' := v.cap) rfl rfl rfl (by omega) hcap (Nat.le_refl _) ?_
 have own2 := own.slc (l := 0) (h := 0) (by omega) (by omega)
 have src2 := Sl.slc (m := v.cap) own.sl (by omega) (l := k) (h' := v.len) (by omega) (Nat.le_refl _) hcap
 rw [Ap1 E1] at own2 src2
 refine Ae4 Al4 Bl7 [] [] own2 (by simp) (.sl src2) (Bb4 _) (by simp only [N9, Int.toNat_natCast]; omega) fun s seg' hs _ hcap' own' => ?_
 rw [<- List.flatMap_append] at own'
 have e1 : (l.drop 0).take (0 - 0) ++ (l.drop k).take (v.len - k) = l.drop k := by
  rw [hlen]
  simp only [Nat.sub_zero, List.take_zero, List.nil_append]
  exact List.take_of_length_le (by rw [List.length_drop]; omega)
 rw [e1] at own'
 simp only [N9, Int.toNat_natCast] at hs hcap'
 have hsc := own'.cap
 refine J5 (l' := s.len) (h' := v.len) (m' := s.cap) rfl rfl rfl (by omega) (by omega) (Nat.le_refl _) ?_
 refine Ad1 Al4 rfl [] [] own' (by simp) (h := v.len) (by omega) (by omega) rfl fun seg2 own2 => ?_
 exact .of ⟨s, rfl, by simpa using own2⟩
theorem Bu2 {n : Nat} {e : TypeId} : Own ⟨some ⟨n, 0, none⟩, 0, 0⟩ 3 e [] [(n, Obj.cells #[] e)] := ⟨rfl, Nat.le_refl _, .inr ⟨n, 0, #[], (0, 0), rfl, rfl, by simp, .inl (Nat.le_refl _), fun i u hu => by simp at hu⟩⟩
theorem B02 (A : A4) (v : SlV) (l : List It) (h : Sl A v 3 (l.flatMap N7)) (hb : l.length <= 1000000000) :
  CallF PP 71 #[.slice v.a v.len v.cap] A fun r L' => ∃ (s : SlV) (seg : A4), r = .slice s.a s.len s.cap /\ L' = seg ++ A /\ Own s 3 Av5 (l.flatMap N7) seg := by
 refine c71 v ?_
 unfold s71
 have hlen := h.els_len E1 (by decide)
 cases ha : v.a with
 | none =>
  have : l = [] := by
   cases l with
   | nil => rfl
   | cons x r =>
    obtain ⟨a, ha2, _⟩ := h.el E1 (by decide) (i := 0) (by simp)
    rw [ha] at ha2; cases ha2
  rw [this]
  exact ifT rfl (.of ⟨⟨none, 0, 0⟩, [], rfl, rfl, F7⟩)
 | some a =>
  refine ifF rfl (C3 fun n1 _ => ?_)
  refine app_pm Al4 Bl7 (Bu2 (n := n1) (e := 102)) (Y := A) (n := v.len) (ws := l.flatMap N7) (List.Perm.refl _) ?_ (Bb4 _) ?_ fun v5 sg5 hl5 o5 => ?_
  ·rw [<- ha]; exact .sl (h.mono fun x hx => List.mem_cons_of_mem _ hx)
  ·rw [hlen, show ({ a := some ⟨n1, 0, none⟩, len := 0, cap := 0 } : SlV).len = 0 from rfl]; omega
  ·exact .of ⟨v5, sg5, rfl, rfl, by simpa using o5⟩
theorem As6 (b ep beside : Int) : ∀ (l : List It) (x : It) (s : Sto), (Sto.moves b ep beside l s).2 = 0 -> Sto.moves b ep beside (l ++ [x]) s = (if x.1 ≠ 2 then ((Sto.moves b ep beside l s).1, 0) else (Sto.moves b ep beside l s).1.move (b, x.2.1, ep, ()) x.2.2.1 beside)
 | [], x, s, _ => by
  show Sto.moves b ep beside [x] s = _
  unfold Sto.moves
  split
  ·rfl
  ·dsimp only [Sto.moves]
   split
   ·rfl
   ·rename_i h
    have h : (s.move (b, x.2.1, ep, ()) x.2.2.1 beside).2 = 0 := by simpa using h
    exact Prod.ext rfl h.symm
 | y :: r, x, s, h => by
  rw [List.cons_append]
  unfold Sto.moves at h ⊢
  split
  ·rename_i hy
   rw [if_pos hy] at h
   exact As6 b ep beside r x s h
  ·rename_i hy
   rw [if_neg hy] at h
   dsimp only at h ⊢
   split
   ·rename_i h0
    rw [if_pos h0] at h
    exact absurd h h0
   ·rename_i h0
    rw [if_neg h0] at h
    exact As6 b ep beside r x _ h
theorem Ak7 (b ep beside : Int) : ∀ (l r : List It) (s : Sto), (Sto.moves b ep beside l s).2 ≠ 0 -> Sto.moves b ep beside (l ++ r) s = Sto.moves b ep beside l s
 | [], r, s, h => absurd rfl h
 | y :: t, r, s, h => by
  rw [List.cons_append]
  unfold Sto.moves at h ⊢
  split
  ·rename_i hy
   rw [if_pos hy] at h
   exact Ak7 b ep beside t r s h
  ·rename_i hy
   rw [if_neg hy] at h
   dsimp only at h ⊢
   split
   ·rfl
   ·rename_i h0
    rw [if_neg h0] at h
    exact Ak7 b ep beside t r _ h
theorem Aq2 (p : SP) (s : Sto) (g : SG) (X : SX p s g) {M : Nat} (h : SOk s M) (hM : M <= 1000000000) (hd : s.down = false) (R : A4) (hT : Tab R) (x : RN) (t : List RN) (hns : g.ns = x :: t) (beside : Int) (hbs : 0 <= beside /\ beside <= 1000) :
  CallF PP 187 #[.pointer (some ⟨p.n, 0, none⟩), .pointer x.ptr, .i beside] (SL p s g ++ R) (SK p (s.reclaim x.r beside) R) := by
 refine c187 (some ⟨p.n, 0, none⟩) x.ptr beside ?_
 unfold s187
 refine C3 fun n1 _ => ?_
 obtain ⟨c1, hc1⟩ : ∃ c1 : Nat × Obj, c1 = (n1, Obj.cells #[.pointer x.ptr] 80) := ⟨_, rfl⟩
 rw [<- hc1]
 have l1 : ∀ {L : A4}, c1 ∈ L -> D0 ⟨n1, 0, none⟩ [.pointer (some ⟨x.id, 0, none⟩)] L := fun hm => ldB (by rw [hc1] at hm; exact hm) rfl
 have hall : x ∈ g.all := by unfold SG.all; rw [hns]; simp
 have xo : ∀ {g' : SG} {s' : Sto} {L R' : A4}, g'.ns = g.ns -> L.Perm (SL p s' g' ++ R') -> ∀ y ∈ x.objs, y ∈ L := fun hn hp => SL.rn hp (by unfold SG.all; rw [hn, hns]; simp)
 have hp0 : (c1 :: (SL p s g ++ R)).Perm (SL p s g ++ (c1 :: R)) := pc fun z => by simp only [B7, C5]; omega
 have hm0 : x.o ∈ c1 :: (SL p s g ++ R) := xo rfl hp0 _ (by unfold RN.objs; exact List.mem_cons_self)
 refine A6 (some ⟨x.id, 0, none⟩) (l1 List.mem_cons_self) (A5 (a := ⟨x.id, 0, none⟩) rfl (A6 x.v (ldB (n := x.id) (off := 3) hm0 rfl) ?_))
 have hok := X.ok x hall
 have hvl := hok.sl.els_len E1 (by decide)
 have hxr : x.r ∈ s.rs := by rw [<- X.rs, hns]; simp
 have hgood := h.it x.r (.inl hxr)
 have hl256 := hgood.1
 refine G0 (fun z' z L' => ∃ (i : Nat) (g' : SG) (J : A4), i <= x.r.l.length /\ z' = x.r.l.length - i /\ z = ((i : Int), ()) /\ (Sto.moves x.r.b x.r.ep beside (x.r.l.take i) s).2 = 0 /\ SX p (Sto.moves x.r.b x.r.ep beside (x.r.l.take i) s).1 g' /\ g'.ns = g.ns /\ L'.Perm (SL p (Sto.moves x.r.b x.r.ep beside (x.r.l.take i) s).1 g' ++ (c1 :: (J ++ R)))) x.r.l.length
  ⟨0, g, [], by omega, by omega, rfl, rfl, X, rfl, hp0⟩ ?_
 rintro z' z L1 ⟨i, g', J, hi, rfl, rfl, h0, X', hn', hp1⟩
 dsimp only
 have hT1 : Tab (c1 :: (J ++ R)) := hT.mono fun y hy => by simp [hy]
 have hc1m : c1 ∈ L1 := hp1.symm.subset (by simp)
 have hm1 := xo hn' hp1
 have hmo : x.o ∈ L1 := hm1 _ (by unfold RN.objs; exact List.mem_cons_self)
 obtain ⟨k1, k2, mv⟩ := SOk.moves (b := x.r.b) (ep := x.r.ep) (beside := beside) (x.r.l.take i) h hd
 have fb : ∀ {L : A4}, x.o ∈ L -> D0 ⟨x.id, 0, none⟩ [.i x.r.b] L := fun hm => ldB hm rfl
 have fe : ∀ {L : A4}, x.o ∈ L -> D0 ⟨x.id, 1, none⟩ [.i x.r.ep] L := fun hm => ldB hm rfl
 refine C0 (fun (hlt : (i : Int) < x.v.len) => ?_) (fun (hge : ¬ (i : Int) < x.v.len) => ?_)
 ·have hi' : i < x.r.l.length := by omega
  have hig := hgood.2 _ (List.getElem_mem hi')
  have hap := As6 x.r.b x.r.ep beside (x.r.l.take i) x.r.l[i] s h0
  have hst : ∀ r : List It, (Sto.moves x.r.b x.r.ep beside (x.r.l.take (i + 1)) s).2 ≠ 0 -> Sto.moves x.r.b x.r.ep beside x.r.l s = Sto.moves x.r.b x.r.ep beside (x.r.l.take (i + 1)) s := fun _ he => by
   conv => lhs; rw [<- List.take_append_drop (i + 1) x.r.l]
   exact Ak7 x.r.b x.r.ep beside _ _ s he
  rw [List.take_succ_eq_append_getElem hi'] at hst
  obtain ⟨w, hw⟩ : ∃ w, w = Sto.moves x.r.b x.r.ep beside (x.r.l.take i) s := ⟨_, rfl⟩
  rw [<- hw] at X' hp1 k1 hap k2 mv h0
  refine V5 E1 (by decide) (hok.sl.mono fun y hy => hm1 y (by unfold RN.objs; simp [hy])) (n := i) rfl hi' fun a ha => ?_
  obtain ⟨y, hy⟩ : ∃ y, y = x.r.l[i] := ⟨_, rfl⟩
  rw [<- hy] at ha hig hap hst
  refine A6 (sh := .agg [.int .i64, .int .i64, .int .i64]) y ha ?_
  refine C0 (fun (hk : y.1 = 2) => ?_) (fun (hk : ¬ y.1 = 2) => ?_)
  ·rw [if_neg (by simpa using hk)] at hap
   refine A6 (some ⟨x.id, 0, none⟩) (l1 hc1m) (A5 rfl (A6 x.r.b (fb hmo) (A6 (some ⟨x.id, 0, none⟩) (l1 hc1m) (A5 rfl (A6 x.r.ep (fe hmo) ?_)))))
   refine Aw8 (Cf1 p w.1 g' X' k1 (c1 :: (J ++ R)) hT1 (x.r.b, y.2.1, x.r.ep, ()) (A65 (by show -9223372036854775808 <= y.2.1 /\ y.2.1 <= 9223372036854775807; omega)) y hig.2 beside hbs) hp1 ?_
   rintro _ _ ⟨g2, rfl, X2, hn2, rfl⟩
   refine ⟨((w.1.move (x.r.b, y.2.1, x.r.ep, ()) y.2.2.1 beside).2, ()), rfl, ?_⟩
   refine C0 (fun (h1 : (w.1.move (x.r.b, y.2.1, x.r.ep, ()) y.2.2.1 beside).2 = 0) => ?_) (fun (h1 : ¬ (w.1.move (x.r.b, y.2.1, x.r.ep, ()) y.2.2.1 beside).2 = 0) => ?_)
   ·refine D9 (by omega) ⟨x.r.l.length - (i + 1), by omega, i + 1, g2, J, by omega, rfl, rfl, ?_, ?_, hn2.trans hn', ?_⟩
    ·rw [List.take_succ_eq_append_getElem hi', <- hy, hap]; exact h1
    ·rw [List.take_succ_eq_append_getElem hi', <- hy, hap]; exact X2
    ·rw [List.take_succ_eq_append_getElem hi', <- hy, hap]
   ·have hall := hst [] (by rw [hap]; exact h1)
    rw [hap] at hall
    have hrc : s.reclaim x.r beside = w.1.move (x.r.b, y.2.1, x.r.ep, ()) y.2.2.1 beside := by
     unfold Sto.reclaim
     dsimp only
     rw [hall, if_pos h1]
    rw [hrc]
    exact .drop (A := SL p _ g2 ++ R) (J := c1 :: J) ⟨g2, rfl, X2, rfl⟩ (pc fun z => by simp only [B7, C5]; omega)
  ·rw [if_pos (by simpa using hk)] at hap
   refine D9 (by omega) ⟨x.r.l.length - (i + 1), by omega, i + 1, g', J, by omega, rfl, rfl, ?_, ?_, hn', ?_⟩
   ·rw [List.take_succ_eq_append_getElem hi', <- hy, hap]
   ·rw [List.take_succ_eq_append_getElem hi', <- hy, hap]; exact X'
   ·rw [List.take_succ_eq_append_getElem hi', <- hy, hap]; exact hp1
 ·obtain rfl : i = x.r.l.length := by omega
  rw [List.take_length] at h0 X' hp1 k1 k2 mv
  obtain ⟨w, hw⟩ : ∃ w, w = Sto.moves x.r.b x.r.ep beside x.r.l s := ⟨_, rfl⟩
  have hrc : s.reclaim x.r beside = Sto.erase { w.1 with pend := w.1.pend.filter fun p => !decide (p.1 = x.r.b) } x.r.b := by
   unfold Sto.reclaim
   dsimp only
   rw [<- hw, if_neg]
   rw [hw]; simpa using h0
  rw [<- hw] at X' hp1 k1 k2 mv h0
  rw [hrc]
  refine A5 rfl (A6 g'.pv (E8 (SL.st hp1) rfl) ?_)
  refine Aw8 (Cg1 g'.pv w.1.pend g'.pseg (stO p w.1 g' :: (kO p w.1 :: (mO p g' :: (gO p g' :: (g'.Ad ++ (g'.Ab ++ (rns g'.ns ++ (rns g'.on.toList ++ (g'.Aq ++ (g'.Ai ++ (c1 :: (J ++ R)))))))))))) X'.pd (Nat.le_trans k1.pl hM) n1 x.id x.r.b (l1 (by simp)) (fb (by
    have : x.o ∈ rns g'.ns := List.mem_flatMap.2 ⟨x, by rw [hn', hns]; simp, by unfold RN.objs; exact List.mem_cons_self⟩
    simp [this]))) (pc fun z => by have := pcn hp1 z; simp only [SL, B7, C5, D8] at *; omega) ?_
  rintro _ _ ⟨s1, seg1, rfl, rfl, own1⟩
  refine ⟨(s1, ()), rfl, ?_⟩
  obtain ⟨s2, hs2⟩ : ∃ s2 : Sto, s2 = { w.1 with pend := w.1.pend.filter fun p => !decide (p.1 = x.r.b) } := ⟨_, rfl⟩
  obtain ⟨g2, hg2⟩ : ∃ g2 : SG, g2 = { g' with pv := s1, pseg := seg1 } := ⟨_, rfl⟩
  rw [<- hs2]
  refine Bg2 (s := w.1) (g := g') (k := 17) s2 g2 (Y := seg1 ++ (kO p w.1 :: (mO p g' :: (gO p g' :: (g'.Ad ++ (g'.Ab ++ (rns g'.ns ++ (rns g'.on.toList ++ (g'.Aq ++ (g'.Ai ++ (c1 :: (J ++ R)))))))))))) (pc fun z => by simp only [B7, C5, D8]; omega) (by decide) (by rw [hs2, hg2]; rfl) fun L2 hp2 => ?_
  have hp2 : L2.Perm (SL p s2 g2 ++ (c1 :: (J ++ R))) := pc fun z => by
   have := pcn hp2 z
   have e1 : kO p s2 = kO p w.1 := by rw [hs2]; rfl
   have e2 : mO p g2 = mO p g' := by rw [hg2]; rfl
   have e3 : gO p g2 = gO p g' := by rw [hg2]; rfl
   have e4 : g2.pseg = seg1 /\ g2.Ad = g'.Ad /\ g2.Ab = g'.Ab /\ g2.ns = g'.ns /\ g2.on = g'.on /\ g2.Aq = g'.Aq /\ g2.Ai = g'.Ai := by rw [hg2]; exact ⟨rfl, rfl, rfl, rfl, rfl, rfl, rfl⟩
   simp only [SL, e1, e2, e3, e4.1, e4.2.1, e4.2.2.1, e4.2.2.2.1, e4.2.2.2.2.1, e4.2.2.2.2.2.1, e4.2.2.2.2.2.2, B7, C5, D8] at *
   omega
  have X2 : SX p s2 g2 := by rw [hs2, hg2]; exact { X' with cfg := X'.cfg, dev := X'.dev, blk := X'.blk, pd := own1 }
  have hn2 : g2.ns = g.ns := by rw [hg2]; exact hn'
  have hmo2 : x.o ∈ L2 := xo hn2 hp2 _ (by unfold RN.objs; exact List.mem_cons_self)
  refine A6 (some ⟨x.id, 0, none⟩) (l1 (hp2.symm.subset (by simp))) (A5 rfl (A6 x.r.b (fb hmo2) ?_))
  have hk2 : SOk s2 M := by rw [hs2]; exact k1.cutp x.r.b
  have hus2 : s2.us = s.us := by rw [hs2]; exact mv.us
  have hob : ∀ o, s2.op = some o -> o.b ≠ x.r.b := fun o ho e => by
   have h3 : s2.op.map Reg.b = s.op.map Reg.b := by rw [hs2]; exact mv.ob
   rw [ho] at h3
   have hnd := h.use.1
   unfold Sto.us at hnd
   rw [<- h3, <- X.rs, hns] at hnd
   simp [e] at hnd
  refine G9 (A79 p s2 g2 X2 hk2.dv (fun y hy => by have := hk2.sw y hy; omega) hk2.use.1 x.r.b hob (fun hb => by
   have : x.r.b ∈ s2.us := by rw [hus2]; unfold Sto.us; exact List.mem_append_left _ (List.mem_map_of_mem hxr)
   have := hk2.use.2 _ this
   rw [this] at hb; cases hb)) hp2 ?_
  rintro _ _ ⟨g3, hL3, X3, rfl⟩
  rw [List.append_nil] at hL3
  rw [hL3]
  exact ⟨_, List.Perm.refl _, ((s2.erase x.r.b).2, ()), rfl, .drop (A := SL p (s2.erase x.r.b).1 g3 ++ R) (J := c1 :: J) ⟨g3, rfl, X3, rfl⟩ (pc fun z => by simp only [B7, C5]; omega)⟩
theorem A95 {ss : List BS} {us : List Int} (h : A01 ss us ≠ 0) : N8 ss us (F5 ss us).2.2 = true /\ (F5 ss us).2.1 = bat ss (F5 ss us).2.2 := by
 obtain ⟨h1, h2, -⟩ := Bw0 ss us
 cases hp : (F5 ss us).1 with
 | false =>
  refine absurd ?_ h
  rw [Bw4, Av2 (r := fun _ => false) fun i hi => h1 hp i hi, Br3]
  rfl
 | true => exact ⟨(h2 hp).1, (h2 hp).2.1⟩
theorem Av1 {ss : List BS} {us : List Int} {b : Int} (h : N8 ss us b = true) (hd : (bat ss b).dirty = false) : Ad3 ss us b = true := by
 obtain ⟨h1, h2⟩ := O9 h
 obtain ⟨h3, h4, h5⟩ := P9 h1
 unfold Ad3
 rw [h, List.getElem?_eq_getElem h4]
 unfold bat at hd
 rw [List.getElem?_eq_getElem h4] at hd
 simp at hd
 simp [hd]
def Sto.mu2 (s : Sto) : Nat := s.bk.tokens.toNat * 1000 + V8 s.ss * 20 + s.us.length
structure Lk (s s' : Sto) : Prop where
 dn : s'.down = false
 us : s'.us.length <= s.us.length
 gd : V8 s'.ss <= V8 s.ss
 tk : s'.bk.tokens <= s.bk.tokens
theorem Lk.trans {a b c : Sto} (h : Lk a b) (k : Lk b c) : Lk a c := ⟨k.dn, Nat.le_trans k.us h.us, Nat.le_trans k.gd h.gd, Int.le_trans k.tk h.tk⟩
theorem SOk.frees {n : Int} : ∀ (k : Nat) {s : Sto} {M : Nat}, SOk s M -> s.down = false -> SOk (Sto.frees n k s).1 M /\ ((Sto.frees n k s).2 = 0 -> Lk s (Sto.frees n k s).1) /\ (Sto.frees n k s).1.sc = s.sc
 | 0, s, M, h, hd => ⟨h, fun _ => ⟨hd, Nat.le_refl _, Nat.le_refl _, Int.le_refl _⟩, rfl⟩
 | k + 1, s, M, h, hd => by
  unfold Sto.frees
  split
  ·split
   ·exact ⟨h, fun _ => ⟨hd, Nat.le_refl _, Nat.le_refl _, Int.le_refl _⟩, rfl⟩
   ·rename_i r t hr
    obtain ⟨h1, h2, h3⟩ := h.reclaim hd hr n
    dsimp only
    split
    ·rename_i h0
     exact ⟨h1, fun he => absurd he h0, h3⟩
    ·rename_i h0
     obtain ⟨a1, a2, a3, a4, a5⟩ := h2 (by simpa using h0)
     obtain ⟨b1, b2, b3⟩ := SOk.frees (n := n) k h1 a1
     exact ⟨b1, fun he => Lk.trans ⟨a1, by omega, a3, a4⟩ (b2 he), b3.trans h3⟩
  ·exact ⟨h, fun _ => ⟨hd, Nat.le_refl _, Nat.le_refl _, Int.le_refl _⟩, rfl⟩
theorem By1 {b : Bk} {n : Int} (h0 : 0 <= n) (h : n <= b.tokens) : (Aa9 b n).tokens = b.tokens - n := by unfold Aa9; rw [if_pos ⟨h0, h⟩]
theorem SOk.picks {s : Sto} {M : Nat} (h : SOk s M) (hd : s.down = false) (hop : s.op = none) (hf : s.free ≠ 0) :
  ∃ z : Sto × Int, z = (if (F5 s.ss s.us).2.1.dirty then s.erase (F5 s.ss s.us).2.2 else (s, 0)) /\ SOk z.1 M /\ z.1.op = none /\ z.1.bk = s.bk /\ z.1.epoch = s.epoch /\ z.1.sc = s.sc /\ (z.2 = 0 -> z.1.down = false /\ z.1.us = s.us /\ V8 z.1.ss <= V8 s.ss /\
   ((F5 s.ss s.us).2.1.dirty = true /\ z.1.badAt (F5 s.ss s.us).2.2 = true -> V8 z.1.ss + 1 = V8 s.ss) /\
   (¬ ((F5 s.ss s.us).2.1.dirty = true /\ z.1.badAt (F5 s.ss s.us).2.2 = true) -> N8 z.1.ss z.1.us (F5 s.ss s.us).2.2 = true /\ Ad3 z.1.ss z.1.us (F5 s.ss s.us).2.2 = true)) := by
 refine ⟨_, rfl, ?_⟩
 obtain ⟨p1, p2⟩ := A95 hf
 obtain ⟨q1, q2⟩ := O9 p1
 obtain ⟨q3, q4, q5⟩ := P9 q1
 rw [p2]
 generalize (F5 s.ss s.us).2.2 = b at p1 q1 q2 q3 q4 q5
 cases hdi : (bat s.ss b).dirty with
 | false =>
  rw [if_neg (by decide)]
  refine ⟨h, hop, rfl, rfl, rfl, fun _ => ⟨hd, rfl, Nat.le_refl _, fun hh => absurd hh.1 (by decide), fun _ => ⟨p1, Av1 p1 hdi⟩⟩⟩
 | true =>
  rw [if_pos rfl]
  have he := h.erase hd (b := b) (fun o ho => by rw [hop] at ho; cases ho)
  obtain ⟨e1, e2, e3, e4, e5, e6⟩ := he
  refine ⟨e1, e3.trans hop, e4, e5, e6, fun h0 => ?_⟩
  obtain ⟨a1, a2, a3⟩ := e2 h0
  rw [if_pos q1] at a3
  have hus : (s.erase b).1.us = s.us := by
   rw [a2]
   unfold iwo
   rw [List.filter_eq_self]
   intro y hy
   have : y ≠ b := fun e => q2 (e ▸ hy)
   simp [this]
  have hN := A00 q1 (T7 (decide ((J8 s.d b).1 = 10))) (bad := decide ((J8 s.d b).1 = 10)) fun s _ => rfl
  rw [<- a3] at hN
  have hat : (s.erase b).1.ss[b.toNat]? = some (T7 (decide ((J8 s.d b).1 = 10)) s.ss[b.toNat]) := by
   rw [a3]
   unfold Ag6
   rw [List.getElem?_modify, List.getElem?_eq_getElem q4]
   simp
  have hbl : b.toNat < (s.erase b).1.d.bs.length := by
   rw [<- e1.ssl]
   exact (List.getElem?_eq_some_iff.1 hat).1
  obtain ⟨x, hx, hxw, hxb⟩ := e1.ssd a1 b.toNat _ (List.getElem?_eq_getElem hbl)
  rw [hat] at hx
  obtain rfl := Option.some.inj hx
  have hbad : (s.erase b).1.badAt b = decide ((J8 s.d b).1 = 10) := by
   unfold Sto.badAt
   rw [List.getElem?_eq_getElem hbl]
   exact hxb.symm
  refine ⟨a1, hus, by split at hN <;> omega, fun hh => ?_, fun hh => ?_⟩
  ·rw [hbad] at hh
   rw [if_pos hh.2] at hN
   omega
  ·have hnb : decide ((J8 s.d b).1 = 10) = false := by
    rw [hbad] at hh
    simpa using hh
   rw [hnb] at hat
   have hg : H7 (s.erase b).1.ss b = true := by
    unfold H7
    rw [hat]
    simp [q3, T7]
   have hfr : N8 (s.erase b).1.ss (s.erase b).1.us b = true := by
    unfold N8
    rw [hg, hus]
    simp [q2]
   refine ⟨hfr, Av1 hfr ?_⟩
   unfold bat
   rw [hat]; rfl
theorem SOk.more {s : Sto} {M : Nat} (h : SOk s M) (hd : s.down = false) {n : Int} (hn : 0 <= n) : SOk (s.more n).1 M /\ ((s.more n).2 = 0 -> (s.more n).1.down = false /\ (s.more n).1.mu2 < s.mu2) /\ (s.more n).1.sc = s.sc := by
 unfold Sto.more
 have hS := h.S
 have hb := h.bk
 split
 ·exact ⟨h, fun he => absurd (show (13 : Int) = 0 from he) (by decide), rfl⟩
 rename_i hpay
 have hpay : s.bk.tokens ≥ (n + 1 + s.sealN) * (s.sc.c.S : Int) := by
  unfold Sto.pays Sto.cost at hpay
  simpa using hpay
 split
 ·exact ⟨h, fun he => absurd (show (7 : Int) = 0 from he) (by decide), rfl⟩
 rename_i hep
 split
 ·split
  ·exact ⟨h, fun he => absurd (show (7 : Int) = 0 from he) (by decide), rfl⟩
  ·rename_i r t hr
   obtain ⟨h1, h2, h3⟩ := h.reclaim hd hr n
   refine ⟨h1, fun he => ?_, h3⟩
   obtain ⟨a1, a2, a3, a4, a5⟩ := h2 he
   refine ⟨a1, ?_⟩
   unfold Sto.mu2
   have := h1.bk.t0
   omega
 rename_i hfree
 obtain ⟨s1, s2, s3, s4, s5, s6, s7⟩ := h.seals hd
 have htk : s.seals.2 = 0 -> s.seals.1.bk.tokens = s.bk.tokens - s.sealN * (s.sc.c.S : Int) := fun h0 => by
  unfold Sto.seals at h0 ⊢
  unfold Sto.sealN at hpay ⊢
  cases ho : s.op with
  | none => simp
  | some o =>
   rw [ho] at h0 hpay
   simp only at h0 ⊢
   have hc : s.cost 1 = (s.sc.c.S : Int) := by unfold Sto.cost; omega
   have h5 : (s.sc.c.S : Int) <= s.bk.tokens := by
    have : (n + 1 + 1) * (s.sc.c.S : Int) ≥ 1 * (s.sc.c.S : Int) := Int.mul_le_mul_of_nonneg_right (by omega) (by omega)
    simp only at hpay
    omega
   have := By1 (b := s.bk) (n := (s.sc.c.S : Int)) (by omega) h5
   show (Aa9 s.bk (s.cost 1)).tokens = _
   rw [hc, this]; simp
 dsimp only
 generalize s.seals = w at s1 s2 s3 s4 s5 s6 s7 htk
 split
 ·rename_i h0
  exact ⟨s1, fun he => absurd he h0, s7⟩
 rename_i h0
 have h0 : w.2 = 0 := by simpa using h0
 have hfr : w.1.free ≠ 0 := by
  unfold Sto.free at hfree ⊢
  rw [s5, s4]; exact hfree
 have htk := htk h0
 obtain ⟨z, hz, z1, z2, z3, z4, z5, z6⟩ := s1.picks (s2 h0) s3 hfr
 rw [<- hz]
 clear hz
 generalize F5 w.1.ss w.1.us = pk at z6
 split
 ·rename_i hz0
  exact ⟨z1, fun he => absurd he hz0, z5.trans s7⟩
 rename_i hz0
 obtain ⟨y1, y2, y3, y4, y5⟩ := z6 (by simpa using hz0)
 have hg1 : V8 z.1.ss <= V8 s.ss := by rw [s5] at y3; exact y3
 have hu1 : z.1.us.length = s.us.length := by rw [y2, s4]
 have hsn : 0 <= s.sealN * (s.sc.c.S : Int) := Int.mul_nonneg (by unfold Sto.sealN; split <;> decide) (by omega)
 have ht1 : z.1.bk.tokens <= s.bk.tokens := by rw [z3, htk]; omega
 have ht0 := z1.bk.t0
 split
 ·rename_i hbd
  have hg2 := y4 hbd
  rw [s5] at hg2
  refine ⟨z1, fun _ => ⟨y1, ?_⟩, z5.trans s7⟩
  show z.1.mu2 < s.mu2
  unfold Sto.mu2
  omega
 rename_i hbd
 obtain ⟨f1, f2⟩ := y5 hbd
 have hep2 : z.1.epoch < 1073741824 := by rw [z4, s6]; omega
 obtain ⟨b1, b2⟩ := z1.begins y1 z2 hep2 f1
 have hbsc : (z.1.begins pk.2.2).1.sc = z.1.sc := by unfold Sto.begins; dsimp only; split <;> rfl
 have hbss : (z.1.begins pk.2.2).1.ss = z.1.ss := by unfold Sto.begins; dsimp only; split <;> rfl
 have hbtk : (z.1.begins pk.2.2).1.bk.tokens = z.1.bk.tokens - (s.sc.c.S : Int) := by
  have hc : z.1.cost 1 = (s.sc.c.S : Int) := by unfold Sto.cost; rw [z5, s7]; omega
  have h5 : (s.sc.c.S : Int) <= z.1.bk.tokens := by
   rw [z3, htk]
   rw [Int.add_mul, Int.add_mul] at hpay
   have : 0 <= n * (s.sc.c.S : Int) := Int.mul_nonneg hn (by omega)
   omega
  have := By1 (b := z.1.bk) (n := (s.sc.c.S : Int)) (by omega) h5
  rw [<- hc] at this
  have e : (z.1.begins pk.2.2).1.bk = Aa9 z.1.bk (z.1.cost 1) := by unfold Sto.begins; dsimp only; split <;> rfl
  rw [e, this, hc]
 generalize z.1.begins pk.2.2 = y at b1 b2 hbsc hbss hbtk
 split
 ·rename_i hy0
  exact ⟨b1, fun he => absurd he hy0, hbsc.trans (z5.trans s7)⟩
 rename_i hy0
 obtain ⟨c1, c2⟩ := b2 (by simpa using hy0)
 obtain ⟨d1, d2, d3⟩ := SOk.frees (n := n) (y.1.rs.length + 1) b1 c1
 refine ⟨d1, fun he => ?_, d3.trans (hbsc.trans (z5.trans s7))⟩
 have hl := d2 he
 refine ⟨hl.dn, ?_⟩
 unfold Sto.mu2
 have l1 := hl.us
 have l2 := hl.gd
 have l3 := hl.tk
 have l4 := d1.bk.t0
 rw [c2, List.length_append] at l1
 rw [hbss] at l2
 simp at l1
 omega
theorem U8 (n : Int) (k : Nat) (s : Sto) : Sto.room n (k + 1) s = if s.fits n = true then (if s.pays n = true then (s, 0) else (s, 13)) else if (s.more n).2 ≠ 0 then s.more n else Sto.room n k (s.more n).1 := rfl
theorem A85 {n : Int} (hn : 0 <= n) (k : Nat) : ∀ {s : Sto} {M : Nat}, SOk s M -> s.down = false -> s.mu2 < k -> Sto.room n k s = Sto.room n (s.mu2 + 1) s := by
 induction k using Nat.strongRecOn with
 | ind k ih =>
  intro s M h hd hk
  obtain ⟨j, rfl⟩ : ∃ j, k = j + 1 := ⟨k - 1, by omega⟩
  rw [U8 n j s, U8 n s.mu2 s]
  by_cases hf : s.fits n = true
  ·rw [if_pos hf, if_pos hf]
  ·rw [if_neg hf, if_neg hf]
   by_cases h0 : (s.more n).2 ≠ 0
   ·rw [if_pos h0, if_pos h0]
   ·rw [if_neg h0, if_neg h0]
    obtain ⟨h1, h2, -⟩ := h.more hd hn
    obtain ⟨a1, a2⟩ := h2 (by simpa using h0)
    rw [ih j (by omega) h1 a1 (by omega), ih s.mu2 (by omega) h1 a1 a2]
theorem mu_le (s : Sto) : s.mu2 <= s.mu := by
 unfold Sto.mu2 Sto.mu
 have : V8 s.ss <= s.ss.length := Ct4 _ _
 omega
theorem Cg3 {n : Int} (hn : 0 <= n) {s : Sto} {M : Nat} (h : SOk s M) (hd : s.down = false) : s.roomy n = Sto.room n (s.mu2 + 1) s := A85 hn _ h hd (by have := mu_le s; omega)
theorem SOk.room {n : Int} (hn : 0 <= n) : ∀ (k : Nat) {s : Sto} {M : Nat}, SOk s M -> s.down = false -> SOk (Sto.room n k s).1 M /\ ((Sto.room n k s).2 = 0 -> (Sto.room n k s).1.down = false /\ (Sto.room n k s).1.fits n = true) /\ (Sto.room n k s).1.sc = s.sc
 | 0, s, M, h, hd => ⟨h, fun he => absurd (show (13 : Int) = 0 from he) (by decide), rfl⟩
 | k + 1, s, M, h, hd => by
  unfold Sto.room
  split
  ·rename_i hf
   split
   ·exact ⟨h, fun _ => ⟨hd, hf⟩, rfl⟩
   ·exact ⟨h, fun he => absurd (show (13 : Int) = 0 from he) (by decide), rfl⟩
  ·dsimp only
   obtain ⟨h1, h2, h3⟩ := h.more hd hn
   split
   ·rename_i h0
    exact ⟨h1, fun he => absurd he h0, h3⟩
   ·rename_i h0
    obtain ⟨b1, b2, b3⟩ := SOk.room hn k h1 (h2 (by simpa using h0)).1
    exact ⟨b1, b2, b3.trans h3⟩
theorem Az4 (n : Int) (k : Nat) (s : Sto) : Sto.frees n (k + 1) s = if s.free = 0 then (match s.rs with
 | [] => (s, 0)
 | h :: _ => if (s.reclaim h n).2 ≠ 0 then s.reclaim h n else Sto.frees n k (s.reclaim h n).1) else (s, 0) := rfl
theorem Cp2 (s : Sto) : s.us.length = s.rs.length + (if s.op.isSome = true then 1 else 0) := by
 unfold Sto.us
 rw [List.length_append, List.length_map]
 cases s.op <;> rfl
theorem bad_eq {d : Dev} {b : Int} (hb : 0 <= b) (hl : b.toNat < d.bs.length) : A56 d b = (match d.bs[b.toNat]? with | some k => k.bad | none => false) := by
 unfold A56 Aw9
 rw [if_pos (by omega)]
 cases d.bs[b.toNat]? <;> rfl
theorem Bz8 (p : SP) (s : Sto) (g : SG) (X : SX p s g) {M : Nat} (h : SOk s M) (hM : M <= 1000000000) (hd : s.down = false) (R : A4) (hT : Tab R) (n : Int) (hn : 0 <= n /\ n <= 1000) {L J : A4} (hp : L.Perm (SL p s g ++ (J ++ R))) {K : Value -> HP} (hK : ∀ v L', HL.Ends (SK p (Sto.frees n (s.rs.length + 1) s) R) v L' -> K v L') :
  lp [] () (fun z1 go1 => ld ⟨p.n, 12, none⟩ (.lf .ptr) fun v6 => cl PP 185 #[.pointer v6] [lI] fun r10 => ifB (decide ((r10.1 : Int) = 0)) (
   cl PP 186 #[.pointer (some ⟨p.n, 11, none⟩)] [.lf .ptr] fun r11 => ifB (Option.isNone r11.1) (K (.i 0)) (
    cl PP 187 #[.pointer (some ⟨p.n, 0, none⟩), .pointer r11.1, .i n] [lI] fun r12 => ifB (decide ((r12.1 : Int) = 0)) (go1 ()) (K (.i r12.1)))) (K (.i 0))) L := by
 refine G0 (fun z' z L' => ∃ (cur : Sto) (g' : SG) (J : A4), z' = cur.rs.length /\ SOk cur M /\ cur.down = false /\ SX p cur g' /\ Sto.frees n (s.rs.length + 1) s = Sto.frees n (cur.rs.length + 1) cur /\ L'.Perm (SL p cur g' ++ (J ++ R))) s.rs.length ⟨s, g, J, rfl, h, hd, X, rfl, hp⟩ ?_
 rintro z' z L1 ⟨cur, g', J, rfl, hc, hcd, X', heq, hp1⟩
 dsimp only
 rw [heq] at hK
 have fin : ∀ {L2 : A4} {J2 : A4}, L2.Perm (SL p cur g' ++ (J2 ++ R)) -> Sto.frees n (cur.rs.length + 1) cur = (cur, 0) -> K (.i 0) L2 := fun {L2 J2} hp2 he => by
  refine hK _ _ ?_
  rw [he]
  exact .drop (A := SL p cur g' ++ R) (J := J2) ⟨g', rfl, X', rfl⟩ (pc fun z => by have := pcn hp2 z; simp only [B7] at *; omega)
 rw [Az4] at fin hK
 refine A6 (some ⟨p.nb, 0, none⟩) (E8 (SL.st hp1) rfl) ?_
 refine B3 (Reads.has (SL.b hp1) (Be6 p.nb cur.ss cur.us g'.Ab X'.blk)) (cur.free, ()) rfl ?_
 refine C0 (fun (h0 : cur.free = 0) => ?_) (fun (h0 : ¬ cur.free = 0) => fin hp1 (by rw [if_neg h0]))
 rw [if_pos h0] at fin hK
 refine B3 (Ax7 hp1 X' hc.use.1) ((match g'.ns with | [] => none | x :: _ => x.ptr), ()) rfl ?_
 have hrs := X'.rs
 cases hns : g'.ns with
 | nil =>
  rw [hns] at hrs
  exact ifT rfl (fin hp1 (by rw [<- hrs]; rfl))
 | cons x t =>
  rw [hns] at hrs
  refine ifF rfl ?_
  have hT2 : Tab (J ++ R) := hT.mono fun y hy => by simp [hy]
  refine Aw8 (Aq2 p cur g' X' hc hM hcd (J ++ R) hT2 x t hns n hn) hp1 ?_
  rintro _ _ ⟨g2, rfl, X2, rfl⟩
  refine ⟨((cur.reclaim x.r n).2, ()), rfl, ?_⟩
  have hrs' : cur.rs = x.r :: t.map RN.r := hrs.symm
  obtain ⟨k1, k2, k3⟩ := hc.reclaim hcd hrs' n
  rw [hrs'] at hK
  dsimp only at hK
  refine C0 (fun (h1 : (cur.reclaim x.r n).2 = 0) => ?_) (fun (h1 : ¬ (cur.reclaim x.r n).2 = 0) => ?_)
  ·obtain ⟨a1, a2, a3, a4, a5⟩ := k2 h1
   rw [Cp2, Cp2, a5] at a2
   have hl : (cur.reclaim x.r n).1.rs.length + 1 = cur.rs.length := by omega
   refine ⟨(cur.reclaim x.r n).1.rs.length, by omega, _, g2, J, rfl, k1, a1, X2, ?_, List.Perm.refl _⟩
   rw [heq, Az4, if_pos h0, hrs']
   dsimp only
   rw [if_neg (by simpa using h1), <- hrs', hl]
  ·rw [if_pos (by simpa using h1)] at hK
   exact hK _ _ (.drop (A := SL p (cur.reclaim x.r n).1 g2 ++ R) (J := J) ⟨g2, rfl, X2, rfl⟩ (pc fun z => by simp only [B7]; omega))
theorem Cf2 (p : SP) (s : Sto) (g : SG) (X : SX p s g) {M : Nat} (h : SOk s M) (hM : M <= 1000000000) (hd : s.down = false) (R : A4) (hT : Tab R) (n : Int) (hn : 0 <= n /\ n <= 1000) :
  CallF PP 127 #[.pointer (some ⟨p.n, 0, none⟩), .i n] (SL p s g ++ R) (SK p (s.more n) R) := by
 refine c127 (some ⟨p.n, 0, none⟩) n ?_
 unfold s127
 have hS := h.S
 have hp0 : (SL p s g ++ R).Perm (SL p s g ++ R) := List.Perm.refl _
 refine Y6 (fun (y : RsV [lI]) L' => y = (s.sealN, ()) /\ L' = SL p s g ++ R) ?_ ?_
 ·rintro _ _ ⟨rfl, rfl⟩
  dsimp only
  refine A5 rfl (C3 fun n1 _ => ?_)
  obtain ⟨c1, hc1⟩ : ∃ c1 : Nat × Obj, c1 = (n1, Obj.cells #[.i n, .i 1, .i s.sealN] 3) := ⟨_, rfl⟩
  rw [<- hc1]
  have hp1 : (c1 :: (SL p s g ++ R)).Perm (SL p s g ++ (c1 :: R)) := pc fun z => by simp only [B7, C5]; omega
  have hsn : 0 <= s.sealN /\ s.sealN <= 1 := by unfold Sto.sealN; split <;> decide
  have hm1 : (n1, Obj.cells (ivs .i64 [n, 1, s.sealN]).toArray 3) ∈ c1 :: (SL p s g ++ R) := by rw [hc1]; exact List.mem_cons_self
  have hsum : ∀ y ∈ [n, 1, s.sealN], 0 <= y /\ y <= (1000000 : Nat) := fun y hy => by
   simp at hy
   rcases hy with rfl | rfl | rfl <;> omega
  have hs2 : [n, 1, s.sealN].sum = n + 1 + s.sealN := by simp; omega
  refine B3 (Bh9 hp1 X hS.2 ⟨some ⟨n1, 0, none⟩, 3, 3⟩ [n, 1, s.sealN] (ISl.const (l := [n, 1, s.sealN]) 3 (by simp) hm1) (by simp) hsum) (s.pays (n + 1 + s.sealN), ()) (by rw [hs2]; rfl) ?_
  have hmore : s.more n = (if s.pays (n + 1 + s.sealN) = false then (s, 13) else if s.epoch ≥ 1073741824 then (s, 7) else if s.free = 0 then (match s.rs with
    | [] => (s, 7)
    | h :: _ => s.reclaim h n) else if s.seals.2 ≠ 0 then s.seals else
   if (if (F5 s.seals.1.ss s.seals.1.us).2.1.dirty then s.seals.1.erase (F5 s.seals.1.ss s.seals.1.us).2.2 else (s.seals.1, 0)).2 ≠ 0 then (if (F5 s.seals.1.ss s.seals.1.us).2.1.dirty then s.seals.1.erase (F5 s.seals.1.ss s.seals.1.us).2.2 else (s.seals.1, 0)) else
   if (F5 s.seals.1.ss s.seals.1.us).2.1.dirty = true /\ (if (F5 s.seals.1.ss s.seals.1.us).2.1.dirty then s.seals.1.erase (F5 s.seals.1.ss s.seals.1.us).2.2 else (s.seals.1, 0)).1.badAt (F5 s.seals.1.ss s.seals.1.us).2.2 = true then ((if (F5 s.seals.1.ss s.seals.1.us).2.1.dirty then s.seals.1.erase (F5 s.seals.1.ss s.seals.1.us).2.2 else (s.seals.1, 0)).1, 0) else
   if ((if (F5 s.seals.1.ss s.seals.1.us).2.1.dirty then s.seals.1.erase (F5 s.seals.1.ss s.seals.1.us).2.2 else (s.seals.1, 0)).1.begins (F5 s.seals.1.ss s.seals.1.us).2.2).2 ≠ 0 then (if (F5 s.seals.1.ss s.seals.1.us).2.1.dirty then s.seals.1.erase (F5 s.seals.1.ss s.seals.1.us).2.2 else (s.seals.1, 0)).1.begins (F5 s.seals.1.ss s.seals.1.us).2.2 else
   Sto.frees n (((if (F5 s.seals.1.ss s.seals.1.us).2.1.dirty then s.seals.1.erase (F5 s.seals.1.ss s.seals.1.us).2.2 else (s.seals.1, 0)).1.begins (F5 s.seals.1.ss s.seals.1.us).2.2).1.rs.length + 1) ((if (F5 s.seals.1.ss s.seals.1.us).2.1.dirty then s.seals.1.erase (F5 s.seals.1.ss s.seals.1.us).2.2 else (s.seals.1, 0)).1.begins (F5 s.seals.1.ss s.seals.1.us).2.2).1) := rfl
  obtain ⟨L1, hL1⟩ : ∃ L1, L1 = c1 :: (SL p s g ++ R) := ⟨_, rfl⟩
  rw [<- hL1] at hp1 ⊢
  have fin : ∀ (e : Int), s.more n = (s, e) -> HL.Ends (SK p (s.more n) R) (.i e) L1 := fun e he => by
   rw [he]
   exact .drop (A := SL p s g ++ R) (J := [c1]) ⟨g, rfl, X, rfl⟩ (pc fun z => by have := pcn hp1 z; simp only [B7, C5, D8] at *; omega)
  refine G2 (fun hpy => ?_) (fun hpy => fin 13 (by rw [hmore, if_pos hpy]))
  rw [if_neg (by rw [show s.pays (n + 1 + s.sealN) = true from hpy]; decide)] at hmore
  refine A6 s.epoch (E8 (SL.st hp1) rfl) ?_
  refine C0 (fun (hep : s.epoch ≥ 1073741824) => fin 7 (by rw [hmore, if_pos hep])) (fun (hep : ¬ s.epoch ≥ 1073741824) => ?_)
  rw [if_neg hep] at hmore
  refine A6 (some ⟨p.nb, 0, none⟩) (E8 (SL.st hp1) rfl) ?_
  refine B3 (Reads.has (SL.b hp1) (Be6 p.nb s.ss s.us g.Ab X.blk)) (s.free, ()) rfl ?_
  have hT2 : Tab (c1 :: R) := hT.cons
  refine C0 (fun (h0 : s.free = 0) => ?_) (fun (h0 : ¬ s.free = 0) => ?_)
  ·rw [if_pos h0] at hmore
   refine B3 (Ax7 hp1 X h.use.1) ((match g.ns with | [] => none | x :: _ => x.ptr), ()) rfl ?_
   have hrs := X.rs
   cases hns : g.ns with
   | nil =>
    rw [hns] at hrs
    exact ifT rfl (fin 7 (by rw [hmore, <- hrs]; rfl))
   | cons x t =>
    rw [hns] at hrs
    refine ifF rfl ?_
    have hrs' : s.rs = x.r :: t.map RN.r := hrs.symm
    rw [hrs'] at hmore
    dsimp only at hmore
    refine Aw8 (Aq2 p s g X h hM hd (c1 :: R) hT2 x t hns n hn) hp1 ?_
    rintro _ _ ⟨g2, rfl, X2, rfl⟩
    rw [hmore]
    exact ⟨((s.reclaim x.r n).2, ()), rfl, .drop (A := SL p (s.reclaim x.r n).1 g2 ++ R) (J := [c1]) ⟨g2, rfl, X2, rfl⟩ (pc fun z => by simp only [B7, C5, D8]; omega)⟩
  ·rw [if_neg h0] at hmore
   obtain ⟨s1, s2, s3, s4, s5, s6, s7⟩ := h.seals hd
   refine G9 (Ce6 p s g X hS.2 h.bk (h.dg 1 (by decide)) (fun o ho => by have := (h.it o (.inr ho)).1; omega)) hp1 ?_
   rintro _ _ ⟨g2, hL2, X2, rfl⟩
   rw [List.append_nil] at hL2
   rw [hL2]
   refine ⟨_, List.Perm.refl _, (s.seals.2, ()), rfl, ?_⟩
   dsimp only
   generalize s.seals = w at s1 s2 s3 s4 s5 s6 s7 X2 hmore
   have hp2 : (SL p w.1 g2 ++ c1 :: R).Perm (SL p w.1 g2 ++ c1 :: R) := List.Perm.refl _
   refine C0 (fun (h1 : w.2 = 0) => ?_) (fun (h1 : ¬ w.2 = 0) => ?_)
   ·rw [if_neg (by simpa using h1)] at hmore
    have hfr : w.1.free ≠ 0 := by
     unfold Sto.free at h0 ⊢
     rw [s5, s4]; exact h0
    obtain ⟨z, hz, z1, z2, z3, z4, z5, z6⟩ := s1.picks (s2 h1) s3 hfr
    have hpf := A95 hfr
    rw [<- hz] at hmore
    refine A6 (some ⟨p.nb, 0, none⟩) (E8 (SL.st hp2) rfl) ?_
    refine B3 (Reads.has (SL.b hp2) (Cn4 p.nb w.1.ss w.1.us g2.Ab X2.blk)) ((F5 w.1.ss w.1.us).2.2, (F5 w.1.ss w.1.us).2.1.dirty, (F5 w.1.ss w.1.us).1, ()) rfl ?_
    dsimp only
    generalize F5 w.1.ss w.1.us = pk at hz z6 hmore hpf
    obtain ⟨q1, q2⟩ := O9 hpf.1
    obtain ⟨q3, q4, q5⟩ := P9 q1
    refine Y6 (fun _ L' => z.2 = 0 /\ ¬ (pk.2.1.dirty = true /\ z.1.badAt pk.2.2 = true) /\ ∃ g3, SX p z.1 g3 /\ L'.Perm (SL p z.1 g3 ++ (c1 :: R))) ?_ ?_
    ·rintro _ L3 ⟨hz0, hnb, g3, X3, hp3⟩
     obtain ⟨y1, y2, y3, y4, y5⟩ := z6 hz0
     obtain ⟨f1, f2⟩ := y5 hnb
     rw [if_neg (by simpa using hz0), if_neg hnb] at hmore
     have hep2 : z.1.epoch < 1073741824 := by rw [z4, s6]; omega
     obtain ⟨b1, b2⟩ := z1.begins y1 z2 hep2 f1
     refine G9 (B04 p z.1 g3 X3 z1.S.2 z1.bk (z1.dg 1 (by decide)) z2 z1.ep (by have := z1.usl; omega) pk.2.2 f2 (O9 f1).2) hp3 ?_
     rintro _ _ ⟨g4, hL4, X4, rfl⟩
     rw [List.append_nil] at hL4
     rw [hL4]
     refine ⟨_, List.Perm.refl _, ((z.1.begins pk.2.2).2, ()), rfl, ?_⟩
     dsimp only
     generalize z.1.begins pk.2.2 = y at b1 b2 X4 hmore
     refine C0 (fun (h2 : y.2 = 0) => ?_) (fun (h2 : ¬ y.2 = 0) => ?_)
     ·rw [if_neg (by simpa using h2)] at hmore
      rw [hmore]
      exact Bz8 p y.1 g4 X4 b1 hM (b2 h2).1 R hT n hn (J := [c1]) (List.Perm.refl _) fun _ _ hk => hk
     ·rw [if_pos (by simpa using h2)] at hmore
      rw [hmore]
      exact .drop (A := SL p y.1 g4 ++ R) (J := [c1]) ⟨g4, rfl, X4, rfl⟩ (pc fun z => by simp only [B7, C5, D8]; omega)
    ·intro j2 hj2
     refine G2 (fun (hdi : pk.2.1.dirty = true) => ?_) (fun (hdi : pk.2.1.dirty = false) => ?_)
     ·rw [if_pos hdi] at hz
      refine G9 (A79 p w.1 g2 X2 s1.dv (fun y hy => by have := s1.sw y hy; omega) s1.use.1 pk.2.2 (fun o ho => by rw [s3] at ho; cases ho) (fun hb => by rw [q1] at hb; cases hb)) hp2 ?_
      rw [<- hz]
      rintro _ _ ⟨g3, hL3, X3, rfl⟩
      rw [List.append_nil] at hL3
      rw [hL3]
      refine ⟨_, List.Perm.refl _, (z.2, ()), rfl, ?_⟩
      have hp3 : (SL p z.1 g3 ++ c1 :: R).Perm (SL p z.1 g3 ++ c1 :: R) := List.Perm.refl _
      dsimp only
      refine C0 (fun (hz0 : z.2 = 0) => ?_) (fun (hz0 : ¬ z.2 = 0) => ?_)
      ·refine A6 (some ⟨p.m, 0, none⟩) (E8 (SL.st hp3) rfl) ?_
       refine B3 (Reads.has (SL.d hp3) (Ct5 p.m z.1.d g3.Ad X3.dev z1.dv pk.2.2)) (A56 z.1.d pk.2.2, ()) rfl ?_
       have hbl : pk.2.2.toNat < z.1.d.bs.length := by
        have h1 := z1.dv.len
        have h2 := s1.dv.len
        have h3 := s1.ssl
        have h4 : z.1.d.c = w.1.d.c := by rw [z1.cfg, s1.cfg, z5]
        rw [h4] at h1
        omega
       have hbe : A56 z.1.d pk.2.2 = z.1.badAt pk.2.2 := bad_eq q3 hbl
       rw [hbe]
       refine G2 (fun hb => ?_) (fun hb => hj2 _ _ ⟨hz0, fun hh => by rw [show z.1.badAt pk.2.2 = false from hb] at hh; exact absurd hh.2 (by decide), g3, X3, hp3⟩)
       rw [if_neg (by simpa using hz0), if_pos ⟨hdi, hb⟩] at hmore
       rw [hmore, hz0]
       exact .drop (A := SL p z.1 g3 ++ R) (J := [c1]) ⟨g3, rfl, X3, rfl⟩ (pc fun z => by simp only [B7, C5, D8]; omega)
      ·rw [if_pos (by simpa using hz0)] at hmore
       rw [hmore]
       exact .drop (A := SL p z.1 g3 ++ R) (J := [c1]) ⟨g3, rfl, X3, rfl⟩ (pc fun z => by simp only [B7, C5, D8]; omega)
     ·rw [if_neg (by rw [hdi]; decide)] at hz
      have hzw : z.1 = w.1 := by rw [hz]
      exact hj2 _ _ ⟨by rw [hz], fun hh => by rw [hdi] at hh; exact absurd hh.1 (by decide), g2, by rw [hzw]; exact X2, by rw [hzw]⟩
   ·rw [if_pos (by simpa using h1)] at hmore
    rw [hmore]
    exact .drop (A := SL p w.1 g2 ++ R) (J := [c1]) ⟨g2, rfl, X2, rfl⟩ (pc fun z => by simp only [B7, C5, D8]; omega)
 ·intro j1 hj1
  refine A5 rfl (A6 (onp g.on) (E8 (SL.st hp0) rfl) ?_)
  have hop := X.op
  cases hon : g.on with
  | none =>
   rw [hon] at hop
   exact ifT rfl (hj1 _ _ ⟨by unfold Sto.sealN; rw [<- hop]; rfl, rfl⟩)
  | some x =>
   rw [hon] at hop
   exact ifF rfl (hj1 _ _ ⟨by unfold Sto.sealN; rw [<- hop]; rfl, rfl⟩)
theorem Bl6 (p : SP) (s : Sto) (g : SG) (X : SX p s g) {M : Nat} (h : SOk s M) (hM : M <= 1000000000) (hd : s.down = false) (R : A4) (hT : Tab R) (n : Int) (hn : 0 <= n /\ n <= 1000) :
  CallF PP 61 #[.pointer (some ⟨p.n, 0, none⟩), .i n] (SL p s g ++ R) (SK p (s.roomy n) R) := by
 refine c61 (some ⟨p.n, 0, none⟩) n ?_
 unfold s61
 rw [Cg3 hn.1 h hd]
 refine G0 (fun z' z L' => ∃ (cur : Sto) (g' : SG) (J : A4), z' = cur.mu2 /\ SOk cur M /\ cur.down = false /\ SX p cur g' /\ Sto.room n (s.mu2 + 1) s = Sto.room n (cur.mu2 + 1) cur /\ L'.Perm (SL p cur g' ++ (J ++ R))) s.mu2 ⟨s, g, [], rfl, h, hd, X, rfl, List.Perm.refl _⟩ ?_
 rintro z' z L1 ⟨cur, g', J, rfl, hc, hcd, X', heq, hp1⟩
 dsimp only
 rw [heq, U8]
 have hS := hc.S
 have hmem : ∀ y ∈ [n], 0 <= y /\ y <= (1000000 : Nat) := fun y hy => by rw [List.mem_singleton.1 hy]; omega
 have hs1 : [n].sum = n := by simp
 refine A5 rfl (C3 fun n1 _ => ?_)
 obtain ⟨c1, hc1⟩ : ∃ c1 : Nat × Obj, c1 = (n1, Obj.cells #[.i n] 3) := ⟨_, rfl⟩
 rw [<- hc1]
 have hp2 : (c1 :: L1).Perm (SL p cur g' ++ ((c1 :: J) ++ R)) := pc fun z => by have := pcn hp1 z; simp only [B7, C5] at *; omega
 have hm1 : (n1, Obj.cells (ivs .i64 [n]).toArray 3) ∈ c1 :: L1 := by rw [hc1]; exact List.mem_cons_self
 refine B3 (B81 hp2 X' (fun o ho => by have := hc.op o ho; omega) ⟨some ⟨n1, 0, none⟩, 1, 1⟩ [n] (ISl.const (l := [n]) 1 (by simp) hm1) (by simp) hmem) (cur.fits n, ()) (by rw [hs1]; rfl) ?_
 refine G2 (fun hf => ?_) (fun hf => ?_)
 ·rw [if_pos hf]
  refine C3 fun n2 _ => ?_
  obtain ⟨c2, hc2⟩ : ∃ c2 : Nat × Obj, c2 = (n2, Obj.cells #[.i n] 3) := ⟨_, rfl⟩
  rw [<- hc2]
  have hp3 : (c2 :: (c1 :: L1)).Perm (SL p cur g' ++ ((c2 :: (c1 :: J)) ++ R)) := pc fun z => by have := pcn hp2 z; simp only [B7, C5] at *; omega
  have hm2 : (n2, Obj.cells (ivs .i64 [n]).toArray 3) ∈ c2 :: (c1 :: L1) := by rw [hc2]; exact List.mem_cons_self
  refine B3 (Bh9 hp3 X' hS.2 ⟨some ⟨n2, 0, none⟩, 1, 1⟩ [n] (ISl.const (l := [n]) 1 (by simp) hm2) (by simp) hmem) (cur.pays n, ()) (by rw [hs1]; rfl) ?_
  refine G2 (fun hpy => ?_) (fun hpy => ?_)
  ·rw [if_pos hpy]
   exact .drop (A := SL p cur g' ++ R) (J := c2 :: (c1 :: J)) ⟨g', rfl, X', rfl⟩ (pc fun z => by have := pcn hp3 z; simp only [B7, C5] at *; omega)
  ·rw [if_neg (by rw [show cur.pays n = false from hpy]; decide)]
   exact .drop (A := SL p cur g' ++ R) (J := c2 :: (c1 :: J)) ⟨g', rfl, X', rfl⟩ (pc fun z => by have := pcn hp3 z; simp only [B7, C5] at *; omega)
 ·rw [if_neg (by rw [show cur.fits n = false from hf]; decide)]
  have hT2 : Tab ((c1 :: J) ++ R) := hT.mono fun y hy => by simp [hy]
  refine Aw8 (Cf2 p cur g' X' hc hM hcd ((c1 :: J) ++ R) hT2 n hn) hp2 ?_
  rintro _ _ ⟨g2, rfl, X2, rfl⟩
  refine ⟨((cur.more n).2, ()), rfl, ?_⟩
  obtain ⟨k1, k2, k3⟩ := hc.more hcd hn.1
  refine C0 (fun (h0 : (cur.more n).2 = 0) => ?_) (fun (h0 : ¬ (cur.more n).2 = 0) => ?_)
  ·obtain ⟨a1, a2⟩ := k2 h0
   refine ⟨(cur.more n).1.mu2, a2, (cur.more n).1, g2, c1 :: J, rfl, k1, a1, X2, ?_, List.Perm.refl _⟩
   rw [if_neg (by simpa using h0)]
   exact A85 hn.1 _ k1 a1 a2
  ·rw [if_pos (by simpa using h0)]
   exact .drop (A := SL p (cur.more n).1 g2 ++ R) (J := c1 :: J) ⟨g2, rfl, X2, rfl⟩ (pc fun z => by simp only [B7, C5]; omega)
theorem n11 {e : Int} (h : ¬ e ≠ 0) : e ≠ 11 := fun h2 => h (by rw [h2]; decide)
theorem B43 (s : Sto) {e : Int} (h : e ≠ 11) : (s.met e).down = s.down := by unfold Sto.met; simp [h]
theorem Ao2 (s : Sto) (kind : Int) (l : List (List UInt8)) (h : (s.write kind l).2.2 ≠ 11) : (s.write kind l).1.down = s.down := by
 unfold Sto.write at h ⊢
 split
 ·rfl
 ·rename_i o ho
  rw [ho] at h
  dsimp only at h ⊢
  split
  ·rename_i h0
   rw [if_pos h0] at h
   exact B43 _ h
  ·rfl
theorem Bm6 (s : Sto) (h : s.seals.2 ≠ 11) : s.seals.1.down = s.down := by
 unfold Sto.seals at h ⊢
 split
 ·rfl
 ·rename_i o ho
  rw [ho] at h
  exact B43 _ h
theorem Be7 (s : Sto) (b : Int) (h : (s.begins b).2 ≠ 11) : (s.begins b).1.down = s.down := by
 unfold Sto.begins at h ⊢
 dsimp only at h ⊢
 split
 ·rename_i h0
  rw [if_pos h0] at h
  exact B43 _ h
 ·rfl
theorem Bp6 (s : Sto) (b : Int) (h : (s.erase b).2 ≠ 11) : (s.erase b).1.down = s.down := by
 unfold Sto.erase at h ⊢
 dsimp only at h ⊢
 split
 ·rename_i h0
  rw [if_pos h0] at h
  exact absurd rfl h
 ·rfl
theorem B37 (s : Sto) (p : It) (n beside : Int) (h : (s.move p n beside).2 ≠ 11) : (s.move p n beside).1.down = s.down := by
 unfold Sto.move at h ⊢
 dsimp only at h ⊢
 split
 ·rfl
 ·rename_i h1
  rw [if_neg h1] at h
  split
  ·rfl
  ·rename_i h2
   rw [if_neg h2] at h
   split
   ·rfl
   ·rename_i h3
    rw [if_neg h3] at h
    split
    ·rename_i h4
     exact Ao2 s _ _ (by rw [h4]; decide)
    ·rename_i h4
     rw [if_neg h4] at h
     exact Ao2 s _ _ h
theorem Ao9 (b ep beside : Int) : ∀ (l : List It) (s : Sto), (Sto.moves b ep beside l s).2 ≠ 11 -> (Sto.moves b ep beside l s).1.down = s.down
 | [], s, _ => rfl
 | x :: r, s, h => by
  unfold Sto.moves at h ⊢
  split
  ·rename_i hx
   rw [if_pos hx] at h
   exact Ao9 b ep beside r s h
  ·rename_i hx
   rw [if_neg hx] at h
   dsimp only at h ⊢
   split
   ·rename_i h0
    rw [if_pos h0] at h
    exact B37 _ _ _ _ h
   ·rename_i h0
    rw [if_neg h0] at h
    rw [Ao9 b ep beside r _ h]
    exact B37 _ _ _ _ (n11 h0)
theorem Ak2 (s : Sto) (r : Reg) (beside : Int) (h : (s.reclaim r beside).2 ≠ 11) : (s.reclaim r beside).1.down = s.down := by
 unfold Sto.reclaim at h ⊢
 dsimp only at h ⊢
 split
 ·rename_i h0
  rw [if_pos h0] at h
  exact Ao9 _ _ _ _ _ h
 ·rename_i h0
  rw [if_neg h0] at h
  rw [Bp6 _ _ h]
  exact Ao9 _ _ _ _ _ (n11 h0)
theorem Bp0 (n : Int) : ∀ (k : Nat) (s : Sto), (Sto.frees n k s).2 ≠ 11 -> (Sto.frees n k s).1.down = s.down
 | 0, s, _ => rfl
 | k + 1, s, h => by
  unfold Sto.frees at h ⊢
  split
  ·rename_i hf
   rw [if_pos hf] at h
   cases hr : s.rs with
   | nil => rfl
   | cons r t =>
    rw [hr] at h
    dsimp only at h ⊢
    split
    ·rename_i h0
     rw [if_pos h0] at h
     exact Ak2 _ _ _ h
    ·rename_i h0
     rw [if_neg h0] at h
     rw [Bp0 n k _ h]
     exact Ak2 _ _ _ (n11 h0)
  ·rfl
theorem B38 (s : Sto) (n : Int) (h : (s.more n).2 ≠ 11) : (s.more n).1.down = s.down := by
 unfold Sto.more at h ⊢
 split
 ·rfl
 ·rename_i h1
  rw [if_neg h1] at h
  split
  ·rfl
  ·rename_i h2
   rw [if_neg h2] at h
   split
   ·rename_i h3
    rw [if_pos h3] at h
    cases hr : s.rs with
    | nil => rfl
    | cons r t =>
     rw [hr] at h
     exact Ak2 _ _ _ h
   ·rename_i h3
    rw [if_neg h3] at h
    dsimp only at h ⊢
    split
    ·rename_i h4
     rw [if_pos h4] at h
     exact Bm6 _ h
    ·rename_i h4
     rw [if_neg h4] at h
     have e0 := Bm6 s (n11 h4)
     generalize s.seals = w at h e0
     have ez : ∀ z : Sto × Int, z = (if (F5 w.1.ss w.1.us).2.1.dirty = true then w.1.erase (F5 w.1.ss w.1.us).2.2 else (w.1, 0)) -> z.2 ≠ 11 -> z.1.down = s.down := fun z hz hn => by
      subst hz
      split
      ·rename_i hd
       rw [if_pos hd] at hn
       rw [Bp6 _ _ hn]; exact e0
      ·exact e0
     have ez := ez _ rfl
     generalize (if (F5 w.1.ss w.1.us).2.1.dirty = true then w.1.erase (F5 w.1.ss w.1.us).2.2 else (w.1, 0)) = z at h ez
     split
     ·rename_i h5
      rw [if_pos h5] at h
      exact ez h
     ·rename_i h5
      rw [if_neg h5] at h
      have ez := ez (n11 h5)
      split
      ·exact ez
      ·rename_i h6
       rw [if_neg h6] at h
       split
       ·rename_i h7
        rw [if_pos h7] at h
        rw [Be7 _ _ h]; exact ez
       ·rename_i h7
        rw [if_neg h7] at h
        rw [Bp0 _ _ _ h, Be7 _ _ (n11 h7)]
        exact ez
theorem A12 (n : Int) : ∀ (k : Nat) (s : Sto), (Sto.room n k s).2 ≠ 11 -> (Sto.room n k s).1.down = s.down
 | 0, s, _ => rfl
 | k + 1, s, h => by
  rw [U8] at h ⊢
  split
  ·split <;> rfl
  ·rename_i hf
   rw [if_neg hf] at h
   split
   ·rename_i h0
    rw [if_pos h0] at h
    exact B38 _ _ h
   ·rename_i h0
    rw [if_neg h0] at h
    rw [A12 n k _ h]
    exact B38 _ _ (n11 h0)
theorem C02 (s : Sto) (key : ByteArray) (p : It) : (s.list key p).down = s.down := rfl
theorem Ap4 (s : Sto) (key : ByteArray) (val : List UInt8) (h : (s.adm key val).2 ≠ 11) : (s.adm key val).1.down = s.down := by
 unfold Sto.adm at h ⊢
 dsimp only at h ⊢
 split
 ·rfl
 ·rename_i h1
  rw [if_neg h1] at h
  split
  ·rename_i h2
   rw [if_pos h2] at h
   exact A12 _ _ _ h
  ·rename_i h2
   rw [if_neg h2] at h
   have er := A12 _ _ _ (n11 h2)
   split
   ·rename_i h3
    rw [C02, Ao2 _ _ _ (by rw [h3]; decide)]
    exact er
   ·rename_i h3
    rw [if_neg h3] at h
    rw [Ao2 _ _ _ h]
    exact er
def Qk (s s' : Sto) : Prop := s'.q = s.q /\ s'.gh = s.gh /\ s'.sc = s.sc
theorem Qk.refl (s : Sto) : Qk s s := ⟨rfl, rfl, rfl⟩
theorem Qk.trans {a b c : Sto} (h : Qk a b) (k : Qk b c) : Qk a c := ⟨k.1.trans h.1, k.2.1.trans h.2.1, k.2.2.trans h.2.2⟩
theorem Bf3 (s : Sto) (kind : Int) (l : List (List UInt8)) : Qk s (s.write kind l).1 := by
 unfold Sto.write
 split
 ·exact .refl s
 ·dsimp only
  split <;> exact ⟨rfl, rfl, rfl⟩
theorem Cw4 (s : Sto) : Qk s s.seals.1 := by
 unfold Sto.seals
 split <;> exact ⟨rfl, rfl, rfl⟩
theorem Co0 (s : Sto) (b : Int) : Qk s (s.begins b).1 := by
 unfold Sto.begins
 dsimp only
 split <;> exact ⟨rfl, rfl, rfl⟩
theorem B86 (s : Sto) (b : Int) : Qk s (s.erase b).1 := by
 unfold Sto.erase
 dsimp only
 split <;> exact ⟨rfl, rfl, rfl⟩
theorem Cr3 (s : Sto) (p : It) (n beside : Int) : Qk s (s.move p n beside).1 := by
 unfold Sto.move
 dsimp only
 split
 ·exact .refl s
 ·split
  ·exact ⟨rfl, rfl, rfl⟩
  ·split
   ·exact .refl s
   ·have := Bf3 s 2 (T0 (C7 s.d p).1 (C7 s.d p).2.1 (T3 s.sc.c)).1
    split
    ·exact ⟨this.1, this.2.1, this.2.2⟩
    ·exact this
theorem Bi3 (b ep beside : Int) : ∀ (l : List It) (s : Sto), Qk s (Sto.moves b ep beside l s).1
 | [], s => .refl s
 | x :: r, s => by
  unfold Sto.moves
  split
  ·exact Bi3 b ep beside r s
  ·dsimp only
   split
   ·exact Cr3 ..
   ·exact (Cr3 s _ _ _).trans (Bi3 b ep beside r _)
theorem Ar2 (s : Sto) (r : Reg) (beside : Int) : Qk s (s.reclaim r beside).1 := by
 unfold Sto.reclaim
 dsimp only
 have h1 := Bi3 r.b r.ep beside r.l s
 split
 ·exact h1
 ·have h2 := B86 { (Sto.moves r.b r.ep beside r.l s).1 with pend := (Sto.moves r.b r.ep beside r.l s).1.pend.filter fun p => !decide (p.1 = r.b) } r.b
  exact h1.trans ⟨h2.1, h2.2.1, h2.2.2⟩
theorem B75 (n : Int) : ∀ (k : Nat) (s : Sto), Qk s (Sto.frees n k s).1
 | 0, s => .refl s
 | k + 1, s => by
  unfold Sto.frees
  split
  ·split
   ·exact .refl s
   ·dsimp only
    split
    ·exact Ar2 ..
    ·exact (Ar2 s _ n).trans (B75 n k _)
  ·exact .refl s
theorem Cr5 (s : Sto) (n : Int) : Qk s (s.more n).1 := by
 unfold Sto.more
 split
 ·exact .refl s
 ·split
  ·exact .refl s
  ·split
   ·split
    ·exact .refl s
    ·exact Ar2 ..
   ·dsimp only
    have h1 := Cw4 s
    generalize s.seals = w at h1
    split
    ·exact h1
    ·have h2 : Qk s (if (F5 w.1.ss w.1.us).2.1.dirty = true then w.1.erase (F5 w.1.ss w.1.us).2.2 else (w.1, 0)).1 := by
      split
      ·exact h1.trans (B86 ..)
      ·exact h1
     generalize (if (F5 w.1.ss w.1.us).2.1.dirty = true then w.1.erase (F5 w.1.ss w.1.us).2.2 else (w.1, 0)) = z at h2
     split
     ·exact h2
     ·split
      ·exact h2
      ·have h3 := h2.trans (Co0 z.1 (F5 w.1.ss w.1.us).2.2)
       split
       ·exact h3
       ·exact h3.trans (B75 ..)
theorem B07 (n : Int) : ∀ (k : Nat) (s : Sto), Qk s (Sto.room n k s).1
 | 0, s => .refl s
 | k + 1, s => by
  rw [U8]
  split
  ·split <;> exact .refl s
  ·split
   ·exact Cr5 ..
   ·exact (Cr5 s n).trans (B07 n k _)
theorem A58 (s : Sto) (key : ByteArray) (val : List UInt8) : Qk s (s.adm key val).1 := by
 unfold Sto.adm
 dsimp only
 split
 ·exact .refl s
 ·have h1 : Qk s (s.roomy (T0 key.data.toList val (T3 s.sc.c)).1.length).1 := B07 ..
  split
  ·exact h1
  ·have h2 := h1.trans (Bf3 (s.roomy (T0 key.data.toList val (T3 s.sc.c)).1.length).1 2 (T0 key.data.toList val (T3 s.sc.c)).1)
   split
   ·exact ⟨h2.1, h2.2.1, h2.2.2⟩
   ·exact h2
theorem Cd1 (s : Sto) (kind : Int) (l : List (List UInt8)) : (s.write kind l).1.sc = s.sc := (Mv.write s kind l).sc
theorem SOk.roomy {s : Sto} {M : Nat} (h : SOk s M) (hd : s.down = false) {n : Int} (hn : 0 <= n) : SOk (s.roomy n).1 M /\ ((s.roomy n).2 = 0 -> (s.roomy n).1.down = false /\ (s.roomy n).1.fits n = true) /\ (s.roomy n).1.sc = s.sc := SOk.room hn _ h hd
theorem SOk.adm {s : Sto} {M : Nat} (h : SOk s M) (hd : s.down = false) (key : ByteArray) (val : List UInt8) : SOk (s.adm key val).1 (M + 1) /\ (s.adm key val).1.sc = s.sc := by
 unfold Sto.adm
 dsimp only
 split
 ·exact ⟨h.upto (by omega), rfl⟩
 ·obtain ⟨h1, h2, h3⟩ := h.roomy hd (n := ((T0 key.data.toList val (T3 s.sc.c)).1.length : Int)) (by omega)
  generalize s.roomy (T0 key.data.toList val (T3 s.sc.c)).1.length = w at h1 h2 h3
  split
  ·exact ⟨h1.upto (by omega), h3⟩
  ·rename_i h0
   obtain ⟨a1, a2⟩ := h2 (by simpa using h0)
   obtain ⟨b1, b2⟩ := h1.write a1 2 (T0 key.data.toList val (T3 s.sc.c)).1
   have hq := Bl0 h1 2 (T0 key.data.toList val (T3 s.sc.c)).1
   have hs := Cd1 w.1 2 (T0 key.data.toList val (T3 s.sc.c)).1
   generalize w.1.write 2 (T0 key.data.toList val (T3 s.sc.c)).1 = z at b1 b2 hq hs
   split
   ·exact ⟨b1.list key z.2.1 hq, hs.trans h3⟩
   ·exact ⟨b1.upto (by omega), hs.trans h3⟩
theorem Bd7 (l : List QD) (k : ByteArray) : ∀ e ∈ Aa2 l k, e ∈ l := fun e he => (List.eraseP_sublist ..).subset he
theorem Z3 (l : List QD) (k : ByteArray) : (Aa2 l k).length <= l.length := (List.eraseP_sublist ..).length_le
theorem SOk.setq {s : Sto} {M : Nat} (h : SOk s M) {q : List QD} (h1 : ∀ e ∈ q, 1 <= e.1.size /\ e.1.size <= 255 /\ e.2.1.length <= 65536) (h2 : q.length <= 66000) : SOk { s with q := q } M := { h with dv := h.dv, qs := h1, ql := h2 }
theorem SOk.setgh {s : Sto} {M : Nat} (h : SOk s M) {gh : List Int} (h1 : (gh.length : Int) <= s.sc.ghost) : SOk { s with gh := gh } M := { h with dv := h.dv, gl := h1 }
theorem SOk.forget {s : Sto} {M : Nat} (h : SOk s M) (key : ByteArray) : SOk (s.forget key).1 (M + 1) /\ (s.forget key).1.down = s.down /\ (s.forget key).1.sc = s.sc /\ (s.forget key).1.q = Aa2 s.q key /\ (s.forget key).1.gh = s.gh := by
 have h1 : SOk { s with q := Aa2 s.q key } M := h.setq (fun e he => h.qs e (Bd7 _ _ e he)) (Nat.le_trans (Z3 _ _) h.ql)
 unfold Sto.forget
 dsimp only
 split
 ·exact ⟨h1.upto (by omega), rfl, rfl, rfl, rfl⟩
 ·rename_i x hx
  refine ⟨?_, rfl, rfl, rfl, rfl⟩
  have h2 := h1.ixdrop (s.hash key) x
  refine { h2 with dv := h2.dv, pl := ?_ }
  have := h.pl
  show (s.pend ++ [x]).length <= M + 1
  rw [List.length_append]; simp; omega
theorem A77 {room : Int} {l : List Int} (h0 : 0 <= room) (h : (l.length : Int) <= room) (x : Int) : ((Cc8 room l x).length : Int) <= room := by
 have h1 : (l.erase x).length <= l.length := List.length_erase_le
 unfold Cc8
 split
 ·rename_i h2
  rw [List.length_drop, List.length_append] at *
  simp at *
  omega
 ·rename_i h2
  omega
theorem SOk.trim : ∀ (k : Nat) {s : Sto} {M : Nat}, SOk s M -> s.down = false -> SOk (Sto.trim k s).1 (M + k) /\ (Sto.trim k s).1.sc = s.sc /\ ((Sto.trim k s).2 ≠ 11 -> (Sto.trim k s).1.down = false)
 | 0, s, M, h, hd => ⟨h, rfl, fun _ => hd⟩
 | k + 1, s, M, h, hd => by
  unfold Sto.trim
  split
  ·cases hq : s.q with
   | nil => exact ⟨h.upto (by omega), rfl, fun _ => hd⟩
   | cons y r =>
    dsimp only
    have hqs := h.qs
    have hql := h.ql
    rw [hq] at hqs hql
    have h1 : SOk { s with q := r } M := h.setq (fun e he => hqs e (List.mem_cons_of_mem _ he)) (by simp at hql; omega)
    have hw : SOk (if y.2.2 > 0 then ({ s with q := r } : Sto).adm y.1 y.2.1 else ({ s with q := r }, 8)).1 (M + 1) /\ (if y.2.2 > 0 then ({ s with q := r } : Sto).adm y.1 y.2.1 else ({ s with q := r }, 8)).1.sc = s.sc /\ ((if y.2.2 > 0 then ({ s with q := r } : Sto).adm y.1 y.2.1 else ({ s with q := r }, 8)).2 ≠ 11 -> (if y.2.2 > 0 then ({ s with q := r } : Sto).adm y.1 y.2.1 else ({ s with q := r }, 8)).1.down = false) := by
     split
     ·have ha := h1.adm hd y.1 y.2.1
      exact ⟨ha.1, ha.2, fun hn => (Ap4 _ _ _ hn).trans hd⟩
     ·exact ⟨h1.upto (by omega), rfl, fun _ => hd⟩
    generalize (if y.2.2 > 0 then ({ s with q := r } : Sto).adm y.1 y.2.1 else ({ s with q := r }, 8)) = w at hw
    obtain ⟨w1, w2, w3⟩ := hw
    split
    ·rename_i h0
     obtain ⟨a1, a2, a3⟩ := SOk.trim k w1 (w3 (by rw [h0]; decide))
     exact ⟨a1.upto (by omega), a2.trans w2, a3⟩
    ·split
     ·rename_i h11
      exact ⟨w1.upto (by omega), w2, fun hn => absurd h11 hn⟩
     ·rename_i h11
      have hg : SOk { w.1 with gh := Cc8 s.sc.ghost w.1.gh (s.hash y.1) } (M + 1) := w1.setgh (by rw [w2]; exact A77 h.gs.1 (by have := w1.gl; rw [w2] at this; exact this) _)
      obtain ⟨a1, a2, a3⟩ := SOk.trim k hg (w3 h11)
      exact ⟨a1.upto (by omega), a2.trans w2, a3⟩
  ·exact ⟨h.upto (by omega), rfl, fun _ => hd⟩
theorem A82 (p : SP) (s : Sto) (g : SG) (X : SX p s g) {M : Nat} (h : SOk s M) (hM : M <= 1000000000) (hd : s.down = false) (R : A4) (hT : Tab R) (key : ByteArray) (hk : key.size <= 1000000) (u : SlV) (val : List UInt8) (hu : BSl R u val) :
  CallF PP 49 #[.pointer (some ⟨p.n, 0, none⟩), .string key, .slice u.a u.len u.cap] (SL p s g ++ R) (SK p (s.adm key val) R) := by
 refine c49 (some ⟨p.n, 0, none⟩) key u ?_
 unfold s49
 have hS := h.S
 have hP := h.P
 have hp0 : (SL p s g ++ R).Perm (SL p s g ++ R) := List.Perm.refl _
 have had : s.adm key val = (if (T0 key.data.toList val (T3 s.sc.c)).2 ≠ 0 then (s, (T0 key.data.toList val (T3 s.sc.c)).2) else
  if (s.roomy (T0 key.data.toList val (T3 s.sc.c)).1.length).2 ≠ 0 then s.roomy (T0 key.data.toList val (T3 s.sc.c)).1.length else
  if ((s.roomy (T0 key.data.toList val (T3 s.sc.c)).1.length).1.write 2 (T0 key.data.toList val (T3 s.sc.c)).1).2.2 = 0 then (((s.roomy (T0 key.data.toList val (T3 s.sc.c)).1.length).1.write 2 (T0 key.data.toList val (T3 s.sc.c)).1).1.list key ((s.roomy (T0 key.data.toList val (T3 s.sc.c)).1.length).1.write 2 (T0 key.data.toList val (T3 s.sc.c)).1).2.1, 0)
  else (((s.roomy (T0 key.data.toList val (T3 s.sc.c)).1.length).1.write 2 (T0 key.data.toList val (T3 s.sc.c)).1).1, ((s.roomy (T0 key.data.toList val (T3 s.sc.c)).1.length).1.write 2 (T0 key.data.toList val (T3 s.sc.c)).1).2.2)) := rfl
 refine A5 rfl (A6 (sh := .agg [.int .i64, .int .i64, .int .i64, .int .i64]) ((s.sc.c.B : Int), (s.sc.c.P : Int), (s.sc.c.S : Int), (s.sc.c.W : Int), ()) (Ce4 (SL.st hp0)) ?_)
 refine G9 (Ct1 R hT key (Nat.le_trans hk (by decide)) u val hu (T3 s.sc.c) (by show (s.sc.c.P : Int) <= _; omega)) (R := SL p s g) (pc fun z => by simp only [B7] at *; omega) ?_
 rintro _ _ ⟨ov, oseg, gs, rfl, rfl, own, hgs, hgl⟩
 have hcl := B98 key.data.toList val (T3 s.sc.c)
 obtain ⟨c, hc⟩ : ∃ c, c = T0 key.data.toList val (T3 s.sc.c) := ⟨_, rfl⟩
 rw [<- hc] at hgl had hcl ⊢
 refine ⟨_, List.Perm.refl _, (ov, c.2, ()), rfl, ?_⟩
 have hp1 : ((oseg ++ (pgs gs ++ R)) ++ SL p s g).Perm (SL p s g ++ (oseg ++ (pgs gs ++ R))) := List.perm_append_comm
 generalize (oseg ++ (pgs gs ++ R)) ++ SL p s g = L1 at hp1
 dsimp only
 have hovl : ov.len = c.1.length := by
  have := own.sl.len
  rw [List.length_map, Nat.mul_one] at this
  rw [this, <- hgl, List.length_map]
 refine C0 (fun (h0 : c.2 = 0) => ?_) (fun (h0 : ¬ c.2 = 0) => ?_)
 ·rw [if_neg (by simpa using h0)] at had
  have hT1 : Tab (oseg ++ (pgs gs ++ R)) := hT.mono fun y hy => by simp [hy]
  have hn : (0 : Int) <= (c.1.length : Int) /\ (c.1.length : Int) <= 1000 := by omega
  have hcall := Bl6 p s g X h hM hd (oseg ++ (pgs gs ++ R)) hT1 (c.1.length : Int) hn
  rw [<- hovl] at hcall
  refine Aw8 hcall hp1 ?_
  rw [hovl]
  rintro _ _ ⟨g2, rfl, X2, rfl⟩
  obtain ⟨k1, k2, k3⟩ := h.roomy hd hn.1
  refine ⟨((s.roomy (c.1.length : Int)).2, ()), rfl, ?_⟩
  dsimp only
  generalize s.roomy (c.1.length : Int) = w at k1 k2 k3 X2 had
  refine C0 (fun (h1 : w.2 = 0) => ?_) (fun (h1 : ¬ w.2 = 0) => ?_)
  ·rw [if_neg (by simpa using h1)] at had
   obtain ⟨a1, a2⟩ := k2 h1
   obtain ⟨o, ho⟩ : ∃ o, w.1.op = some o := by
    unfold Sto.fits at a2
    cases hop : w.1.op with
    | none => rw [hop] at a2; cases a2
    | some o => exact ⟨o, rfl⟩
   have hopk := k1.op o ho
   have hsnd : (pvs gs).map Prod.snd = c.1 := by rw [Ar8]; exact hgl
   have hpl2 : (pvs gs).length <= 8 := by rw [<- hsnd, List.length_map] at hcl; exact hcl
   have hb1 : (pvs gs).length <= 1000000 := by omega
   have hb2 : 0 <= o.nx /\ o.nx <= 1000 := by omega
   have hb3 : o.l.length <= 1000 := by omega
   have hb4 : U3 (oseg ++ (pgs gs ++ R)) ov (pvs gs) := A75 own hgs (fun y hy => by simp [hy]) (fun y hy => by simp [hy])
   have hcall2 := Aq0 p w.1 g2 X2 k1.S.2 k1.bk (oseg ++ (pgs gs ++ R)) ov (pvs gs) hb4 hb1 (k1.dg _ hb1) o ho hb2 hb3 2
   rw [hovl] at hcall2
   refine Aw8 hcall2 (List.Perm.refl _) ?_
   rw [hsnd]
   rintro _ _ ⟨g3, rfl, X3, hn3, rfl⟩
   obtain ⟨b1, b2⟩ := k1.write a1 2 c.1
   refine ⟨((((w.1.write 2 c.1).2.1.1, (w.1.write 2 c.1).2.1.2.1, (w.1.write 2 c.1).2.1.2.2.1, ()), (w.1.write 2 c.1).2.2, ())), rfl, ?_⟩
   dsimp only
   generalize w.1.write 2 c.1 = z at b1 b2 X3 had
   refine C0 (fun (h2 : z.2.2 = 0) => ?_) (fun (h2 : ¬ z.2.2 = 0) => ?_)
   ·rw [if_pos h2] at had
    refine G9 (Bm1 p z.1 g3 X3 b1.wy.1 key hk (b1.row _).len (Nat.le_trans b1.pl hM) z.2.1) (List.Perm.refl _) ?_
    rintro _ _ ⟨g4, hL4, X4, rfl⟩
    rw [List.append_nil] at hL4
    rw [hL4]
    refine ⟨_, List.Perm.refl _, (), rfl, ?_⟩
    rw [had, h2]
    exact .drop (A := SL p (z.1.list key z.2.1) g4 ++ R) (J := oseg ++ pgs gs) ⟨g4, rfl, X4, rfl⟩ (pc fun z => by simp only [B7]; omega)
   ·rw [if_neg h2] at had
    rw [had]
    exact .drop (A := SL p z.1 g3 ++ R) (J := oseg ++ pgs gs) ⟨g3, rfl, X3, rfl⟩ (pc fun z => by simp only [B7]; omega)
  ·rw [if_pos (by simpa using h1)] at had
   rw [had]
   exact .drop (A := SL p w.1 g2 ++ R) (J := oseg ++ pgs gs) ⟨g2, rfl, X2, rfl⟩ (pc fun z => by simp only [B7]; omega)
 ·rw [if_pos (by simpa using h0)] at had
  rw [had]
  exact .drop (A := SL p s g ++ R) (J := oseg ++ pgs gs) ⟨g, rfl, X, rfl⟩ (pc fun z => by have := pcn hp1 z; simp only [B7] at *; omega)
theorem Bx8 (k : Nat) (s : Sto) : Sto.trim (k + 1) s = if (Bq1 s.q : Int) > s.sc.small then (match s.q with
  | [] => (s, 0)
  | y :: r =>
   if (if y.2.2 > 0 then ({ s with q := r } : Sto).adm y.1 y.2.1 else ({ s with q := r }, 8)).2 = 0 then Sto.trim k (if y.2.2 > 0 then ({ s with q := r } : Sto).adm y.1 y.2.1 else ({ s with q := r }, 8)).1 else
   if (if y.2.2 > 0 then ({ s with q := r } : Sto).adm y.1 y.2.1 else ({ s with q := r }, 8)).2 = 11 then (if y.2.2 > 0 then ({ s with q := r } : Sto).adm y.1 y.2.1 else ({ s with q := r }, 8)) else
   Sto.trim k { (if y.2.2 > 0 then ({ s with q := r } : Sto).adm y.1 y.2.1 else ({ s with q := r }, 8)).1 with gh := Cc8 s.sc.ghost (if y.2.2 > 0 then ({ s with q := r } : Sto).adm y.1 y.2.1 else ({ s with q := r }, 8)).1.gh (s.hash y.1) }) else (s, 0) := rfl
theorem Ce1 (p : SP) (s : Sto) (g : SG) (X : SX p s g) {M : Nat} (h : SOk s M) (k0 : Nat) (hk0 : s.q.length < k0) (hM : M + k0 <= 1000000000) (hd : s.down = false) (R : A4) (hT : Tab R) :
  CallF PP 51 #[.pointer (some ⟨p.n, 0, none⟩)] (SL p s g ++ R) (SK p (Sto.trim k0 s) R) := by
 refine c51 (some ⟨p.n, 0, none⟩) ?_
 unfold s51
 refine G0 (fun z' z L' => ∃ (cur : Sto) (g' : SG) (J : A4) (N : Nat), cur.q.length < z' /\ N + z' = M + k0 /\ SOk cur N /\ cur.down = false /\ SX p cur g' /\ Sto.trim k0 s = Sto.trim z' cur /\ L'.Perm (SL p cur g' ++ (J ++ R))) k0 ⟨s, g, [], M, hk0, rfl, h, hd, X, rfl, List.Perm.refl _⟩ ?_
 rintro z' z L1 ⟨cur, g', J, N, hql, hN, hc, hcd, X', heq, hp1⟩
 dsimp only
 obtain ⟨k, rfl⟩ : ∃ k, z' = k + 1 := ⟨z' - 1, by omega⟩
 rw [heq, Bx8]
 refine A5 rfl (A6 (some ⟨p.nq, 0, none⟩) (E8 (SL.st hp1) rfl) ?_)
 refine B3 (Reads.has (SL.q hp1) (B16 p.nq cur.sc.small cur.q g'.Aq X'.que)) (decide ((Bq1 cur.q : Int) > cur.sc.small), ()) rfl ?_
 refine C0 (fun (hov : (Bq1 cur.q : Int) > cur.sc.small) => ?_) (fun (hov : ¬ (Bq1 cur.q : Int) > cur.sc.small) => ?_)
 ·rw [if_pos hov]
  have hqs := hc.qs
  have hq := X'.que
  cases hcq : cur.q with
  | nil =>
   have := hc.sm
   rw [hcq] at hov
   exact absurd hov (by show ¬ ((0 : Nat) : Int) > _; omega)
  | cons y r =>
   rw [hcq] at hqs hq hql
   dsimp only
   refine A6 (some ⟨p.nq, 0, none⟩) (E8 (SL.st hp1) rfl) ?_
   refine G9 (Ch0 p.nq cur.sc.small y r g'.Aq hq) (R := stO p cur g' :: (kO p cur :: (mO p g' :: (gO p g' :: (g'.Ad ++ (g'.Ab ++ (rns g'.ns ++ (rns g'.on.toList ++ (g'.pseg ++ (g'.Ai ++ (J ++ R))))))))))) (pc fun z => by have := pcn hp1 z; simp only [SL, B7, C5, D8] at *; omega) ?_
   rintro _ _ ⟨u, seg, Aq', rfl, rfl, hbs, hq'⟩
   refine ⟨_, List.Perm.refl _, ((y.1, u, y.2.2, ()), true, ()), rfl, ?_⟩
   dsimp only
   obtain ⟨s1, hs1⟩ : ∃ s1 : Sto, s1 = { cur with q := r } := ⟨_, rfl⟩
   obtain ⟨g1, hg1⟩ : ∃ g1 : SG, g1 = { g' with Aq := Aq' } := ⟨_, rfl⟩
   have X1 : SX p s1 g1 := by rw [hs1, hg1]; exact { X' with cfg := X'.cfg, dev := X'.dev, blk := X'.blk, que := hq' }
   have hp2 : ((Aq' ++ seg) ++ (stO p cur g' :: (kO p cur :: (mO p g' :: (gO p g' :: (g'.Ad ++ (g'.Ab ++ (rns g'.ns ++ (rns g'.on.toList ++ (g'.pseg ++ (g'.Ai ++ (J ++ R)))))))))))).Perm (SL p s1 g1 ++ (seg ++ (J ++ R))) := pc fun z => by
    have e1 : stO p s1 g1 = stO p cur g' := by rw [hs1, hg1]; rfl
    have e2 : kO p s1 = kO p cur := by rw [hs1]; rfl
    have e3 : mO p g1 = mO p g' := by rw [hg1]; rfl
    have e4 : gO p g1 = gO p g' := by rw [hg1]; rfl
    simp only [SL, e1, e2, e3, e4, B7, C5, D8]
    simp only [hg1]
    omega
   generalize (Aq' ++ seg) ++ (stO p cur g' :: (kO p cur :: (mO p g' :: (gO p g' :: (g'.Ad ++ (g'.Ab ++ (rns g'.ns ++ (rns g'.on.toList ++ (g'.pseg ++ (g'.Ai ++ (J ++ R))))))))))) = L2 at hp2
   have h1 : SOk s1 N := by rw [hs1]; exact hc.setq (fun e he => hqs e (List.mem_cons_of_mem _ he)) (by have := hc.ql; rw [hcq] at this; simp at this; omega)
   have hd1 : s1.down = false := by rw [hs1]; exact hcd
   have hks := hqs y (by simp)
   rw [<- hs1]
   obtain ⟨w, hw⟩ : ∃ w, w = (if y.2.2 > 0 then s1.adm y.1 y.2.1 else (s1, 8)) := ⟨_, rfl⟩
   rw [<- hw]
   have hwk : SOk w.1 (N + 1) /\ w.1.sc = cur.sc /\ (w.2 ≠ 11 -> w.1.down = false) /\ w.1.q.length <= r.length := by
    rw [hw]
    split
    ·have ha := h1.adm hd1 y.1 y.2.1
     exact ⟨ha.1, ha.2.trans (by rw [hs1]), fun hn => (Ap4 _ _ _ hn).trans hd1, by rw [(A58 s1 y.1 y.2.1).1, hs1]; exact Nat.le_refl _⟩
    ·exact ⟨h1.upto (by omega), by rw [hs1], fun _ => hd1, by rw [hs1]; exact Nat.le_refl _⟩
   have hash : s1.hash y.1 = cur.hash y.1 := by rw [hs1]; rfl
   refine Y6 (fun (y1 : RsV [lI]) L' => y1 = (w.2, ()) /\ ∃ (g2 : SG) (J2 : A4), SX p w.1 g2 /\ L'.Perm (SL p w.1 g2 ++ (J2 ++ R))) ?_ ?_
   ·rintro _ L3 ⟨rfl, g2, J2, X2, hp3⟩
    dsimp only
    obtain ⟨w1, w2, w3, w4⟩ := hwk
    simp only [List.length_cons] at hql
    refine C0 (fun (h0 : w.2 = 0) => ?_) (fun (h0 : ¬ w.2 = 0) => ?_)
    ·rw [if_pos h0]
     exact ⟨k, by omega, w.1, g2, J2, N + 1, by omega, by omega, w1, w3 (by rw [h0]; decide), X2, rfl, hp3⟩
    ·rw [if_neg h0]
     refine C0 (fun (h11 : w.2 = 11) => ?_) (fun (h11 : ¬ w.2 = 11) => ?_)
     ·rw [if_pos h11]
      exact .drop (A := SL p w.1 g2 ++ R) (J := J2) ⟨g2, rfl, X2, rfl⟩ (pc fun z => by have := pcn hp3 z; simp only [B7] at *; omega)
     ·rw [if_neg h11]
      have hsh : w.1.hash y.1 = cur.hash y.1 := by unfold Sto.hash; rw [w2]
      refine A6 (some ⟨p.ng, 0, none⟩) (E8 (SL.st hp3) rfl) ?_
      refine B3 (W3 hp3 y.1 (by omega)) (((w.1.hash y.1 : Nat) : Int), ()) rfl ?_
      refine E9 (E8 (SL.st hp3) rfl) ?_
      have hgl := w1.gl
      refine sgh hp3 X2 (add_cl p.ng w.1.sc.ghost w.1.gh g2.go X2.gho hgl w1.gs.2 (w.1.hash y.1 : Nat)) () rfl { w.1 with gh := Cc8 w.1.sc.ghost w.1.gh (w.1.hash y.1) } rfl fun g3 L4 hp4 X3 => ?_
      refine ⟨k, by omega, _, g3, J2, N + 1, by exact (show w.1.q.length < k by omega), by omega, w1.setgh (A77 w1.gs.1 hgl _), w3 h11, X3, ?_, hp4⟩
      rw [hsh, w2]
   ·intro j1 hj1
    have hT2 : Tab (seg ++ (J ++ R)) := hT.mono fun z hz => by simp [hz]
    refine C0 (fun (hfr : y.2.2 > 0) => ?_) (fun (hfr : ¬ y.2.2 > 0) => ?_)
    ·rw [if_pos hfr] at hw
     refine Aw8 (A82 p s1 g1 X1 h1 (by omega) hd1 (seg ++ (J ++ R)) hT2 y.1 (by omega) u y.2.1 (hbs.mono fun z hz => by simp [hz])) hp2 ?_
     rw [<- hw]
     rintro _ _ ⟨g2, rfl, X2, rfl⟩
     exact ⟨(w.2, ()), rfl, hj1 _ _ ⟨rfl, g2, seg ++ J, X2, pc fun z => by simp only [B7]; omega⟩⟩
    ·rw [if_neg hfr] at hw
     refine hj1 _ _ ⟨by rw [hw], g1, seg ++ J, by rw [hw]; exact X1, by rw [hw]; exact hp2.trans (by rw [List.append_assoc])⟩
 ·rw [if_neg hov]
  exact .drop (A := SL p cur g' ++ R) (J := J) ⟨g', rfl, X', rfl⟩ (pc fun z => by have := pcn hp1 z; simp only [B7] at *; omega)
theorem x11 {e : Int} (he : e ≠ 11) {q : Prop} {x : Int} (h : x = 11) (hx : x = e) : q := absurd (hx ▸ h) he
theorem Bn7 (s : Sto) {e : Int} (h : e = 11) : (s.met e).down = true := by unfold Sto.met; simp [h]
theorem Bl1 (s : Sto) (kind : Int) (l : List (List UInt8)) (h : (s.write kind l).2.2 = 11) : (s.write kind l).1.down = true := by
 unfold Sto.write at h ⊢
 split
 ·rename_i ho
  rw [ho] at h
  first | exact x11 (e := 0) (by decide) h rfl | exact x11 (e := 13) (by decide) h rfl | exact x11 (e := 7) (by decide) h rfl | exact x11 (e := 8) (by decide) h rfl
 ·rename_i o ho
  rw [ho] at h
  dsimp only at h ⊢
  split
  ·rename_i h0
   rw [if_pos h0] at h
   exact Bn7 _ h
  ·rename_i h0
   rw [if_neg h0] at h
   first | exact x11 (e := 0) (by decide) h rfl | exact x11 (e := 13) (by decide) h rfl | exact x11 (e := 7) (by decide) h rfl | exact x11 (e := 8) (by decide) h rfl
theorem Cf9 (s : Sto) (h : s.seals.2 = 11) : s.seals.1.down = true := by
 unfold Sto.seals at h ⊢
 split
 ·rename_i ho
  rw [ho] at h
  first | exact x11 (e := 0) (by decide) h rfl | exact x11 (e := 13) (by decide) h rfl | exact x11 (e := 7) (by decide) h rfl | exact x11 (e := 8) (by decide) h rfl
 ·rename_i o ho
  rw [ho] at h
  exact Bn7 _ h
theorem Ca9 (s : Sto) (b : Int) (h : (s.begins b).2 = 11) : (s.begins b).1.down = true := by
 unfold Sto.begins at h ⊢
 dsimp only at h ⊢
 split
 ·rename_i h0
  rw [if_pos h0] at h
  exact Bn7 _ h
 ·rename_i h0
  rw [if_neg h0] at h
  first | exact x11 (e := 0) (by decide) h rfl | exact x11 (e := 13) (by decide) h rfl | exact x11 (e := 7) (by decide) h rfl | exact x11 (e := 8) (by decide) h rfl
theorem Bp5 (s : Sto) (b : Int) (h : (s.erase b).2 = 11) : (s.erase b).1.down = true := by
 unfold Sto.erase at h ⊢
 dsimp only at h ⊢
 split
 ·exact Bn7 _ rfl
 ·rename_i h0
  rw [if_neg h0] at h
  first | exact x11 (e := 0) (by decide) h rfl | exact x11 (e := 13) (by decide) h rfl | exact x11 (e := 7) (by decide) h rfl | exact x11 (e := 8) (by decide) h rfl
theorem cut_e (key val : List UInt8) (c : Cf) : (T0 key val c).2 ≠ 11 := by
 intro h
 unfold T0 at h
 repeat' split at h
 all_goals first | exact x11 (e := 0) (by decide) h rfl | exact x11 (e := 2) (by decide) h rfl | exact x11 (e := 4) (by decide) h rfl | exact x11 (e := 14) (by decide) h rfl
theorem Cz6 (s : Sto) (p : It) (n beside : Int) (h : (s.move p n beside).2 = 11) : (s.move p n beside).1.down = true := by
 unfold Sto.move at h ⊢
 dsimp only at h ⊢
 split
 ·rename_i h1
  rw [if_pos h1] at h
  first | exact x11 (e := 0) (by decide) h rfl | exact x11 (e := 13) (by decide) h rfl | exact x11 (e := 7) (by decide) h rfl | exact x11 (e := 8) (by decide) h rfl
 ·rename_i h1
  rw [if_neg h1] at h
  split
  ·rename_i h2
   rw [if_pos h2] at h
   first | exact x11 (e := 0) (by decide) h rfl | exact x11 (e := 13) (by decide) h rfl | exact x11 (e := 7) (by decide) h rfl | exact x11 (e := 8) (by decide) h rfl
  ·rename_i h2
   rw [if_neg h2] at h
   split
   ·rename_i h3
    rw [if_pos h3] at h
    exact absurd h (cut_e _ _ _)
   ·rename_i h3
    rw [if_neg h3] at h
    split
    ·rename_i h4
     rw [if_pos h4] at h
     first | exact x11 (e := 0) (by decide) h rfl | exact x11 (e := 13) (by decide) h rfl | exact x11 (e := 7) (by decide) h rfl | exact x11 (e := 8) (by decide) h rfl
    ·rename_i h4
     rw [if_neg h4] at h
     exact Bl1 s _ _ h
theorem A23 (b ep beside : Int) : ∀ (l : List It) (s : Sto), (Sto.moves b ep beside l s).2 = 11 -> (Sto.moves b ep beside l s).1.down = true
 | [], s, h => absurd (show (0 : Int) = 11 from h) (by decide)
 | x :: r, s, h => by
  unfold Sto.moves at h ⊢
  split
  ·rename_i hx
   rw [if_pos hx] at h
   exact A23 b ep beside r s h
  ·rename_i hx
   rw [if_neg hx] at h
   dsimp only at h ⊢
   split
   ·rename_i h0
    rw [if_pos h0] at h
    exact Cz6 _ _ _ _ h
   ·rename_i h0
    rw [if_neg h0] at h
    exact A23 b ep beside r _ h
theorem Ay3 (s : Sto) (r : Reg) (beside : Int) (h : (s.reclaim r beside).2 = 11) : (s.reclaim r beside).1.down = true := by
 unfold Sto.reclaim at h ⊢
 dsimp only at h ⊢
 split
 ·rename_i h0
  rw [if_pos h0] at h
  exact A23 _ _ _ _ _ h
 ·rename_i h0
  rw [if_neg h0] at h
  exact Bp5 _ _ h
theorem Bo9 (n : Int) : ∀ (k : Nat) (s : Sto), (Sto.frees n k s).2 = 11 -> (Sto.frees n k s).1.down = true
 | 0, s, h => absurd (show (0 : Int) = 11 from h) (by decide)
 | k + 1, s, h => by
  unfold Sto.frees at h ⊢
  split
  ·rename_i hf
   rw [if_pos hf] at h
   cases hr : s.rs with
   | nil => rw [hr] at h; exact absurd (show (0 : Int) = 11 from h) (by decide)
   | cons r t =>
    rw [hr] at h
    dsimp only at h ⊢
    split
    ·rename_i h0
     rw [if_pos h0] at h
     exact Ay3 _ _ _ h
    ·rename_i h0
     rw [if_neg h0] at h
     exact Bo9 n k _ h
  ·rename_i hf
   rw [if_neg hf] at h
   first | exact x11 (e := 0) (by decide) h rfl | exact x11 (e := 13) (by decide) h rfl | exact x11 (e := 7) (by decide) h rfl | exact x11 (e := 8) (by decide) h rfl
theorem Cz7 (s : Sto) (n : Int) (h : (s.more n).2 = 11) : (s.more n).1.down = true := by
 unfold Sto.more at h ⊢
 split
 ·rename_i h1
  rw [if_pos h1] at h
  first | exact x11 (e := 0) (by decide) h rfl | exact x11 (e := 13) (by decide) h rfl | exact x11 (e := 7) (by decide) h rfl | exact x11 (e := 8) (by decide) h rfl
 ·rename_i h1
  rw [if_neg h1] at h
  split
  ·rename_i h2
   rw [if_pos h2] at h
   first | exact x11 (e := 0) (by decide) h rfl | exact x11 (e := 13) (by decide) h rfl | exact x11 (e := 7) (by decide) h rfl | exact x11 (e := 8) (by decide) h rfl
  ·rename_i h2
   rw [if_neg h2] at h
   split
   ·rename_i h3
    rw [if_pos h3] at h
    cases hr : s.rs with
    | nil => rw [hr] at h; exact absurd (show (7 : Int) = 11 from h) (by decide)
    | cons r t =>
     rw [hr] at h
     exact Ay3 _ _ _ h
   ·rename_i h3
    rw [if_neg h3] at h
    dsimp only at h ⊢
    split
    ·rename_i h4
     rw [if_pos h4] at h
     exact Cf9 _ h
    ·rename_i h4
     rw [if_neg h4] at h
     generalize s.seals = w at h
     have ez : ∀ z : Sto × Int, z = (if (F5 w.1.ss w.1.us).2.1.dirty = true then w.1.erase (F5 w.1.ss w.1.us).2.2 else (w.1, 0)) -> z.2 = 11 -> z.1.down = true := fun z hz hn => by
      subst hz
      split
      ·rename_i hd
       rw [if_pos hd] at hn
       exact Bp5 _ _ hn
      ·rename_i hd
       rw [if_neg hd] at hn
       first | exact x11 (e := 0) (by decide) hn rfl | exact x11 (e := 8) (by decide) hn rfl
     have ez := ez _ rfl
     generalize (if (F5 w.1.ss w.1.us).2.1.dirty = true then w.1.erase (F5 w.1.ss w.1.us).2.2 else (w.1, 0)) = z at h ez
     split
     ·rename_i h5
      rw [if_pos h5] at h
      exact ez h
     ·rename_i h5
      rw [if_neg h5] at h
      split
      ·rename_i h6
       rw [if_pos h6] at h
       first | exact x11 (e := 0) (by decide) h rfl | exact x11 (e := 13) (by decide) h rfl | exact x11 (e := 7) (by decide) h rfl | exact x11 (e := 8) (by decide) h rfl
      ·rename_i h6
       rw [if_neg h6] at h
       split
       ·rename_i h7
        rw [if_pos h7] at h
        exact Ca9 _ _ h
       ·rename_i h7
        rw [if_neg h7] at h
        exact Bo9 _ _ _ h
theorem Bh1 (n : Int) : ∀ (k : Nat) (s : Sto), (Sto.room n k s).2 = 11 -> (Sto.room n k s).1.down = true
 | 0, s, h => absurd (show (13 : Int) = 11 from h) (by decide)
 | k + 1, s, h => by
  rw [U8] at h ⊢
  split
  ·rename_i hf
   rw [if_pos hf] at h
   split at h <;> first | exact x11 (e := 0) (by decide) h rfl | exact x11 (e := 13) (by decide) h rfl | exact x11 (e := 7) (by decide) h rfl | exact x11 (e := 8) (by decide) h rfl
  ·rename_i hf
   rw [if_neg hf] at h
   split
   ·rename_i h0
    rw [if_pos h0] at h
    exact Cz7 _ _ h
   ·rename_i h0
    rw [if_neg h0] at h
    exact Bh1 n k _ h
theorem Co5 (s : Sto) (key : ByteArray) (val : List UInt8) (h : (s.adm key val).2 = 11) : (s.adm key val).1.down = true := by
 unfold Sto.adm at h ⊢
 dsimp only at h ⊢
 split
 ·rename_i h1
  rw [if_pos h1] at h
  exact absurd h (cut_e _ _ _)
 ·rename_i h1
  rw [if_neg h1] at h
  split
  ·rename_i h2
   rw [if_pos h2] at h
   exact Bh1 _ _ _ h
  ·rename_i h2
   rw [if_neg h2] at h
   split
   ·rename_i h3
    rw [if_pos h3] at h
    first | exact x11 (e := 0) (by decide) h rfl | exact x11 (e := 13) (by decide) h rfl | exact x11 (e := 7) (by decide) h rfl | exact x11 (e := 8) (by decide) h rfl
   ·rename_i h3
    rw [if_neg h3] at h
    exact Bl1 _ _ _ h
theorem Bf8 : ∀ (k : Nat) (s : Sto), (Sto.trim k s).2 = 11 -> (Sto.trim k s).1.down = true
 | 0, s, h => absurd (show (0 : Int) = 11 from h) (by decide)
 | k + 1, s, h => by
  unfold Sto.trim at h ⊢
  split
  ·rename_i ho
   rw [if_pos ho] at h
   cases hq : s.q with
   | nil => rw [hq] at h; exact absurd (show (0 : Int) = 11 from h) (by decide)
   | cons y r =>
    rw [hq] at h
    dsimp only at h ⊢
    have hw : (if y.2.2 > 0 then ({ s with q := r } : Sto).adm y.1 y.2.1 else ({ s with q := r }, 8)).2 = 11 -> (if y.2.2 > 0 then ({ s with q := r } : Sto).adm y.1 y.2.1 else ({ s with q := r }, 8)).1.down = true := fun hn => by
     split
     ·rename_i hf
      rw [if_pos hf] at hn
      exact Co5 _ _ _ hn
     ·rename_i hf
      rw [if_neg hf] at hn
      first | exact x11 (e := 0) (by decide) hn rfl | exact x11 (e := 8) (by decide) hn rfl
    generalize (if y.2.2 > 0 then ({ s with q := r } : Sto).adm y.1 y.2.1 else ({ s with q := r }, 8)) = w at hw h
    split
    ·rename_i h0
     rw [if_pos h0] at h
     exact Bf8 k _ h
    ·rename_i h0
     rw [if_neg h0] at h
     split
     ·rename_i h1
      exact hw h1
     ·rename_i h1
      rw [if_neg h1] at h
      exact Bf8 k _ h
  ·rename_i ho
   rw [if_neg ho] at h
   first | exact x11 (e := 0) (by decide) h rfl | exact x11 (e := 13) (by decide) h rfl | exact x11 (e := 7) (by decide) h rfl | exact x11 (e := 8) (by decide) h rfl
def Pk (s s' : Sto) : Prop := s'.pend.length <= s.pend.length
theorem Pk.refl (s : Sto) : Pk s s := Nat.le_refl _
theorem Pk.trans {a b c : Sto} (h : Pk a b) (k : Pk b c) : Pk a c := Nat.le_trans k h
theorem Cu3 (s : Sto) (kind : Int) (l : List (List UInt8)) : Pk s (s.write kind l).1 := by
 unfold Sto.write
 split
 ·exact .refl s
 ·dsimp only
  split <;> exact Nat.le_refl _
theorem Cw5 (s : Sto) : Pk s s.seals.1 := by
 unfold Sto.seals
 split <;> exact Nat.le_refl _
theorem Co1 (s : Sto) (b : Int) : Pk s (s.begins b).1 := by
 unfold Sto.begins
 dsimp only
 split <;> exact Nat.le_refl _
theorem B87 (s : Sto) (b : Int) : Pk s (s.erase b).1 := by
 unfold Sto.erase
 dsimp only
 split <;> exact Nat.le_refl _
theorem Cr4 (s : Sto) (p : It) (n beside : Int) : Pk s (s.move p n beside).1 := by
 unfold Sto.move
 dsimp only
 split
 ·exact .refl s
 ·split
  ·exact Nat.le_refl _
  ·split
   ·exact .refl s
   ·have := Cu3 s 2 (T0 (C7 s.d p).1 (C7 s.d p).2.1 (T3 s.sc.c)).1
    split
    ·exact this
    ·exact this
theorem Bi4 (b ep beside : Int) : ∀ (l : List It) (s : Sto), Pk s (Sto.moves b ep beside l s).1
 | [], s => .refl s
 | x :: r, s => by
  unfold Sto.moves
  split
  ·exact Bi4 b ep beside r s
  ·dsimp only
   split
   ·exact Cr4 ..
   ·exact (Cr4 s _ _ _).trans (Bi4 b ep beside r _)
theorem Ar3 (s : Sto) (r : Reg) (beside : Int) : Pk s (s.reclaim r beside).1 := by
 unfold Sto.reclaim
 dsimp only
 have h1 := Bi4 r.b r.ep beside r.l s
 split
 ·exact h1
 ·have h2 := B87 { (Sto.moves r.b r.ep beside r.l s).1 with pend := (Sto.moves r.b r.ep beside r.l s).1.pend.filter fun p => !decide (p.1 = r.b) } r.b
  exact h1.trans (Nat.le_trans h2 (List.length_filter_le ..))
theorem B76 (n : Int) : ∀ (k : Nat) (s : Sto), Pk s (Sto.frees n k s).1
 | 0, s => .refl s
 | k + 1, s => by
  unfold Sto.frees
  split
  ·split
   ·exact .refl s
   ·dsimp only
    split
    ·exact Ar3 ..
    ·exact (Ar3 s _ n).trans (B76 n k _)
  ·exact .refl s
theorem Cr6 (s : Sto) (n : Int) : Pk s (s.more n).1 := by
 unfold Sto.more
 split
 ·exact .refl s
 ·split
  ·exact .refl s
  ·split
   ·split
    ·exact .refl s
    ·exact Ar3 ..
   ·dsimp only
    have h1 := Cw5 s
    generalize s.seals = w at h1
    split
    ·exact h1
    ·have h2 : Pk s (if (F5 w.1.ss w.1.us).2.1.dirty = true then w.1.erase (F5 w.1.ss w.1.us).2.2 else (w.1, 0)).1 := by
      split
      ·exact h1.trans (B87 ..)
      ·exact h1
     generalize (if (F5 w.1.ss w.1.us).2.1.dirty = true then w.1.erase (F5 w.1.ss w.1.us).2.2 else (w.1, 0)) = z at h2
     split
     ·exact h2
     ·split
      ·exact h2
      ·have h3 := h2.trans (Co1 z.1 (F5 w.1.ss w.1.us).2.2)
       split
       ·exact h3
       ·exact h3.trans (B76 ..)
theorem Cq6 (n : Int) : ∀ (k : Nat) (s : Sto), Pk s (Sto.room n k s).1
 | 0, s => .refl s
 | k + 1, s => by
  rw [U8]
  split
  ·split <;> exact .refl s
  ·split
   ·exact Cr6 ..
   ·exact (Cr6 s n).trans (Cq6 n k _)
theorem B94 (e : QD) (l : List QD) : Bq1 (e :: l) = e.1.size + e.2.1.length + Bq1 l := by simp [Bq1]
theorem Cn0 {l : List QD} (h : ∀ e ∈ l, 1 <= e.1.size) : l.length <= Bq1 l := by
 induction l with
 | nil => simp
 | cons a r ih =>
  have h1 := h a (by simp)
  have h2 := ih fun e he => h e (by simp [he])
  rw [B94, List.length_cons]
  omega
theorem Ap8 : ∀ (k : Nat) (s : Sto), s.q.length < k -> 0 <= s.sc.small -> (Sto.trim k s).2 ≠ 11 -> (Bq1 (Sto.trim k s).1.q : Int) <= s.sc.small
 | 0, s, hk, _, _ => absurd hk (by omega)
 | k + 1, s, hk, hs, hn => by
  unfold Sto.trim at hn ⊢
  split
  ·rename_i ho
   rw [if_pos ho] at hn
   cases hq : s.q with
   | nil => rw [hq] at ho; exact absurd ho (by show ¬ ((0 : Nat) : Int) > _; omega)
   | cons y r =>
    rw [hq] at hn hk
    simp only [List.length_cons] at hk
    dsimp only at hn ⊢
    have hw : Qk { s with q := r } (if y.2.2 > 0 then ({ s with q := r } : Sto).adm y.1 y.2.1 else ({ s with q := r }, 8)).1 := by
     split
     ·exact A58 ..
     ·exact .refl _
    generalize (if y.2.2 > 0 then ({ s with q := r } : Sto).adm y.1 y.2.1 else ({ s with q := r }, 8)) = w at hw hn
    obtain ⟨w1, w2, w3⟩ := hw
    have w1 : w.1.q = r := w1
    have w3 : w.1.sc = s.sc := w3
    split
    ·rename_i h0
     rw [if_pos h0] at hn
     have := Ap8 k w.1 (by rw [w1]; omega) (by rw [w3]; exact hs) hn
     rw [w3] at this; exact this
    ·rename_i h0
     rw [if_neg h0] at hn
     split
     ·rename_i h1
      rw [if_pos h1] at hn
      exact absurd h1 hn
     ·rename_i h1
      rw [if_neg h1] at hn
      have := Ap8 k { w.1 with gh := Cc8 s.sc.ghost w.1.gh (s.hash y.1) } (by show w.1.q.length < k; rw [w1]; omega) (by show 0 <= w.1.sc.small; rw [w3]; exact hs) hn
      have e : ({ w.1 with gh := Cc8 s.sc.ghost w.1.gh (s.hash y.1) } : Sto).sc = s.sc := w3
      rw [e] at this; exact this
  ·rename_i ho
   exact Int.not_lt.1 ho
structure N3 (s : Sto) (M : Nat) : Prop where
 ok : SOk s M
 q : s.down = false -> s.q.length <= 65536
theorem N3.upto {s : Sto} {M N : Nat} (h : N3 s M) (hn : M <= N) : N3 s N := ⟨h.ok.upto hn, h.q⟩
theorem Ae3 {s : Sto} {key : ByteArray} (h : s.asked key = 0) : s.down = false /\ 1 <= key.size /\ key.size <= 255 := by
 unfold Sto.asked at h
 split at h
 ·cases h
 ·rename_i h1
  split at h
  ·cases h
  ·rename_i h2
   rw [not_or] at h2
   exact ⟨by simpa using h1, by omega, by omega⟩
theorem SOk.putYoung {s : Sto} {M : Nat} (h : SOk s M) (hd : s.down = false) (hq : s.q.length <= 65536) {key : ByteArray} {val : List UInt8} (hk : 1 <= key.size /\ key.size <= 255) (hv : val.length <= 65536) :
  SOk { s with q := Aa2 s.q key ++ [(key, val, 0)] } M /\ N3 (s.putYoung key val).1 (M + 70000) /\ (s.putYoung key val).1.sc = s.sc := by
 have hdl := Z3 s.q key
 have h1 : SOk { s with q := Aa2 s.q key ++ [(key, val, 0)] } M := h.setq (fun e he => by
  rcases List.mem_append.1 he with he | he
  ·exact h.qs e (Bd7 _ _ e he)
  ·rw [List.mem_singleton.1 he]; exact ⟨hk.1, hk.2, hv⟩) (by rw [List.length_append]; simp; omega)
 refine ⟨h1, ?_⟩
 obtain ⟨a1, a2, a3⟩ := SOk.trim (s.q.length + 2) h1 hd
 have hdone := Ap8 (s.q.length + 2) { s with q := Aa2 s.q key ++ [(key, val, 0)] } (by show (Aa2 s.q key ++ [(key, val, 0)]).length < _; rw [List.length_append]; simp; omega) h.sm.1
 have hup := Bf8 (s.q.length + 2) { s with q := Aa2 s.q key ++ [(key, val, 0)] }
 unfold Sto.putYoung
 refine ⟨⟨a1.upto (by omega), fun hdn => ?_⟩, a2⟩
 generalize Sto.trim (s.q.length + 2) { s with q := Aa2 s.q key ++ [(key, val, 0)] } = w at *
 have h11 : w.2 ≠ 11 \/ w.2 = 11 := by omega
 rcases h11 with h11 | h11
 ·have h2 := hdone h11
  have h3 := Cn0 (l := w.1.q) fun e he => (a1.qs e he).1
  have h4 := h.sm
  have h2 : (Bq1 w.1.q : Int) <= s.sc.small := h2
  omega
 ·rw [hup h11] at hdn; cases hdn
theorem N3.put {s : Sto} {M : Nat} (h : N3 s M) (key : ByteArray) (val : List UInt8) : N3 (s.put key val).1 (M + 100000) /\ (s.put key val).1.sc = s.sc := by
 unfold Sto.put
 split
 ·exact ⟨h.upto (by omega), rfl⟩
 ·rename_i ha
  obtain ⟨hd, hk⟩ := Ae3 (s := s) (key := key) (by simpa using ha)
  split
  ·exact ⟨h.upto (by omega), rfl⟩
  ·rename_i hv
   obtain ⟨f1, f2, f3, f4, f5⟩ := h.ok.forget key
   have hq1 : (s.forget key).1.q.length <= 65536 := by rw [f4]; exact Nat.le_trans (Z3 _ _) (h.q hd)
   have hd1 : (s.forget key).1.down = false := f2.trans hd
   dsimp only
   generalize (s.forget key).1 = s1 at f1 f2 f3 f4 f5 hq1 hd1
   split
   ·exact ⟨⟨f1.upto (by omega), fun _ => hq1⟩, f3⟩
   ·split
    ·have hg : SOk { s1 with gh := s1.gh.erase ((s.hash key : Nat) : Int) } (M + 1) := f1.setgh (by have h1 := f1.gl; have h2 : (s1.gh.erase ((s.hash key : Nat) : Int)).length <= s1.gh.length := List.length_erase_le; omega)
     obtain ⟨a1, a2⟩ := hg.adm hd1 key val
     have a3 := A58 { s1 with gh := s1.gh.erase ((s.hash key : Nat) : Int) } key val
     have a4 := Ap4 { s1 with gh := s1.gh.erase ((s.hash key : Nat) : Int) } key val
     generalize ({ s1 with gh := s1.gh.erase ((s.hash key : Nat) : Int) } : Sto).adm key val = w at a1 a2 a3 a4
     have hq2 : w.1.q.length <= 65536 := by rw [a3.1]; exact hq1
     split
     ·exact ⟨⟨a1.upto (by omega), fun _ => hq2⟩, a2.trans f3⟩
     ·rename_i hw
      rw [not_or] at hw
      have := a1.putYoung ((a4 hw.2).trans hd1) hq2 (val := val) hk (by omega)
      exact ⟨this.2.1.upto (by omega), this.2.2.trans (a2.trans f3)⟩
    ·have := f1.putYoung hd1 hq1 (val := val) hk (by omega)
     exact ⟨this.2.1.upto (by omega), this.2.2.trans f3⟩
theorem A08 (p : SP) (s : Sto) (g : SG) (X : SX p s g) {M : Nat} (h : N3 s M) (hM : M <= 900000000) (R : A4) (hT : Tab R) (key : ByteArray) (u : SlV) (val : List UInt8) (hu : BSl R u val) :
  CallF PP 17 #[.pointer (some ⟨p.n, 0, none⟩), .string key, .slice u.a u.len u.cap] (SL p s g ++ R) (SK p (s.put key val) R) := by
 refine c17 (some ⟨p.n, 0, none⟩) key u ?_
 unfold s17
 have hp0 : (SL p s g ++ R).Perm (SL p s g ++ R) := List.Perm.refl _
 have hul := hu.len
 have hpv : s.put key val = (if s.asked key ≠ 0 then (s, s.asked key) else if val.length > 65536 then (s, 4) else
  if H1 key.size val.length (T3 s.sc.c) = 0 then ((s.forget key).1, 14) else
  if ((s.hash key : Nat) : Int) ∈ (s.forget key).1.gh then
   (if (({ (s.forget key).1 with gh := (s.forget key).1.gh.erase ((s.hash key : Nat) : Int) } : Sto).adm key val).2 = 0 \/ (({ (s.forget key).1 with gh := (s.forget key).1.gh.erase ((s.hash key : Nat) : Int) } : Sto).adm key val).2 = 11 then ({ (s.forget key).1 with gh := (s.forget key).1.gh.erase ((s.hash key : Nat) : Int) } : Sto).adm key val else (({ (s.forget key).1 with gh := (s.forget key).1.gh.erase ((s.hash key : Nat) : Int) } : Sto).adm key val).1.putYoung key val)
  else (s.forget key).1.putYoung key val) := rfl
 refine B3 (Ab7 hp0 key) (s.asked key, ()) rfl ?_
 refine C0 (fun (ha : s.asked key = 0) => ?_) (fun (ha : ¬ s.asked key = 0) => ?_)
 ·rw [if_neg (by simpa using ha)] at hpv
  obtain ⟨hd, hk⟩ := Ae3 ha
  refine C0 (fun (hl : (u.len : Int) > 65536) => ?_) (fun (hl : ¬ (u.len : Int) > 65536) => ?_)
  ·rw [if_pos (by omega)] at hpv
   rw [hpv]; exact .of ⟨g, rfl, X, rfl⟩
  ·rw [if_neg (by omega)] at hpv
   refine G9 (Ax9 p s g X h.ok.dv key (by omega) (h.ok.row _) (Nat.le_trans h.ok.pl (by omega))) hp0 ?_
   rintro _ _ ⟨g1, hL1, X1, rfl⟩
   rw [List.append_nil] at hL1
   rw [hL1]
   refine ⟨_, List.Perm.refl _, ((s.forget key).2, ()), rfl, ?_⟩
   obtain ⟨f1, f2, f3, f4, f5⟩ := h.ok.forget key
   have hq1 : (s.forget key).1.q.length <= 65536 := by rw [f4]; exact Nat.le_trans (Z3 _ _) (h.q hd)
   have hd1 : (s.forget key).1.down = false := f2.trans hd
   have hh1 : (s.forget key).1.hash key = s.hash key := by unfold Sto.hash; rw [f3]
   rw [<- f3] at hpv
   generalize (s.forget key).1 = s1 at f1 f2 f3 f4 f5 hq1 hd1 hh1 X1 hpv
   have hP := f1.P
   have hp1 : (SL p s1 g1 ++ R).Perm (SL p s1 g1 ++ R) := List.Perm.refl _
   refine A5 rfl (A6 (sh := .agg [.int .i64, .int .i64, .int .i64, .int .i64]) ((s1.sc.c.B : Int), (s1.sc.c.P : Int), (s1.sc.c.S : Int), (s1.sc.c.W : Int), ()) (Ce4 (SL.st hp1)) ?_)
   refine B3 (Bn4 _ (hT.mono fun y hy => by simp [hy]) key.size u.len (T3 s1.sc.c) (by show (s1.sc.c.P : Int) <= _; omega)) (H1 key.size u.len (T3 s1.sc.c), ()) rfl ?_
   dsimp only
   rw [hul]
   refine C0 (fun (h0 : H1 key.size val.length (T3 s1.sc.c) = 0) => ?_) (fun (h0 : ¬ H1 key.size val.length (T3 s1.sc.c) = 0) => ?_)
   ·rw [if_pos h0] at hpv
    rw [hpv]; exact .of ⟨g1, rfl, X1, rfl⟩
   ·rw [if_neg h0] at hpv
    refine Y6 (fun _ L' => ∃ (s2 : Sto) (g2 : SG), s.put key val = s2.putYoung key val /\ SOk s2 (M + 2) /\ s2.down = false /\ s2.q.length <= 65536 /\ SX p s2 g2 /\ L'.Perm (SL p s2 g2 ++ R)) ?_ ?_
    ·rintro _ L2 ⟨s2, g2, he, k1, k2, k3, X2, hp2⟩
     rw [he]
     refine A6 (some ⟨p.nq, 0, none⟩) (E8 (SL.st hp2) rfl) ?_
     rw [<- hul]
     refine G9 (Cg9 p.nq s2.sc.small s2.q g2.Aq R X2.que (by omega) key (by omega) u val hu (by omega)) (R := stO p s2 g2 :: (kO p s2 :: (mO p g2 :: (gO p g2 :: (g2.Ad ++ (g2.Ab ++ (rns g2.ns ++ (rns g2.on.toList ++ (g2.pseg ++ g2.Ai))))))))) (pc fun z => by have := pcn hp2 z; simp only [SL, B7, C5, D8] at *; omega) ?_
     rintro _ _ ⟨rfl, Aq', rfl, hq'⟩
     refine ⟨_, List.Perm.refl _, (), rfl, ?_⟩
     obtain ⟨s3, hs3⟩ : ∃ s3 : Sto, s3 = { s2 with q := Aa2 s2.q key ++ [(key, val, 0)] } := ⟨_, rfl⟩
     obtain ⟨g3, hg3⟩ : ∃ g3 : SG, g3 = { g2 with Aq := Aq' } := ⟨_, rfl⟩
     have X3 : SX p s3 g3 := by rw [hs3, hg3]; exact { X2 with cfg := X2.cfg, dev := X2.dev, blk := X2.blk, que := hq' }
     have hp3 : ((Aq' ++ R) ++ (stO p s2 g2 :: (kO p s2 :: (mO p g2 :: (gO p g2 :: (g2.Ad ++ (g2.Ab ++ (rns g2.ns ++ (rns g2.on.toList ++ (g2.pseg ++ g2.Ai)))))))))).Perm (SL p s3 g3 ++ R) := pc fun z => by
      have e1 : stO p s3 g3 = stO p s2 g2 := by rw [hs3, hg3]; rfl
      have e2 : kO p s3 = kO p s2 := by rw [hs3]; rfl
      have e3 : mO p g3 = mO p g2 := by rw [hg3]; rfl
      have e4 : gO p g3 = gO p g2 := by rw [hg3]; rfl
      simp only [SL, e1, e2, e3, e4, B7, C5, D8]
      simp only [hg3]
      omega
     generalize (Aq' ++ R) ++ (stO p s2 g2 :: (kO p s2 :: (mO p g2 :: (gO p g2 :: (g2.Ad ++ (g2.Ab ++ (rns g2.ns ++ (rns g2.on.toList ++ (g2.pseg ++ g2.Ai))))))))) = L3 at hp3
     have hy := k1.putYoung k2 k3 (val := val) hk (by omega)
     have hl3 : s3.q.length < s2.q.length + 2 := by rw [hs3]; show (Aa2 s2.q key ++ [(key, val, 0)]).length < _; rw [List.length_append]; have := Z3 s2.q key; simp; omega
     refine Aw8 (Ce1 p s3 g3 X3 (M := M + 2) (by rw [hs3]; exact hy.1) (s2.q.length + 2) hl3 (by omega) (by rw [hs3]; exact k2) R hT) hp3 ?_
     have hpy : s2.putYoung key val = Sto.trim (s2.q.length + 2) s3 := by rw [hs3]; rfl
     rw [<- hpy]
     rintro _ _ ⟨g4, rfl, X4, rfl⟩
     exact ⟨((s2.putYoung key val).2, ()), rfl, .of ⟨g4, rfl, X4, rfl⟩⟩
    ·intro j1 hj1
     refine A6 (some ⟨p.ng, 0, none⟩) (E8 (SL.st hp1) rfl) ?_
     refine B3 (W3 hp1 key (by omega)) (((s1.hash key : Nat) : Int), ()) rfl ?_
     refine E9 (E8 (SL.st hp1) rfl) ?_
     rw [hh1]
     obtain ⟨s2, hs2⟩ : ∃ s2 : Sto, s2 = { s1 with gh := s1.gh.erase ((s.hash key : Nat) : Int) } := ⟨_, rfl⟩
     rw [<- hs2] at hpv
     refine sgh hp1 X1 (B95 p.ng s1.sc.ghost s1.gh g1.go X1.gho ((s.hash key : Nat) : Int)) (decide (((s.hash key : Nat) : Int) ∈ s1.gh), ()) rfl s2 hs2 fun g2 L2 hp2 X2 => ?_
     have k1 : SOk s2 (M + 1) := by
      rw [hs2]
      refine f1.setgh ?_
      have h1 := f1.gl
      have h2 : (s1.gh.erase ((s.hash key : Nat) : Int)).length <= s1.gh.length := List.length_erase_le
      omega
     have hd2 : s2.down = false := by rw [hs2]; exact hd1
     have hq2 : s2.q = s1.q := by rw [hs2]
     refine C0 (fun (hin : ((s.hash key : Nat) : Int) ∈ s1.gh) => ?_) (fun (hin : ¬ ((s.hash key : Nat) : Int) ∈ s1.gh) => ?_)
     ·rw [if_pos hin] at hpv
      have hcall := A82 p s2 g2 X2 k1 (by omega) hd2 R hT key (by omega) u val hu
      rw [hul] at hcall
      refine Aw8 hcall hp2 ?_
      rintro _ _ ⟨g3, rfl, X3, rfl⟩
      have a1 := (k1.adm hd2 key val).1
      have a3 := (A58 s2 key val).1
      have a4 := Ap4 s2 key val
      generalize s2.adm key val = w at X3 a1 a3 a4 hpv
      refine ⟨(w.2, ()), rfl, ?_⟩
      refine C0 (fun (h1 : w.2 = 0) => ?_) (fun (h1 : ¬ w.2 = 0) => ?_)
      ·rw [if_pos (.inl h1)] at hpv
       rw [hpv]; exact .of ⟨g3, rfl, X3, rfl⟩
      ·refine C0 (fun (h2 : w.2 = 11) => ?_) (fun (h2 : ¬ w.2 = 11) => ?_)
       ·rw [if_pos (.inr h2)] at hpv
        rw [hpv]; exact .of ⟨g3, rfl, X3, rfl⟩
       ·rw [if_neg (by rintro (hh | hh); exact h1 hh; exact h2 hh)] at hpv
        exact hj1 _ _ ⟨w.1, g3, hpv, a1, (a4 h2).trans hd2, by rw [a3, hq2]; exact hq1, X3, List.Perm.refl _⟩
     ·rw [if_neg hin] at hpv
      have e : s2 = s1 := by rw [hs2, List.erase_of_not_mem hin]
      exact hj1 _ _ ⟨s2, g2, by rw [hpv, e], k1.upto (by omega), hd2, by rw [hq2]; exact hq1, X2, hp2⟩
 ·rw [if_pos (by simpa using ha)] at hpv
  rw [hpv]; exact .of ⟨g, rfl, X, rfl⟩
theorem Bv7 {l : List QD} {k : ByteArray} (h : Y0 l k = none) : An9 l k = l := by
 unfold Y0 at h
 rw [List.find?_eq_none] at h
 unfold An9
 conv => rhs; rw [<- List.map_id l]
 refine List.map_congr_left fun e he => ?_
 rw [if_neg (fun e2 => h e he (by simp [e2]))]; rfl
def GK (p : SP) (w : Sto × List UInt8 × Int) (R : A4) (r : Value) (L' : A4) : Prop := ∃ (g' : SG) (u : SlV) (sg : A4), L' = sg ++ (SL p w.1 g' ++ R) /\ SX p w.1 g' /\ Own u 1 eB (bvs w.2.1) sg /\ r = .tuple #[.slice u.a u.len u.cap, .i w.2.2]
theorem Bz7 (p : SP) (s : Sto) (g : SG) (X : SX p s g) {M : Nat} (h : SOk s M) (key : ByteArray) :
  CallF PP 25 #[.pointer (some ⟨p.n, 0, none⟩), .string key] (SL p s g) (GK p (s.get key) []) := by
 refine c25 (some ⟨p.n, 0, none⟩) key ?_
 unfold s25
 have hp0 : (SL p s g).Perm (SL p s g ++ []) := by rw [List.append_nil]
 have hgv : s.get key = (if s.asked key ≠ 0 then (s, [], s.asked key) else match Y0 s.q key with
  | some e => ({ s with q := An9 s.q key }, e.2.1, 0)
  | none => match s.place key with
   | none => (s, [], 8)
   | some p => ({ s with ix := iset s.ix (s.hash key) (An8 (O2 s.ix (s.hash key)) (inm (s.hash key) p)) }, (C7 s.d p).2.1, 0)) := rfl
 refine B3 (Ab7 hp0 key) (s.asked key, ()) rfl ?_
 refine C0 (fun (ha : s.asked key = 0) => ?_) (fun (ha : ¬ s.asked key = 0) => ?_)
 ·rw [if_neg (by simpa using ha)] at hgv
  obtain ⟨hd, hk⟩ := Ae3 ha
  refine A5 rfl (A6 (some ⟨p.nq, 0, none⟩) (E8 (SL.st hp0) rfl) ?_)
  refine G9 (Ch4 p.nq s.sc.small s.q g.Aq X.que key) (R := stO p s g :: (kO p s :: (mO p g :: (gO p g :: (g.Ad ++ (g.Ab ++ (rns g.ns ++ (rns g.on.toList ++ (g.pseg ++ g.Ai))))))))) (pc fun z => by simp only [SL, B7, C5, D8]; omega) ?_
  rintro _ _ ⟨u, seg, Aq', rfl, rfl, own, hq'⟩
  refine ⟨_, List.Perm.refl _, (u, (Y0 s.q key).isSome, ()), rfl, ?_⟩
  obtain ⟨s1, hs1⟩ : ∃ s1 : Sto, s1 = { s with q := An9 s.q key } := ⟨_, rfl⟩
  obtain ⟨g1, hg1⟩ : ∃ g1 : SG, g1 = { g with Aq := Aq' } := ⟨_, rfl⟩
  have X1 : SX p s1 g1 := by rw [hs1, hg1]; exact { X with cfg := X.cfg, dev := X.dev, blk := X.blk, que := hq' }
  have hp1 : ((seg ++ Aq') ++ (stO p s g :: (kO p s :: (mO p g :: (gO p g :: (g.Ad ++ (g.Ab ++ (rns g.ns ++ (rns g.on.toList ++ (g.pseg ++ g.Ai)))))))))).Perm (SL p s1 g1 ++ seg) := pc fun z => by
   have e1 : stO p s1 g1 = stO p s g := by rw [hs1, hg1]; rfl
   have e2 : kO p s1 = kO p s := by rw [hs1]; rfl
   have e3 : mO p g1 = mO p g := by rw [hg1]; rfl
   have e4 : gO p g1 = gO p g := by rw [hg1]; rfl
   simp only [SL, e1, e2, e3, e4, B7, C5, D8]
   simp only [hg1]
   omega
  generalize (seg ++ Aq') ++ (stO p s g :: (kO p s :: (mO p g :: (gO p g :: (g.Ad ++ (g.Ab ++ (rns g.ns ++ (rns g.on.toList ++ (g.pseg ++ g.Ai))))))))) = L1 at hp1
  cases hf : Y0 s.q key with
  | some e =>
   rw [hf] at hgv own
   refine ifT rfl ?_
   rw [hgv]
   refine .drop (A := seg ++ SL p s1 g1) (J := []) ⟨g1, u, seg, by rw [hs1, List.append_nil], by rw [<- hs1]; exact X1, own, rfl⟩ (pc fun z => by have := pcn hp1 z; simp only [B7, D8] at *; omega)
  | none =>
   rw [hf] at hgv
   refine ifF rfl ?_
   have e : s1 = s := by rw [hs1, Bv7 hf]
   rw [e] at X1 hp1
   dsimp only at hgv
   refine G9 (Aq3 p s g1 X1 h.dv key (by omega) (h.row _).len (h.row _).wf) hp1 ?_
   rintro _ _ ⟨v, sg, rfl, rfl, own2⟩
   refine ⟨(SL p s g1 ++ (sg ++ seg)), pc fun z => by simp only [B7]; omega, ((((s.place key).getD (0, 0, 0, ())).1, ((s.place key).getD (0, 0, 0, ())).2.1, ((s.place key).getD (0, 0, 0, ())).2.2.1, ()), v, (s.place key).isSome, ()), rfl, ?_⟩
   dsimp only
   have hp2 : (SL p s g1 ++ (sg ++ seg)).Perm (SL p s g1 ++ (sg ++ seg)) := List.Perm.refl _
   unfold Sto.placeV at own2
   cases hpl : s.place key with
   | none =>
    rw [hpl] at hgv
    refine ifF rfl ?_
    rw [hgv]
    exact .drop (A := SL p s g1) (J := sg ++ seg) ⟨g1, ⟨none, 0, 0⟩, [], by simp, X1, F7, rfl⟩ hp2
   | some x =>
    rw [hpl] at hgv own2
    refine ifT rfl (A6 (some ⟨p.ni, 0, none⟩) (E8 (SL.st hp2) rfl) (B3 (W3 hp2 key (by omega)) (((s.hash key : Nat) : Int), ()) rfl (E9 (E8 (SL.st hp2) rfl) ?_)))
    refine six hp2 X1 (C13 p.ni s.sc.ways s.ix g1.Ai X1.idx (s.hash key) (Au1 s key) x (h.row _).fr) ((P2 s.ix (s.hash key) x).isSome, ()) rfl { s with ix := iset s.ix (s.hash key) (An8 (O2 s.ix (s.hash key)) (inm (s.hash key) x)) } rfl fun g3 L3 hp3 X3 _ => ?_
    rw [hgv]
    exact .drop (A := sg ++ SL p _ g3) (J := seg) ⟨g3, v, sg, by rw [List.append_nil], X3, own2, rfl⟩ (pc fun z => by have := pcn hp3 z; simp only [B7] at *; omega)
 ·rw [if_pos (by simpa using ha)] at hgv
  rw [hgv]
  exact .of ⟨g, ⟨none, 0, 0⟩, [], by simp, X, F7, rfl⟩
def DK (p : SP) (w : Sto × Bool × Int) (R : A4) (r : Value) (L' : A4) : Prop := ∃ g', L' = SL p w.1 g' ++ R /\ SX p w.1 g' /\ r = .tuple #[.bool w.2.1, .i w.2.2]
theorem Bt1 (p : SP) (s : Sto) (g : SG) (X : SX p s g) {M : Nat} (h : SOk s M) (hM : M <= 1000000000) (key : ByteArray) :
  CallF PP 26 #[.pointer (some ⟨p.n, 0, none⟩), .string key] (SL p s g) (DK p (s.delete key) []) := by
 refine c26 (some ⟨p.n, 0, none⟩) key ?_
 unfold s26
 have hp0 : (SL p s g).Perm (SL p s g ++ []) := by rw [List.append_nil]
 have hdv : s.delete key = (if s.asked key ≠ 0 then (s, false, s.asked key) else ((s.forget key).1, (s.forget key).2, 0)) := rfl
 refine B3 (Ab7 hp0 key) (s.asked key, ()) rfl ?_
 refine C0 (fun (ha : s.asked key = 0) => ?_) (fun (ha : ¬ s.asked key = 0) => ?_)
 ·rw [if_neg (by simpa using ha)] at hdv
  obtain ⟨hd, hk⟩ := Ae3 ha
  refine Q2 (Ax9 p s g X h.dv key (by omega) (h.row _) (Nat.le_trans h.pl hM)) ?_
  rintro _ _ - ⟨g1, rfl, X1, rfl⟩
  rw [hdv]
  exact ⟨((s.forget key).2, ()), rfl, .of ⟨g1, rfl, X1, rfl⟩⟩
 ·rw [if_pos (by simpa using ha)] at hdv
  rw [hdv]
  exact .of ⟨g, by simp, X, rfl⟩
theorem Cw1 (p : SP) (s : Sto) (g : SG) (X : SX p s g) {M : Nat} (h : SOk s M) (key : ByteArray) :
  Reads PP 19 #[.pointer (some ⟨p.n, 0, none⟩), .string key] (SL p s g) (.i (s.has key)) := by
 unfold Reads
 refine c19 (some ⟨p.n, 0, none⟩) key ?_
 unfold s19
 have hp0 : (SL p s g).Perm (SL p s g ++ []) := by rw [List.append_nil]
 have hhv : s.has key = (if s.asked key ≠ 0 then 0 else if (Y0 s.q key).isSome then 1 else if (s.place key).isSome then 2 else 0) := rfl
 refine B3 (Ab7 hp0 key) (s.asked key, ()) rfl ?_
 refine C0 (fun (ha : s.asked key = 0) => ?_) (fun (ha : ¬ s.asked key = 0) => ?_)
 ·rw [if_neg (by simpa using ha)] at hhv
  obtain ⟨hd, hk⟩ := Ae3 ha
  refine A5 rfl (A6 (some ⟨p.nq, 0, none⟩) (E8 (SL.st hp0) rfl) ?_)
  refine B3 (Reads.has (SL.q hp0) (Ch3 p.nq s.sc.small s.q g.Aq X.que key)) ((Y0 s.q key).isSome, ()) rfl ?_
  refine G2 (fun (hf : (Y0 s.q key).isSome = true) => ?_) (fun (hf : (Y0 s.q key).isSome = false) => ?_)
  ·rw [if_pos hf] at hhv
   rw [hhv]; exact .of ⟨rfl, rfl⟩
  ·rw [if_neg (by rw [hf]; decide)] at hhv
   refine Q2 (Aq3 p s g X h.dv key (by omega) (h.row _).len (h.row _).wf) ?_
   rintro _ _ - ⟨v, sg, rfl, rfl, own2⟩
   refine ⟨((((s.place key).getD (0, 0, 0, ())).1, ((s.place key).getD (0, 0, 0, ())).2.1, ((s.place key).getD (0, 0, 0, ())).2.2.1, ()), v, (s.place key).isSome, ()), rfl, ?_⟩
   dsimp only
   refine G2 (fun (hpl : (s.place key).isSome = true) => ?_) (fun (hpl : (s.place key).isSome = false) => ?_)
   ·rw [if_pos hpl] at hhv
    rw [hhv]; exact .drop (A := SL p s g) (J := sg) ⟨rfl, rfl⟩ List.perm_append_comm
   ·rw [if_neg (by rw [hpl]; decide)] at hhv
    rw [hhv]; exact .drop (A := SL p s g) (J := sg) ⟨rfl, rfl⟩ List.perm_append_comm
 ·rw [if_pos (by simpa using ha)] at hhv
  rw [hhv]; exact .of ⟨rfl, rfl⟩
def Sto.ghosted (s : Sto) (key : ByteArray) : Bool := if s.asked key = 0 then decide (((s.hash key : Nat) : Int) ∈ s.gh) else false
theorem Bg6 (p : SP) (s : Sto) (g : SG) (X : SX p s g) (key : ByteArray) : Reads PP 13 #[.pointer (some ⟨p.n, 0, none⟩), .string key] (SL p s g) (.bool (s.ghosted key)) := by
 unfold Reads
 refine c13 (some ⟨p.n, 0, none⟩) key ?_
 unfold s13
 have hp0 : (SL p s g).Perm (SL p s g ++ []) := by rw [List.append_nil]
 unfold Sto.ghosted
 refine B3 (Ab7 hp0 key) (s.asked key, ()) rfl ?_
 refine C0 (fun (ha : s.asked key = 0) => ?_) (fun (ha : ¬ s.asked key = 0) => ?_)
 ·rw [if_pos ha]
  obtain ⟨hd, hk⟩ := Ae3 ha
  refine A5 rfl (A6 (some ⟨p.ng, 0, none⟩) (E8 (SL.st hp0) rfl) (B3 (W3 hp0 key (by omega)) (((s.hash key : Nat) : Int), ()) rfl (E9 (E8 (SL.st hp0) rfl) ?_)))
  exact B3 (Reads.has (SL.gh hp0) (has_cl p.ng s.sc.ghost s.gh g.go X.gho ((s.hash key : Nat) : Int))) (decide (((s.hash key : Nat) : Int) ∈ s.gh), ()) rfl (.of ⟨rfl, rfl⟩)
 ·rw [if_neg ha]; exact .of ⟨rfl, rfl⟩
theorem Ce2 (p : SP) (s : Sto) (g : SG) (X : SX p s g) (hb : s.bk.Ok) (now : Int) :
  CallF PP 24 #[.pointer (some ⟨p.n, 0, none⟩), .i now] (SL p s g) (SU p (s.tick now) []) := by
 refine c24 (some ⟨p.n, 0, none⟩) now ?_
 unfold s24
 have hp0 : (SL p s g).Perm (SL p s g ++ []) := by rw [List.append_nil]
 refine B3 (By3 hp0) (!s.down, ()) rfl ?_
 unfold Sto.tick
 refine G2 (fun (hu : (!s.down) = true) => ?_) (fun (hu : (!s.down) = false) => ?_)
 ·have hd : s.down = false := by simpa using hu
  rw [if_neg (by rw [hd]; decide)]
  refine A5 rfl (A6 (some ⟨p.nk, 0, none⟩) (E8 (SL.st hp0) rfl) ?_)
  refine G9 (Cu9 p.nk s.bk hb now) (R := stO p s g :: (mO p g :: (gO p g :: (g.Ad ++ (g.Ab ++ (rns g.ns ++ (rns g.on.toList ++ (g.pseg ++ (g.Aq ++ g.Ai))))))))) (pc fun z => by simp only [SL, kO, B7, C5, D8]; omega) ?_
  rintro _ _ ⟨rfl, rfl⟩
  refine ⟨_, List.Perm.refl _, (), rfl, ?_⟩
  refine .drop (A := SL p { s with bk := An2 s.bk now } g) (J := []) ⟨g, by simp, { X with cfg := X.cfg, dev := X.dev, blk := X.blk }, rfl⟩ (pc fun z => ?_)
  have e1 : kO p { s with bk := An2 s.bk now } = (p.nk, A02 (An2 s.bk now)) := rfl
  have e2 : stO p { s with bk := An2 s.bk now } g = stO p s g := rfl
  simp only [SL, e1, e2, B7, C5, D8]
  omega
 ·have hd : s.down = true := by simpa using hu
  rw [if_pos hd]
  exact .of ⟨g, by simp, X, rfl⟩
def Sto.flN (s : Sto) : Nat := min s.pend.length (D7 s.sc.c.S / 6).toNat
theorem Bc3 (k : Nat) (s : Sto) : Sto.flushes (k + 1) s = match s.pend with
  | [] => (s, 0)
  | p :: r =>
   if (s.roomy 1).2 ≠ 0 then s.roomy 1 else
   if (s.roomy 1).1.flN = 0 then ((s.roomy 1).1, 0) else
   if (V0 ((s.roomy 1).1.pend.take (s.roomy 1).1.flN)).2 ≠ 0 then ((s.roomy 1).1, (V0 ((s.roomy 1).1.pend.take (s.roomy 1).1.flN)).2) else
   if ((s.roomy 1).1.write 3 [(V0 ((s.roomy 1).1.pend.take (s.roomy 1).1.flN)).1]).2.2 ≠ 0 then (((s.roomy 1).1.write 3 [(V0 ((s.roomy 1).1.pend.take (s.roomy 1).1.flN)).1]).1, ((s.roomy 1).1.write 3 [(V0 ((s.roomy 1).1.pend.take (s.roomy 1).1.flN)).1]).2.2) else
   Sto.flushes k { ((s.roomy 1).1.write 3 [(V0 ((s.roomy 1).1.pend.take (s.roomy 1).1.flN)).1]).1 with pend := ((s.roomy 1).1.write 3 [(V0 ((s.roomy 1).1.pend.take (s.roomy 1).1.flN)).1]).1.pend.drop (s.roomy 1).1.flN } := rfl
theorem Ci5 {L : A4} {n : Nat} {g : PG} (hg : g.Ok) (h1 : (n, Obj.cells #[.slice g.v.a g.v.len g.v.cap] 27) ∈ L) (h2 : ∀ x ∈ g.seg, x ∈ L) : U3 L ⟨some ⟨n, 0, none⟩, 1, 1⟩ [(g.v, g.l)] := by
 refine ⟨⟨rfl, Nat.le_refl _, .inr ⟨⟨n, 0, none⟩, rfl, ldB h1 rfl⟩⟩, fun x hx => ?_⟩
 rw [List.mem_singleton.1 hx]
 exact hg.sl.mono h2
theorem Bz9 (p : SP) (s : Sto) (g : SG) (X : SX p s g) {M : Nat} (h : SOk s M) (hM : M <= 900000000) (R : A4) (hT : Tab R) :
  CallF PP 27 #[.pointer (some ⟨p.n, 0, none⟩)] (SL p s g ++ R) (SK p s.flush R) := by
 refine c27 (some ⟨p.n, 0, none⟩) ?_
 unfold s27
 have hp0 : (SL p s g ++ R).Perm (SL p s g ++ R) := List.Perm.refl _
 have hfl : s.flush = (if s.down = true then (s, 11) else Sto.flushes (s.pend.length + 1) s) := rfl
 refine ifF rfl (A5 rfl (A6 s.down (E8 (SL.st hp0) rfl) ?_))
 refine G2 (fun (hd : s.down = true) => ?_) (fun (hd : s.down = false) => ?_)
 ·rw [if_pos hd] at hfl
  rw [hfl]; exact .of ⟨g, rfl, X, rfl⟩
 rw [if_neg (by rw [hd]; decide)] at hfl
 rw [hfl]
 refine G0 (fun z' z L' => ∃ (cur : Sto) (g' : SG) (J : A4), cur.pend.length < z' /\ SOk cur M /\ cur.down = false /\ SX p cur g' /\ Sto.flushes (s.pend.length + 1) s = Sto.flushes z' cur /\ L'.Perm (SL p cur g' ++ (J ++ R))) (s.pend.length + 1) ⟨s, g, [], by omega, h, hd, X, rfl, List.Perm.refl _⟩ ?_
 rintro z' z L1 ⟨cur, g', J, hpl, hc, hcd, X', heq, hp1⟩
 dsimp only
 obtain ⟨k, rfl⟩ : ∃ k, z' = k + 1 := ⟨z' - 1, by omega⟩
 rw [heq, Bc3]
 have hpvl := X'.pendLen
 refine A6 g'.pv (E8 (SL.st hp1) rfl) ?_
 cases hcp : cur.pend with
 | nil =>
  rw [hcp] at hpvl
  refine ifN (show ¬ ((g'.pv.len : Int) > 0) by rw [hpvl]; simp) ?_
  exact .drop (A := SL p cur g' ++ R) (J := J) ⟨g', rfl, X', rfl⟩ (pc fun z => by have := pcn hp1 z; simp only [B7] at *; omega)
 | cons x0 r0 =>
  rw [hcp, List.length_cons] at hpvl
  refine ifP (show (g'.pv.len : Int) > 0 by omega) ?_
  dsimp only
  have hT1 : Tab (J ++ R) := hT.mono fun y hy => by simp [hy]
  refine Aw8 (Bl6 p cur g' X' hc (by omega) hcd (J ++ R) hT1 1 (by decide)) hp1 ?_
  rintro _ _ ⟨g2, rfl, X2, rfl⟩
  obtain ⟨k1, k2, k3⟩ := hc.roomy hcd (n := 1) (by decide)
  have kp : (cur.roomy 1).1.pend.length <= cur.pend.length := Cq6 1 _ cur
  refine ⟨((cur.roomy 1).2, ()), rfl, ?_⟩
  dsimp only
  generalize cur.roomy 1 = w at k1 k2 k3 kp X2
  have hp2 : (SL p w.1 g2 ++ (J ++ R)).Perm (SL p w.1 g2 ++ (J ++ R)) := List.Perm.refl _
  refine C0 (fun (h0 : w.2 = 0) => ?_) (fun (h0 : ¬ w.2 = 0) => ?_)
  ·rw [if_neg (by simpa using h0)]
   obtain ⟨a1, a2⟩ := k2 h0
   refine A6 g2.pv (E8 (SL.st hp2) rfl) (A6 (w.1.sc.c.S : Int) ((Ce4 (SL.st hp2)).one 2 rfl) ?_)
   refine B3 (Ad8 _ (w.1.sc.c.S : Int)) (D7 w.1.sc.c.S, ()) rfl ?_
   refine E9 (E8 (SL.st hp2) rfl) ?_
   have hS := k1.S
   have hr0 : 0 <= D7 (w.1.sc.c.S : Int) /\ D7 (w.1.sc.c.S : Int) <= 496 := by
    by_cases hz : D7 (w.1.sc.c.S : Int) = 0
    ·omega
    ·have := Ad6 hz; omega
   have hdv : Int.tdiv (D7 (w.1.sc.c.S : Int)) 6 = D7 (w.1.sc.c.S : Int) / 6 := Int.tdiv_eq_ediv_of_nonneg hr0.1
   have hpv2 := X2.pendLen
   have hmin : Y1 (g2.pv.len : Int) (D7 (w.1.sc.c.S : Int) / 6) = (w.1.flN : Int) := by
    unfold Sto.flN Y1
    rw [hpv2]
    split <;> omega
   have hfl1 : w.1.flN <= w.1.pend.length := by unfold Sto.flN; omega
   have hfl2 : w.1.flN <= 82 := by unfold Sto.flN; omega
   dsimp only
   rw [hdv]
   refine D9 (by omega) ?_
   rw [hmin]
   refine C0 (fun (hz : (w.1.flN : Int) = 0) => ?_) (fun (hz : ¬ (w.1.flN : Int) = 0) => ?_)
   ·rw [if_pos (by omega)]
    exact .drop (A := SL p w.1 g2 ++ R) (J := J) ⟨g2, rfl, X2, rfl⟩ (pc fun z => by simp only [B7]; omega)
   ·rw [if_neg (by omega)]
    refine A6 g2.pv (E8 (SL.st hp2) rfl) ?_
    have hcap := X2.pd.cap
    refine slc_el E1 (by decide) (A := g2.pseg) (Own.sl X2.pd) (i' := 0) (j' := w.1.flN) (m' := g2.pv.cap) rfl rfl rfl (by omega) hfl1 (by omega) (Nat.le_refl _) fun s1 hs1 _ hsl1 => ?_
    rw [List.drop_zero, Nat.sub_zero] at hsl1
    refine Q2 (Bj2 (SL p w.1 g2 ++ (J ++ R)) s1 (w.1.pend.take w.1.flN) (hsl1.mono (SL.ps hp2)) (by rw [List.length_take]; omega)) ?_
    rintro _ _ - ⟨q, rfl, rfl, hq, hql⟩
    refine ⟨(q.v, (V0 (w.1.pend.take w.1.flN)).2, ()), rfl, ?_⟩
    dsimp only
    refine C0 (fun (h1 : (V0 (w.1.pend.take w.1.flN)).2 = 0) => ?_) (fun (h1 : ¬ (V0 (w.1.pend.take w.1.flN)).2 = 0) => ?_)
    ·rw [if_neg (by simpa using h1)]
     refine C3 fun n1 _ => ?_
     obtain ⟨c1, hc1⟩ : ∃ c1 : Nat × Obj, c1 = (n1, Obj.cells #[.slice q.v.a q.v.len q.v.cap] 27) := ⟨_, rfl⟩
     rw [<- hc1]
     have hp3 : (c1 :: (q.seg ++ (SL p w.1 g2 ++ (J ++ R)))).Perm (SL p w.1 g2 ++ (c1 :: (q.seg ++ (J ++ R)))) := pc fun z => by simp only [B7, C5]; omega
     obtain ⟨o, ho⟩ : ∃ o, w.1.op = some o := by
      unfold Sto.fits at a2
      cases hop : w.1.op with
      | none => rw [hop] at a2; cases a2
      | some o => exact ⟨o, rfl⟩
     have hopk := k1.op o ho
     have hcall := Aq0 p w.1 g2 X2 k1.S.2 k1.bk (c1 :: (q.seg ++ (J ++ R))) ⟨some ⟨n1, 0, none⟩, 1, 1⟩ [(q.v, q.l)] (Ci5 hq (by rw [hc1]; exact List.mem_cons_self) (fun y hy => by simp [hy])) (by simp) (k1.dg _ (by simp)) o ho (by omega) (by omega) 3
     rw [show [(q.v, q.l)].map Prod.snd = [(V0 (w.1.pend.take w.1.flN)).1] by simp [hql]] at hcall
     refine Aw8 hcall hp3 ?_
     rintro _ _ ⟨g3, rfl, X3, hn3, rfl⟩
     obtain ⟨b1, b2⟩ := k1.write a1 3 [(V0 (w.1.pend.take w.1.flN)).1]
     have bp : (w.1.write 3 [(V0 (w.1.pend.take w.1.flN)).1]).1.pend = w.1.pend := (Mv.write w.1 3 _).pend
     generalize w.1.write 3 [(V0 (w.1.pend.take w.1.flN)).1] = z at b1 b2 bp X3
     refine ⟨((z.2.1.1, z.2.1.2.1, z.2.1.2.2.1, ()), z.2.2, ()), rfl, ?_⟩
     dsimp only
     have hp4 : (SL p z.1 g3 ++ (c1 :: (q.seg ++ (J ++ R)))).Perm (SL p z.1 g3 ++ (c1 :: (q.seg ++ (J ++ R)))) := List.Perm.refl _
     refine C0 (fun (h2 : z.2.2 = 0) => ?_) (fun (h2 : ¬ z.2.2 = 0) => ?_)
     ·rw [if_neg (by simpa using h2)]
      refine A6 g3.pv (E8 (SL.st hp4) rfl) ?_
      refine G9 (Cw8 g3.pv z.1.pend g3.pseg X3.pd (Nat.le_trans b1.pl (by omega)) w.1.flN (by rw [bp]; exact hfl1) (by omega)) (R := stO p z.1 g3 :: (kO p z.1 :: (mO p g3 :: (gO p g3 :: (g3.Ad ++ (g3.Ab ++ (rns g3.ns ++ (rns g3.on.toList ++ (g3.Aq ++ (g3.Ai ++ (c1 :: (q.seg ++ (J ++ R))))))))))))) (pc fun z => by simp only [SL, B7, C5, D8]; omega) ?_
      rintro _ pseg' ⟨v', rfl, own'⟩
      refine ⟨_, List.Perm.refl _, (v', ()), rfl, ?_⟩
      obtain ⟨s4, hs4⟩ : ∃ s4 : Sto, s4 = { z.1 with pend := z.1.pend.drop w.1.flN } := ⟨_, rfl⟩
      obtain ⟨g4, hg4⟩ : ∃ g4 : SG, g4 = { g3 with pv := v', pseg := pseg' } := ⟨_, rfl⟩
      rw [<- hs4]
      refine Bg2 (s := z.1) (g := g3) (k := 17) s4 g4 (Y := pseg' ++ (kO p z.1 :: (mO p g3 :: (gO p g3 :: (g3.Ad ++ (g3.Ab ++ (rns g3.ns ++ (rns g3.on.toList ++ (g3.Aq ++ (g3.Ai ++ (c1 :: (q.seg ++ (J ++ R))))))))))))) (pc fun z => by simp only [B7, C5, D8]; omega) (by decide) (by rw [hs4, hg4]; rfl) fun L5 hp5 => ?_
      have X4 : SX p s4 g4 := by rw [hs4, hg4]; exact { X3 with cfg := X3.cfg, dev := X3.dev, blk := X3.blk, pd := own' }
      refine ⟨k, by omega, s4, g4, c1 :: (q.seg ++ J), ?_, ?_, ?_, X4, rfl, pc fun z' => ?_⟩
      ·rw [hs4]
       show (z.1.pend.drop w.1.flN).length < k
       rw [List.length_drop, bp]
       omega
      ·rw [hs4]; exact { b1 with dv := b1.dv, pl := by show (z.1.pend.drop w.1.flN).length <= M; rw [List.length_drop]; have := b1.pl; omega }
      ·rw [hs4]; exact b2 h2
      ·have := pcn hp5 z'
       have e1 : kO p s4 = kO p z.1 := by rw [hs4]; rfl
       have e2 : mO p g4 = mO p g3 := by rw [hg4]; rfl
       have e3 : gO p g4 = gO p g3 := by rw [hg4]; rfl
       have e4 : g4.pseg = pseg' /\ g4.Ad = g3.Ad /\ g4.Ab = g3.Ab /\ g4.ns = g3.ns /\ g4.on = g3.on /\ g4.Aq = g3.Aq /\ g4.Ai = g3.Ai := by rw [hg4]; exact ⟨rfl, rfl, rfl, rfl, rfl, rfl, rfl⟩
       simp only [SL, e1, e2, e3, e4.1, e4.2.1, e4.2.2.1, e4.2.2.2.1, e4.2.2.2.2.1, e4.2.2.2.2.2.1, e4.2.2.2.2.2.2, B7, C5, D8] at *
       omega
     ·rw [if_pos (by simpa using h2)]
      exact .drop (A := SL p z.1 g3 ++ R) (J := c1 :: (q.seg ++ J)) ⟨g3, rfl, X3, rfl⟩ (pc fun z => by simp only [B7, C5]; omega)
    ·rw [if_pos (by simpa using h1)]
     exact .drop (A := SL p w.1 g2 ++ R) (J := q.seg ++ J) ⟨g2, rfl, X2, rfl⟩ (pc fun z => by simp only [B7, C5]; omega)
  ·rw [if_pos (by simpa using h0)]
   exact .drop (A := SL p w.1 g2 ++ R) (J := J) ⟨g2, rfl, X2, rfl⟩ (pc fun z => by simp only [B7]; omega)
section
variable {p : SP} {s : Sto} {g : SG}
theorem Bf9 {L R : A4} (hp : L.Perm (SL p s g ++ R)) {f : FuncId} (hf : Aa3 PP f = true) {cap : Array Value} {v : Int} (hr : Reads PP f cap L (.i v)) : Reads PP 42 #[.pointer (some ⟨p.n, 0, none⟩), .func (.func f) #[] cap] L (.i (if s.down = true then 0 else v)) := by
 unfold Reads
 refine c42 (some ⟨p.n, 0, none⟩) ⟨.func f, #[], cap⟩ ?_
 unfold s42
 refine B3 (By3 hp) (!s.down, ()) rfl ?_
 refine G2 (fun (hu : (!s.down) = true) => ?_) (fun (hu : (!s.down) = false) => ?_)
 ·rw [if_neg (by simpa using hu)]
  refine V7 hf ?_
  have e : (#[] ++ #[] ++ cap : Array Value) = cap := by simp
  rw [e]
  exact B3 hr (v, ()) rfl (.of ⟨rfl, rfl⟩)
 ·rw [if_pos (by simpa using hu)]
  exact .of ⟨rfl, rfl⟩
theorem Ao3 {L : A4} (f : FnV) : Reads PP 42 #[.pointer none, .func f.fn f.first f.captured] L (.i 0) := by
 unfold Reads
 refine c42 none f ?_
 unfold s42
 exact B3 (Bg0 L) (false, ()) rfl (ifF rfl (.of ⟨rfl, rfl⟩))
theorem Bs1 (X : SX p s g) : Reads PP 14 #[.pointer (some ⟨p.n, 0, none⟩)] (SL p s g) (.i (if s.down = true then 0 else s.bk.tokens)) := by
 unfold Reads
 refine c14 (some ⟨p.n, 0, none⟩) ?_
 unfold s14
 refine C3 fun n1 _ => A6 (some ⟨p.n, 0, none⟩) (ldB List.mem_cons_self rfl) ?_
 obtain ⟨c1, hc1⟩ : ∃ c1 : Nat × Obj, c1 = (n1, Obj.cells #[.pointer (some ⟨p.n, 0, none⟩)] 28) := ⟨_, rfl⟩
 have hp : ((n1, Obj.cells #[.pointer (some ⟨p.n, 0, none⟩)] 28) :: SL p s g).Perm (SL p s g ++ [c1]) := by rw [hc1]; exact pc fun z => by simp only [B7, C5, D8]; omega
 refine B3 (Bf9 hp (by kernel_rfl) (v := s.bk.tokens) ?_) (_, ()) rfl (.drop (A := SL p s g) (J := [c1]) ⟨rfl, rfl⟩ hp)
 unfold Reads
 refine c43 (some ⟨n1, 0, none⟩) ?_
 unfold s43
 refine A5 rfl (A6 (some ⟨p.n, 0, none⟩) (ldB List.mem_cons_self rfl) (A5 rfl (A6 (some ⟨p.nk, 0, none⟩) (E8 (SL.st hp) rfl) ?_)))
 exact B3 (A71 _ p.nk s.bk (SL.k hp)) (s.bk.tokens, ()) rfl (.of ⟨rfl, rfl⟩)
theorem Cv8 (X : SX p s g) : Reads PP 29 #[.pointer (some ⟨p.n, 0, none⟩)] (SL p s g) (.i (if s.down = true then 0 else (ilen s.ix : Int))) := by
 unfold Reads
 refine c29 (some ⟨p.n, 0, none⟩) ?_
 unfold s29
 refine C3 fun n1 _ => A6 (some ⟨p.n, 0, none⟩) (ldB List.mem_cons_self rfl) ?_
 obtain ⟨c1, hc1⟩ : ∃ c1 : Nat × Obj, c1 = (n1, Obj.cells #[.pointer (some ⟨p.n, 0, none⟩)] 28) := ⟨_, rfl⟩
 have hp : ((n1, Obj.cells #[.pointer (some ⟨p.n, 0, none⟩)] 28) :: SL p s g).Perm (SL p s g ++ [c1]) := by rw [hc1]; exact pc fun z => by simp only [B7, C5, D8]; omega
 refine B3 (Bf9 hp (by kernel_rfl) (v := (ilen s.ix : Int)) ?_) (_, ()) rfl (.drop (A := SL p s g) (J := [c1]) ⟨rfl, rfl⟩ hp)
 unfold Reads
 refine c67 (some ⟨n1, 0, none⟩) ?_
 unfold s67
 refine A5 rfl (A6 (some ⟨p.n, 0, none⟩) (ldB List.mem_cons_self rfl) (A5 rfl (A6 (some ⟨p.ni, 0, none⟩) (E8 (SL.st hp) rfl) ?_)))
 exact B3 (Reads.has (SL.i hp) (C12 p.ni s.sc.ways s.ix g.Ai X.idx)) ((ilen s.ix : Int), ()) rfl (.of ⟨rfl, rfl⟩)
theorem By2 (X : SX p s g) : Reads PP 30 #[.pointer (some ⟨p.n, 0, none⟩)] (SL p s g) (.i (if s.down = true then 0 else (s.q.length : Int))) := by
 unfold Reads
 refine c30 (some ⟨p.n, 0, none⟩) ?_
 unfold s30
 refine C3 fun n1 _ => A6 (some ⟨p.n, 0, none⟩) (ldB List.mem_cons_self rfl) ?_
 obtain ⟨c1, hc1⟩ : ∃ c1 : Nat × Obj, c1 = (n1, Obj.cells #[.pointer (some ⟨p.n, 0, none⟩)] 28) := ⟨_, rfl⟩
 have hp : ((n1, Obj.cells #[.pointer (some ⟨p.n, 0, none⟩)] 28) :: SL p s g).Perm (SL p s g ++ [c1]) := by rw [hc1]; exact pc fun z => by simp only [B7, C5, D8]; omega
 refine B3 (Bf9 hp (by kernel_rfl) (v := (s.q.length : Int)) ?_) (_, ()) rfl (.drop (A := SL p s g) (J := [c1]) ⟨rfl, rfl⟩ hp)
 unfold Reads
 refine c69 (some ⟨n1, 0, none⟩) ?_
 unfold s69
 refine A5 rfl (A6 (some ⟨p.n, 0, none⟩) (ldB List.mem_cons_self rfl) (A5 rfl (A6 (some ⟨p.nq, 0, none⟩) (E8 (SL.st hp) rfl) ?_)))
 exact B3 (Reads.has (SL.q hp) (Ch2 p.nq s.sc.small s.q g.Aq X.que)) ((s.q.length : Int), ()) rfl (.of ⟨rfl, rfl⟩)
theorem Aq4 (X : SX p s g) (hl : s.pend.length <= 1000000000) : CallF PP 31 #[.pointer (some ⟨p.n, 0, none⟩)] (SL p s g) fun r L' => ∃ (u : SlV) (sg : A4), r = .slice u.a u.len u.cap /\ L' = sg ++ SL p s g /\ Own u 3 Av5 ((if s.down = true then [] else s.pend).flatMap N7) sg := by
 refine c31 (some ⟨p.n, 0, none⟩) ?_
 unfold s31
 have hp0 : (SL p s g).Perm (SL p s g ++ []) := by rw [List.append_nil]
 refine B3 (By3 hp0) (!s.down, ()) rfl ?_
 refine G2 (fun (hu : (!s.down) = true) => ?_) (fun (hu : (!s.down) = false) => ?_)
 ·rw [if_neg (by simpa using hu)]
  refine A5 rfl (A6 g.pv (E8 (SL.st hp0) rfl) ?_)
  refine Q2 (B02 (SL p s g) g.pv s.pend (X.pd.sl.mono (SL.ps hp0)) hl) ?_
  rintro _ _ - ⟨u, sg, rfl, rfl, own⟩
  exact ⟨(u, ()), rfl, .of ⟨u, sg, rfl, rfl, own⟩⟩
 ·rw [if_pos (by simpa using hu)]
  exact .of ⟨⟨none, 0, 0⟩, [], rfl, rfl, F7⟩
end
theorem Ar5 (d : Dev) : ∀ n : Nat, ((A90 d n).map fun h => h.1).Nodup /\ ∀ h ∈ A90 d n, h.1 < (n : Int)
 | 0 => ⟨List.nodup_nil, by simp [A90]⟩
 | n + 1 => by
  obtain ⟨i1, i2⟩ := Ar5 d n
  rw [Ar4]
  cases hr : Bx0 d n with
  | none =>
   simp only [Option.toList_none, List.append_nil]
   exact ⟨i1, fun h hh => by have := i2 h hh; omega⟩
  | some x =>
   have hx := (A87 hr).1
   refine ⟨?_, fun h hh => ?_⟩
   ·rw [Option.toList_some, List.map_append, List.map_singleton, List.nodup_append]
    refine ⟨i1, List.nodup_cons.2 ⟨by simp, List.nodup_nil⟩, fun a ha b hb => ?_⟩
    rw [List.mem_singleton] at hb
    subst hb
    obtain ⟨h, hh, rfl⟩ := List.mem_map.1 ha
    have := i2 h hh
    omega
   ·rcases List.mem_append.1 hh with hh | hh
    ·have := i2 h hh; omega
    ·rw [Option.toList_some, List.mem_singleton] at hh
     subst hh; omega
def blkR (d : Dev) : List Int := (K8 d).map fun h => h.1
theorem Bw3 (d : Dev) : (blkR d).Nodup := by
 unfold blkR K8
 exact ((Q7 epK (A90 d d.c.B)).map (fun h : HD => h.1)).nodup_iff.2 (Ar5 d d.c.B).1
structure Cu0 (d : Dev) (x : LE) : Prop where
 fetch : (C7 d x.2).2.2 = 0 /\ An5 (C7 d x.2).1 = x.1
 held : ∃ h ∈ K8 d, h.1 = x.2.1 /\ h.2.1 = x.2.2.2.1
 page : 1 <= x.2.2.1 /\ x.2.2.1 <= 255
theorem all_ok {d : Dev} {x : LE} (hx : x ∈ Co4 d (K8 d)) : Cu0 d x := by
 unfold Co4 at hx
 rw [List.mem_filterMap] at hx
 obtain ⟨q, hq, h⟩ := hx
 unfold Bs8 at hq
 rw [List.mem_flatMap] at hq
 obtain ⟨hd, hm, hq⟩ := hq
 obtain ⟨y, hy, rfl⟩ := List.mem_map.1 hq
 have hy := (List.mem_filter.1 hy).1
 obtain ⟨b, -, hb⟩ := Bo8 hm
 have hr := (A87 hb).2.2.1 y hy
 unfold W6 at h
 split at h
 ·rename_i h0
  obtain rfl := Option.some.inj h
  exact ⟨⟨h0, rfl⟩, ⟨hd, hm, rfl, rfl⟩, hr.1, hr.2.1⟩
 ·cases h
theorem B48 {d : Dev} {x : LE} (hx : x ∈ R8 d) : Cu0 d x := all_ok (List.mem_filter.1 hx).1
def Bs3 (d : Dev) : List BS := d.bs.map fun k => ⟨k.wear, k.bad, decide (k.next ≠ 0)⟩
theorem Bs5 (m : Nat) (d : Dev) (A : A4) (h : FH m d A) (ok : S3 d) : CallF PP 100 #[.pointer (some ⟨m, 0, none⟩)] A fun r L' => ∃ (v : SlV) (seg : A4), r = .slice v.a v.len v.cap /\ L' = seg ++ A /\ Own v 3 194 ((Bs3 d).flatMap U2) seg := by
 refine c100 (some ⟨m, 0, none⟩) ?_
 unfold s100
 have hasA : ∀ {L J : A4}, L.Perm (J ++ A) -> Has L A := fun {L J} hp => ⟨J, hp.trans List.perm_append_comm⟩
 have hB := ok.c.b
 have hlen := ok.len
 refine B3 (Z4 ⟨[], by simp⟩ h) ((d.c.B, d.c.P, d.c.S, d.c.W, ()), ()) rfl ?_
 dsimp only
 refine G0 (fun z' z L' => ∃ (i : Nat) (v : SlV) (seg : A4), z = (v, (i : Int), ()) /\ z' = d.c.B - i /\ i <= d.c.B /\ L'.Perm (seg ++ A) /\ Own v 3 194 (((Bs3 d).take i).flatMap U2) seg) d.c.B ⟨0, ⟨none, 0, 0⟩, [], rfl, rfl, by omega, List.Perm.refl _, F7⟩ ?_
 rintro z' z L1 ⟨i, v, seg, rfl, rfl, hi, hp, own⟩
 dsimp only
 have hst : (Bs3 d).length = d.c.B := by unfold Bs3; rw [List.length_map, hlen]
 refine C0 (fun (hlt : (i : Int) < d.c.B) => ?_) (fun (hge : ¬ (i : Int) < d.c.B) => ?_)
 ·have hi' : i < d.bs.length := by omega
  have hat : Aw9 d (i : Int) = some d.bs[i] := by unfold Aw9; rw [if_pos (by omega), Int.toNat_natCast, List.getElem?_eq_getElem hi']
  refine B3 (Reads.has (hasA hp) (Cu7 m d A h ok i)) (A66 d i, ()) rfl ?_
  refine B3 (Reads.has (hasA hp) (Ct5 m d A h ok i)) (A56 d i, ()) rfl ?_
  refine B3 (Reads.has (hasA hp) (Cz5 m d A h ok i)) (Ba2 d i, ()) rfl ?_
  dsimp only
  have e1 : A66 d i = (d.bs[i].wear : Int) := by unfold A66; rw [hat]; rfl
  have e2 : A56 d i = d.bs[i].bad := by unfold A56; rw [hat]; rfl
  have e3 : Ba2 d i = (d.bs[i].next : Int) := by unfold Ba2; rw [hat]; rfl
  rw [e1, e2, e3]
  have hvl := own.sl.els_len G5 (by decide)
  rw [List.length_take] at hvl
  have hb3 : ((d.bs[i].next : Int) != 0) = decide (d.bs[i].next ≠ 0) := by
   by_cases hn : d.bs[i].next = 0
   ·simp [hn]
   ·simp [hn]
  rw [hb3]
  refine Af6 B92 Cp9 own hp (ws := U2 ⟨d.bs[i].wear, d.bs[i].bad, decide (d.bs[i].next ≠ 0)⟩) rfl rfl (by omega) fun v' seg' hl' own' => ?_
  refine D9 (by omega) ⟨d.c.B - (i + 1), by omega, i + 1, v', seg', rfl, rfl, by omega, List.Perm.refl _, ?_⟩
  rw [List.take_succ_eq_append_getElem (by omega), List.flatMap_append, List.flatMap_singleton]
  have : (Bs3 d)[i]'(by omega) = ⟨d.bs[i].wear, d.bs[i].bad, decide (d.bs[i].next ≠ 0)⟩ := by unfold Bs3; rw [List.getElem_map]
  rw [this]; exact own'
 ·obtain rfl : i = d.c.B := by omega
  rw [show d.c.B = (Bs3 d).length from hst.symm, List.take_length] at own
  exact .drop (A := seg ++ A) (J := []) ⟨v, seg, rfl, rfl, own⟩ (by simpa using hp)
abbrev Cb9 := Int × Int × Int × Int × Int × Int × Int × Int × Int × Int × Int × Unit
def P4 (n most : Int) : Bool := decide (0 <= n /\ n <= most)
theorem U4 (L : A4) (n most : Int) : Reads PP 164 #[.i n, .i most] L (.bool (P4 n most)) := by
 unfold Reads
 refine c164 n most ?_
 unfold s164 P4
 refine C0 (fun (h : n ≥ 0) => .of ⟨?_, rfl⟩) (fun (h : ¬ n ≥ 0) => .of ⟨?_, rfl⟩)
 ·congr 1; exact decide_eq_decide.2 ⟨fun hm => ⟨h, hm⟩, fun hm => hm.2⟩
 ·congr 1; exact (decide_eq_false fun hh => h hh.1).symm
def fitB (c : Cb9) : Bool := P4 c.2.2.2.2.2.2.1 65536 && P4 c.2.2.2.2.2.2.2.1 64 && P4 c.2.2.2.2.2.2.2.2.1 1048576 && P4 c.2.2.2.2.2.2.2.2.2.1 1073741824 && decide (3 * (c.2.1 - 2) <= D7 c.2.2.1)
theorem fit_rd (L : A4) (c : Cb9) (hP : 0 <= c.2.1 /\ c.2.1 <= 1000) : Reads PP 94 #[.agg #[.i c.1, .i c.2.1, .i c.2.2.1, .i c.2.2.2.1, .i c.2.2.2.2.1, .i c.2.2.2.2.2.1, .i c.2.2.2.2.2.2.1, .i c.2.2.2.2.2.2.2.1, .i c.2.2.2.2.2.2.2.2.1, .i c.2.2.2.2.2.2.2.2.2.1, .i c.2.2.2.2.2.2.2.2.2.2.1]] L (.bool (fitB c)) := by
 unfold Reads
 refine c94 c ?_
 unfold s94 fitB
 have no : ∀ {b : Bool}, b = false -> (Value.bool false = Value.bool b /\ L = L) := fun hb => ⟨by rw [hb], rfl⟩
 refine B3 (U4 L c.2.2.2.2.2.2.1 65536) (P4 c.2.2.2.2.2.2.1 65536, ()) rfl ?_
 refine G2 (fun (h1 : P4 c.2.2.2.2.2.2.1 65536 = true) => ?_) (fun (h1 : P4 c.2.2.2.2.2.2.1 65536 = false) => ?_)
 ·refine B3 (U4 L c.2.2.2.2.2.2.2.1 64) (P4 c.2.2.2.2.2.2.2.1 64, ()) rfl (B3 (U4 L c.2.2.2.2.2.2.2.2.1 1048576) (P4 c.2.2.2.2.2.2.2.2.1 1048576, ()) rfl ?_)
  refine G2 (fun (h3 : P4 c.2.2.2.2.2.2.2.2.1 1048576 = true) => ?_) (fun (h3 : P4 c.2.2.2.2.2.2.2.2.1 1048576 = false) => ?_)
  ·refine B3 (U4 L c.2.2.2.2.2.2.2.2.2.1 1073741824) (P4 c.2.2.2.2.2.2.2.2.2.1 1073741824, ()) rfl ?_
   refine G2 (fun (h2 : P4 c.2.2.2.2.2.2.2.1 64 = true) => ?_) (fun (h2 : P4 c.2.2.2.2.2.2.2.1 64 = false) => .of (no (by rw [h2]; simp)))
   refine G2 (fun (h4 : P4 c.2.2.2.2.2.2.2.2.2.1 1073741824 = true) => ?_) (fun (h4 : P4 c.2.2.2.2.2.2.2.2.2.1 1073741824 = false) => .of (no (by rw [h4]; simp)))
   refine D9 (by omega) (D9 (by omega) (B3 (Ad8 L c.2.2.1) (D7 c.2.2.1, ()) rfl (.of ⟨?_, rfl⟩)))
   rw [h1, h2, h3, h4]; simp
  ·exact G2 (fun _ => .of (no (by rw [h3]; simp))) (fun _ => .of (no (by rw [h3]; simp)))
 ·refine B3 (U4 L c.2.2.2.2.2.2.2.2.1 1048576) (P4 c.2.2.2.2.2.2.2.2.1 1048576, ()) rfl ?_
  refine G2 (fun _ => ?_) (fun _ => .of (no (by rw [h1]; simp)))
  exact B3 (U4 L c.2.2.2.2.2.2.2.2.2.1 1073741824) (P4 c.2.2.2.2.2.2.2.2.2.1 1073741824, ()) rfl (.of (no (by rw [h1]; simp)))
def Cq0 (x : Cb9) (d : Dev) : SC := ⟨d.c, x.2.2.2.2.1, x.2.2.2.2.2.1, x.2.2.2.2.2.2.1, x.2.2.2.2.2.2.2.1, x.2.2.2.2.2.2.2.2.1, x.2.2.2.2.2.2.2.2.2.1, x.2.2.2.2.2.2.2.2.2.2.1⟩
def Bt4 (h : HD) : Reg := ⟨h.1, h.2.1, 0, h.2.2⟩
def Ac0 (d : Dev) : List Reg := (K8 d).map Bt4
def Cp8 (sc : SC) (d : Dev) (now : Int) (ss : List BS) : Sto := ⟨sc, d, ss, Ac0 d, none, Aj4 sc.rate sc.burst now 0, A28 (K8 d), [], false, [], [], List.replicate sc.sets.toNat []⟩
def At1 (l : List LE) (s : Sto) : Sto := l.foldl (fun s x => s.list x.1 x.2) s
def Ci3 (sc : SC) (d : Dev) (now : Int) : Option Sto := (Aj3 (Bs3 d) ((Ac0 d).map Reg.b)).map fun r => At1 (R8 d) (Cp8 sc d now r.1)
theorem Bq9 : ∀ (l : List Int) {ss : List BS} {us : List Int} {r : List BS × List Int}, Ca4 ss us -> Av0 ss us l = some r -> r.2 = us ++ l /\ Ca4 r.1 r.2 /\ r.1.map (fun x => (x.wear, x.bad)) = ss.map (fun x => (x.wear, x.bad))
 | [], ss, us, r, h, hr => by
  obtain rfl := Option.some.inj hr
  exact ⟨by simp, h, rfl⟩
 | n :: t, ss, us, r, h, hr => by
  unfold Av0 at hr
  split at hr
  ·rename_i hf
   obtain ⟨h1, h2⟩ := O9 hf
   obtain ⟨h3, h4, h5⟩ := P9 h1
   have hm : (Ag6 ss n Af3).map (fun x => (x.wear, x.bad)) = ss.map (fun x => (x.wear, x.bad)) := by
    apply List.ext_getElem?
    intro i
    unfold Ag6
    rw [List.getElem?_map, List.getElem?_map, List.getElem?_modify]
    cases ss[i]? with
    | none => rfl
    | some x =>
     simp only [Option.map_some, Option.map_eq_map]
     by_cases e : n.toNat = i <;> simp [e, Af3]
   have hg : ∀ x, H7 (Ag6 ss n Af3) x = H7 ss x := fun x => by
    unfold H7
    have := congrArg (fun l => l[x.toNat]?) hm
    simp only [List.getElem?_map] at this
    cases h6 : (Ag6 ss n Af3)[x.toNat]? with
    | none => rw [h6] at this; cases h7 : ss[x.toNat]? with
     | none => rfl
     | some y => rw [h7] at this; cases this
    | some y => rw [h6] at this; cases h7 : ss[x.toNat]? with
     | none => rw [h7] at this; cases this
     | some z => rw [h7] at this; simp at this; simp [this.2]
   have hb : Ca4 (Ag6 ss n Af3) (us ++ [n]) := by
    have := Be1 h hf
    exact ⟨this.1, fun x hx => by rw [hg]; exact this.2 x hx⟩
   obtain ⟨a1, a2, a3⟩ := Bq9 t hb hr
   exact ⟨by rw [a1]; simp, a2, a3.trans hm⟩
  ·cases hr
theorem Br0 {ss : List BS} {l : List Int} {r : List BS × List Int} (h : Aj3 ss l = some r) : r.2 = l /\ Ca4 r.1 r.2 /\ r.1.map (fun x => (x.wear, x.bad)) = ss.map (fun x => (x.wear, x.bad)) /\ Bv9 ss = true := by
 unfold Aj3 at h
 split at h
 ·rename_i hc
  obtain ⟨a1, a2, a3⟩ := Bq9 l ⟨List.nodup_nil, fun x hx => by cases hx⟩ h
  exact ⟨by simpa using a1, a2, a3, hc.2.2⟩
 ·cases h
theorem At9 {d : Dev} {h : HD} (hh : h ∈ K8 d) : (Bt4 h).Good /\ 0 <= h.2.1 /\ h.2.1 <= 1073741824 := by
 have h1 := (Q7 epK (A90 d d.c.B)).subset hh
 obtain ⟨b, hb, hr⟩ := A13 h1
 obtain ⟨e1, e2, e3, e4⟩ := A87 hr
 refine ⟨⟨?_, fun x hx => ?_⟩, e2⟩
 ·have := Bi2 h.2.2 1 (fun x hx => by have := e3 x hx; unfold An6 at this; omega) e4 (by decide)
  show h.2.2.length <= 256
  omega
 ·have := e3 x hx
  unfold An6 at this
  omega
theorem Bn9 : ∀ (l : List HD) (a : Int), 0 <= a -> a <= 1073741824 -> (∀ h ∈ l, 0 <= h.2.1 /\ h.2.1 <= 1073741824) -> 0 <= l.foldl (fun a h => Ab4 a h.2.1) a /\ l.foldl (fun a h => Ab4 a h.2.1) a <= 1073741824
 | [], a, h0, h1, _ => ⟨h0, h1⟩
 | x :: r, a, h0, h1, h => by
  have hx := h x (by simp)
  rw [List.foldl_cons]
  exact Bn9 r _ (by unfold Ab4; split <;> omega) (by unfold Ab4; split <;> omega) fun y hy => h y (by simp [hy])
structure ScOk (sc : SC) : Prop where
 st : 1 <= sc.sets /\ sc.sets <= 64
 wy : 1 <= sc.ways /\ sc.ways <= 8
 sm : 0 <= sc.small /\ sc.small <= 65536
 gs : 0 <= sc.ghost /\ sc.ghost <= 64
theorem Cv7 {sc : SC} {d : Dev} {now : Int} {r : List BS × List Int} (ok : S3 d) (hc : d.c = sc.c) (hd : d.down = false) (hfew : d.torn.length <= 999) (k : ScOk sc) (hr : Aj3 (Bs3 d) ((Ac0 d).map Reg.b) = some r) : SOk (Cp8 sc d now r.1) 0 := by
 obtain ⟨r1, r2, r3, r4⟩ := Br0 hr
 have hus : (Cp8 sc d now r.1).us = r.2 := by
  rw [r1]
  show (Ac0 d).map Reg.b ++ [] = _
  simp
 have hl : r.1.length = d.bs.length := by
  have := congrArg List.length r3
  simp only [List.length_map] at this
  rw [this]; unfold Bs3; rw [List.length_map]
 have hssd : ∀ (i : Nat) k, d.bs[i]? = some k -> ∃ x, r.1[i]? = some x /\ x.wear = k.wear /\ x.bad = k.bad := fun i k hk => by
  have := congrArg (fun l => l[i]?) r3
  simp only [List.getElem?_map] at this
  unfold Bs3 at this
  rw [List.getElem?_map, hk] at this
  cases h6 : r.1[i]? with
  | none => rw [h6] at this; cases this
  | some x => rw [h6] at this; simp at this; exact ⟨x, rfl, this.1, this.2⟩
 refine ⟨ok, hd.symm, ?_, hc, Cn7 _ _ _ _, ?_, ?_, ?_, k.wy, k.sm, k.gs, ?_, fun o ho => (by cases ho), ?_, by rw [hus]; exact r2, hl, fun _ => hssd, ?_, ?_, fun e he => (by cases he), by simp [Cp8], by simp [Cp8]⟩
 ·show d.torn.length + (if d.down = true then 0 else 1) <= 1000
  split <;> omega
 ·intro row hrow
  have : row = [] := List.eq_of_mem_replicate hrow
  subst this
  exact ⟨by show ((([] : List C9).length : Nat) : Int) <= sc.ways; have := k.wy; simp; omega, by simp, by simp⟩
 ·show 1 <= (List.replicate sc.sets.toNat []).length
  rw [List.length_replicate]
  have := k.st; omega
 ·intro row hrow x hx
  have : row = [] := List.eq_of_mem_replicate hrow
  subst this
  cases hx
 ·show ((([] : List Int).length : Nat) : Int) <= sc.ghost
  have := k.gs; simp; omega
 ·intro q hq
  rcases hq with hq | hq
  ·obtain ⟨h, hh, rfl⟩ := List.mem_map.1 (show q ∈ (K8 d).map Bt4 from hq)
   exact (At9 hh).1
  ·cases hq
 ·intro x hx
  obtain ⟨i, hi, rfl⟩ := List.getElem_of_mem (show x ∈ r.1 from hx)
  have hi2 : i < d.bs.length := by omega
  obtain ⟨y, hy, hw, -⟩ := hssd i _ (List.getElem?_eq_getElem hi2)
  rw [List.getElem?_eq_getElem hi] at hy
  obtain rfl := Option.some.inj hy
  have h1 := ok.nx _ (List.getElem_mem hi2)
  have h2 := ok.c.w
  rw [hw]
  omega
 ·exact Bn9 (K8 d) 0 (by decide) (by decide) fun h hh => (At9 hh).2
theorem A32 : ∀ (l : List LE) {s : Sto} {M : Nat}, SOk s M -> (∀ x ∈ l, W1 .i64 x.2.2.1) -> SOk (At1 l s) (M + l.length) /\ (At1 l s).q = s.q /\ (At1 l s).down = s.down
 | [], s, M, h, _ => ⟨h, rfl, rfl⟩
 | x :: r, s, M, h, hw => by
  have h1 := h.list x.1 x.2 (hw x (by simp))
  have h2 := A32 r h1 fun y hy => hw y (by simp [hy])
  exact ⟨h2.1.upto (by simp; omega), h2.2.1, h2.2.2⟩
theorem Bm2 (kind : Int) : ∀ (l : List HD), (∀ h ∈ l, h.2.2.length <= 256) -> (Bs8 kind l).length <= l.length * 256
 | [], _ => by simp [Bs8]
 | x :: r, h => by
  have h1 := h x (by simp)
  have h2 := Bm2 kind r fun y hy => h y (by simp [hy])
  have h3 := List.length_filter_le (fun y : It => decide (y.1 = kind)) x.2.2
  have e : Bs8 kind (x :: r) = ((x.2.2.filter fun y => decide (y.1 = kind)).map fun y => (x, y)) ++ Bs8 kind r := rfl
  rw [e, List.length_append, List.length_map, List.length_cons]
  omega
theorem B49 {d : Dev} (ok : S3 d) : (R8 d).length <= 4096 := by
 have h1 : (R8 d).length <= (Co4 d (K8 d)).length := List.length_filter_le ..
 have h2 : (Co4 d (K8 d)).length <= (Bs8 2 (K8 d)).length := List.length_filterMap_le ..
 have h3 := Bm2 2 (K8 d) fun h hh => (At9 hh).1.1
 have h4 := (Q7 epK (A90 d d.c.B)).length_eq
 have h5 := Ao7 d d.c.B
 have h6 := ok.c.b
 have h7 : (K8 d).length <= 16 := by unfold K8; omega
 omega
theorem B47 {d : Dev} : ∀ x ∈ R8 d, W1 .i64 x.2.2.1 := fun x hx => by have := (B48 hx).page; exact A65 (by omega)
theorem undDev : Aw4 PP 23 = true := by kernel_rfl
theorem neDev {L : A4} (a b c d a' b' c' d' : Int) {k : ShV (.lf .bool) -> HP} (hk : k (!decide ((a, b, c, d) = (a', b', c', d'))) L) :
  smP PP (binOp .neq 23 (.agg #[.i a, .i b, .i c, .i d]) (.agg #[.i a', .i b', .i c', .i d'])) (.lf .bool) k L := by
 refine Cr2 (r := (a == a' && (b == b' && (c == c' && (d == d' && true))))) undDev (by kernel_rfl) ?_
 have e : decide ((a, b, c, d) = (a', b', c', d')) = (a == a' && (b == b' && (c == c' && (d == d' && true)))) := by
  rw [Bool.eq_iff_iff]; simp
 rw [e] at hk; exact hk
def C34 (x : Cb9) (d : Dev) : Prop := (((d.c.B : Int), (d.c.P : Int), (d.c.S : Int), (d.c.W : Int)) = (x.1, x.2.1, x.2.2.1, x.2.2.2.1)) /\ (1 <= x.2.2.2.2.1 /\ x.2.2.2.2.1 <= 64 /\ 1 <= x.2.2.2.2.2.1 /\ x.2.2.2.2.2.1 <= 8) /\ fitB x = true
instance (x : Cb9) (d : Dev) : Decidable (C34 x d) := by unfold C34; infer_instance
def A21 (x : Cb9) (d : Dev) (now : Int) : Option Sto × Int :=
 if C34 x d then (if d.down = true then (none, 11) else match Ci3 (Cq0 x d) d now with
  | none => (none, 2)
  | some s => (some s, 0)) else (none, 30)
theorem C33 {x : Cb9} {d : Dev} (h : C34 x d) : ScOk (Cq0 x d) := by
 obtain ⟨h1, h2, h3⟩ := h
 unfold fitB P4 at h3
 simp only [Bool.and_eq_true, decide_eq_true_eq] at h3
 obtain ⟨⟨⟨⟨a, b⟩, c⟩, e⟩, f⟩ := h3
 exact ⟨⟨h2.1, h2.2.1⟩, ⟨h2.2.2.1, h2.2.2.2⟩, a, b⟩
def OpenK (x : Cb9) (m : Nat) (d : Dev) (now : Int) (A : A4) (r : Value) (L' : A4) : Prop :=
 (∃ e, A21 x d now = (none, e) /\ e ≠ 0 /\ r = .tuple #[.pointer none, .i e] /\ L' = A) \/
 (∃ s p g, A21 x d now = (some s, 0) /\ r = .tuple #[.pointer (some ⟨p.n, 0, none⟩), .i 0] /\ p.m = m /\ L' = SL p s g /\ SX p s g /\ N3 s (R8 d).length)
def Cq7 (m : Nat) (nb : Option Addr) (nk nr nq ng ni : Nat) (sc : SC) (ep : Int) : List Value :=
  [.i sc.c.B, .i sc.c.P, .i sc.c.S, .i sc.c.W, .i sc.sets, .i sc.ways, .i sc.small, .i sc.ghost, .i sc.rate, .i sc.burst, .i sc.seed,
   .pointer (some ⟨m, 0, none⟩), .pointer nb, .pointer (some ⟨nk, 0, none⟩), .map (some nr), .pointer none, .i ep, .slice none 0 0, .bool false,
   .pointer (some ⟨nq, 0, none⟩), .pointer (some ⟨ng, 0, none⟩), .pointer (some ⟨ni, 0, none⟩)]
theorem Bz1 (L : A4) (x : Cb9) (now : Int) : Reads PP 36 #[.agg #[.i x.1, .i x.2.1, .i x.2.2.1, .i x.2.2.2.1, .i x.2.2.2.2.1, .i x.2.2.2.2.2.1, .i x.2.2.2.2.2.2.1, .i x.2.2.2.2.2.2.2.1, .i x.2.2.2.2.2.2.2.2.1, .i x.2.2.2.2.2.2.2.2.2.1, .i x.2.2.2.2.2.2.2.2.2.2.1], .pointer none, .i now] L (.tuple #[.pointer none, .i 1]) := by
 unfold Reads
 refine c36 x none now ?_
 unfold s36
 exact ifT rfl (.of ⟨rfl, rfl⟩)
theorem Cf0 (m : Nat) (d : Dev) (A : A4) (h : FH m d A) (ok : S3 d) (hfew : d.torn.length <= 999) (x : Cb9) (now : Int) :
  CallF PP 36 #[.agg #[.i x.1, .i x.2.1, .i x.2.2.1, .i x.2.2.2.1, .i x.2.2.2.2.1, .i x.2.2.2.2.2.1, .i x.2.2.2.2.2.2.1, .i x.2.2.2.2.2.2.2.1, .i x.2.2.2.2.2.2.2.2.1, .i x.2.2.2.2.2.2.2.2.2.1, .i x.2.2.2.2.2.2.2.2.2.2.1], .pointer (some ⟨m, 0, none⟩), .i now] A (OpenK x m d now A) := by
 refine c36 x (some ⟨m, 0, none⟩) now ?_
 unfold s36
 have hP := ok.c.p
 have hB := ok.c.b
 refine ifF rfl ?_
 have bad : ∀ {L J : A4}, L.Perm (A ++ J) -> ¬ C34 x d -> HL.Ends (OpenK x m d now A) (.tuple #[.pointer none, .i 30]) L := fun {L J} hp hn => .drop (A := A) (J := J) (.inl ⟨30, by unfold A21; rw [if_neg hn], by decide, rfl, rfl⟩) hp
 by_cases hsw : 1 <= x.2.2.2.2.1 /\ x.2.2.2.2.1 <= 64 /\ 1 <= x.2.2.2.2.2.1 /\ x.2.2.2.2.2.1 <= 8
 ·obtain ⟨sets, hsets⟩ : ∃ k : Nat, x.2.2.2.2.1 = k := ⟨x.2.2.2.2.1.toNat, by omega⟩
  have hnew := C10 sets x.2.2.2.2.2.1 (by omega) (by omega) hsw.2.2.1 hsw.2.2.2
  rw [<- hsets] at hnew
  refine G9 (A := []) (R := A) hnew (List.Perm.refl _) ?_
  rintro _ Ai ⟨ni, rfl, hAi⟩
  refine ⟨_, List.Perm.refl _, (some ⟨ni, 0, none⟩, 0, ()), rfl, ?_⟩
  have hp1 : (Ai ++ A).Perm (A ++ Ai) := List.perm_append_comm
  generalize Ai ++ A = L1 at hp1
  refine Y6 (fun _ L' => C34 x d /\ L' = L1) ?_ ?_
  ·rintro _ _ ⟨hcfg, rfl⟩
   dsimp only
   have hsc := C33 hcfg
   obtain ⟨sc, hscd⟩ : ∃ sc, sc = Cq0 x d := ⟨_, rfl⟩
   cases hdn : d.down with
   | true =>
    refine G9 (B12 m d A h hdn) hp1 ?_
    rintro _ _ ⟨rfl, hA'⟩
    rw [hA']
    refine ⟨_, List.Perm.refl _, ((⟨none, 0, 0⟩, ⟨none, 0, 0⟩, 0, ()), 11, ()), rfl, ifN (show ¬ ((11 : Int) = 0) by decide) ?_⟩
    exact .drop (A := A) (J := Ai) (.inl ⟨11, by unfold A21; rw [if_pos hcfg, if_pos hdn], by decide, rfl, rfl⟩) (List.Perm.refl _)
   | false =>
    have hoe : A21 x d now = (match Ci3 sc d now with
      | none => (none, 2)
      | some s => (some s, 0)) := by unfold A21; rw [if_pos hcfg, if_neg (by rw [hdn]; decide), hscd]
    refine G9 (Cg4 m d A h ok hdn) hp1 ?_
    rintro _ _ ⟨lv, hs, hseg, vv, vseg, rfl, rfl, own, hok, hdat, vown⟩
    refine ⟨_, List.Perm.refl _, ((lv, vv, A28 (K8 d), ()), 0, ()), rfl, ifP rfl ?_⟩
    dsimp only
    have hp2 : ((hseg ++ (R6 hs ++ (vseg ++ A))) ++ Ai).Perm (R6 hs ++ (hseg ++ (vseg ++ (A ++ Ai)))) := pc fun z => by simp only [B7]; omega
    generalize (hseg ++ (R6 hs ++ (vseg ++ A))) ++ Ai = L2 at hp2
    refine G9 (A := []) (R := L2) (Cn6 x.2.2.2.2.2.2.2.2.1 x.2.2.2.2.2.2.2.2.2.1 now 0) (List.Perm.refl _) ?_
    rintro _ _ ⟨nk, rfl, rfl⟩
    refine ⟨(nk, A02 (Aj4 x.2.2.2.2.2.2.2.2.1 x.2.2.2.2.2.2.2.2.2.1 now 0)) :: L2, List.Perm.refl _, (some ⟨nk, 0, none⟩, ()), rfl, ?_⟩
    refine G9 (A := []) (R := (nk, A02 (Aj4 x.2.2.2.2.2.2.2.2.1 x.2.2.2.2.2.2.2.2.2.1 now 0)) :: L2) (Ch1 x.2.2.2.2.2.2.1) (List.Perm.refl _) ?_
    rintro _ Aq ⟨nq, rfl, hAq⟩
    refine ⟨Aq ++ ((nk, A02 (Aj4 x.2.2.2.2.2.2.2.2.1 x.2.2.2.2.2.2.2.2.2.1 now 0)) :: L2), List.Perm.refl _, (some ⟨nq, 0, none⟩, ()), rfl, ?_⟩
    refine G9 (A := []) (R := Aq ++ ((nk, A02 (Aj4 x.2.2.2.2.2.2.2.2.1 x.2.2.2.2.2.2.2.2.2.1 now 0)) :: L2)) (C19 x.2.2.2.2.2.2.2.1) (List.Perm.refl _) ?_
    rintro _ _ ⟨ng, go, rfl, rfl, hgo⟩
    refine ⟨(ng, go) :: (Aq ++ ((nk, A02 (Aj4 x.2.2.2.2.2.2.2.2.1 x.2.2.2.2.2.2.2.2.2.1 now 0)) :: L2)), List.Perm.refl _, (some ⟨ng, 0, none⟩, ()), rfl, C3 fun n3 _ => C3 fun n4 _ => ?_⟩
    have hsm := hsc.sm
    have hgs := hsc.gs
    have esm : Ab4 x.2.2.2.2.2.2.1 0 = sc.small := by rw [hscd]; show Ab4 (Cq0 x d).small 0 = _; unfold Ab4; split <;> omega
    have egs : Y1 (Ab4 x.2.2.2.2.2.2.2.1 0) 64 = sc.ghost := by rw [hscd]; show Y1 (Ab4 (Cq0 x d).ghost 0) 64 = _; unfold Ab4 Y1; split <;> split <;> omega
    rw [esm] at hAq
    rw [egs] at hgo
    obtain ⟨F, hF⟩ : ∃ F : A4, F = hseg ++ (vseg ++ (A ++ (Ai ++ ((nk, A02 (Aj4 sc.rate sc.burst now 0)) :: (Aq ++ [(ng, go)]))))) := ⟨_, rfl⟩
    obtain ⟨so, hso⟩ : ∃ so : Nat × Obj, so = (n4, Obj.cells (Cq7 m none nk n3 nq ng ni sc (A28 (K8 d))).toArray 89) := ⟨_, rfl⟩
    have hdc : ((d.c.B : Int), (d.c.P : Int), (d.c.S : Int), (d.c.W : Int)) = (x.1, x.2.1, x.2.2.1, x.2.2.2.1) := hcfg.1
    simp only [Prod.mk.injEq] at hdc
    have eso : (n4, Obj.cells #[.i x.1, .i x.2.1, .i x.2.2.1, .i x.2.2.2.1, .i x.2.2.2.2.1, .i x.2.2.2.2.2.1, .i x.2.2.2.2.2.2.1, .i x.2.2.2.2.2.2.2.1, .i x.2.2.2.2.2.2.2.2.1, .i x.2.2.2.2.2.2.2.2.2.1, .i x.2.2.2.2.2.2.2.2.2.2.1, .pointer (some ⟨m, 0, none⟩), .pointer none, .pointer (some ⟨nk, 0, none⟩), .map (some n3), .pointer none, .i (A28 (K8 d)), .slice none 0 0, .bool false, .pointer (some ⟨nq, 0, none⟩), .pointer (some ⟨ng, 0, none⟩), .pointer (some ⟨ni, 0, none⟩)] 89) = so := by
     rw [hso, hscd, <- hdc.1, <- hdc.2.1, <- hdc.2.2.1, <- hdc.2.2.2]; rfl
    rw [eso]
    have hhl : hs.length <= 16 := by
     have h1 := congrArg List.length hdat
     rw [List.length_map] at h1
     have h2 := (Q7 epK (A90 d d.c.B)).length_eq
     have h3 := Ao7 d d.c.B
     unfold K8 at h1
     omega
    have hlv := own.sl.els_len HE.enc_len (by decide)
    have hnd : (hs.map HE.b).Nodup := by
     have h1 := Bw3 d
     unfold blkR at h1
     rw [<- hdat, List.map_map] at h1
     exact h1
    have l14 : ∀ {L : A4}, so ∈ L -> D0 ⟨n4, 14, none⟩ [.map (some n3)] L := fun hm => by rw [hso] at hm; exact ldC hm rfl
    refine G0 (fun z' z L' => ∃ (i : Nat) (ns : List RN) (uv : SlV) (useg : A4) (es : Array MapEntry) (ck : Nat) (J : A4), z = (uv, (i : Int), ()) /\ z' = hs.length - i /\ i <= hs.length /\ ns.map RN.r = (hs.take i).map (fun q => Bt4 q.dat) /\ (∀ y ∈ ns, y.Ok) /\ Mp (Value.i) es (T9 ns) /\ Own uv 1 Bq0 (ivs .i64 ((hs.take i).map HE.b)) useg /\ L'.Perm (so :: ((n3, Obj.map es ck) :: (useg ++ (rns ns ++ (R6 (hs.drop i) ++ (F ++ J))))))) hs.length
     ⟨0, [], ⟨none, 0, 0⟩, [], #[], 0, [], rfl, rfl, by omega, rfl, by simp, rfl, F7, (pc fun z => by have := pcn hp2 z; rw [hF, hscd]; simp only [List.drop_zero, show rns [] = [] from rfl, show (Cq0 x d).rate = x.2.2.2.2.2.2.2.2.1 from rfl, show (Cq0 x d).burst = x.2.2.2.2.2.2.2.2.2.1 from rfl, B7, C5, D8] at *; omega)⟩ ?_
    rintro z' z L3 ⟨i, ns, uv, useg, es, ck, J, rfl, rfl, hi, hnr, hnok, hmp, hus, hp3⟩
    dsimp only
    have hseg3 : ∀ y ∈ hseg, y ∈ L3 := fun y hy => hp3.symm.subset (by rw [hF]; simp [hy])
    have hso3 : so ∈ L3 := hp3.symm.subset (by simp)
    refine C0 (fun (hlt : (i : Int) < lv.len) => ?_) (fun (hge : ¬ (i : Int) < lv.len) => ?_)
    ·have hi' : i < hs.length := by omega
     refine V5 HE.enc_len (by decide) (own.sl.mono hseg3) (n := i) rfl hi' fun a ha => ?_
     have hdrop : hs.drop i = hs[i] :: hs.drop (i + 1) := List.drop_eq_getElem_cons hi'
     have htake : hs.take (i + 1) = hs.take i ++ [hs[i]] := List.take_succ_eq_append_getElem hi'
     have hbn : hs[i].b ∉ (hs.take i).map HE.b := by
      have h1 := hnd
      rw [<- List.take_append_drop i hs, hdrop, List.map_append, List.map_cons, List.nodup_append] at h1
      exact fun hm => h1.2.2 _ hm _ (by simp) rfl
     have hqok := hok _ (List.getElem_mem hi')
     generalize hs[i] = q at ha hdrop htake hbn hqok
     refine A6 (sh := .agg [.int .i64, .int .i64, .sl]) (q.b, q.ep, q.v, ()) ha ?_
     have huv := hus.sl.len
     rw [Nat.mul_one, K9, List.length_map, List.length_take] at huv
     refine Af6 A49 By9 hus (Y := so :: ((n3, Obj.map es ck) :: (rns ns ++ (R6 (hs.drop i) ++ (F ++ J))))) (ws := [.i q.b]) (pc fun z => by have := pcn hp3 z; simp only [B7, C5] at *; omega) rfl rfl (by omega) fun uv' useg' hl' hus' => ?_
     refine A6 (some n3) (l14 (by simp)) (C3 fun n7 _ => ?_)
     obtain ⟨y, hy⟩ : ∃ y : RN, y = ⟨Bt4 q.dat, n7, q.v, q.seg⟩ := ⟨_, rfl⟩
     have eyo : (n7, Obj.cells #[Value.i q.b, .i q.ep, .i 0, .slice q.v.a q.v.len q.v.cap] 156) = y.o := by rw [hy]; rfl
     rw [eyo]
     refine Ah1 mapR (r := n3) (es := es) (clock := ck) (m := T9 ns) (Y := y.o :: (so :: (useg' ++ (rns ns ++ (R6 (hs.drop i) ++ (F ++ J)))))) (pc fun z => by simp only [B7, C5]; omega) hmp q.b (.pointer (some ⟨n7, 0, none⟩)) fun es' ck' L4 hmp' hp4 => ?_
     refine D9 (by omega) ⟨hs.length - (i + 1), by omega, i + 1, ns ++ [y], uv', useg', es', ck', J, rfl, rfl, by omega, ?_, ?_, ?_, ?_, ?_⟩
     ·rw [htake, List.map_append, List.map_append, hnr, hy]; rfl
     ·intro w hw
      rcases List.mem_append.1 hw with hw | hw
      ·exact hnok w hw
      ·rw [List.mem_singleton.1 hw, hy]; exact hqok
     ·rw [As5 _ _ _ (by rw [Ay2, hnr, List.map_map]; exact hbn)] at hmp'
      have : T9 (ns ++ [y]) = T9 ns ++ [(q.b, .pointer (some ⟨n7, 0, none⟩))] := by unfold T9; rw [List.map_append, hy]; rfl
      rw [this]; exact hmp'
     ·rw [htake, List.map_append, Y7]; exact hus'
     ·refine pc fun z => ?_
      have := pcn hp4 z
      have e1 : y.objs = y.o :: q.seg := by rw [hy]; rfl
      rw [hdrop] at this
      have e2 : R6 (q :: hs.drop (i + 1)) = q.seg ++ R6 (hs.drop (i + 1)) := rfl
      rw [e2] at this
      rw [B08, Ak1, e1]
      simp only [B7, C5] at *
      omega
    ·obtain rfl : i = hs.length := by omega
     rw [List.take_length] at hnr hus
     rw [List.drop_length] at hp3
     have hregs : (hs.map fun q => Bt4 q.dat) = Ac0 d := by unfold Ac0; rw [<- hdat, List.map_map]; rfl
     rw [hregs] at hnr
     have hub : hs.map HE.b = (Ac0 d).map Reg.b := by rw [<- hregs, List.map_map]; rfl
     rw [hub] at hus
     have hul := hus.sl.len
     rw [Nat.mul_one, K9] at hul
     have hulen : ((Ac0 d).map Reg.b).length <= 16 := by rw [<- hub, List.length_map]; exact hhl
     refine G9 (Bs5 m d A h ok) (R := so :: ((n3, Obj.map es ck) :: (useg ++ (rns ns ++ (hseg ++ (vseg ++ (Ai ++ ((nk, A02 (Aj4 sc.rate sc.burst now 0)) :: (Aq ++ ((ng, go) :: J)))))))))) (pc fun z => by have := pcn hp3 z; rw [hF] at this; simp only [show R6 [] = [] from rfl, B7, C5, D8] at *; omega) ?_
     rintro _ _ ⟨sv, sseg, rfl, rfl, sown⟩
     refine ⟨_, List.Perm.refl _, (sv, ()), rfl, ?_⟩
     refine Q2 (C38 _ sv (Bs3 d) (sown.sl.mono fun y hy => by simp [hy]) uv ((Ac0 d).map Reg.b) (hus.sl.mono fun y hy => by simp [hy]) (by omega)) ?_
     intro rv L5 _ hK
     unfold Av4 at hK
     cases hbn : Aj3 (Bs3 d) ((Ac0 d).map Reg.b) with
     | none =>
      rw [hbn] at hK
      obtain ⟨rfl, rfl⟩ := hK
      refine ⟨(none, 2, ()), rfl, ?_⟩
      have hos : A21 x d now = (none, 2) := by rw [hoe]; unfold Ci3; rw [hbn]; rfl
      refine st1 (n := n4) (k := 12) (Cq7 m none nk n3 nq ng ni sc (A28 (K8 d))) (cs := Cq7 m none nk n3 nq ng ni sc (A28 (K8 d))) (T := 89) (Y := sseg ++ (A ++ ((n3, Obj.map es ck) :: (useg ++ (rns ns ++ (hseg ++ (vseg ++ (Ai ++ ((nk, A02 (Aj4 sc.rate sc.burst now 0)) :: (Aq ++ ((ng, go) :: J))))))))))) (pc fun z => by rw [<- hso]; simp only [B7, C5]; omega) (by simp [Cq7]) rfl fun L6 hp6 => ?_
      refine ifN (show ¬ ((2 : Int) = 0) by decide) ?_
      rw [<- hso] at hp6
      exact .drop (A := A) (J := so :: (sseg ++ ((n3, Obj.map es ck) :: (useg ++ (rns ns ++ (hseg ++ (vseg ++ (Ai ++ ((nk, A02 (Aj4 sc.rate sc.burst now 0)) :: (Aq ++ ((ng, go) :: J))))))))))) (.inl ⟨2, hos, by decide, rfl, rfl⟩) (pc fun z => by have := pcn hp6 z; simp only [B7, C5] at *; omega)
     | some rr =>
      rw [hbn] at hK
      obtain ⟨nb, Ab, rfl, rfl, hAb, -⟩ := hK
      refine ⟨(some ⟨nb, 0, none⟩, 0, ()), rfl, ?_⟩
      obtain ⟨r1, r2, r3, r4⟩ := Br0 hbn
      obtain ⟨s0, hs0⟩ : ∃ s0, s0 = Cp8 sc d now rr.1 := ⟨_, rfl⟩
      have hos : A21 x d now = (some (At1 (R8 d) s0), 0) := by rw [hoe]; unfold Ci3; rw [hbn, hs0]; rfl
      obtain ⟨p, hp⟩ : ∃ p : SP, p = ⟨n4, m, nb, nk, n3, nq, ng, ni⟩ := ⟨_, rfl⟩
      obtain ⟨g, hg⟩ : ∃ g : SG, g = ⟨ns, none, es, ck, ⟨none, 0, 0⟩, [], A, Ab, Aq, Ai, go⟩ := ⟨_, rfl⟩
      have hcc : d.c = sc.c := by rw [hscd]; rfl
      have hX : SX p s0 g := by
       subst hp; subst hg; subst hs0
       refine ⟨hcc, h, ?_, hAq, hgo, ?_, ?_, hnr, rfl, ?_, F7⟩
       ·have e : (Cp8 sc d now rr.1).us = rr.2 := by rw [r1]; show (Ac0 d).map Reg.b ++ [] = _; simp
        rw [e]; exact hAb
       ·have e : sc.sets.toNat = sets := by rw [hscd]; show x.2.2.2.2.1.toNat = sets; omega
        show IX ni sc.ways (List.replicate sc.sets.toNat []) Ai
        rw [e, hscd]; exact hAi
       ·show Mp _ es (T9 (ns ++ []))
        rw [List.append_nil]; exact hmp
       ·intro y hy
        have : y ∈ ns := by unfold SG.all at hy; simpa using hy
        exact hnok y this
      have hst : stO p s0 g = (n4, Obj.cells (Cq7 m (some ⟨nb, 0, none⟩) nk n3 nq ng ni sc (A28 (K8 d))).toArray 89) := by
       subst hp; subst hg; subst hs0; rfl
      refine st1 (n := n4) (k := 12) (Cq7 m (some ⟨nb, 0, none⟩) nk n3 nq ng ni sc (A28 (K8 d))) (cs := Cq7 m none nk n3 nq ng ni sc (A28 (K8 d))) (T := 89) (Y := Ab ++ (sseg ++ (A ++ ((n3, Obj.map es ck) :: (useg ++ (rns ns ++ (hseg ++ (vseg ++ (Ai ++ ((nk, A02 (Aj4 sc.rate sc.burst now 0)) :: (Aq ++ ((ng, go) :: J)))))))))))) (pc fun z => by rw [<- hso]; simp only [B7, C5]; omega) (by simp [Cq7]) rfl fun L6 hp6 => ?_
      rw [<- hst] at hp6
      have hp6 : L6.Perm (SL p s0 g ++ (vseg ++ (sseg ++ (useg ++ (hseg ++ J))))) := pc fun z => by
       have := pcn hp6 z
       have e2 : kO p s0 = (nk, A02 (Aj4 sc.rate sc.burst now 0)) := by rw [hp, hs0]; rfl
       have e3 : mO p g = (n3, Obj.map es ck) := by rw [hp, hg]; rfl
       have e4 : gO p g = (ng, go) := by rw [hp, hg]; rfl
       simp only [SL, e2, e3, e4, B7, C5, D8]
       simp only [hg, show rns (none : Option RN).toList = [] from rfl, B7, C5, D8] at *
       omega
      refine ifP rfl ?_
      have hk0 : SOk s0 0 := by rw [hs0]; exact Cv7 ok hcc hdn hfew (by rw [hscd]; exact hsc) hbn
      have hll := vown.sl.els_len LE.enc_len (by decide)
      have hvle := B49 ok
      refine G0 (fun z' z L' => ∃ (i : Nat) (g' : SG), z = ((i : Int), ()) /\ z' = (R8 d).length - i /\ i <= (R8 d).length /\ SX p (At1 ((R8 d).take i) s0) g' /\ L'.Perm (SL p (At1 ((R8 d).take i) s0) g' ++ (vseg ++ (sseg ++ (useg ++ (hseg ++ J)))))) (R8 d).length ⟨0, g, rfl, rfl, by omega, hX, hp6⟩ ?_
      rintro z' z L7 ⟨i, g', rfl, rfl, hi, X', hp7⟩
      dsimp only
      refine C0 (fun (hlt : (i : Int) < vv.len) => ?_) (fun (hge : ¬ (i : Int) < vv.len) => ?_)
      ·have hi' : i < (R8 d).length := by omega
       have htake : (R8 d).take (i + 1) = (R8 d).take i ++ [(R8 d)[i]] := List.take_succ_eq_append_getElem hi'
       refine V5 LE.enc_len (by decide) (vown.sl.mono fun y hy => hp7.symm.subset (by simp [hy])) (n := i) rfl hi' fun a ha => ?_
       have hlk := A32 ((R8 d).take i) hk0 fun y hy => B47 y (List.mem_of_mem_take hy)
       have hks : ((R8 d)[i]).1.size <= 1000000 := by
        have := (B48 (List.getElem_mem hi')).fetch.2
        rw [<- this, Bb2]
        have := (Bc9 d ((R8 d)[i]).2).1
        omega
       generalize (R8 d)[i] = y at ha htake hks
       refine A6 (sh := .agg [.str, .int .i64, .int .i64, .int .i64]) y ha ?_
       have hnp : (⟨n4, 0, none⟩ : Addr) = ⟨p.n, 0, none⟩ := by rw [hp]
       rw [hnp]
       refine G9 (Bm1 p _ g' X' hlk.1.wy.1 y.1 hks (hlk.1.row _).len (Nat.le_trans hlk.1.pl (by rw [List.length_take]; omega)) y.2) hp7 ?_
       rintro _ _ ⟨g2, hL2, X2, rfl⟩
       rw [List.append_nil] at hL2
       rw [hL2]
       have hls : At1 ((R8 d).take (i + 1)) s0 = (At1 ((R8 d).take i) s0).list y.1 y.2 := by rw [htake]; unfold At1; rw [List.foldl_append]; rfl
       refine ⟨_, List.Perm.refl _, (), rfl, D9 (by omega) ⟨(R8 d).length - (i + 1), by omega, i + 1, g2, rfl, rfl, by omega, by rw [hls]; exact X2, by rw [hls]⟩⟩
      ·obtain rfl : i = (R8 d).length := by omega
       rw [List.take_length] at X' hp7
       have hlk := A32 (R8 d) hk0 B47
       refine .drop (A := SL p (At1 (R8 d) s0) g') (J := vseg ++ (sseg ++ (useg ++ (hseg ++ J)))) (.inr ⟨_, p, g', hos, by rw [hp], by rw [hp], rfl, X', ⟨hlk.1.upto (by omega), fun _ => by rw [hlk.2.1, hs0]; exact Nat.zero_le _⟩⟩) hp7
  ·intro j1 hj1
   refine B3 (Z4 ⟨Ai, hp1⟩ h) ((d.c.B, d.c.P, d.c.S, d.c.W, ()), ()) rfl ?_
   refine neDev _ _ _ _ _ _ _ _ ?_
   refine G2 (fun hne => bad hp1 fun hc => ?_) (fun hne => ?_)
   ·rw [show decide (((d.c.B : Int), (d.c.P : Int), (d.c.S : Int), (d.c.W : Int)) = (x.1, x.2.1, x.2.2.1, x.2.2.2.1)) = true from decide_eq_true hc.1] at hne
    cases hne
   ·have heq : (((d.c.B : Int), (d.c.P : Int), (d.c.S : Int), (d.c.W : Int)) = (x.1, x.2.1, x.2.2.1, x.2.2.2.1)) := by
     by_cases hh : (((d.c.B : Int), (d.c.P : Int), (d.c.S : Int), (d.c.W : Int)) = (x.1, x.2.1, x.2.2.1, x.2.2.2.1))
     ·exact hh
     ·rw [show decide (((d.c.B : Int), (d.c.P : Int), (d.c.S : Int), (d.c.W : Int)) = (x.1, x.2.1, x.2.2.1, x.2.2.2.1)) = false from decide_eq_false hh] at hne
      cases hne
    have hq := heq
    simp only [Prod.mk.injEq] at hq
    refine ifP rfl ?_
    refine B3 (fit_rd L1 x (by omega)) (fitB x, ()) rfl ?_
    exact G2 (fun hf => hj1 _ _ ⟨⟨heq, hsw, hf⟩, rfl⟩) (fun hf => bad hp1 fun hc => by have h9 := hc.2.2; rw [show fitB x = false from hf] at h9; cases h9)
 ·refine B3 (Ck5 A x.2.2.2.2.1 x.2.2.2.2.2.1 (by omega)) (none, 30, ()) rfl ?_
  have hn : ¬ C34 x d := fun hc => hsw hc.2.1
  refine Y6 (fun _ _ => False) (fun _ _ hf => hf.elim) fun j1 _ => ?_
  refine B3 (Z4 ⟨[], by simp⟩ h) ((d.c.B, d.c.P, d.c.S, d.c.W, ()), ()) rfl ?_
  refine neDev _ _ _ _ _ _ _ _ ?_
  exact G2 (fun _ => bad (J := []) (by simp) hn) (fun _ => ifN (show ¬ ((30 : Int) = 0) by decide) (bad (J := []) (by simp) hn))
def exC : Cfg := ⟨4, 8, 64, 1000⟩
def exX : Cb9 := (4, 8, 64, 1000, 4, 4, 12, 8, 1000, 4000, 0, ())
def kA : ByteArray := ByteArray.mk #[97]
def kB : ByteArray := ByteArray.mk #[98]
def kC : ByteArray := ByteArray.mk #[99]
def v5 : List UInt8 := [49, 50, 51, 52, 53]
def v1 : List UInt8 := [49]
def exD : Dev := fresh exC
def exS0 : Sto := Cp8 (Cq0 exX exD) exD 0 (List.replicate 4 ⟨0, false, false⟩)
def Cs6 : Sto := exS0.tick 9
def Cs5 : Sto := (Cs6.put kA v5).1
def Cs4 : Sto := (Cs5.put kB v5).1
def Bx3 : Sto := (Cs4.put kC v1).1
def C26 : Sto := (Bx3.put kA v1).1
def Cs3 : Sto := (C26.get kA).1
def B85 : Sto := (Cs3.delete kA).1
def C25 : Sto := B85.flush.1
def Bf2 : Sto := (C25.get kA).1
theorem ex0 : A21 exX exD 0 = (some exS0, 0) := by kernel_rfl
theorem ex2 : (Cs6.put kA v5).2 = 0 := by kernel_rfl
theorem ex3 : (Cs5.put kB v5).2 = 0 := by kernel_rfl
theorem ex4 : (Cs4.put kC v1).2 = 0 := by kernel_rfl
theorem ex4g : Bx3.ghosted kA = true := by kernel_rfl
theorem ex4h : Bx3.has kB = 1 := by kernel_rfl
theorem ex5 : (Bx3.put kA v1).2 = 0 := by kernel_rfl
theorem ex6 : (C26.get kA).2 = ([49], 0) := by kernel_rfl
theorem ex7 : (Cs3.delete kA).2 = (true, 0) := by kernel_rfl
theorem ex7p : B85.pend.length = 1 := by kernel_rfl
theorem ex8 : B85.flush.2 = 0 := by kernel_rfl
theorem ex9 : (C25.get kA).2.2 = 8 := by kernel_rfl
theorem ex9q : Bf2.q.length = 2 := by kernel_rfl
theorem ex9l : ilen Bf2.ix = 0 := by kernel_rfl
theorem ex9t : Bf2.bk.tokens = 3808 := by kernel_rfl
theorem exd7 : B85.down = false := by kernel_rfl
theorem exd9 : Bf2.down = false := by kernel_rfl
theorem N3.tick {s : Sto} {M : Nat} (h : N3 s M) (now : Int) : N3 (s.tick now) M /\ (s.tick now).sc = s.sc := by
 unfold Sto.tick
 split
 ·exact ⟨h, rfl⟩
 ·exact ⟨⟨{ h.ok with dv := h.ok.dv, bk := Ca6 h.ok.bk now }, h.q⟩, rfl⟩
theorem C14 {l : List C9} {nm : Al6} : ∀ x ∈ An8 l nm, ∃ y ∈ l, x.p = y.p := fun x hx => by
 unfold An8 at hx
 split at hx
 ·rename_i i hi
  obtain ⟨j, hj, rfl⟩ := List.getElem_of_mem hx
  rw [List.length_modify] at hj
  refine ⟨l[j], List.getElem_mem hj, ?_⟩
  rw [List.getElem_modify]
  split <;> rfl
 ·exact ⟨x, hx, rfl⟩
theorem N3.get {s : Sto} {M : Nat} (h : N3 s M) (key : ByteArray) : N3 (s.get key).1 M /\ (s.get key).1.sc = s.sc := by
 unfold Sto.get
 split
 ·exact ⟨h, rfl⟩
 ·split
  ·refine ⟨⟨h.ok.setq (fun e he => ?_) (by unfold An9; rw [List.length_map]; exact h.ok.ql), fun hd => by show (An9 s.q key).length <= 65536; unfold An9; rw [List.length_map]; exact h.q hd⟩, rfl⟩
   unfold An9 at he
   obtain ⟨y, hy, rfl⟩ := List.mem_map.1 he
   have := h.ok.qs y hy
   split <;> exact this
  ·split
   ·exact ⟨h, rfl⟩
   ·refine ⟨⟨h.ok.ixset _ (Bo7 (h.ok.ixi.row (h.ok.isi _)) _) fun x hx => ?_, h.q⟩, rfl⟩
    obtain ⟨y, hy, e⟩ := C14 x hx
    rw [e]; exact h.ok.ixw _ (Ai6 (h.ok.isi _)) y hy
theorem N3.delete {s : Sto} {M : Nat} (h : N3 s M) (key : ByteArray) : N3 (s.delete key).1 (M + 1) /\ (s.delete key).1.sc = s.sc := by
 unfold Sto.delete
 split
 ·exact ⟨h.upto (by omega), rfl⟩
 ·obtain ⟨f1, f2, f3, f4, f5⟩ := h.ok.forget key
  exact ⟨⟨f1, fun hd => by show (s.forget key).1.q.length <= 65536; rw [f4]; exact Nat.le_trans (Z3 _ _) (h.q (f2 ▸ hd))⟩, f3⟩
theorem N3.flushes : ∀ (k : Nat) {s : Sto} {M : Nat}, N3 s M -> s.down = false -> N3 (Sto.flushes k s).1 M /\ (Sto.flushes k s).1.sc = s.sc
 | 0, s, M, h, hd => ⟨h, rfl⟩
 | k + 1, s, M, h, hd => by
  unfold Sto.flushes
  split
  ·exact ⟨h, rfl⟩
  ·obtain ⟨a1, a2, a3⟩ := h.ok.roomy hd (n := 1) (by decide)
   have aq : (s.roomy 1).1.q = s.q := (B07 1 (s.mu + 1) s).1
   dsimp only
   have adn := A12 1 (s.mu + 1) s
   have adn : (s.roomy 1).2 ≠ 11 -> (s.roomy 1).1.down = s.down := adn
   have aup : (s.roomy 1).2 = 11 -> (s.roomy 1).1.down = true := Bh1 1 (s.mu + 1) s
   generalize s.roomy 1 = w at a1 a2 a3 aq adn aup
   have iw : N3 w.1 M := ⟨a1, fun _ => by rw [aq]; exact h.q hd⟩
   split
   ·exact ⟨iw, a3⟩
   ·rename_i h0
    obtain ⟨b1, b2⟩ := a2 (by simpa using h0)
    split
    ·exact ⟨iw, a3⟩
    ·split
     ·exact ⟨iw, a3⟩
     ·obtain ⟨c1, c2⟩ := a1.write b1 3 [(V0 (w.1.pend.take (min w.1.pend.length (D7 w.1.sc.c.S / 6).toNat))).1]
      have cq := Bf3 w.1 3 [(V0 (w.1.pend.take (min w.1.pend.length (D7 w.1.sc.c.S / 6).toNat))).1]
      generalize w.1.write 3 [(V0 (w.1.pend.take (min w.1.pend.length (D7 w.1.sc.c.S / 6).toNat))).1] = z at c1 c2 cq
      have iz : N3 z.1 M := ⟨c1, fun _ => by rw [cq.1, aq]; exact h.q hd⟩
      split
      ·exact ⟨iz, cq.2.2.trans a3⟩
      ·rename_i h1
       have h1 : z.2.2 = 0 := by simpa using h1
       have i4 : N3 { z.1 with pend := z.1.pend.drop (min w.1.pend.length (D7 w.1.sc.c.S / 6).toNat) } M := ⟨{ c1 with dv := c1.dv, pl := by show (z.1.pend.drop _).length <= M; rw [List.length_drop]; have := c1.pl; omega }, iz.q⟩
       have := N3.flushes k i4 (c2 h1)
       exact ⟨this.1, this.2.trans (cq.2.2.trans a3)⟩
theorem N3.flush {s : Sto} {M : Nat} (h : N3 s M) : N3 s.flush.1 M /\ s.flush.1.sc = s.sc := by
 unfold Sto.flush
 split
 ·exact ⟨h, rfl⟩
 ·rename_i hd
  exact N3.flushes _ h (by simpa using hd)
end Go.Proofs.YtbaoieipijmakaaGreatDoor
