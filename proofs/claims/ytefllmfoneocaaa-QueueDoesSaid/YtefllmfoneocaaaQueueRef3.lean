/-
  It is proved what the document's answer for the layer queue does: Put, Peek, Get, Pop, Bytes. There are no further conditions than those that each theorem names.
-/
import Derived.Test.YtefllmfoneocaaaQueueRef2
set_option linter.unusedVariables false
set_option linter.unusedSimpArgs false
namespace Go.Proofs.Ytefllmfoneocaaa
open Go.HL

theorem add_ok {l : List QE} {e : QE} (ok : QOk l) (hfew : l.length < 100000) (hn : e.key ∉ l.map QE.key) (own : Own e.v 1 tyb (bvs e.val) e.seg) (hs : e.key.size ≤ 100000 ∧ e.val.length ≤ 100000) (hf : 0 ≤ e.freq ∧ e.freq ≤ 3) : QOk (l ++ [e]) := by
  refine ⟨fun x hx => ?_, fun x hx => ?_, ?_, ?_, fun x hx => ?_⟩
  · rcases List.mem_append.1 hx with h1 | h1
    · exact ok.own x h1
    · rw [List.mem_singleton.1 h1]; exact own
  · rcases List.mem_append.1 hx with h1 | h1
    · exact ok.small x h1
    · rw [List.mem_singleton.1 h1]; exact hs
  · rw [List.length_append]; simp only [List.length_cons, List.length_nil]; omega
  · rw [List.map_append, List.nodup_append]
    refine ⟨ok.nd, by simp, fun x hx y hy => ?_⟩
    simp only [List.map_cons, List.map_nil, List.mem_singleton] at hy
    rintro rfl
    rw [hy] at hx
    exact hn hx
  · rcases List.mem_append.1 hx with h1 | h1
    · exact ok.fr x h1
    · rw [List.mem_singleton.1 h1]; exact hf
theorem rqput_cl (m : Nat) (room : Int) (l : List QE) (A A0 : HList) (h : RQ m room l A) (hfew : l.length < 100000) (k : ByteArray) (hk : k.size ≤ 100000) (v : SlV) (b : List UInt8) (hv : BSl A0 v b) (hb : b.length ≤ 100000) :
    CallF PP 85 #[.pointer (some ⟨m, 0, none⟩), .string k, .slice v.a v.len v.cap] (A ++ A0)
      fun r L' => r = .tuple #[] ∧ ∃ A' e, L' = A' ++ A0 ∧ RQ m room (qdrop l k ++ [e]) A' ∧ e.key = k ∧ e.val = b ∧ e.freq = 0 := by
  refine CallF.of (args := [.pointer (some ⟨m, 0, none⟩), .string k, .slice v.a v.len v.cap]) noNum mixed Try.func85 (e85 (some ⟨m, 0, none⟩) k v _) ?_
  unfold t85
  have hnot : k ∉ (qdrop l k).map QE.key := by obtain ⟨_, _, _, _, ok⟩ := h; exact qdrop_not ok
  have hfew2 := qdrop_len l k
  refine cl_in [] A0 (rqdrop_cl m room l A h k) (by simp) ?_
  rintro _ _ - ⟨rfl, s, seg, rfl, own, ok⟩
  refine ⟨((qfind l k).isSome, ()), rfl, ?_⟩
  generalize qdrop l k = l1 at hnot hfew2 own ok ⊢
  have hlen := own.sl.els_len yEnc_len (by decide)
  have hvl := hv.len
  simp only [List.nil_append]
  refine nilc_of rfl (ld_of s (r_l List.mem_cons_self) (nw_of fun n1 _ => ?_))
  refine append_in elemY srcY [] (rO m room s :: (seg ++ segs l1) ++ A0) own_e rfl (.sl ((hv.right (R := rO m room s :: (seg ++ segs l1))).cons)) (bvs_plain _) (by first | omega | (simp only; omega)) fun v2 vs hv2 ownv => ?_
  rw [List.nil_append] at ownv
  refine keep_of (r_l (room := room) (by simp)) (nw_of fun n2 _ => ?_)
  obtain ⟨e, rfl, rfl, hfr0, rfl, rfl⟩ : ∃ e : QE, e.key = k ∧ e.val = b ∧ e.freq = 0 ∧ e.v = v2 ∧ e.seg = vs := ⟨⟨0, k, b, 0, v2, vs⟩, rfl, rfl, rfl, rfl, rfl⟩
  have hsrc : Sl ((n2, Obj.cells #[.string e.key, .slice e.v.a e.v.len e.v.cap, .int .i64 0] eYg) :: ([] ++ e.seg ++ (rO m room s :: (seg ++ segs l1) ++ A0))) ⟨some ⟨n2, 0, none⟩, 1, 1⟩ 3 ([e].flatMap yEnc) := by
    refine ⟨rfl, Nat.le_refl _, .inr ⟨_, rfl, ldB List.mem_cons_self ?_⟩⟩
    simp [yEnc, hfr0]
  refine append_in elemYg srcYg ((n2, Obj.cells #[.string e.key, .slice e.v.a e.v.len e.v.cap, .int .i64 0] eYg) :: (e.seg ++ [rO m room s])) (segs l1 ++ A0) own (by simp [List.append_assoc]) (.sl hsrc) (yEnc_plain _) (by first | omega | (simp only; omega)) fun s2 seg2 hs2 own2 => ?_
  rw [← List.flatMap_append] at own2
  have hok : QOk (l1 ++ [e]) := add_ok ok (by omega) hnot ownv ⟨hk, hb⟩ (by rw [hfr0]; omega)
  refine nilc_of rfl (st_of (n := m) (off := 1) (c := #[.int .i64 room, .slice s.a s.len s.cap]) (T := 65) (fz := (0, 0)) ((n2, Obj.cells #[.string e.key, .slice e.v.a e.v.len e.v.cap, .int .i64 0] eYg) :: e.seg) (seg2 ++ (segs l1 ++ A0)) rfl (by simp [rO]) (by simp) (.inl (Nat.le_refl _)) #[.int .i64 room, .slice s2.a s2.len s2.cap] rfl ?_)
  refine .drop (A := (rO m room s2 :: (seg2 ++ segs (l1 ++ [e]))) ++ A0) (J := [(n2, Obj.cells #[.string e.key, .slice e.v.a e.v.len e.v.cap, .int .i64 0] eYg)]) ⟨rfl, _, e, rfl, ⟨s2, seg2, rfl, own2, hok⟩, rfl, rfl, hfr0⟩ ?_
  have hseg : segs (l1 ++ [e]) = segs l1 ++ e.seg := by simp [segs]
  rw [hseg]
  unfold rO
  classical
  rw [List.perm_iff_count]
  intro x
  simp only [List.append_eq, List.cons_append, List.count_append, List.count_cons, List.count_nil]
  omega
/-- A field of an element. -/
theorem y_at {L : HList} {s : SlV} {l : List QE} (h : Sl L s 3 (l.flatMap yEnc)) {p t : List QE} {e : QE} (hl : l = p ++ e :: t) : ∃ a, s.a = some a ∧ LdAt (Addr.add a (((p.length : Nat) : Int).toNat * 3)) (yEnc e) L ∧ LdAt (Addr.add a (((p.length : Nat) : Int).toNat * 3)) [.string e.key] L ∧
    LdAt (Addr.add (Addr.add a (((p.length : Nat) : Int).toNat * 3)) 1) [.slice e.v.a e.v.len e.v.cap] L ∧ LdAt (Addr.add (Addr.add a (((p.length : Nat) : Int).toNat * 3)) 2) [.int .i64 e.freq] L := by
  subst hl
  obtain ⟨a, ha, hld⟩ := h.el yEnc_len (by decide) (i := p.length) (by simp)
  rw [show (p ++ e :: t)[p.length]'(by simp) = e by simp] at hld
  rw [Int.toNat_natCast]
  exact ⟨a, ha, hld, hld.pre fun j u hu => by cases j with | zero => exact hu | succ j => simp at hu, hld.one 1 rfl, hld.one 2 rfl⟩
theorem rqpeek_cl (m : Nat) (room : Int) (l : List QE) (A : HList) (h : RQ m room l A) (k : ByteArray) :
    CallF PP 38 #[.pointer (some ⟨m, 0, none⟩), .string k] A fun r L' => L' = A ∧ ∃ u : SlV, r = .tuple #[.slice u.a u.len u.cap, .bool (qfind l k).isSome] ∧ BSl A u (((qfind l k).map QE.val).getD []) := by
  refine CallF.of (args := [.pointer (some ⟨m, 0, none⟩), .string k]) noNum mixed Try.func38 (e38 (some ⟨m, 0, none⟩) k _) ?_
  unfold t38
  refine cl_in [] [] (rqat_cl m room l A h k) (by simp) ?_
  rintro _ A' - ⟨rfl, i, rfl, hk⟩
  refine ⟨(i, ()), rfl, ?_⟩
  simp only [List.nil_append, List.append_nil]
  rcases hk with ⟨rfl, hf⟩ | ⟨p, e, t, rfl, rfl, hf, hek, hd⟩
  · rw [hf]
    exact ifP (show (-1 : Int) < 0 by decide) (.of ⟨rfl, ⟨none, 0, 0⟩, rfl, Sl.nil 1⟩)
  · rw [hf]
    refine ifN (show ¬ ((p.length : Nat) : Int) < 0 by omega) ?_
    obtain ⟨s, seg, rfl, own, ok⟩ := h
    have hlen := own.sl.els_len yEnc_len (by decide)
    rw [List.length_append, List.length_cons] at hlen
    have hsl : Sl (rO m room s :: (seg ++ segs (p ++ e :: t))) s 3 ((p ++ e :: t).flatMap yEnc) := own.sl.left.cons
    obtain ⟨a, ha, _, _, hv, _⟩ := y_at hsl rfl
    refine nilc_of rfl (ld_of s (r_l List.mem_cons_self) (nilc_of ha (ixn_of (show (0 : Int) ≤ ((p.length : Nat) : Int) by omega) (by omega) (ld_of e.v hv (.of ⟨rfl, e.v, rfl, ?_⟩)))))
    exact own_in ok (by simp) fun x hx => by simp [hx]
theorem bump_enc (p t : List QE) (e : QE) : putL ((p ++ e :: t).flatMap yEnc) (p.length * 3 + 2) [.int .i64 (imin (e.freq + 1) 3)] = (p ++ bump e :: t).flatMap yEnc := by
  have hp : (p.flatMap yEnc).length = p.length * 3 := flat_len yEnc_len p
  rw [List.flatMap_append, List.flatMap_append, List.flatMap_cons, List.flatMap_cons]
  unfold putL
  have h1 : (p.flatMap yEnc ++ (yEnc e ++ t.flatMap yEnc)).take (p.length * 3 + 2) = p.flatMap yEnc ++ [.string e.key, .slice e.v.a e.v.len e.v.cap] := by
    rw [List.take_append, List.take_of_length_le (by omega), hp, show p.length * 3 + 2 - p.length * 3 = 2 by omega]
    rfl
  have h2 : (p.flatMap yEnc ++ (yEnc e ++ t.flatMap yEnc)).drop (p.length * 3 + 2 + [Value.int .i64 (imin (e.freq + 1) 3)].length) = t.flatMap yEnc := by
    rw [show p.length * 3 + 2 + [Value.int .i64 (imin (e.freq + 1) 3)].length = p.length * 3 + 3 from rfl, ← List.drop_drop, List.drop_left' hp]
    rfl
  rw [h1, h2]
  simp [yEnc, bump]
theorem rqget_cl (m : Nat) (room : Int) (l : List QE) (A : HList) (h : RQ m room l A) (k : ByteArray) :
    CallF PP 86 #[.pointer (some ⟨m, 0, none⟩), .string k] A fun r L' => ∃ (u : SlV) (sg A' : HList), r = .tuple #[.slice u.a u.len u.cap, .bool (qfind l k).isSome] ∧ L' = sg ++ A' ∧ Own u 1 tyb (bvs (((qfind l k).map QE.val).getD [])) sg ∧ RQ m room (qbump l k) A' := by
  refine CallF.of (args := [.pointer (some ⟨m, 0, none⟩), .string k]) noNum mixed Try.func86 (e86 (some ⟨m, 0, none⟩) k _) ?_
  unfold t86
  refine cl_in [] [] (rqat_cl m room l A h k) (by simp) ?_
  rintro _ A' - ⟨rfl, i, rfl, hk⟩
  refine ⟨(i, ()), rfl, ?_⟩
  simp only [List.nil_append, List.append_nil]
  rcases hk with ⟨rfl, hf⟩ | ⟨p, e, t, rfl, rfl, hf, rfl, hd⟩
  · rw [hf]
    have hb : qbump l k = l := by
      have hn := (qfind_none hf).2
      unfold qbump
      clear hf h
      induction l with
      | nil => rfl
      | cons a r ih =>
        rw [List.map_cons, List.mem_cons, not_or] at hn
        rw [List.map_cons, if_neg (fun he => hn.1 he.symm), ih hn.2]
    exact ifP (show (-1 : Int) < 0 by decide) (.of ⟨⟨none, 0, 0⟩, [], A', rfl, rfl, ⟨rfl, Nat.le_refl _, .inl ⟨rfl, rfl, rfl⟩⟩, by rw [hb]; exact h⟩)
  · rw [hf]
    refine ifN (show ¬ ((p.length : Nat) : Int) < 0 by omega) ?_
    obtain ⟨s, seg, rfl, own, ok⟩ := h
    have hlen := own.sl.els_len yEnc_len (by decide)
    rw [List.length_append, List.length_cons] at hlen
    have he : e ∈ p ++ e :: t := by simp
    have hsm := ok.small e he
    have hfr := ok.fr e he
    have hp0 : (0 : Int) ≤ ((p.length : Nat) : Int) := by omega
    have hp1 : ((p.length : Nat) : Int) < s.len := by omega
    have hsl : Sl (rO m room s :: (seg ++ segs (p ++ e :: t))) s 3 ((p ++ e :: t).flatMap yEnc) := own.sl.left.cons
    obtain ⟨a, ha, _, _, _, hq⟩ := y_at hsl rfl
    have hw : IntKind.i64.wrap (e.freq + 1) = e.freq + 1 := w64_id (by omega) (by omega)
    refine nilc_of rfl (nilc_of rfl (ld_of s (r_l List.mem_cons_self) (ld_of s (r_l List.mem_cons_self) (nilc_of ha (ixn_of hp0 hp1 (ld_of e.freq hq (nilc_of ha (ixn_of hp0 hp1 ?_))))))))
    rw [hw]
    have hplen : p.length * 3 + 2 + [Value.int .i64 (imin (e.freq + 1) 3)].length ≤ ((p ++ e :: t).flatMap yEnc).length := by
      rw [flat_len yEnc_len, List.length_append, List.length_cons]
      simp only [List.length_cons, List.length_nil]
      omega
    have hadd : Addr.add (Addr.add a (((p.length : Nat) : Int).toNat * 3)) 2 = Addr.add a (p.length * 3 + 2) := by
      rw [Int.toNat_natCast]
      unfold Addr.add
      by_cases h1 : p.length * 3 = 0 <;> simp [h1, Nat.add_assoc]
    refine own.st [rO m room s] (segs (p ++ e :: t)) (p := p.length * 3 + 2) hplen (by simp) ha hadd rfl fun seg' own' => ?_
    rw [bump_enc] at own'
    have ok' := bump_ok ok
    have e4 : segs (p ++ e :: t) = segs (p ++ bump e :: t) := by simp [segs, bump]
    rw [e4]
    refine nw_of fun n1 _ => ?_
    have hsl2 : Sl ((n1, Obj.cells #[] tyb) :: ([rO m room s] ++ seg' ++ segs (p ++ bump e :: t))) s 3 ((p ++ bump e :: t).flatMap yEnc) := (own'.sl.right (R := [rO m room s])).left.cons
    obtain ⟨a2, ha2, _, _, hv, _⟩ := y_at hsl2 rfl
    refine nilc_of rfl (ld_of s (r_l (room := room) (by simp)) (nilc_of ha2 (ixn_of hp0 hp1 (ld_of e.v hv ?_))))
    have hvs := own_in (L := (n1, Obj.cells #[] tyb) :: ([rO m room s] ++ seg' ++ segs (p ++ bump e :: t))) ok' (e := bump e) (by simp) (fun x hx => by simp [hx])
    have hvl : e.v.len = e.val.length := hvs.len
    refine append_in elemY srcY [] ([rO m room s] ++ seg' ++ segs (p ++ bump e :: t)) own_e rfl (.sl hvs) (bvs_plain _) (by first | omega | (simp only; omega) | (show (0 + e.v.len) * 1 ≤ _; omega)) fun u sg hu ownu => ?_
    rw [qbump_at ok.nd]
    exact .of ⟨u, sg, _, rfl, rfl, ownu, s, seg', by simp, own', ok'⟩
end Go.Proofs.Ytefllmfoneocaaa
