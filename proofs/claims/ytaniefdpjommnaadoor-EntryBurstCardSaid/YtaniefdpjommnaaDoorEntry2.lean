/-
  It is proved what joined and Cut of the layer entry, and Cut of its document's answer, compute. There are no further conditions than those that each theorem names.
-/
import Derived.Test.YtaniefdpjommnaaDoorEntry
import Derived.Test.YtaniefdpjommnaaDoorParts
set_option linter.unusedVariables false
set_option linter.unusedSimpArgs false
namespace Go.Proofs.YtaniefdpjommnaaDoor
open Go.HL

theorem grow_cl (n : Nat) (hn : n ≤ 1099511627776) : CallF PP 44 #[.slice none 0 0, .int .i64 n] [] fun r L' => ∃ (s : SlV) (seg : HList), r = .slice s.a s.len s.cap ∧ L' = seg ∧ Own s 1 eB [] seg := by
  refine CallF.of (args := [.slice none 0 0, .int .i64 n]) noNum mixed Tryd.func44 (e44 ⟨none, 0, 0⟩ n _) ?_
  unfold t44
  refine jn_of (fun y L' => L' = []) ?_ (fun j hj => ifN (show ¬ (n : Int) < 0 by omega) (hj _ _ rfl))
  rintro _ _ rfl
  have e0 : IntKind.i64.wrap (((0 : Nat) : Int) - ((0 : Nat) : Int)) = 0 := by decide
  have e1 : IntKind.i64.wrap ((n : Int) - 0) = n := w64_id (by omega) (by omega)
  simp only [e0, e1]
  refine ifD_of (fun (h : (n : Int) > 0) => ?_) (fun (h : ¬ (n : Int) > 0) => .of ⟨⟨none, 0, 0⟩, [], rfl, rfl, own_nil⟩)
  refine slc_of (l' := 0) (h' := 0) (m' := 0) rfl rfl rfl (by decide) (by decide) (by decide) ?_
  have hs0 : slcV ⟨none, 0, 0⟩ ((0 : Nat) : Int) ((0 : Nat) : Int) ((0 : Nat) : Int) 1 = ⟨none, 0, 0⟩ := by simp [slcV]
  rw [hs0]
  refine grow0_of (n := n) (ik := .i64) elemB (by kernel_rfl) (by omega) (by omega) fun q cap ob hcap own => ?_
  refine slc_of (l' := 0) (h' := 0) (m' := cap) rfl rfl rfl (by omega) (by omega) (Nat.le_refl _) ?_
  have hs : slcV ⟨some ⟨q, 0, none⟩, n, cap⟩ ((0 : Nat) : Int) ((0 : Nat) : Int) (cap : Int) 1 = ⟨some ⟨q, 0, none⟩, 0, cap⟩ := by
    simp only [slcV]
    rw [if_neg (by omega)]
    simp [Addr.add]
  rw [hs]
  exact .of ⟨⟨some ⟨q, 0, none⟩, 0, cap⟩, [(q, ob)], rfl, rfl, own⟩
theorem concat_cl (A : HList) (v : SlV) (l : List PV) (h : Parts A v l) (hb : (catL l).length ≤ 1099511627776) (hl : l.length ≤ 1099511627776) :
    CallF PP 38 #[.slice v.a v.len v.cap] A fun r L' => ∃ (s : SlV) (seg : HList), r = .slice s.a s.len s.cap ∧ L' = seg ++ A ∧ Own s 1 eB (bvs (catL l)) seg := by
  refine CallF.of (args := [.slice v.a v.len v.cap]) noNum mixed Tryd.func38 (e38 v _) ?_
  unfold t38
  have hlen := h.len
  refine lp_of (fun z' z L' => L' = A ∧ ∃ i : Nat, i ≤ l.length ∧ z' = l.length - i ∧ z = (((catL (l.take i)).length : Int), (i : Int), ())) l.length ⟨rfl, 0, by omega, by omega, rfl⟩ ?_
  rintro z' z L1 ⟨hL1, i, hi, rfl, rfl⟩
  rw [hL1]
  refine ifD_of (fun (hlt : (i : Int) < (v.len : Int)) => ?_) (fun (hge : ¬ (i : Int) < (v.len : Int)) => ?_)
  · have hi' : i < l.length := by omega
    obtain ⟨a, ha, hld⟩ := h.at' hi'
    have hbl := (h.val _ (List.getElem_mem hi')).len
    have hs := catL_succ l hi'
    have hle := catL_take_le l (i + 1)
    have hsl : (catL (l.take (i + 1))).length = (catL (l.take i)).length + l[i].1.len := by rw [hs, List.length_append, hbl]
    refine nilc_of ha (ixn_of (show (0 : Int) ≤ (i : Int) by omega) hlt (ld_of l[i].1 hld ?_))
    have e1 : IntKind.i64.wrap (((catL (l.take i)).length : Int) + (l[i].1.len : Int)) = ((catL (l.take (i + 1))).length : Int) := by rw [w64_id (by omega) (by omega), hsl]; omega
    simp only [e1]
    refine ifN (show ¬ ((catL (l.take (i + 1))).length : Int) < 0 by omega) ⟨l.length - (i + 1), by omega, rfl, i + 1, by omega, rfl, ?_⟩
    rw [w64_id (by first | omega | (simp only; omega)) (by first | omega | (simp only; omega))]
    rfl
  · obtain rfl : i = l.length := by omega
    rw [List.take_length]
    refine cl_in [] A (grow_cl (catL l).length hb) rfl ?_
    rintro _ seg0 - ⟨s0, _, rfl, rfl, own0⟩
    refine ⟨(s0, ()), rfl, ?_⟩
    rw [List.nil_append]
    refine lp_of (fun z' z L' => ∃ (i : Nat) (s : SlV) (seg : HList), i ≤ l.length ∧ z' = l.length - i ∧ z = (s, (i : Int), ()) ∧ L' = seg ++ A ∧ Own s 1 eB (bvs (catL (l.take i))) seg) l.length ⟨0, s0, seg0, by omega, by omega, rfl, rfl, own0⟩ ?_
    rintro z' z _ ⟨i, s, seg, hi, rfl, rfl, rfl, own⟩
    refine ifD_of (fun (hlt : (i : Int) < (v.len : Int)) => ?_) (fun (hge : ¬ (i : Int) < (v.len : Int)) => ?_)
    · have hi' : i < l.length := by omega
      obtain ⟨a, ha, hld⟩ := h.at' hi'
      have hbl := (h.val _ (List.getElem_mem hi')).len
      have hs := catL_succ l hi'
      have hle := catL_take_le l (i + 1)
      have hsl : (catL (l.take (i + 1))).length = (catL (l.take i)).length + l[i].1.len := by rw [hs, List.length_append, hbl]
      have hol := own.sl.len
      rw [bvs_length] at hol
      refine nilc_of ha (ixn_of (show (0 : Int) ≤ (i : Int) by omega) hlt (ld_of l[i].1 (hld.mono fun x hx => List.mem_append_right _ hx) ?_))
      refine append_in elemB srcB [] A own rfl (.sl (Sl.right (h.val _ (List.getElem_mem hi')))) (bvs_plain _) (by omega) fun s' seg' hs' own' => ?_
      rw [← bvs_append, ← hs] at own'
      refine ⟨l.length - (i + 1), by omega, i + 1, s', seg', by omega, rfl, ?_, rfl, own'⟩
      rw [w64_id (by first | omega | (simp only; omega)) (by first | omega | (simp only; omega))]
      rfl
    · obtain rfl : i = l.length := by omega
      rw [List.take_length] at own
      exact .of ⟨s, seg, rfl, rfl, own⟩
theorem joined_cl (A : HList) (v : SlV) (l : List PV) (h : Parts A v l) (hb : (catL l).length ≤ 1099511627776) (hl : l.length ≤ 1099511627776) :
    CallF PP 23 #[.slice v.a v.len v.cap] A fun r L' => ∃ (s : SlV) (seg : HList), r = .slice s.a s.len s.cap ∧ L' = seg ++ A ∧ Own s 1 eB (bvs (catL l)) seg := by
  refine CallF.of (args := [.slice v.a v.len v.cap]) noNum mixed Tryd.func23 (e23 v _) ?_
  unfold t23
  refine cl_in [] [] (concat_cl A v l h hb hl) (by simp) ?_
  rintro _ _ - ⟨s, seg, rfl, rfl, own⟩
  refine ⟨(s, ()), rfl, ?_⟩
  rw [List.nil_append, List.append_nil]
  exact .of ⟨s, seg, rfl, rfl, own⟩
/-! ### what is cut -/
def encB (key val : List UInt8) : List UInt8 := digs key.length 4 ++ key ++ (digs val.length 4 ++ val)
def encA (key val : List UInt8) : List UInt8 := encB key val ++ digs (crcSum (encB key val)).toNat 4
theorem encB_len (key val : List UInt8) : (encB key val).length = key.length + val.length + 8 := by
  unfold encB
  simp only [List.length_append, digs_len]; omega
theorem encA_len (key val : List UInt8) : (encA key val).length = key.length + val.length + 12 := by
  unfold encA
  rw [List.length_append, encB_len, digs_len]
def chunks (n r : Nat) (b : List UInt8) : List (List UInt8) := (List.range n).map fun i => (b.drop (i * r)).take r
theorem chunks_succ (n r : Nat) (b : List UInt8) : chunks (n + 1) r b = chunks n r b ++ [(b.drop (n * r)).take r] := by simp [chunks, List.range_succ]
def cutR (key val : List UInt8) (c : Cf) : List (List UInt8) × Int :=
  if key.length < 1 ∨ key.length > 255 then ([], 2) else if val.length > 65536 then ([], 4) else
  if pagesOf key.length val.length c = 0 then ([], 14) else (chunks (pagesOf key.length val.length c).toNat (roomOf c.2.2.1).toNat (encA key val), 0)
def CutK (key val : List UInt8) (c : Cf) (A : HList) (r : Value) (L' : HList) : Prop := ∃ (ov : SlV) (oseg : HList) (gs : List PG), r = .tuple #[.slice ov.a ov.len ov.cap, .int .i64 (cutR key val c).2] ∧ L' = oseg ++ (pgs gs ++ A) ∧ Own ov 1 tB (gs.map PG.val) oseg ∧ (∀ g ∈ gs, g.Ok) ∧ gs.map PG.l = (cutR key val c).1
theorem CutK.err {key val : List UInt8} {c : Cf} {A : HList} {e : Int} (h : cutR key val c = ([], e)) : CutK key val c A (.tuple #[.slice none 0 0, .int .i64 e]) A :=
  ⟨⟨none, 0, 0⟩, [], [], by rw [h], rfl, own_nil, by simp, by rw [h]; rfl⟩
theorem pagesOf_ne {key value : Int} {c : Cf} (h : pagesOf key value c ≠ 0) : 1 ≤ key ∧ key ≤ 255 ∧ 0 ≤ value ∧ value ≤ 65536 ∧ roomOf c.2.2.1 ≠ 0 ∧ 1 ≤ pagesOf key value c ∧ pagesOf key value c ≤ 8 ∧ pagesOf key value c ≤ c.2.1 - 2 ∧ key + value + 12 ≤ pagesOf key value c * roomOf c.2.2.1 ∧ cls (pagesOf key value c) c.2.1 = pagesOf key value c := by
  unfold pagesOf at h ⊢
  split at h
  · exact absurd rfl h
  · rename_i h0
    rw [if_neg h0]
    obtain ⟨h1, h2, h3, h4⟩ := cls_ge h
    have h5 := cls_rng ((key + value + 12 + roomOf c.2.2.1 - 1) / roomOf c.2.2.1) c.2.1
    have hr := roomOf_rng (show roomOf c.2.2.1 ≠ 0 by omega)
    refine ⟨by omega, by omega, by omega, by omega, by omega, h3, h5.2, h2, ?_, h4⟩
    generalize roomOf c.2.2.1 = room at *
    generalize hq : (key + value + 12 + room - 1) / room = q at *
    have hq2 : key + value + 12 + room - 1 < (q + 1) * room := by rw [← hq]; exact Int.lt_ediv_add_one_mul_self _ (by omega)
    rw [Int.add_mul, Int.one_mul] at hq2
    have := Int.mul_le_mul_of_nonneg_right h1 (show 0 ≤ room by omega)
    omega
theorem toList_len (s : ByteArray) : s.data.toList.length = s.size := size_list s
theorem cut_cl (A : HList) (hT : Tab A) (key : ByteArray) (hk : key.size ≤ maxLen) (u : SlV) (val : List UInt8) (hu : BSl A u val) (c : Cf) (hc : c.2.1 ≤ 9223372036854775807) :
    CallF PP 8 #[.string key, .slice u.a u.len u.cap, .agg #[.int .i64 c.1, .int .i64 c.2.1, .int .i64 c.2.2.1, .int .i64 c.2.2.2.1]] A (CutK key.data.toList val c A) := by
  refine CallF.of (args := [.string key, .slice u.a u.len u.cap, .agg #[.int .i64 c.1, .int .i64 c.2.1, .int .i64 c.2.2.1, .int .i64 c.2.2.2.1]]) noNum mixed Tryd.func8 (e8 key u c _) ?_
  unfold t8
  have hul := hu.len
  have hks := toList_len key
  refine nw_of fun n1 _ => ?_
  generalize ho : (n1, Obj.cells #[.int .i64 c.1, .int .i64 c.2.1, .int .i64 c.2.2.1, .int .i64 c.2.2.2.1] 24) = o1
  have lc : ∀ L : HList, o1 ∈ L → LdAt ⟨n1, 0, none⟩ [.int .i64 c.1, .int .i64 c.2.1, .int .i64 c.2.2.1, .int .i64 c.2.2.2.1] L := fun L hm => ldB (by rw [← ho] at hm; exact hm) rfl
  clear ho
  refine cl_rd (keyed_rd _ key.size) (decide (1 ≤ (key.size : Int) ∧ (key.size : Int) ≤ 255), ()) rfl ?_
  by_cases h1 : 1 ≤ (key.size : Int) ∧ (key.size : Int) ≤ 255
  case neg =>
    rw [decide_eq_false h1]
    exact ifT rfl (.cons (.of (CutK.err (by unfold cutR; rw [if_pos (by omega)]))))
  rw [decide_eq_true h1]
  refine ifF rfl (ifD_of (fun (h2 : (u.len : Int) > 65536) => .cons (.of (CutK.err (by unfold cutR; rw [if_neg (by omega), if_pos (by omega)])))) (fun (h2 : ¬ (u.len : Int) > 65536) => ?_))
  have hpe : pagesOf (key.size : Int) (u.len : Int) c = pagesOf (key.data.toList.length : Int) (val.length : Int) c := by rw [hks, hul]
  refine ld_of c (lc _ List.mem_cons_self) (cl_rd (pages_rd _ hT.cons key.size u.len c hc) (pagesOf key.size u.len c, ()) rfl ?_)
  rw [hpe]
  refine ifE_of (fun (h3 : pagesOf (key.data.toList.length : Int) (val.length : Int) c = 0) => .cons (.of (CutK.err (by unfold cutR; rw [if_neg (by omega), if_neg (by omega), if_pos h3])))) (fun (h3 : pagesOf (key.data.toList.length : Int) (val.length : Int) c ≠ 0) => ?_)
  have hcr : cutR key.data.toList val c = (chunks (pagesOf key.data.toList.length val.length c).toNat (roomOf c.2.2.1).toNat (encA key.data.toList val), 0) := by unfold cutR; rw [if_neg (by omega), if_neg (by omega), if_neg h3]
  obtain ⟨_, _, _, _, hr0, hn1, hn8, _, htot, _⟩ := pagesOf_ne h3
  have hrr := roomOf_rng hr0
  unfold CutK
  rw [hcr]
  generalize hN : pagesOf (key.data.toList.length : Int) (val.length : Int) c = N at hn1 hn8 htot
  obtain ⟨n, rfl⟩ : ∃ n : Nat, N = n := ⟨N.toNat, by omega⟩
  obtain ⟨room, hroom⟩ : ∃ r : Nat, roomOf c.2.2.1 = r := ⟨(roomOf c.2.2.1).toNat, by omega⟩
  rw [hroom] at hrr
  simp only [hroom, Int.toNat_natCast]
  refine cl_in [] [] (wtxt_cl (o1 :: A) ⟨none, 0, 0⟩ [] (Sl.nil 1) (by decide) key hk) (by simp) ?_
  rintro _ _ - ⟨s1, sg1, rfl, rfl, own1⟩
  have hw1 : wtxt [] key = (digs key.data.toList.length 4 ++ key.data.toList, 0) := by unfold wtxt; rw [if_neg (by omega), hks]; rfl
  rw [hw1] at own1 ⊢
  rw [List.nil_append, List.append_nil]
  refine ⟨(s1, 0, ()), rfl, b2s_of (v := u) (l := val) (Sl.right (R := sg1) (Sl.cons hu)) ?_⟩
  have hvs : (ByteArray.mk val.toArray).size = val.length := by show val.toArray.size = _; simp
  refine cl_in [] [] (wtxt_cl (sg1 ++ (o1 :: A)) ⟨none, 0, 0⟩ [] (Sl.nil 1) (by decide) ⟨val.toArray⟩ (by rw [hvs]; show val.length ≤ 9223372036854775807; omega)) (by simp) ?_
  rintro _ _ - ⟨s2, sg2, rfl, rfl, own2⟩
  have hw2 : wtxt [] ⟨val.toArray⟩ = (digs val.length 4 ++ val, 0) := by
    unfold wtxt
    rw [hvs, if_neg (by omega)]; simp
  rw [hw2] at own2 ⊢
  rw [List.nil_append, List.append_nil]
  refine ⟨(s2, 0, ()), rfl, nw_of fun n2 _ => ?_⟩
  have hparts : Parts ((n2, Obj.cells #[.slice s1.a s1.len s1.cap, .slice s2.a s2.len s2.cap] 22) :: (sg2 ++ (sg1 ++ (o1 :: A)))) ⟨some ⟨n2, 0, none⟩, 2, 2⟩ [(s1, digs key.data.toList.length 4 ++ key.data.toList), (s2, digs val.length 4 ++ val)] := by
    refine ⟨⟨rfl, Nat.le_refl _, .inr ⟨_, rfl, ldB List.mem_cons_self rfl⟩⟩, fun x hx => ?_⟩
    have hx' : x = (s1, digs key.data.toList.length 4 ++ key.data.toList) ∨ x = (s2, digs val.length 4 ++ val) := by simpa using hx
    rcases hx' with rfl | rfl
    · exact own1.sl.left.right.cons
    · exact own2.sl.left.cons
  have hcat : catL [((s1, digs key.data.toList.length 4 ++ key.data.toList) : PV), (s2, digs val.length 4 ++ val)] = encB key.data.toList val := by simp [catL, encB]
  have hel := encB_len key.data.toList val
  refine cl_in [] [] (joined_cl _ ⟨some ⟨n2, 0, none⟩, 2, 2⟩ _ hparts (by rw [hcat]; omega) (by simp)) (by simp) ?_
  rintro _ _ - ⟨s3, sg3, rfl, rfl, own3⟩
  rw [hcat] at own3
  rw [List.nil_append, List.append_nil]
  refine ⟨(s3, ()), rfl, ?_⟩
  generalize (n2, Obj.cells #[.slice s1.a s1.len s1.cap, .slice s2.a s2.len s2.cap] 22) = o2
  refine cl_rd (sum_rd _ s3 (encB key.data.toList val) own3.sl.left (by omega)) (crcSum (encB key.data.toList val), ()) rfl ?_
  have hcs : 0 ≤ crcSum (encB key.data.toList val) ∧ crcSum (encB key.data.toList val) < 4294967296 := crcMore_range 0 _
  refine cl_in [] [] (wput_cl (sg3 ++ (o2 :: (sg2 ++ (sg1 ++ (o1 :: A))))) s3 (encB key.data.toList val) own3.sl.left (by omega) (crcSum (encB key.data.toList val)) 4 (by omega)) (by simp) ?_
  rintro _ _ - ⟨s4, sg4, rfl, rfl, own4⟩
  have hw4 : wput (encB key.data.toList val) (crcSum (encB key.data.toList val)) 4 = (encA key.data.toList val, 0) := by
    rw [wput_ok (by decide) (by omega) (by show (crcSum (encB key.data.toList val)).toNat < 4294967296; omega)]
    rfl
  rw [hw4] at own4 ⊢
  rw [List.nil_append, List.append_nil]
  refine ⟨(s4, 0, ()), rfl, ?_⟩
  have hal := encA_len key.data.toList val
  generalize encA key.data.toList val = E at own4 hal
  have hbase : ∃ J0, sg4 ++ (sg3 ++ (o2 :: (sg2 ++ (sg1 ++ (o1 :: A))))) = J0 ++ A ∧ o1 ∈ J0 ∧ BSl J0 s4 E := ⟨sg4 ++ (sg3 ++ (o2 :: (sg2 ++ (sg1 ++ [o1])))), by simp, by simp, own4.sl.left⟩
  obtain ⟨J0, hJ0, ho1, hE0⟩ := hbase
  rw [hJ0]
  clear hJ0 own4 own3 own2 own1 hparts hcat hel hcs hw4 hw1 hw2
  refine lp_of (fun z' z L' => ∃ (i : Nat) (s v : SlV) (seg : HList) (gs : List PG) (J X Y : HList), i ≤ n ∧ z' = n - i ∧ z = (s, v, (i : Int), ()) ∧ L' = X ++ seg ++ Y ∧ (X ++ Y).Perm (pgs gs ++ (J ++ (J0 ++ A))) ∧ BSl J0 s (E.drop (i * room)) ∧
      Own v 1 tB (gs.map PG.val) seg ∧ (∀ g ∈ gs, g.Ok) ∧ gs.map PG.l = chunks i room E) n
    ⟨0, s4, ⟨none, 0, 0⟩, [], [], [], [], J0 ++ A, by omega, by omega, rfl, rfl, List.Perm.refl _, by rw [Nat.zero_mul, List.drop_zero]; exact hE0, own_nil, by simp, rfl⟩ ?_
  rintro z' z L ⟨i, s, v, seg, gs, J, X, Y, hi, rfl, rfl, rfl, hp, hs, own, hok, hgs⟩
  have hsub : ∀ x ∈ J0, x ∈ X ++ seg ++ Y := by
    intro x hx
    have h5 : x ∈ X ++ Y := (hp.mem_iff (a := x)).2 (by simp [hx])
    have h6 : x ∈ X ∨ x ∈ Y := by simpa using h5
    rcases h6 with h6 | h6 <;> simp [h6]
  have hgl : gs.length = i := by have := congrArg List.length hgs; rw [List.length_map, chunks, List.length_map, List.length_range] at this; exact this
  have hvl := own.len
  rw [List.length_map] at hvl
  refine ifD_of (fun (hlt : (i : Int) < (n : Int)) => ?_) (fun (hge : ¬ (i : Int) < (n : Int)) => ?_)
  · refine ld_of c.2.2.1 ((lc _ (hsub _ ho1)).one 2 rfl) (cl_rd (proom_rd _ c.2.2.1) (roomOf c.2.2.1, ()) rfl ?_)
    rw [hroom]
    have hsl := hs.len
    have hscap := hs.cap
    have him : imin (s.len : Int) (room : Int) = ((min s.len room : Nat) : Int) := by unfold imin; omega
    simp only [him]
    have hsL : BSl (X ++ seg ++ Y) s (E.drop (i * room)) := Sl.mono hs hsub
    refine slc_of (l' := 0) (h' := min s.len room) (m' := s.cap) rfl rfl rfl (by omega) (by omega) (Nat.le_refl _) ?_
    have hcut := cut_sl hsL (i := 0) (j := min s.len room) (by omega) (by omega)
    have hct : ((E.drop (i * room)).drop 0).take (min s.len room - 0) = (E.drop (i * room)).take room := by
      rw [List.drop_zero, Nat.sub_zero, hsl, Nat.min_comm]
      exact (List.take_eq_take_min).symm
    rw [hct] at hcut
    generalize slcV s ((0 : Nat) : Int) ((min s.len room : Nat) : Int) (s.cap : Int) 1 = c1 at hcut ⊢
    refine nw_of fun n3 _ => ?_
    have hparts : Parts ((n3, Obj.cells #[.slice c1.a c1.len c1.cap] 22) :: (X ++ seg ++ Y)) ⟨some ⟨n3, 0, none⟩, 1, 1⟩ [(c1, (E.drop (i * room)).take room)] := by
      refine ⟨⟨rfl, Nat.le_refl _, .inr ⟨_, rfl, ldB List.mem_cons_self rfl⟩⟩, fun x hx => ?_⟩
      have hx' : x = (c1, (E.drop (i * room)).take room) := by simpa using hx
      subst hx'
      exact Sl.cons hcut
    have hcat : catL [((c1, (E.drop (i * room)).take room) : PV)] = (E.drop (i * room)).take room := by simp [catL]
    refine cl_in [] [] (joined_cl _ ⟨some ⟨n3, 0, none⟩, 1, 1⟩ _ hparts (by rw [hcat, List.length_take]; omega) (by simp)) (by simp) ?_
    rintro _ _ - ⟨s9, sg9, rfl, rfl, own9⟩
    rw [hcat] at own9
    rw [List.nil_append, List.append_nil]
    refine ⟨(s9, ()), rfl, nw_of fun n4 _ => ?_⟩
    generalize (n3, Obj.cells #[.slice c1.a c1.len c1.cap] 22) = o3
    refine append_in elemPs srcPs ((n4, Obj.cells #[.slice s9.a s9.len s9.cap] 22) :: (sg9 ++ (o3 :: X))) Y own (by simp) (n := 1) (ws := [PG.val ⟨s9, sg9, (E.drop (i * room)).take room⟩]) (x := .slice (some ⟨n4, 0, none⟩) 1 1) (Src.sl (v := ⟨some ⟨n4, 0, none⟩, 1, 1⟩) ⟨rfl, Nat.le_refl _, .inr ⟨_, rfl, ldB List.mem_cons_self rfl⟩⟩) rfl (by omega) fun v8 seg8 hv8 own8 => ?_
    generalize (n4, Obj.cells #[.slice s9.a s9.len s9.cap] 22) = o4
    refine slc_of (l' := min s.len room) (h' := s.len) (m' := s.cap) rfl rfl rfl (by omega) (by omega) (Nat.le_refl _) ?_
    have hcut2 := cut_sl hs (i := min s.len room) (j := s.len) (by omega) (by omega)
    have hct2 : ((E.drop (i * room)).drop (min s.len room)).take (s.len - min s.len room) = E.drop ((i + 1) * room) := by
      rw [List.take_of_length_le (by rw [List.length_drop, ← hsl]; omega), List.drop_drop]
      rcases Nat.le_total room s.len with h9 | h9
      · rw [Nat.min_eq_right h9, Nat.add_mul, Nat.one_mul]
      · rw [List.length_drop] at hsl
        rw [Nat.min_eq_left h9, List.drop_of_length_le (by omega), List.drop_of_length_le (by rw [Nat.add_mul]; omega)]
    rw [hct2] at hcut2
    refine ⟨n - (i + 1), by omega, i + 1, _, v8, seg8, gs ++ [⟨s9, sg9, (E.drop (i * room)).take room⟩], o4 :: o3 :: J, _, _, by omega, rfl, ?_, rfl, ?_, hcut2, ?_, ?_, ?_⟩
    · rw [w64_id (by first | omega | (simp only; omega)) (by first | omega | (simp only; omega))]
      rfl
    · rw [pgs_append, pgs_one]
      classical
      rw [List.perm_iff_count] at hp ⊢
      intro z
      have := hp z
      simp only [List.append_eq, List.cons_append, List.count_append, List.count_cons, List.count_nil] at this ⊢
      omega
    · rw [List.map_append]; exact own8
    · intro z hz
      rcases List.mem_append.1 hz with h5 | h5
      · exact hok z h5
      · rw [List.mem_singleton.1 h5]; exact own9
    · rw [List.map_append, hgs, chunks_succ]; rfl
  · obtain rfl : i = n := by omega
    refine .drop (A := seg ++ (pgs gs ++ A)) (J := J ++ J0) ⟨v, seg, gs, rfl, rfl, own, hok, hgs⟩ ?_
    classical
    rw [List.perm_iff_count] at hp ⊢
    intro z
    have := hp z
    simp only [List.append_eq, List.cons_append, List.count_append, List.count_cons, List.count_nil] at this ⊢
    omega
end Go.Proofs.YtaniefdpjommnaaDoor
