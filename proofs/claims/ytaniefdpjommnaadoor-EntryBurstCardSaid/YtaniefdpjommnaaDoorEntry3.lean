/-
  It is proved what Cut, Same and Few of the document's answer for the layer entry compute. There are no further conditions than those that each theorem names.
-/
import Derived.Test.YtaniefdpjommnaaDoorEntry2
set_option linter.unusedVariables false
set_option linter.unusedSimpArgs false
namespace Go.Proofs.YtaniefdpjommnaaDoor
open Go.HL

theorem rcut_cl (A : HList) (key : ByteArray) (hk : key.size ≤ maxLen) (u : SlV) (val : List UInt8) (hu : BSl A u val) (c : Cf) (hc : c.2.1 ≤ 9223372036854775807) :
    CallF PP 9 #[.string key, .slice u.a u.len u.cap, .agg #[.int .i64 c.1, .int .i64 c.2.1, .int .i64 c.2.2.1, .int .i64 c.2.2.2.1]] A (CutK key.data.toList val c A) := by
  refine CallF.of (args := [.string key, .slice u.a u.len u.cap, .agg #[.int .i64 c.1, .int .i64 c.2.1, .int .i64 c.2.2.1, .int .i64 c.2.2.2.1]]) noNum mixed Tryd.func9 (e9 key u c _) ?_
  unfold t9
  have hul := hu.len
  have hks := toList_len key
  refine nw_of fun n1 _ => ?_
  generalize ho : (n1, Obj.cells #[.int .i64 c.1, .int .i64 c.2.1, .int .i64 c.2.2.1, .int .i64 c.2.2.2.1] 24) = o1
  have lc : ∀ L : HList, o1 ∈ L → LdAt ⟨n1, 0, none⟩ [.int .i64 c.1, .int .i64 c.2.1, .int .i64 c.2.2.1, .int .i64 c.2.2.2.1] L := fun L hm => ldB (by rw [← ho] at hm; exact hm) rfl
  clear ho
  have hbad : (key.size < 1 ∨ key.size > 255) → HL.Ends (CutK key.data.toList val c A) (.tuple #[.slice none 0 0, .int .i64 2]) (o1 :: A) := fun h => .cons (.of (CutK.err (by unfold cutR; rw [if_pos (by omega)])))
  refine ifD_of (fun (h : (key.size : Int) < 1) => hbad (by omega)) (fun (h1 : ¬ (key.size : Int) < 1) => ifD_of (fun (h : (key.size : Int) > 255) => hbad (by omega)) (fun (h1' : ¬ (key.size : Int) > 255) => ?_))
  refine ifD_of (fun (h2 : (u.len : Int) > 65536) => .cons (.of (CutK.err (by unfold cutR; rw [if_neg (by omega), if_pos (by omega)])))) (fun (h2 : ¬ (u.len : Int) > 65536) => ?_)
  have hpe : pagesOf (key.size : Int) (u.len : Int) c = pagesOf (key.data.toList.length : Int) (val.length : Int) c := by rw [hks, hul]
  refine ld_of c (lc _ List.mem_cons_self) (cl_rd (rpages_rd _ key.size u.len c hc) (pagesOf key.size u.len c, ()) rfl ?_)
  rw [hpe]
  refine ifE_of (fun (h3 : pagesOf (key.data.toList.length : Int) (val.length : Int) c = 0) => .cons (.of (CutK.err (by unfold cutR; rw [if_neg (by omega), if_neg (by omega), if_pos h3])))) (fun (h3 : pagesOf (key.data.toList.length : Int) (val.length : Int) c ≠ 0) => ?_)
  have hcr : cutR key.data.toList val c = (chunks (pagesOf key.data.toList.length val.length c).toNat (roomOf c.2.2.1).toNat (encA key.data.toList val), 0) := by unfold cutR; rw [if_neg (by omega), if_neg (by omega), if_neg h3]
  obtain ⟨_, _, _, _, hr0, hn1, hn8, _, htot, _⟩ := pagesOf_ne h3
  have hrr := roomOf_rng hr0
  unfold CutK
  rw [hcr]
  generalize hN : pagesOf (key.data.toList.length : Int) (val.length : Int) c = N at hn1 hn8 htot
  obtain ⟨n, rfl⟩ : ∃ n : Nat, N = n := ⟨N.toNat, by omega⟩
  obtain ⟨room, hroom⟩ : ∃ r : Nat, roomOf c.2.2.1 = r := ⟨(roomOf c.2.2.1).toNat, by omega⟩
  rw [hroom] at hrr
  simp only [hroom, Int.toNat_natCast]
  refine cl_in [] [] (rtxt_cl (o1 :: A) ⟨none, 0, 0⟩ [] (Sl.nil 1) (by decide) key hk) (by simp) ?_
  rintro _ _ - ⟨s1, sg1, rfl, rfl, own1⟩
  have hw1 : wtxt [] key = (digs key.data.toList.length 4 ++ key.data.toList, 0) := by unfold wtxt; rw [if_neg (by omega), hks]; rfl
  rw [hw1] at own1 ⊢
  rw [List.nil_append, List.append_nil]
  refine ⟨(s1, 0, ()), rfl, b2s_of (v := u) (l := val) (Sl.right (R := sg1) (Sl.cons hu)) ?_⟩
  have hvs : (ByteArray.mk val.toArray).size = val.length := by show val.toArray.size = _; simp
  refine cl_in [] [] (rtxt_cl (sg1 ++ (o1 :: A)) s1 (digs key.data.toList.length 4 ++ key.data.toList) own1.sl.left (by rw [List.length_append, digs_len]; omega) ⟨val.toArray⟩ (by rw [hvs]; show val.length ≤ 9223372036854775807; omega)) (by simp) ?_
  rintro _ _ - ⟨s3, sg3, rfl, rfl, own3⟩
  have hw2 : wtxt (digs key.data.toList.length 4 ++ key.data.toList) ⟨val.toArray⟩ = (encB key.data.toList val, 0) := by
    unfold wtxt encB
    rw [hvs, if_neg (by omega)]; simp
  rw [hw2] at own3 ⊢
  rw [List.nil_append, List.append_nil]
  have hel := encB_len key.data.toList val
  refine ⟨(s3, 0, ()), rfl, cl_rd (rsum_rd _ s3 (encB key.data.toList val) own3.sl.left (by omega)) (crcSum (encB key.data.toList val), ()) rfl ?_⟩
  have hcs : 0 ≤ crcSum (encB key.data.toList val) ∧ crcSum (encB key.data.toList val) < 4294967296 := crcMore_range 0 _
  refine cl_in [] [] (rput_cl (sg3 ++ (sg1 ++ (o1 :: A))) s3 (encB key.data.toList val) own3.sl.left (by omega) (crcSum (encB key.data.toList val)) 4 (by omega) (by omega)) (by simp) ?_
  rintro _ _ - ⟨s4, sg4, rfl, rfl, own4⟩
  have hw4 : wput (encB key.data.toList val) (crcSum (encB key.data.toList val)) 4 = (encA key.data.toList val, 0) := by
    rw [wput_ok (by decide) (by omega) (by show (crcSum (encB key.data.toList val)).toNat < 4294967296; omega)]
    rfl
  rw [hw4] at own4 ⊢
  rw [List.nil_append, List.append_nil]
  refine ⟨(s4, 0, ()), rfl, ?_⟩
  have hal := encA_len key.data.toList val
  generalize encA key.data.toList val = E at own4 hal
  have hbase : ∃ J0, sg4 ++ (sg3 ++ (sg1 ++ (o1 :: A))) = J0 ++ A ∧ o1 ∈ J0 ∧ BSl J0 s4 E := ⟨sg4 ++ (sg3 ++ (sg1 ++ [o1])), by simp, by simp, own4.sl.left⟩
  obtain ⟨J0, hJ0, ho1, hE0⟩ := hbase
  rw [hJ0]
  clear hJ0 own4 own3 own1 hel hcs hw4 hw1 hw2
  refine lp_of (fun z' z L' => ∃ (i : Nat) (s v : SlV) (seg : HList) (gs : List PG) (J X Y : HList), i ≤ n ∧ z' = n - i ∧ z = (s, v, (i : Int), ()) ∧ L' = X ++ seg ++ Y ∧ (X ++ Y).Perm (pgs gs ++ (J ++ (J0 ++ A))) ∧ BSl J0 s (E.drop (i * room)) ∧
      Own v 1 tB (gs.map PG.val) seg ∧ (∀ g ∈ gs, g.Ok) ∧ gs.map PG.l = chunks i room E) n
    ⟨0, s4, ⟨none, 0, 0⟩, [], [], [], [], J0 ++ A, by omega, by omega, rfl, rfl, List.Perm.refl _, by rw [Nat.zero_mul, List.drop_zero]; exact hE0, own_nil, by simp, rfl⟩ ?_
  rintro z' z L ⟨i, s, v, seg, gs, J, X, Y, hi, rfl, rfl, rfl, hp, hs, own, hok, hgs⟩
  have hsub : ∀ x ∈ J0, x ∈ X ++ seg ++ Y := by
    intro x hx
    have h5 : x ∈ X ++ Y := (hp.mem_iff (a := x)).2 (by simp [hx])
    have h6 : x ∈ X ∨ x ∈ Y := by simpa using h5
    rcases h6 with h6 | h6 <;> simp [h6]
  have hgl : gs.length = i := by have := congrArg List.length hgs; rw [List.length_map, chunks, List.length_map, List.length_range] at this; exact this
  have hvl := own.len
  rw [List.length_map] at hvl
  refine ifD_of (fun (hlt : (i : Int) < (n : Int)) => ?_) (fun (hge : ¬ (i : Int) < (n : Int)) => ?_)
  · refine ld_of c.2.2.1 ((lc _ (hsub _ ho1)).one 2 rfl) (cl_rd (rroom_rd _ c.2.2.1) (roomOf c.2.2.1, ()) rfl ?_)
    rw [hroom]
    have hsl := hs.len
    have hscap := hs.cap
    have him : imin (s.len : Int) (room : Int) = ((min s.len room : Nat) : Int) := by unfold imin; omega
    simp only [him]
    have hsL : BSl (X ++ seg ++ Y) s (E.drop (i * room)) := Sl.mono hs hsub
    refine nw_of fun n2 _ => slc_of (l' := 0) (h' := min s.len room) (m' := s.cap) rfl rfl rfl (by omega) (by omega) (Nat.le_refl _) ?_
    have hcut := cut_sl hsL (i := 0) (j := min s.len room) (by omega) (by omega)
    have hct : ((E.drop (i * room)).drop 0).take (min s.len room - 0) = (E.drop (i * room)).take room := by
      rw [List.drop_zero, Nat.sub_zero, hsl, Nat.min_comm]
      exact (List.take_eq_take_min).symm
    rw [hct] at hcut
    generalize slcV s ((0 : Nat) : Int) ((min s.len room : Nat) : Int) (s.cap : Int) 1 = c1 at hcut ⊢
    have hc1 := hcut.len
    rw [List.length_take] at hc1
    refine append_in elemB srcB [] (X ++ seg ++ Y) own_empty rfl (.sl (Sl.cons hcut)) (bvs_plain _) (by simp only; omega) fun s9 sg9 hs9 own9 => ?_
    rw [List.nil_append] at own9 ⊢
    refine nw_of fun n4 _ => ?_
    refine append_in elemPs srcPs ((n4, Obj.cells #[.slice s9.a s9.len s9.cap] 22) :: (sg9 ++ X)) Y own (by simp) (n := 1) (ws := [PG.val ⟨s9, sg9, (E.drop (i * room)).take room⟩]) (x := .slice (some ⟨n4, 0, none⟩) 1 1) (Src.sl (v := ⟨some ⟨n4, 0, none⟩, 1, 1⟩) ⟨rfl, Nat.le_refl _, .inr ⟨_, rfl, ldB List.mem_cons_self rfl⟩⟩) rfl (by omega) fun v8 seg8 hv8 own8 => ?_
    generalize (n4, Obj.cells #[.slice s9.a s9.len s9.cap] 22) = o4
    refine slc_of (l' := min s.len room) (h' := s.len) (m' := s.cap) rfl rfl rfl (by omega) (by omega) (Nat.le_refl _) ?_
    have hcut2 := cut_sl hs (i := min s.len room) (j := s.len) (by omega) (by omega)
    have hct2 : ((E.drop (i * room)).drop (min s.len room)).take (s.len - min s.len room) = E.drop ((i + 1) * room) := by
      rw [List.take_of_length_le (by rw [List.length_drop, ← hsl]; omega), List.drop_drop]
      rcases Nat.le_total room s.len with h9 | h9
      · rw [Nat.min_eq_right h9, Nat.add_mul, Nat.one_mul]
      · rw [List.length_drop] at hsl
        rw [Nat.min_eq_left h9, List.drop_of_length_le (by omega), List.drop_of_length_le (by rw [Nat.add_mul]; omega)]
    rw [hct2] at hcut2
    refine ⟨n - (i + 1), by omega, i + 1, _, v8, seg8, gs ++ [⟨s9, sg9, (E.drop (i * room)).take room⟩], o4 :: J, _, _, by omega, rfl, ?_, rfl, ?_, hcut2, ?_, ?_, ?_⟩
    · rw [w64_id (by first | omega | (simp only; omega)) (by first | omega | (simp only; omega))]
      rfl
    · rw [pgs_append, pgs_one]
      classical
      rw [List.perm_iff_count] at hp ⊢
      intro z
      have := hp z
      simp only [List.append_eq, List.cons_append, List.count_append, List.count_cons, List.count_nil] at this ⊢
      omega
    · rw [List.map_append]; exact own8
    · intro z hz
      rcases List.mem_append.1 hz with h5 | h5
      · exact hok z h5
      · rw [List.mem_singleton.1 h5]; exact own9
    · rw [List.map_append, hgs, chunks_succ]; rfl
  · obtain rfl : i = n := by omega
    refine .drop (A := seg ++ (pgs gs ++ A)) (J := J ++ J0) ⟨v, seg, gs, rfl, rfl, own, hok, hgs⟩ ?_
    classical
    rw [List.perm_iff_count] at hp ⊢
    intro z
    have := hp z
    simp only [List.append_eq, List.cons_append, List.count_append, List.count_cons, List.count_nil] at this ⊢
    omega
theorem samep_rd (L : HList) (u v : SlV) (a b : List PV) (hu : Parts L u a) (hv : Parts L v b) (he : a.map Prod.snd = b.map Prod.snd) (hl : a.length ≤ 1048576) : Reads PP 10 #[.slice u.a u.len u.cap, .slice v.a v.len v.cap] L (.bool true) := by
  refine Reads.of (args := [.slice u.a u.len u.cap, .slice v.a v.len v.cap]) noNum mixed Tryd.func10 (e10 u v _) ?_
  unfold t10
  have hul := hu.len
  have hvl := hv.len
  have hab : a.length = b.length := by have := congrArg List.length he; rwa [List.length_map, List.length_map] at this
  refine ifF (by show ((u.len : Int) != (v.len : Int)) = false; rw [hul, hvl, hab]; simp) ?_
  refine lp_of (fun z' z L' => L' = L ∧ ∃ i : Nat, i ≤ a.length ∧ z' = a.length - i ∧ z = ((i : Int), ())) a.length ⟨rfl, 0, by omega, by omega, rfl⟩ ?_
  rintro z' z L1 ⟨hL1, i, hi, rfl, rfl⟩
  rw [hL1]
  refine ifD_of (fun (hlt : (i : Int) < (u.len : Int)) => ?_) (fun _ => .of ⟨rfl, rfl⟩)
  have hi' : i < a.length := by omega
  have hib : i < b.length := by omega
  obtain ⟨p, hp, l1⟩ := hu.at' hi'
  obtain ⟨q, hq, l2⟩ := hv.at' hib
  have hee : a[i].2 = b[i].2 := by
    have h1 : (a.map Prod.snd)[i]? = (b.map Prod.snd)[i]? := by rw [he]
    rw [List.getElem?_map, List.getElem?_map, List.getElem?_eq_getElem hi', List.getElem?_eq_getElem hib] at h1
    exact Option.some.inj h1
  refine nilc_of hp (ixn_of (show (0 : Int) ≤ (i : Int) by omega) hlt (nilc_of hq (ixn_of (show (0 : Int) ≤ (i : Int) by omega) (show (i : Int) < (v.len : Int) by omega) ?_)))
  refine ld_of a[i].1 l1 (b2s_of (hu.val _ (List.getElem_mem hi')) (ld_of b[i].1 l2 (b2s_of (hv.val _ (List.getElem_mem hib)) (ifF (by simp [hee]) ?_))))
  refine ⟨a.length - (i + 1), by omega, rfl, i + 1, by omega, rfl, ?_⟩
  rw [w64_id (by first | omega | (simp only; omega)) (by first | omega | (simp only; omega))]
  rfl
theorem fewp_cl (L : HList) (v : SlV) (l : List PV) (h : Parts L v l) (hl : l.length ≤ 9223372036854775807) (most bytes : Int) :
    CallF PP 15 #[.slice v.a v.len v.cap, .int .i64 most, .int .i64 bytes] L fun r L' => L' = L ∧ ∃ b, r = .bool b ∧ (b = true → (l.length : Int) ≤ most ∧ ∀ x ∈ l, (x.2.length : Int) ≤ bytes) := by
  refine CallF.of (args := [.slice v.a v.len v.cap, .int .i64 most, .int .i64 bytes]) noNum mixed Tryd.func15 (e15 v most bytes _) ?_
  unfold t15
  have hlen := h.len
  refine lp_of (fun k z L' => L' = L ∧ ∃ i : Nat, i ≤ l.length ∧ k = l.length - i ∧ z = ((i : Int), ()) ∧ ∀ x ∈ l.take i, (x.2.length : Int) ≤ bytes) l.length ⟨rfl, 0, by omega, by omega, rfl, by simp⟩ ?_
  rintro k z L1 ⟨hL1, i, hi, rfl, rfl, hall⟩
  rw [hL1]
  refine ifD_of (fun (hlt : (i : Int) < (v.len : Int)) => ?_) (fun (hge : ¬ (i : Int) < (v.len : Int)) => ?_)
  · have hi' : i < l.length := by omega
    refine ifD_of (fun (hle : (i : Int) ≤ most) => ?_) (fun (hle : ¬ (i : Int) ≤ most) => .of ⟨rfl, _, rfl, fun hb => ?_⟩)
    · obtain ⟨a, ha, l1⟩ := h.at' hi'
      have hb := (h.val l[i] (List.getElem_mem hi')).len
      refine nilc_of ha (ixn_of (show (0 : Int) ≤ (i : Int) by omega) hlt (ld_of l[i].1 l1 ?_))
      refine ifD_of (fun (h4 : (l[i].1.len : Int) > bytes) => .of ⟨rfl, false, rfl, fun h => by cases h⟩) (fun (h4 : ¬ (l[i].1.len : Int) > bytes) => ?_)
      refine ⟨l.length - (i + 1), by omega, rfl, i + 1, by omega, rfl, ?_, fun x hx => ?_⟩
      · rw [w64_id (by first | omega | (simp only; omega)) (by first | omega | (simp only; omega))]
        rfl
      · rw [List.take_succ_eq_append_getElem hi'] at hx
        rcases List.mem_append.1 hx with hx | hx
        · exact hall x hx
        · rw [List.mem_singleton.1 hx]; omega
    · have := of_decide_eq_true hb
      omega
  · obtain rfl : i = l.length := by omega
    rw [List.take_length] at hall
    refine .of ⟨rfl, _, rfl, fun hb => ⟨?_, hall⟩⟩
    have := of_decide_eq_true hb
    omega
end Go.Proofs.YtaniefdpjommnaaDoor
