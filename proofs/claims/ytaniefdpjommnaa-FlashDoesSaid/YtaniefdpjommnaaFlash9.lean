/-
  It is proved that the law FlashTears returns true for every input. There are no further conditions.
-/
import Derived.Test.YtaniefdpjommnaaFlash8
set_option linter.unusedVariables false
set_option linter.unusedSimpArgs false
namespace Go.Proofs.Ytaniefdpjommnaa
open Go.HL

/-- Behind the first byte that differs all is blank. -/
theorem torn_tail {t : Tn} (h : TornOk 64 t) : t.image.length = 64 ∧ t.meant.length = 64 ∧ ∀ k : Nat, (k < 64 → t.image[k]? ≠ t.meant[k]?) → ∀ j, k ≤ j → j < 64 → t.image[j]? = some 255 := by
  obtain ⟨n, hn, hm, hi⟩ := h
  refine ⟨by rw [hi, List.length_append, List.length_take, blk, List.length_replicate]; omega, hm, fun k hk j hj hj2 => ?_⟩
  have hkn : n ≤ k := by
    rcases Nat.lt_or_ge k n with h1 | h1
    · exfalso
      refine hk (by omega) ?_
      rw [hi, List.getElem?_append_left (by rw [List.length_take]; omega), List.getElem?_take_of_lt h1]
    · exact h1
  rw [hi, List.getElem?_append_right (by rw [List.length_take]; omega), List.length_take, Nat.min_eq_left (by omega), blk, List.getElem?_replicate, if_pos (by omega)]
theorem tears_tail (L : HList) (tv : SlV) (ts : List PT) (hts : Sl L tv 4 (ts.flatMap PT.enc)) (htl : tv.len = ts.length) {i : Nat} (hi : i < ts.length) (him : BSl L ts[i].i.v ts[i].i.l) (hme : BSl L ts[i].m.v ts[i].m.l) (ht : TornOk 64 ts[i].tn) {k : Nat} (hk : k ≤ 64) (hd : k < 64 → ts[i].i.l[k]? ≠ ts[i].m.l[k]?) (N M : HP) (hM : M L) :
    nilc tv.a (fun a8 => ixn (i : Int) tv.len <| ld (Addr.add (Addr.add a8 ((i : Int).toNat * 4)) 3) (.lf .sl) fun v14 =>
      ifB ((v14.len : Int) != 64) N (nilc tv.a fun a9 => ixn (i : Int) tv.len <| ld (Addr.add (Addr.add a9 ((i : Int).toNat * 4)) 2) (.lf .sl) fun v15 =>
        ifB ((v15.len : Int) != 64) N (lp [.lf (.int .i64)] ((k : Int), ()) fun z4 go4 =>
          ifB (decide ((z4.1 : Int) < 64)) (
            nilc tv.a fun a10 =>
            ixn (i : Int) tv.len <|
            ld (Addr.add (Addr.add a10 ((i : Int).toNat * 4)) 3) (.lf .sl) fun v16 =>
            nilc v16.a fun a11 =>
            ixn z4.1 v16.len <|
            ld (Addr.add a11 (z4.1.toNat * 1)) (.lf (.int .u8)) fun v17 =>
            ifB ((v17 : Int) != 255) N (go4 (IntKind.i64.wrap (z4.1 + 1), ()))) M))) L := by
  obtain ⟨h1, h2, h3⟩ := torn_tail ht
  obtain ⟨a, ha, hld⟩ := hts.el PT.enc_len (by decide) hi
  have hil := him.len
  have hml := hme.len
  have h1' : ts[i].i.l.length = 64 := h1
  have h2' : ts[i].m.l.length = 64 := h2
  have l3 : LdAt (Addr.add (Addr.add a ((i : Int).toNat * 4)) 3) [ts[i].i.val] L := by rw [Int.toNat_natCast]; exact hld.one 3 rfl
  have l2 : LdAt (Addr.add (Addr.add a ((i : Int).toNat * 4)) 2) [ts[i].m.val] L := by rw [Int.toNat_natCast]; exact hld.one 2 rfl
  have g0 : (0 : Int) ≤ (i : Int) := by omega
  have g1 : (i : Int) < tv.len := by omega
  refine nilc_of ha (ixn_of g0 g1 (ld_of ts[i].i.v l3 (ifNe_of (fun (h : (ts[i].i.v.len : Int) ≠ 64) => by omega) (fun _ => ?_))))
  refine nilc_of ha (ixn_of g0 g1 (ld_of ts[i].m.v l2 (ifNe_of (fun (h : (ts[i].m.v.len : Int) ≠ 64) => by omega) (fun _ => ?_))))
  refine lp_of (fun z' z L' => ∃ j : Nat, k ≤ j ∧ j ≤ 64 ∧ z' = 64 - j ∧ z = ((j : Int), ()) ∧ L' = L) (64 - k) ⟨k, Nat.le_refl _, hk, rfl, rfl, rfl⟩ ?_
  rintro z' z _ ⟨j, hkj, hj, rfl, rfl, rfl⟩
  refine ifD_of (fun (hlt : (j : Int) < 64) => ?_) (fun _ => hM)
  have hj64 : j < 64 := by omega
  obtain ⟨b, hb⟩ := him.some (i := j) (by omega)
  have hv := h3 k hd j hkj hj64
  have hv' : ts[i].i.l[j]'(by omega) = 255 := by
    have : ts[i].i.l[j]? = some 255 := hv
    rw [List.getElem?_eq_getElem (by omega)] at this
    exact Option.some.inj this
  refine nilc_of ha (ixn_of g0 g1 (ld_of ts[i].i.v l3 (nilc_of hb (ixn_of (show (0 : Int) ≤ (j : Int) by omega) (show (j : Int) < ts[i].i.v.len by omega) ?_))))
  refine ld_of (255 : Int) ?_ (ifF rfl ⟨64 - (j + 1), by omega, j + 1, by omega, by omega, rfl, ?_, rfl⟩)
  · have := him.rd (i := j) (by omega) hb ((j : Int).toNat * 1) (by rw [Int.toNat_natCast])
    rw [hv'] at this
    exact this
  · rw [w64_id (by first | omega | (simp only; omega)) (by first | omega | (simp only; omega))]
    rfl
theorem law_FlashTears (L : HList) (v0 : SlV) (l0 : List FA) (h0 : FActs L v0 l0) (hl0 : l0.length ≤ 9223372036854775807) :
    Reads PP 10 #[.slice v0.a v0.len v0.cap] L (.bool true) := by
  refine Reads.of (args := [.slice v0.a v0.len v0.cap]) noNum mixed Try.func10 (e10 v0 _) ?_
  unfold t10
  have hlen0 := h0.len
  refine cl_rd (device_rd L) ((2, 4, 64, 3, ()), ()) rfl ?_
  refine cl_in [] L (new_cl (2, 4, 64, 3, ())) rfl ?_
  rintro _ A0 - (⟨hn, -, -⟩ | ⟨-, m, rfl, hF0⟩)
  · exact absurd right0 hn
  rw [List.nil_append]
  have hcf : cfg (2, 4, 64, 3, ()) = ⟨2, 4, 64, 3⟩ := rfl
  have hok0 := fresh_ok (cfg_ok right0)
  rw [hcf] at hF0 hok0
  refine ⟨(some ⟨m, 0, none⟩, 0, ()), rfl, ifF rfl ?_⟩
  have hB : ∀ A : HList, HL.Ends (fun v' L' => v' = Value.bool true ∧ L' = L) (.bool true) (A ++ L) := fun A => .app (.of ⟨rfl, rfl⟩)
  have hburn : ∀ (A : HList), cl PP 24 #[] [.lf .bool] (fun r => HL.Ends (fun v' L' => v' = Value.bool true ∧ L' = L) (.bool r.1)) (A ++ L) := fun A => cl_rd (burns_rd _) (true, ()) rfl (hB A)
  refine cl_in A0 [] (small_cl L v0 l0 h0 hl0) (by simp) ?_
  rintro _ L1 - ⟨hL1, b0, rfl, hb0⟩
  rw [List.append_nil, hL1]
  clear hL1 L1
  refine ⟨(b0, ()), rfl, ?_⟩
  cases b0 with
  | false => exact ifT rfl (hburn _)
  | true =>
  obtain ⟨hs0, -⟩ := hb0 rfl
  refine ifF rfl ?_
  refine lp_of (fun z' z L' => ∃ (i : Nat) (d : Dev) (J A : HList), i ≤ l0.length ∧ z' = l0.length - i ∧ z = ((i : Int), ()) ∧ L' = J ++ (A ++ L) ∧ FH m d A ∧ DvOk d ∧ d.c = ⟨2, 4, 64, 3⟩ ∧ d.torn.length ≤ i ∧ (∀ t ∈ d.torn, TornOk 64 t) ∧ 0 ≤ d.bytes ∧ d.bytes ≤ i * 64) l0.length ⟨0, fresh ⟨2, 4, 64, 3⟩, [], A0, by omega, by omega, rfl, rfl, hF0, hok0, rfl, Nat.le_refl _, by simp [fresh], Int.le_refl _, Int.le_refl _⟩ ?_
  rintro z' z _ ⟨i, d, J, A, hi, rfl, rfl, rfl, hF, hok, hc, hto, htok, hy0, hy1⟩
  refine ifD_of (fun (hlt : (i : Int) < v0.len) => ?_) (fun (hge : ¬ (i : Int) < v0.len) => ?_)
  · have hi' : i < l0.length := by omega
    obtain ⟨a, ha, l1⟩ := h0.at' hi'
    have hx := h0.val l0[i] (List.getElem_mem hi')
    have hxr := h0.rng l0[i] (List.getElem_mem hi')
    refine nilc_of ha (ixn_of (show (0 : Int) ≤ (i : Int) by omega) hlt ?_)
    refine ld_of (l0[i].1, l0[i].2.1, l0[i].2.2.1, l0[i].2.2.2.1.1, l0[i].2.2.2.2.1, l0[i].2.2.2.2.2.1, ()) (l1.mono fun x hx => List.mem_append_right _ (List.mem_append_right _ hx)) ?_
    refine nw_of fun n1 _ => ?_
    refine st_of (n := n1) (off := 0) (c := #[.int .i64 0, .int .i64 0, .int .i64 0, .slice none 0 0, .int .i64 0, .int .i64 0]) (T := 55) (fz := (0, 0)) [] _ rfl rfl (by simp) (.inl (Nat.le_refl _)) #[.int .i64 l0[i].1, .int .i64 l0[i].2.1, .int .i64 l0[i].2.2.1, .slice l0[i].2.2.2.1.1.a l0[i].2.2.2.1.1.len l0[i].2.2.2.1.1.cap, .int .i64 l0[i].2.2.2.2.1, .int .i64 l0[i].2.2.2.2.2.1] rfl ?_
    rw [List.nil_append]
    generalize ho : ((n1, Obj.cells #[.int .i64 l0[i].1, .int .i64 l0[i].2.1, .int .i64 l0[i].2.2.1, .slice l0[i].2.2.2.1.1.a l0[i].2.2.2.1.1.len l0[i].2.2.2.1.1.cap, .int .i64 l0[i].2.2.2.2.1, .int .i64 l0[i].2.2.2.2.2.1] 55) : Nat × Obj) = o1
    have lo : ∀ L : HList, o1 ∈ L → LdAt ⟨n1, 0, none⟩ [.int .i64 l0[i].1, .int .i64 l0[i].2.1, .int .i64 l0[i].2.2.1, .slice l0[i].2.2.2.1.1.a l0[i].2.2.2.1.1.len l0[i].2.2.2.1.1.cap, .int .i64 l0[i].2.2.2.2.1, .int .i64 l0[i].2.2.2.2.2.1] L := fun L hm => ldB (by rw [← ho] at hm; exact hm) rfl
    clear ho
    have lk : ∀ L : HList, o1 ∈ L → LdAt ⟨n1, 0, none⟩ [.int .i64 l0[i].1] L := fun L hm => (lo L hm).pre fun i u hu => by cases i with | zero => exact hu | succ i => exact absurd (show (none : Option Value) = some u from hu) (by simp)
    have hLL : o1 :: (J ++ (A ++ L)) = (o1 :: J) ++ A ++ L := by simp
    rw [hLL]
    refine cl_rd (Reads.in (X := o1 :: J) (Y := L) (down_rd m d A hF)) (d.down, ()) rfl ?_
    refine cl_rd (Reads.in (X := o1 :: J) (Y := L) (bytes_rd m d A hF)) (d.bytes, ()) rfl ?_
    refine cl_rd (Reads.in (X := o1 :: J) (Y := L) (wear_rd m d A hF hok 0)) (wearOf d 0, ()) rfl ?_
    refine cl_rd (Reads.in (X := o1 :: J) (Y := L) (wear_rd m d A hF hok 1)) (wearOf d 1, ()) rfl ?_
    refine cl_rd (Reads.in (X := o1 :: J) (Y := L) (next_rd m d A hF hok 0)) (nextOf d 0, ()) rfl ?_
    refine cl_rd (Reads.in (X := o1 :: J) (Y := L) (next_rd m d A hF hok 1)) (nextOf d 1, ()) rfl ?_
    refine ld_of (l0[i].1, l0[i].2.1, l0[i].2.2.1, l0[i].2.2.2.1.1, l0[i].2.2.2.2.1, l0[i].2.2.2.2.2.1, ()) (lo _ (by simp)) ?_
    refine cl_in (o1 :: J) [] (do1_cl m d A L hF hok (by omega) l0[i] hx) (by simp) ?_
    rintro _ _ - ⟨rfl, A', rfl, hF'⟩
    have hok' := act_ok hok l0[i] hxr
    have hw0 := act_wear d l0[i] 0
    have hw1 := act_wear d l0[i] 1
    have hby := act_bytes d l0[i]
    have hdn : d.down = true → _ := fun h => act_down h l0[i]
    have hc' := act_c d l0[i]
    have hto' := act_torn d l0[i]
    have htok' := act_tornOk (by rw [hc]) htok l0[i]
    have harm : l0[i].1 = 3 → (act d l0[i]).down = d.down := fun h => by unfold act; rw [h]; exact (arm_same d _ _).2.2.2
    have hS : d.c.S = 64 := by rw [hc]
    rw [hS] at hby
    have hby' : d.bytes ≤ (act d l0[i]).bytes ∧ (act d l0[i]).bytes ≤ d.bytes + 64 := by
      rcases hby with h | h
      · omega
      · rw [w64_id (by omega) (by omega)] at h; omega
    rw [List.append_nil]
    have hL2 : o1 :: J ++ (A' ++ L) = (o1 :: J) ++ A' ++ L := by simp
    rw [hL2]
    generalize act d l0[i] = d' at hF' hok' hw0 hw1 hby' hdn hc' hto' htok' harm ⊢
    refine ⟨(), rfl, ?_⟩
    have hgo : (fun (x' : RsV [.lf (.int .i64)]) (L'' : HList) => ∃ k', k' < l0.length - i ∧ ∃ (i : Nat) (d : Dev) (J A : HList), i ≤ l0.length ∧ k' = l0.length - i ∧ x' = ((i : Int), ()) ∧ L'' = J ++ (A ++ L) ∧ FH m d A ∧ DvOk d ∧ d.c = ⟨2, 4, 64, 3⟩ ∧ d.torn.length ≤ i ∧ (∀ t ∈ d.torn, TornOk 64 t) ∧ 0 ≤ d.bytes ∧ d.bytes ≤ i * 64) (IntKind.i64.wrap ((i : Int) + 1), ()) ((o1 :: J) ++ A' ++ L) := by
      refine ⟨l0.length - (i + 1), by omega, i + 1, d', o1 :: J, A', by omega, rfl, ?_, by simp, hF', hok', by rw [hc', hc], by omega, htok', by omega, by omega⟩
      rw [w64_id (by first | omega | (simp only; omega)) (by first | omega | (simp only; omega))]
      rfl
    have rW0 := fun b => Reads.in (X := o1 :: J) (Y := L) (wear_rd m d' A' hF' hok' b)
    have rN := fun b => Reads.in (X := o1 :: J) (Y := L) (next_rd m d' A' hF' hok' b)
    have rY := Reads.in (X := o1 :: J) (Y := L) (bytes_rd m d' A' hF')
    have rD := Reads.in (X := o1 :: J) (Y := L) (down_rd m d' A' hF')
    have ho1 : o1 ∈ (o1 :: J) ++ A' ++ L := by simp
    refine cl_rd (rW0 0) (wearOf d' 0, ()) rfl (ifN (show ¬ wearOf d' 0 < wearOf d 0 by omega) ?_)
    refine cl_rd (rW0 1) (wearOf d' 1, ()) rfl (ifN (show ¬ wearOf d' 1 < wearOf d 1 by omega) ?_)
    refine cl_rd rY (d'.bytes, ()) rfl (ifN (show ¬ d'.bytes < d.bytes by omega) ?_)
    refine ld_of l0[i].1 (lk _ ho1) ?_
    have hrest : d.down = true → wearOf d' 0 = wearOf d 0 ∧ wearOf d' 1 = wearOf d 1 ∧ nextOf d' 0 = nextOf d 0 ∧ nextOf d' 1 = nextOf d 1 ∧ d'.bytes = d.bytes := by
      intro h
      obtain ⟨e1, e2, e3⟩ := hdn h
      unfold wearOf nextOf blkAt
      rw [e1]
      exact ⟨rfl, rfl, rfl, rfl, e2⟩
    refine ifE_of (fun (hk : l0[i].1 = 3) => ?_) (fun (hk : l0[i].1 ≠ 3) => ?_)
    · refine cl_rd rD (d'.down, ()) rfl (ifF (by show (!(d'.down == d.down)) = false; rw [harm hk]; simp) ?_)
      refine ifB_of (fun (hd : d.down = true) => ?_) (fun _ => hgo)
      obtain ⟨e1, e2, e3, e4, e5⟩ := hrest hd
      obtain ⟨-, -, e6⟩ := hdn hd
      refine cl_rd rY (d'.bytes, ()) rfl (ifF (by show (d'.bytes != d.bytes) = false; rw [e5]; simp) ?_)
      refine cl_rd (rW0 0) (wearOf d' 0, ()) rfl (cl_rd (rW0 1) (wearOf d' 1, ()) rfl (ifF (by simp only; rw [e1, e2]; simp) ?_))
      refine cl_rd (rN 0) (nextOf d' 0, ()) rfl (cl_rd (rN 1) (nextOf d' 1, ()) rfl (ifF (by simp only; rw [e3, e4]; simp) ?_))
      refine ld_of l0[i].1 (lk _ ho1) (cl_rd rD (d'.down, ()) rfl (keep_of (lk _ ho1) ?_))
      refine ifN (show ¬ l0[i].1 < 0 by omega) (ld_of l0[i].1 (lk _ ho1) (ifF ?_ hgo))
      simp only
      rw [e6, hk]; decide
    · refine ifB_of (fun (hd : d.down = true) => ?_) (fun _ => hgo)
      obtain ⟨e1, e2, e3, e4, e5⟩ := hrest hd
      obtain ⟨-, -, e6⟩ := hdn hd
      refine cl_rd rY (d'.bytes, ()) rfl (ifF (by show (d'.bytes != d.bytes) = false; rw [e5]; simp) ?_)
      refine cl_rd (rW0 0) (wearOf d' 0, ()) rfl (cl_rd (rW0 1) (wearOf d' 1, ()) rfl (ifF (by simp only; rw [e1, e2]; simp) ?_))
      refine cl_rd (rN 0) (nextOf d' 0, ()) rfl (cl_rd (rN 1) (nextOf d' 1, ()) rfl (ifF (by simp only; rw [e3, e4]; simp) ?_))
      refine ld_of l0[i].1 (lk _ ho1) (cl_rd rD (d'.down, ()) rfl (keep_of (lk _ ho1) ?_))
      refine ifD_of (fun (hneg : l0[i].1 < 0) => ?_) (fun (hneg : ¬ l0[i].1 < 0) => ?_)
      · refine ifF ?_ hgo
        simp only
        rw [e6, decide_eq_true (by omega)]; rfl
      · refine ld_of l0[i].1 (lk _ ho1) (ifF ?_ hgo)
        simp only
        rw [e6]
        by_cases h3 : l0[i].1 > 3
        · rw [decide_eq_true h3, decide_eq_true (by omega)]; rfl
        · rw [decide_eq_false h3, decide_eq_false (by omega)]; rfl
  · refine cl_in J L (torn_cl m d A hF hok (by omega)) (by simp) ?_
    rintro _ _ - ⟨tv, tseg, ts, rfl, rfl, town, tok, tmap⟩
    refine ⟨(tv, ()), rfl, ?_⟩
    have hLL : J ++ (tseg ++ (tsegs ts ++ A)) ++ L = (J ++ (tseg ++ (tsegs ts ++ A))) ++ L := rfl
    have hts : Sl (J ++ (tseg ++ (tsegs ts ++ A)) ++ L) tv 4 (ts.flatMap PT.enc) := town.sl.left.right.left
    have htm : ∀ t ∈ ts, BSl (J ++ (tseg ++ (tsegs ts ++ A)) ++ L) t.m.v t.m.l ∧ BSl (J ++ (tseg ++ (tsegs ts ++ A)) ++ L) t.i.v t.i.l := by
      intro t ht
      have hsub : ∀ x, x ∈ t.m.seg ++ t.i.seg → x ∈ J ++ (tseg ++ (tsegs ts ++ A)) ++ L := fun x hx => List.mem_append_left _ (List.mem_append_right _ (List.mem_append_right _ (List.mem_append_left _ (List.mem_flatMap.2 ⟨t, ht, hx⟩))))
      exact ⟨Sl.mono (tok t ht).1.sl fun x hx => hsub x (List.mem_append_left _ hx), Sl.mono (tok t ht).2.sl fun x hx => hsub x (List.mem_append_right _ hx)⟩
    have htl := hts.els_len PT.enc_len (by decide)
    have htk : ∀ t ∈ ts, TornOk 64 t.tn := fun t ht => htok _ (by rw [← tmap]; exact List.mem_map.2 ⟨t, ht, rfl⟩)
    have hfew : ts.length ≤ 1048576 := by
      have : ts.length = d.torn.length := by rw [← tmap, List.length_map]
      omega
    have hbb : cl PP 24 #[] [.lf .bool] (fun r => HL.Ends (fun v' L' => v' = Value.bool true ∧ L' = L) (.bool r.1)) (J ++ (tseg ++ (tsegs ts ++ A)) ++ L) := hburn _
    generalize J ++ (tseg ++ (tsegs ts ++ A)) ++ L = LL at hts htm hbb ⊢
    refine lp_of (fun z' z L' => ∃ (i : Nat), i ≤ ts.length ∧ z' = ts.length - i ∧ z = ((i : Int), ()) ∧ L' = LL) ts.length ⟨0, by omega, by omega, rfl, rfl⟩ ?_
    rintro z' z _ ⟨i, hi, rfl, rfl, hL1⟩
    rw [hL1]
    refine ifD_of (fun (hlt : (i : Int) < tv.len) => ?_) (fun _ => hbb)
    have hi' : i < ts.length := by omega
    obtain ⟨hme, him⟩ := htm _ (List.getElem_mem hi')
    have hto := htk _ (List.getElem_mem hi')
    obtain ⟨q1, q2, q3⟩ := torn_tail hto
    have q1' : ts[i].i.l.length = 64 := q1
    have q2' : ts[i].m.l.length = 64 := q2
    have hil := him.len
    have hml := hme.len
    have g0 : (0 : Int) ≤ (i : Int) := by omega
    obtain ⟨a, ha, hld⟩ := hts.el PT.enc_len (by decide) hi'
    have l3 : LdAt (Addr.add (Addr.add a ((i : Int).toNat * 4)) 3) [ts[i].i.val] LL := by rw [Int.toNat_natCast]; exact hld.one 3 rfl
    have l2 : LdAt (Addr.add (Addr.add a ((i : Int).toNat * 4)) 2) [ts[i].m.val] LL := by rw [Int.toNat_natCast]; exact hld.one 2 rfl
    have hgo : (fun (x' : RsV [.lf (.int .i64)]) (L'' : HList) => ∃ k', k' < ts.length - i ∧ ∃ (i : Nat), i ≤ ts.length ∧ k' = ts.length - i ∧ x' = ((i : Int), ()) ∧ L'' = LL) (IntKind.i64.wrap ((i : Int) + 1), ()) LL := by
      refine ⟨ts.length - (i + 1), by omega, i + 1, by omega, rfl, ?_, rfl⟩
      rw [w64_id (by first | omega | (simp only; omega)) (by first | omega | (simp only; omega))]
      rfl
    refine lp_of (fun z' z L' => ∃ (k : Nat), k ≤ 64 ∧ z' = 64 - k ∧ z = ((k : Int), ()) ∧ L' = LL) 64 ⟨0, by omega, by omega, rfl, rfl⟩ ?_
    rintro z' z _ ⟨k, hk, rfl, rfl, hL2⟩
    rw [hL2]
    refine nilc_of ha (ixn_of g0 hlt (ld_of ts[i].m.v l2 ?_))
    refine ifD_of (fun (hlt2 : (k : Int) < ts[i].m.v.len) => ?_) (fun (hge : ¬ (k : Int) < ts[i].m.v.len) => ?_)
    · have hk64 : k < 64 := by omega
      refine nilc_of ha (ixn_of g0 hlt (ld_of ts[i].i.v l3 (ifP (show (k : Int) < ts[i].i.v.len by omega) ?_)))
      obtain ⟨bi, hbi⟩ := him.some (i := k) (by omega)
      obtain ⟨bm, hbm⟩ := hme.some (i := k) (by omega)
      refine nilc_of ha (ixn_of g0 hlt (nilc_of ha (ixn_of g0 hlt (ld_of ts[i].i.v l3 (nilc_of hbi (ixn_of (show (0 : Int) ≤ (k : Int) by omega) (show (k : Int) < ts[i].i.v.len by omega) ?_))))))
      refine ld_of ((ts[i].i.l[k]'(by omega)).toNat : Int) (him.rd (i := k) (by omega) hbi _ (by rw [Int.toNat_natCast])) ?_
      refine ld_of ts[i].m.v l2 (nilc_of hbm (ixn_of (show (0 : Int) ≤ (k : Int) by omega) (show (k : Int) < ts[i].m.v.len by omega) ?_))
      refine ld_of ((ts[i].m.l[k]'(by omega)).toNat : Int) (hme.rd (i := k) (by omega) hbm _ (by rw [Int.toNat_natCast])) ?_
      refine ifE_of (fun _ => ?_) (fun (hne : (((ts[i].i.l[k]'(by omega)).toNat : Nat) : Int) ≠ (((ts[i].m.l[k]'(by omega)).toNat : Nat) : Int)) => ?_)
      · refine ⟨64 - (k + 1), by omega, k + 1, by omega, rfl, ?_, rfl⟩
        rw [w64_id (by first | omega | (simp only; omega)) (by first | omega | (simp only; omega))]
        rfl
      · refine tears_tail LL tv ts hts htl hi' him hme hto hk (fun _ he => hne ?_) _ _ hgo
        rw [List.getElem?_eq_getElem (by omega), List.getElem?_eq_getElem (by omega)] at he
        rw [Option.some.inj he]
    · obtain rfl : k = 64 := by omega
      exact tears_tail LL tv ts hts htl hi' him hme hto hk (fun h => absurd h (by omega)) _ _ hgo
theorem row_FlashTears (W : World) (a0 : SlV) (l0 : List FA) (w0 : SlOk W faEnc (faWf W) 6 (a0, l0)) :
    Reads PP 10 #[.slice a0.a a0.len a0.cap] (allB W) (.bool true) := by
  have hm : maxLen = 9223372036854775807 := rfl
  have h1 := w0.len'
  have h2 := w0.sl.cap
  have h3 := w0.cap
  simp only at h2 h3
  exact law_FlashTears _ a0 l0 ⟨w0.sl, fun x hx => (w0.all x hx).2.2.2.1.bytes, fun x hx => (wf_i64 (w0.all x hx).2.2.2.2.1).2⟩ (by omega)
end Go.Proofs.Ytaniefdpjommnaa
