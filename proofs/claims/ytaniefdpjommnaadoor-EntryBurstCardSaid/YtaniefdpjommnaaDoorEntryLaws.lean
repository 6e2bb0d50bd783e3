/-
  It is proved that the example of the layer entry holds, and that the laws EntryCuts and EntryJoins return true for every input. There are no further conditions than that the table of classes lies as the program's text lays it.
-/
import Derived.Test.YtaniefdpjommnaaDoorEntry4
set_option linter.unusedVariables false
set_option linter.unusedSimpArgs false
namespace Go.Proofs.YtaniefdpjommnaaDoor
open Go.HL

/-! ### plain: what is cut is joined -/
theorem chunks_flat (n r : Nat) (b : List UInt8) : (chunks n r b).flatten = b.take (n * r) := by
  induction n with
  | zero => simp [chunks]
  | succ n ih => rw [chunks_succ, List.flatten_append, ih, Nat.add_mul, Nat.one_mul, List.take_add]; simp
theorem digs4_get {p : List UInt8} (n : Nat) (q : List UInt8) (hn : n < 4294967296) : wget (p ++ (digs n 4 ++ q)) p.length 4 = ((n : Int), 0) := by
  have h := wget_ok (b := p ++ (digs n 4 ++ q)) (a := p.length) (w := 4) (by decide) (by decide) (by rw [List.length_append, List.length_append, digs_len]; omega)
  refine h.trans ?_
  rw [List.drop_left, List.take_left' (digs_len n 4), num_digs 4 n (by show n < 4294967296; omega)]
theorem text_enc {p l q : List UInt8} (hl : l.length ≤ 65536) : wtext (p ++ (digs l.length 4 ++ (l ++ q))) p.length = (l, p.length + 4 + l.length, 0) := by
  have hg := digs4_get (p := p) l.length (l ++ q) (by omega)
  unfold wtext
  rw [hg, if_neg (by simp), if_neg (by simp only; omega), if_neg (by rw [List.length_append, List.length_append, List.length_append, digs_len]; simp only; omega)]
  simp only [Int.toNat_natCast]
  have : (p ++ (digs l.length 4 ++ (l ++ q))).drop (p.length + 4) = l ++ q := by
    rw [← List.drop_drop, List.drop_left, List.drop_left' (digs_len _ _)]
  rw [this, List.take_left]
theorem join_enc {key val : List UInt8} (h1 : 1 ≤ key.length) (h2 : key.length ≤ 255) (h3 : val.length ≤ 65536) : joinR (encA key val) = (key, val, 0) := by
  have hb := encB_len key val
  have hc : 0 ≤ crcSum (encB key val) ∧ crcSum (encB key val) < 4294967296 := crcMore_range 0 _
  have e1 : encA key val = [] ++ (digs key.length 4 ++ (key ++ (digs val.length 4 ++ (val ++ digs (crcSum (encB key val)).toNat 4)))) := by simp [encA, encB]
  have e2 : encA key val = (digs key.length 4 ++ key) ++ (digs val.length 4 ++ (val ++ digs (crcSum (encB key val)).toNat 4)) := by simp [encA, encB]
  have e3 : encA key val = encB key val ++ (digs (crcSum (encB key val)).toNat 4 ++ []) := by simp [encA]
  have t1 : wtext (encA key val) 0 = (key, 4 + key.length, 0) := by
    rw [e1]
    have := text_enc (p := []) (l := key) (q := digs val.length 4 ++ (val ++ digs (crcSum (encB key val)).toNat 4)) (by omega)
    simpa using this
  have t2 : wtext (encA key val) (4 + key.length) = (val, 4 + key.length + 4 + val.length, 0) := by
    rw [e2]
    have := text_enc (p := digs key.length 4 ++ key) (l := val) (q := digs (crcSum (encB key val)).toNat 4) h3
    rw [List.length_append, digs_len] at this
    exact this
  have hle : 4 + key.length + 4 + val.length = (encB key val).length := by omega
  have t3 : wget (encA key val) ((4 + key.length + 4 + val.length : Nat) : Int) 4 = (crcSum (encB key val), 0) := by
    rw [hle, e3]
    have := digs4_get (p := encB key val) (crcSum (encB key val)).toNat [] (by omega)
    rw [this, Int.toNat_of_nonneg hc.1]
  unfold joinR
  rw [t1]
  simp only
  rw [t2]
  simp only
  rw [t3]
  simp only
  have htk : (encA key val).take (4 + key.length + 4 + val.length) = encB key val := by rw [hle, e3, List.take_left]
  rw [htk, if_neg (by simp), if_neg (by simp), if_neg (by simp), if_neg (by rw [encA_len]; omega), if_neg (by simp)]
theorem cutR_ok {key val : List UInt8} {c : Cf} (h : (cutR key val c).2 = 0) : 1 ≤ key.length ∧ key.length ≤ 255 ∧ val.length ≤ 65536 ∧ pagesOf key.length val.length c ≠ 0 ∧ (cutR key val c).1 = chunks (pagesOf key.length val.length c).toNat (roomOf c.2.2.1).toNat (encA key val) ∧ ((cutR key val c).1).flatten = encA key val := by
  unfold cutR at h ⊢
  split at h
  · exact absurd h (by simp)
  · rename_i h1
    split at h
    · exact absurd h (by simp)
    · rename_i h2
      split at h
      · exact absurd h (by simp)
      · rename_i h3
        rw [if_neg h1, if_neg h2, if_neg h3]
        refine ⟨by omega, by omega, by omega, h3, rfl, ?_⟩
        obtain ⟨_, _, _, _, hr0, hn1, hn8, _, htot, _⟩ := pagesOf_ne h3
        have hrr := roomOf_rng hr0
        simp only
        rw [chunks_flat, List.take_of_length_le]
        rw [encA_len]
        generalize pagesOf (key.length : Int) (val.length : Int) c = N at *
        generalize roomOf c.2.2.1 = R at *
        obtain ⟨n, rfl⟩ : ∃ n : Nat, N = n := ⟨N.toNat, by omega⟩
        obtain ⟨r, rfl⟩ : ∃ n : Nat, R = n := ⟨R.toNat, by omega⟩
        rw [Int.toNat_natCast, Int.toNat_natCast]
        have : (((n * r : Nat)) : Int) = (n : Int) * (r : Int) := Int.natCast_mul n r
        omega
theorem cutR_err {key val : List UInt8} {c : Cf} (h : (cutR key val c).2 ≠ 0) : (cutR key val c).1 = [] ∧ pagesOf key.length val.length c = 0 := by
  unfold cutR at h ⊢
  split at h
  · rename_i h1
    rw [if_pos h1]
    exact ⟨rfl, by unfold pagesOf; rw [if_pos (by omega)]⟩
  · rename_i h1
    split at h
    · rename_i h2
      rw [if_neg h1, if_pos h2]
      exact ⟨rfl, by unfold pagesOf; rw [if_pos (by omega)]⟩
    · rename_i h2
      split at h
      · rename_i h3
        rw [if_neg h1, if_neg h2, if_pos h3]
        exact ⟨rfl, h3⟩
      · exact absurd rfl h
theorem catL_pvs (gs : List PG) : catL (pvs gs) = (gs.map PG.l).flatten := by
  unfold catL pvs
  rw [List.flatMap_map, ← List.flatMap_def]
/-! ### the example -/
theorem device24_rd (L : HList) : Reads PP 20 #[] L (.agg #[.int .i64 4, .int .i64 8, .int .i64 64, .int .i64 9]) := by
  refine Reads.of (args := []) noNum mixed Tryd.func20 (e20 _) ?_
  unfold t20
  refine nw_of fun n1 _ => st_of [] L rfl rfl (by simp) (.inl (Nat.le_refl _)) #[.int .i64 4, .int .i64 8, .int .i64 64, .int .i64 9] rfl ?_
  exact ld_of (4, 8, 64, 9, ()) (ldB List.mem_cons_self rfl) (.cons (.of ⟨rfl, rfl⟩))
theorem undb : PP.underlying eB = some (.int .u8) := by kernel_rfl
theorem ex_pages : pagesOf 1 5 (4, 8, 64, 9, ()) = 1 := by decide
theorem ex_cut : cutR [107] [118, 97, 108, 117, 101] (4, 8, 64, 9, ()) = (chunks 1 48 (encA [107] [118, 97, 108, 117, 101]), 0) := by
  unfold cutR
  rw [if_neg (by decide), if_neg (by decide), if_neg (by decide)]
  rfl
theorem ex_cut0 : cutR [] [] (4, 8, 64, 9, ()) = ([], 2) := by
  unfold cutR
  rw [if_pos (by decide)]
theorem entries_rd (L : HList) (hT : Tab L) : Reads PP 7 #[] L (.bool true) := by
  refine Reads.of (args := []) noNum mixed Tryd.func7 (e7 _) ?_
  unfold t7
  refine nw_of fun n1 _ => mark_of undB undb ?_
  have hv : BSl ((n1, Obj.cells #[.int .u8 118, .int .u8 97, .int .u8 108, .int .u8 117, .int .u8 101] eB (5, 6)) :: L) ⟨some ⟨n1, 0, none⟩, 5, 5⟩ [118, 97, 108, 117, 101] := constB (l := [118, 97, 108, 117, 101]) 5 (Nat.le_refl _) List.mem_cons_self
  have hT1 := hT.cons (p := (n1, Obj.cells #[.int .u8 118, .int .u8 97, .int .u8 108, .int .u8 117, .int .u8 101] eB (5, 6)))
  generalize (n1, Obj.cells #[.int .u8 118, .int .u8 97, .int .u8 108, .int .u8 117, .int .u8 101] eB (5, 6)) = o1 at hv hT1
  refine cl_rd (device24_rd _) ((4, 8, 64, 9, ()), ()) rfl ?_
  refine cl_in [] [] (cut_cl (o1 :: L) hT1 ⟨#[107]⟩ (by decide) ⟨some ⟨n1, 0, none⟩, 5, 5⟩ _ hv (4, 8, 64, 9, ()) (by decide)) (by simp) ?_
  rintro _ _ - ⟨ov, oseg, gs, rfl, rfl, own, gok, hgs⟩
  have hkey : (ByteArray.mk #[107]).data.toList = [107] := rfl
  rw [hkey, ex_cut] at hgs ⊢
  rw [List.nil_append, List.append_nil]
  have hp : Parts (oseg ++ (pgs gs ++ (o1 :: L))) ov (pvs gs) := parts_of own gok (fun x hx => List.mem_append_left _ hx) (fun x hx => List.mem_append_right _ (List.mem_append_left _ hx))
  have hcat : catL (pvs gs) = encA [107] [118, 97, 108, 117, 101] := by
    rw [catL_pvs, hgs]
    show (chunks 1 48 _).flatten = _
    rw [chunks_flat, List.take_of_length_le (by rw [encA_len]; decide)]
  have hgl : gs.length = 1 := by have := congrArg List.length hgs; simpa [chunks] using this
  have hovl : ov.len = 1 := by have := hp.len; rwa [pvs, List.length_map, hgl] at this
  refine ⟨(ov, 0, ()), rfl, cl_in [] [] (join_cl _ ov (pvs gs) hp (by rw [hcat, encA_len]; decide) (by rw [pvs, List.length_map, hgl]; decide)) (by simp) ?_⟩
  rintro _ _ - ⟨g, rfl, rfl, hg, hgl2⟩
  rw [hcat, join_enc (by decide) (by decide) (by decide)] at hgl2 ⊢
  rw [List.nil_append, List.append_nil]
  refine ⟨(⟨#[107]⟩, g.v, 0, ()), rfl, cl_rd (device24_rd _) ((4, 8, 64, 9, ()), ()) rfl ?_⟩
  have hT2 : Tab (g.seg ++ (oseg ++ (pgs gs ++ (o1 :: L)))) := hT1.right.right.right
  refine cl_in [] [] (cut_cl _ hT2 ⟨#[]⟩ (by decide) ⟨none, 0, 0⟩ [] (Sl.nil 1) (4, 8, 64, 9, ()) (by decide)) (by simp) ?_
  rintro _ _ - ⟨ov2, oseg2, gs2, rfl, rfl, own2, gok2, hgs2⟩
  have hkey2 : (ByteArray.mk #[]).data.toList = [] := rfl
  rw [hkey2, ex_cut0] at hgs2 ⊢
  rw [List.nil_append, List.append_nil]
  refine ⟨(ov2, 2, ()), rfl, ?_⟩
  have hT3 : Tab (oseg2 ++ (pgs gs2 ++ (g.seg ++ (oseg ++ (pgs gs ++ (o1 :: L)))))) := hT2.right.right
  have hgv : BSl (oseg2 ++ (pgs gs2 ++ (g.seg ++ (oseg ++ (pgs gs ++ (o1 :: L)))))) g.v [118, 97, 108, 117, 101] := by
    have h0 : BSl g.seg g.v g.l := hg.sl
    rw [hgl2] at h0
    exact h0.left.right.right
  refine cl_rd (class_rd _ hT3 3 8 (by decide)) (4, ()) (congrArg (Value.int .i64) (by decide)) (ifT rfl (cl_rd (class_rd _ hT3 8 8 (by decide)) (0, ()) (congrArg (Value.int .i64) (by decide)) (ifT rfl ?_)))
  refine cl_rd (device24_rd _) ((4, 8, 64, 9, ()), ()) rfl (cl_rd (pages_rd _ hT3 1 35 (4, 8, 64, 9, ()) (by decide)) (1, ()) (congrArg (Value.int .i64) (by decide)) (ifT rfl ?_))
  refine cl_rd (device24_rd _) ((4, 8, 64, 9, ()), ()) rfl (cl_rd (pages_rd _ hT3 1 36 (4, 8, 64, 9, ()) (by decide)) (2, ()) (congrArg (Value.int .i64) (by decide)) (ifT rfl (ifT rfl ?_)))
  refine ifT (by show ((ov.len : Int) == 1) = true; rw [hovl]; rfl) (ifT (by simp) (b2s_of hgv (ifT (by simp) (ifT rfl ?_))))
  exact .app (.app (.app (.app (.app (.cons (.of ⟨rfl, rfl⟩))))))
theorem law_EntryJoins (L : HList) (hT : Tab L) (v : SlV) (l : List PV) (h : Parts L v l) (hl : l.length ≤ 9223372036854775807) : Reads PP 4 #[.slice v.a v.len v.cap] L (.bool true) := by
  refine Reads.of (args := [.slice v.a v.len v.cap]) noNum mixed Tryd.func4 (e4 v _) ?_
  unfold t4
  refine cl_in [] [] (fewp_cl L v l h hl 40 600) (by simp) ?_
  rintro _ L1 - ⟨hL1, b, rfl, hb⟩
  rw [List.nil_append, List.append_nil, hL1]
  refine ⟨(b, ()), rfl, ?_⟩
  cases b with
  | false => exact ifT rfl (cl_rd (entries_rd _ hT) (true, ()) rfl (.of ⟨rfl, rfl⟩))
  | true =>
    obtain ⟨h1, h2⟩ := hb rfl
    have hlen : (catL l).length ≤ l.length * 600 := by
      clear h hb hL1 hl h1
      induction l with
      | nil => simp [catL]
      | cons x r ih =>
        have hx := h2 x List.mem_cons_self
        have hr := ih fun y hy => h2 y (List.mem_cons_of_mem _ hy)
        unfold catL at hr ⊢
        rw [List.flatMap_cons, List.length_append, List.length_cons, Nat.add_mul]
        omega
    have hle : (catL l).length ≤ 1000000 := by
      have : l.length * 600 ≤ 40 * 600 := Nat.mul_le_mul_right _ (by omega)
      omega
    refine ifF rfl (cl_in [] [] (join_cl L v l h hle (by omega)) (by simp) ?_)
    rintro _ _ - ⟨g1, rfl, rfl, ho1, hg1⟩
    rw [List.nil_append, List.append_nil]
    refine ⟨(⟨(joinR (catL l)).1.toArray⟩, g1.v, (joinR (catL l)).2.2, ()), rfl, ?_⟩
    have h' : Parts (g1.seg ++ L) v l := h.mono fun x hx => List.mem_append_right _ hx
    refine cl_in [] [] (rjoin_cl (g1.seg ++ L) v l h' hle (by omega)) (by simp) ?_
    rintro _ _ - ⟨g2, rfl, rfl, ho2, hg2⟩
    rw [List.nil_append, List.append_nil]
    refine ⟨(⟨(joinR (catL l)).1.toArray⟩, g2.v, (joinR (catL l)).2.2, ()), rfl, ?_⟩
    unfold PG.Ok at ho1 ho2
    rw [hg1] at ho1
    rw [hg2] at ho2
    refine ifT (by simp) (cl_rd (same_rd _ g1.v g2.v _ ho1.sl.left.right ho2.sl.left) (true, ()) rfl (ifT rfl (ifT (by simp) ?_)))
    exact cl_rd (entries_rd _ hT.right.right) (true, ()) rfl (.app (.app (.of ⟨rfl, rfl⟩)))
theorem law_EntryCuts (L : HList) (hT : Tab L) (key : ByteArray) (hk : key.size ≤ maxLen) (u : SlV) (val : List UInt8) (hu : BSl L u val) (c : Cf) (hc : c.2.1 ≤ 9223372036854775807) (n m : Int) (hm : m ≤ 9223372036854775807) :
    Reads PP 3 #[.string key, .slice u.a u.len u.cap, .agg #[.int .i64 c.1, .int .i64 c.2.1, .int .i64 c.2.2.1, .int .i64 c.2.2.2.1], .int .i64 n, .int .i64 m] L (.bool true) := by
  refine Reads.of (args := [.string key, .slice u.a u.len u.cap, .agg #[.int .i64 c.1, .int .i64 c.2.1, .int .i64 c.2.2.1, .int .i64 c.2.2.2.1], .int .i64 n, .int .i64 m]) noNum mixed Tryd.func3 (e3 key u c n m _) ?_
  unfold t3
  have hul := hu.len
  refine nw_of fun n1 _ => ?_
  generalize ho : (n1, Obj.cells #[.int .i64 c.1, .int .i64 c.2.1, .int .i64 c.2.2.1, .int .i64 c.2.2.2.1] 24) = o1
  have lc : ∀ L : HList, o1 ∈ L → LdAt ⟨n1, 0, none⟩ [.int .i64 c.1, .int .i64 c.2.1, .int .i64 c.2.2.1, .int .i64 c.2.2.2.1] L := fun L hm => ldB (by rw [← ho] at hm; exact hm) rfl
  clear ho
  have hex : ∀ A : HList, cl PP 7 #[] [.lf .bool] (fun r => HL.Ends (fun v' L' => v' = Value.bool true ∧ L' = L) (.bool r.1)) (A ++ (o1 :: L)) := fun A => cl_rd (entries_rd _ hT.cons.right) (true, ()) rfl (.app (.cons (.of ⟨rfl, rfl⟩)))
  refine ifD_of (fun _ => hex []) (fun (h1 : ¬ (key.size : Int) > 1000) => ?_)
  have hmain : ∀ (e : ∀ A : HList, cl PP 7 #[] [.lf .bool] (fun r => HL.Ends (fun v' L' => v' = Value.bool true ∧ L' = L) (.bool r.1)) (A ++ (o1 :: L))), True := fun _ => trivial
  have key1 := cut_cl (o1 :: L) hT.cons key hk u val (Sl.cons hu) c hc
  refine ifD_of (fun (h2 : (u.len : Int) > 1000) => ifD_of (fun _ => hex []) (fun (h3 : ¬ (u.len : Int) ≤ 65536) => ?_)) (fun (h2 : ¬ (u.len : Int) > 1000) => ?_)
  all_goals
    refine ld_of c (lc _ List.mem_cons_self) (cl_in [] [] key1 (by simp) ?_)
    rintro _ _ - ⟨ov, oseg, gs, rfl, rfl, own, gok, hgs⟩
    rw [List.nil_append, List.append_nil]
    refine ⟨(ov, (cutR key.data.toList val c).2, ()), rfl, ?_⟩
    refine ld_of c (lc _ (by simp)) (cl_in [] [] (rcut_cl (oseg ++ (pgs gs ++ (o1 :: L))) key hk u val (Sl.right (Sl.right (Sl.cons hu))) c hc) (by simp) ?_)
    rintro _ _ - ⟨ov2, oseg2, gs2, rfl, rfl, own2, gok2, hgs2⟩
    rw [List.nil_append, List.append_nil]
    refine ⟨(ov2, (cutR key.data.toList val c).2, ()), rfl, ?_⟩
    have hp1 : Parts (oseg2 ++ (pgs gs2 ++ (oseg ++ (pgs gs ++ (o1 :: L))))) ov (pvs gs) := parts_of own gok (fun x hx => by simp [hx]) (fun x hx => by simp [hx])
    have hp2 : Parts (oseg2 ++ (pgs gs2 ++ (oseg ++ (pgs gs ++ (o1 :: L))))) ov2 (pvs gs2) := parts_of own2 gok2 (fun x hx => by simp [hx]) (fun x hx => by simp [hx])
    have hsnd : ∀ gs : List PG, (pvs gs).map Prod.snd = gs.map PG.l := fun gs => by unfold pvs; rw [List.map_map]; rfl
    have hlen : (pvs gs).length ≤ 1048576 := by
      have h9 : gs.length = (cutR key.data.toList val c).1.length := by rw [← hgs, List.length_map]
      rw [pvs, List.length_map, h9]
      by_cases hz : (cutR key.data.toList val c).2 = 0
      · obtain ⟨_, _, _, h5, h6, _⟩ := cutR_ok hz
        obtain ⟨_, _, _, _, _, _, h8, _⟩ := pagesOf_ne h5
        rw [h6, chunks, List.length_map, List.length_range]; omega
      · rw [(cutR_err hz).1]; simp
    have hbe : ((cutR key.data.toList val c).2 == (cutR key.data.toList val c).2) = true := by simp
    have hTT : Tab (oseg2 ++ (pgs gs2 ++ (oseg ++ (pgs gs ++ (o1 :: L))))) := hT.cons.right.right.right.right
    have hm1 : o1 ∈ oseg2 ++ (pgs gs2 ++ (oseg ++ (pgs gs ++ (o1 :: L)))) := by simp
    refine cl_rd (samep_rd _ ov ov2 _ _ hp1 hp2 (by rw [hsnd, hsnd, hgs, hgs2]) hlen) (true, ()) rfl (ifT rfl (ifT hbe ?_))
    refine cl_rd (class_rd _ hTT n m hm) (cls n m, ()) rfl (cl_rd (rclass_rd _ n m hm) (cls n m, ()) rfl (ifT (by simp) ?_))
    refine ld_of c (lc _ hm1) (ld_of c (lc _ hm1) (cl_rd (pages_rd _ hTT n m c hc) (pagesOf n m c, ()) rfl (keep_of (lc _ hm1) (cl_rd (rpages_rd _ n m c hc) (pagesOf n m c, ()) rfl (ifT (by simp) ?_)))))
    refine ld_of c (lc _ hm1) (ld_of c (lc _ hm1) (cl_rd (pages_rd _ hTT key.size u.len c hc) (pagesOf key.size u.len c, ()) rfl (keep_of (lc _ hm1) (cl_rd (rpages_rd _ key.size u.len c hc) (pagesOf key.size u.len c, ()) rfl (ifT (by simp) ?_)))))
    have := hex (oseg2 ++ (pgs gs2 ++ (oseg ++ pgs gs)))
    simpa using this
abbrev partWf (W : World) (x : PV) : Prop := SlOk W (fun b => [bv b]) (fun _ => True) 1 x
theorem row_EntryJoins (W : World) (hT : Tab (allB W)) (a0 : SlV) (l0 : List PV) (w0 : SlOk W (fun x : PV => [pvV x]) (partWf W) 1 (a0, l0)) :
    Reads PP 4 #[.slice a0.a a0.len a0.cap] (allB W) (.bool true) := by
  have hm : maxLen = 9223372036854775807 := rfl
  have h1 := w0.len'
  have h2 := w0.sl.cap
  have h3 := w0.cap
  simp only at h2 h3
  have hsl : Sl (allB W) a0 1 (l0.map pvV) := by
    have h := w0.sl
    have he : ∀ l : List PV, (l.flatMap fun x : PV => [pvV x]) = l.map pvV := by
      intro l
      induction l with
      | nil => rfl
      | cons x r ih => rw [List.flatMap_cons, ih]; rfl
    simp only at h
    rw [he] at h
    exact h
  exact law_EntryJoins _ hT a0 l0 ⟨hsl, fun x hx => (w0.all x hx).bytes⟩ (by omega)
theorem row_EntryCuts (W : World) (hT : Tab (allB W)) (a0 : ByteArray) (w0 : a0.size ≤ maxLen) (a1 : SlV) (l1 : List UInt8) (w1 : SlOk W (fun b => [bv b]) (fun _ => True) 1 (a1, l1)) (a2 : Cf) (w2 : intWf .i64 a2.1 ∧ intWf .i64 a2.2.1 ∧ intWf .i64 a2.2.2.1 ∧ intWf .i64 a2.2.2.2.1 ∧ True) (a3 : Int) (w3 : intWf .i64 a3) (a4 : Int) (w4 : intWf .i64 a4) :
    Reads PP 3 #[.string a0, .slice a1.a a1.len a1.cap, .agg #[.int .i64 a2.1, .int .i64 a2.2.1, .int .i64 a2.2.2.1, .int .i64 a2.2.2.2.1], .int .i64 a3, .int .i64 a4] (allB W) (.bool true) :=
  law_EntryCuts _ hT a0 w0 a1 l1 w1.bytes a2 (wf_i64 w2.2.1).2 a3 a4 (wf_i64 w4).2
end Go.Proofs.YtaniefdpjommnaaDoor
