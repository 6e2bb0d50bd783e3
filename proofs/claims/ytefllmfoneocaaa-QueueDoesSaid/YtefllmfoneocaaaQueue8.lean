/-
  It is proved that the law about the order of a queue returns true for every input. There are no further conditions than those that each theorem names.
-/
import Derived.Test.YtefllmfoneocaaaQueue7
import Derived.Test.YtefllmfoneocaaaWire3
set_option linter.unusedVariables false
set_option linter.unusedSimpArgs false
namespace Go.Proofs.Ytefllmfoneocaaa
open Go.HL

/-- Every byte of a slice of one's own is turned. -/
theorem flip_lp (X Y : HList) (v : SlV) (b : List UInt8) (seg : HList) (own : Own v 1 tyb (bvs b) seg) (hb : b.length ≤ 1000000) {K : HP} (hK : ∀ seg', K (X ++ seg' ++ Y)) :
    (lp [.lf (.int .i64)] (0, ()) fun z2 go2 =>
      ifB (decide ((z2.1 : Int) < v.len)) (
       nilc v.a fun a3 =>
       ixn z2.1 v.len <|
       ld (Addr.add a3 (z2.1.toNat * 1)) (.lf (.int .u8)) fun v4 =>
       nilc v.a fun a4 =>
       ixn z2.1 v.len <|
       st (Addr.add a4 (z2.1.toNat * 1)) [.int .u8 (bitI .xor .u8 v4 255)] <|
       go2 (IntKind.i64.wrap (z2.1 + 1), ())) K) (X ++ seg ++ Y) := by
  have hvl := own.sl.len
  rw [bvs_length, Nat.mul_one] at hvl
  refine lp_of (fun k z L' => ∃ (i : Nat) (cb : List UInt8) (seg : HList), i ≤ v.len ∧ k = v.len - i ∧ z = ((i : Int), ()) ∧ L' = X ++ seg ++ Y ∧ cb.length = b.length ∧ Own v 1 tyb (bvs cb) seg) v.len
    ⟨0, b, seg, by omega, by omega, rfl, rfl, rfl, own⟩ ?_
  clear own
  rintro k z L' ⟨i, cb, seg, hi, rfl, rfl, rfl, hcb, own⟩
  refine ifD_of (fun (hlt : (i : Int) < v.len) => ?_) (fun (hge : ¬ (i : Int) < v.len) => hK seg)
  have hi' : i < cb.length := by omega
  have hsl : BSl (X ++ seg ++ Y) v cb := own.sl.right.left
  obtain ⟨a, ha⟩ := hsl.some hi'
  refine nilc_of ha (ixn_of (show (0 : Int) ≤ i by omega) hlt (ld_of (cb[i].toNat : Int) (hsl.rd hi' ha _ (by simp)) (nilc_of ha (ixn_of (show (0 : Int) ≤ i by omega) hlt ?_))))
  have hd : ∃ d : UInt8, bitI .xor .u8 (cb[i].toNat : Int) 255 = (d.toNat : Int) := by
    obtain ⟨d, hd⟩ := tmod_any ((BitVec.ofInt 8 (cb[i].toNat : Int) ^^^ BitVec.ofInt 8 255).toNat : Int)
    refine ⟨d, ?_⟩
    rw [xor8, ← hd, w8_bv, bv_nat]
  obtain ⟨d, hd⟩ := hd
  refine own.st X Y (p := i) (by rw [bvs_length]; simp only [List.length_cons, List.length_nil]; omega) (by simp) ha (by simp) rfl fun seg' own' => ?_
  rw [putL_one (by rw [bvs_length]; omega), hd, bvs_set] at own'
  refine ⟨v.len - (i + 1), by omega, i + 1, _, seg', by omega, rfl, ?_, rfl, by rw [List.length_set]; exact hcb, own'⟩
  rw [w64_id (by first | omega | (simp only; omega)) (by first | omega | (simp only; omega))]
  rfl

/-- Only what was asked for was got. -/
def Got (l : List QE) (got : ByteArray) : Prop := ∀ e ∈ l, 0 < e.freq → e.key = got
theorem Got.drop {l : List QE} {got k : ByteArray} (h : Got l got) : Got (qdrop l k) got := fun e he => h e (List.mem_of_mem_eraseP he)
theorem Got.bump {l : List QE} {got : ByteArray} (h : Got l got) : Got (qbump l got) got := by
  intro e he hf
  unfold qbump at he
  obtain ⟨a, ha, rfl⟩ := List.mem_map.1 he
  split at hf
  · rename_i hk
    rw [if_pos hk]; exact hk
  · rename_i hk
    rw [if_neg hk]; exact h a ha hf

theorem lasts_len (l : List KV) : (lasts l).length ≤ l.length := by
  induction l with
  | nil => simp [lasts]
  | cons x r ih =>
    unfold lasts
    split
    · rw [List.length_cons]; omega
    · rw [List.length_cons, List.length_cons]; omega
theorem queue_put_loop (L : HList) (room : Int) (v : SlV) (l : List QAct) (h : QActs L v l) (hfew : l.length ≤ 60) (hsm : ∀ x ∈ l, x.2.1.size ≤ 300 ∧ x.2.2.1.2.length ≤ 300) (m : Nat) (i : Nat) (hi : i < l.length) (lq : List QE) (J R : HList) (hR : QH m room lq R)
    (hd : dataOf lq = lasts ((l.take i).map kvOf)) (got : ByteArray) (hg : Got lq got) {k : HP} (hk : ∀ lq' J' R', QH m room lq' R' → dataOf lq' = lasts ((l.take (i + 1)).map kvOf) → Got lq' got → k (J' ++ R' ++ L)) :
    (nw (.cells #[] tyb) fun n1 =>
      nilc v.a fun a1 =>
      ixn (i : Int) v.len <|
      ld (Addr.add (Addr.add a1 ((i : Int).toNat * 3)) 2) (.lf .sl) fun v1 =>
      smW PP (Builtin.append_ #[tyB, tyB] tyB #[.slice (some ⟨n1, 0, none⟩) 0 0, .slice v1.a v1.len v1.cap]) [.lf .sl] fun v2 =>
      nilc v.a fun a2 =>
      ixn (i : Int) v.len <|
      ld (Addr.add (Addr.add a2 ((i : Int).toNat * 3)) 1) (.lf .str) fun v3 =>
      cl PP 30 #[.pointer (some ⟨m, 0, none⟩), .string v3, .slice v2.1.a v2.1.len v2.1.cap] [] fun r5 =>
      lp [.lf (.int .i64)] (0, ()) fun z2 go2 =>
       ifB (decide ((z2.1 : Int) < v2.1.len)) (
        nilc v2.1.a fun a3 =>
        ixn z2.1 v2.1.len <|
        ld (Addr.add a3 (z2.1.toNat * 1)) (.lf (.int .u8)) fun v4 =>
        nilc v2.1.a fun a4 =>
        ixn z2.1 v2.1.len <|
        st (Addr.add a4 (z2.1.toNat * 1)) [.int .u8 (bitI .xor .u8 v4 255)] <|
        go2 (IntKind.i64.wrap (z2.1 + 1), ())) (
        cl PP 31 #[.pointer (some ⟨m, 0, none⟩), .string got] [.lf .sl, .lf .bool] fun r6 =>
        lp [.lf (.int .i64)] (0, ()) fun z3 go3 =>
         ifB (decide ((z3.1 : Int) < r6.1.len)) (
          nilc r6.1.a fun a5 =>
          ixn z3.1 r6.1.len <|
          ld (Addr.add a5 (z3.1.toNat * 1)) (.lf (.int .u8)) fun v5 =>
          nilc r6.1.a fun a6 =>
          ixn z3.1 r6.1.len <|
          st (Addr.add a6 (z3.1.toNat * 1)) [.int .u8 (bitI .xor .u8 v5 255)] <|
          go3 (IntKind.i64.wrap (z3.1 + 1), ())) k)) (J ++ R ++ L) := by
  have hvl := h.len
  have hx := hsm l[i] (List.getElem_mem hi)
  have hv0 : (0 : Int) ≤ (i : Int) := by omega
  have hlt : (i : Int) < v.len := by omega
  have okq : QOk lq := by obtain ⟨_, _, _, _, _, ok⟩ := hR; exact ok
  have hlq : lq.length ≤ i := by
    have h1 := congrArg List.length hd
    have h2 := lasts_len ((l.take i).map kvOf)
    rw [List.length_map, List.length_take] at h2
    unfold dataOf at h1
    rw [List.length_map] at h1
    omega
  refine nw_of fun n1 _ => ?_
  obtain ⟨a, ha, _, l1, l2, _⟩ := (h.right (R := (n1, Obj.cells #[] tyb) :: (J ++ R))).at' hi
  refine nilc_of ha (ixn_of hv0 hlt (ld_of l[i].2.2.1.1 l2 ?_))
  have hb := (h.val l[i] (List.getElem_mem hi))
  have hbl := hb.len
  refine append_in elemY srcY [] (J ++ R ++ L) own_e rfl (.sl (hb.right (R := (n1, Obj.cells #[] tyb) :: (J ++ R)))) (bvs_plain _) (by first | omega | (simp only; omega)) fun v2 seg hv2 own => ?_
  rw [List.nil_append] at own
  obtain ⟨a', ha', _, l1', _, _⟩ := (h.right (R := [] ++ seg ++ (J ++ R))).at' hi
  rw [ha] at ha'
  obtain rfl := Option.some.inj ha'
  have l1'' : LdAt (Addr.add (Addr.add a ((i : Int).toNat * 3)) 1) [.string l[i].2.1] ([] ++ seg ++ (J ++ R ++ L)) := by
    have e : [] ++ seg ++ (J ++ R) ++ L = [] ++ seg ++ (J ++ R ++ L) := by simp [List.append_assoc]
    rw [← e]; exact l1'
  refine nilc_of ha (ixn_of hv0 hlt (ld_of l[i].2.1 l1'' ?_))
  refine cl_pm (R := J ++ L) (qput_cl m room lq R seg hR (by omega) l[i].2.1 (by omega) v2 l[i].2.2.1.2 own.sl (by omega)) ?_ ?_
  · classical
    rw [List.perm_iff_count]
    intro x
    simp only [List.append_eq, List.nil_append, List.count_append]
    omega
  rintro _ A' ⟨rfl, R1, e, rfl, hR1, ek, ev, ef⟩
  refine ⟨(J ++ R1) ++ seg ++ L, ?_, (), rfl, ?_⟩
  · classical
    rw [List.perm_iff_count]
    intro x
    simp only [List.append_eq, List.count_append]
    omega
  refine flip_lp (J ++ R1) L v2 _ seg own (by omega) fun seg' => ?_
  refine cl_pm (R := J ++ seg' ++ L) (qget_cl m room _ R1 hR1 got) ?_ ?_
  · classical
    rw [List.perm_iff_count]
    intro x
    simp only [List.append_eq, List.count_append]
    omega
  rintro _ A' ⟨u, sg, R2, rfl, rfl, ownu, hR2⟩
  refine ⟨(J ++ seg') ++ sg ++ (R2 ++ L), ?_, (u, _, ()), rfl, ?_⟩
  · classical
    rw [List.perm_iff_count]
    intro x
    simp only [List.append_eq, List.count_append]
    omega
  refine flip_lp (J ++ seg') (R2 ++ L) u _ sg ownu ?_ fun sg' => ?_
  · cases hq : qfind (qdrop lq l[i].2.1 ++ [e]) got with
    | none => simp
    | some e' =>
      obtain ⟨p, s, hps, _, _⟩ := qfind_some hq
      obtain ⟨_, _, _, _, _, ok1⟩ := hR1
      have := (ok1.small e' (by rw [hps]; simp)).2
      simp; omega
  have := hk (qbump (qdrop lq l[i].2.1 ++ [e]) got) (J ++ seg' ++ sg') R2 hR2 ?_ ?_
  · simpa [List.append_assoc] using this
  · rw [data_bump, data_append, data_drop okq, hd, List.take_succ_eq_append_getElem hi, List.map_append]
    show _ = lasts ((l.take i).map kvOf ++ [kvOf l[i]])
    rw [lasts_snoc]
    simp [dataOf, kvOf, ek, ev]
  · refine Got.bump fun x hx hf => ?_
    rcases List.mem_append.1 hx with hx | hx
    · exact hg.drop x hx hf
    · rw [List.mem_singleton.1 hx, ef] at hf
      omega
end Go.Proofs.Ytefllmfoneocaaa
