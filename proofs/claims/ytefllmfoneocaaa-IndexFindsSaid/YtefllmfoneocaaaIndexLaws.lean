/-
  It is proved that the laws IndexNil and IndexFinds return true for every input. There are no further conditions than those that each theorem names.
-/
import Derived.Test.YtefllmfoneocaaaIndexPlain
set_option linter.unusedVariables false
set_option linter.unusedSimpArgs false
namespace Go.Proofs.Ytefllmfoneocaaa
open Go.HL

theorem places_rd (L : HList) (u v : SlV) (l : List Pl) (hu : Sl L u 3 (l.flatMap plEnc)) (hv : Sl L v 3 (l.flatMap plEnc)) (hb : l.length ≤ 100000) : Reads PP 99 #[.slice u.a u.len u.cap, .slice v.a v.len v.cap] L (.bool true) := by
  refine Reads.of (args := [.slice u.a u.len u.cap, .slice v.a v.len v.cap]) noNum mixed Try.func99 (e99 u v _) ?_
  unfold t99
  have h1 := hu.els_len plEnc_len (by decide)
  have h2 := hv.els_len plEnc_len (by decide)
  refine ifF (by rw [h1, h2]; simp) ?_
  refine lp_of (fun k z L' => L' = L ∧ ∃ i : Nat, i ≤ l.length ∧ k = l.length - i ∧ z = ((i : Int), ())) l.length ⟨rfl, 0, by omega, by omega, rfl⟩ ?_
  rintro k z L' ⟨rfl, i, hi, rfl, rfl⟩
  refine ifD_of (fun (hlt : (i : Int) < u.len) => ?_) (fun (hge : ¬ (i : Int) < u.len) => .of ⟨rfl, rfl⟩)
  have hi' : i < l.length := by omega
  have hi0 : (0 : Int) ≤ (i : Int) := by omega
  obtain ⟨a, ha, la⟩ := hu.el plEnc_len (by decide) hi'
  obtain ⟨b, hb', lb⟩ := hv.el plEnc_len (by decide) hi'
  refine nilc_of ha (ixn_of hi0 hlt (nilc_of hb' (ixn_of hi0 (show (i : Int) < v.len by omega) (ld_of l[i] (by rw [Int.toNat_natCast]; exact la) (ld_of l[i] (by rw [Int.toNat_natCast]; exact lb) (nePl _ _ _ _ _ _ (ifF (by simp) ?_)))))))
  refine ⟨l.length - (i + 1), by omega, rfl, i + 1, by omega, rfl, ?_⟩
  rw [w64_id (by first | omega | (simp only; omega)) (by first | omega | (simp only; omega))]
  rfl
theorem at_rd (L : HList) (n : Int) : Reads PP 98 #[.int .i64 n] L (.agg #[.int .i64 1, .int .i64 n, .int .i64 1]) := by
  refine Reads.of (args := [.int .i64 n]) noNum mixed Try.func98 (e98 n _) ?_
  unfold t98
  exact nw_of fun n1 _ => st_of [] _ rfl rfl (by simp) (.inl (Nat.le_refl _)) #[.int .i64 1, .int .i64 n, .int .i64 1] rfl (ld_of (1, n, 1, ()) (ldB List.mem_cons_self rfl) (.cons (.of ⟨rfl, rfl⟩)))
theorem iex1 : iput (List.replicate 1 []) 2 5 (1, 1, 1, ()) = [[⟨0, 1, 1, 1, 0⟩]] := by kernel_rfl
theorem iex2 : iput [[⟨0, 1, 1, 1, 0⟩]] 2 5 (1, 2, 1, ()) = [[⟨0, 1, 1, 1, 0⟩, ⟨0, 1, 2, 1, 0⟩]] := by kernel_rfl
theorem iex3 : iput [[⟨0, 1, 1, 1, 0⟩, ⟨0, 1, 2, 1, 0⟩]] 2 5 (1, 3, 1, ()) = [[⟨0, 1, 2, 1, 0⟩, ⟨0, 1, 3, 1, 0⟩]] := by kernel_rfl
theorem iex3g : igone (irow [[⟨0, 1, 1, 1, 0⟩, ⟨0, 1, 2, 1, 0⟩]] 5) 2 5 (1, 3, 1, ()) = ⟨0, 1, 1, 1, 0⟩ := by kernel_rfl
theorem iex3f : ifinds (irow [[⟨0, 1, 2, 1, 0⟩, ⟨0, 1, 3, 1, 0⟩]] 5) 5 = [(1, 2, 1, ()), (1, 3, 1, ())] := by kernel_rfl
theorem iex4 : iset [[⟨0, 1, 2, 1, 0⟩, ⟨0, 1, 3, 1, 0⟩]] 5 (ihitL (irow [[⟨0, 1, 2, 1, 0⟩, ⟨0, 1, 3, 1, 0⟩]] 5) (inm 5 (1, 2, 1, ()))) = [[⟨0, 1, 2, 1, 1⟩, ⟨0, 1, 3, 1, 0⟩]] := by kernel_rfl
theorem iex5 : imove [[⟨0, 1, 2, 1, 1⟩, ⟨0, 1, 3, 1, 0⟩]] 5 (1, 2, 1, ()) (1, 4, 1, ()) = [[⟨0, 1, 3, 1, 0⟩, ⟨0, 1, 4, 1, 0⟩]] := by kernel_rfl
theorem iex5f : ifinds (irow [[⟨0, 1, 3, 1, 0⟩, ⟨0, 1, 4, 1, 0⟩]] 5) 5 = [(1, 3, 1, ()), (1, 4, 1, ())] := by kernel_rfl
theorem pl2_sl {Z : HList} {n : Nat} (a b c a' b' c' : Int) (h : (n, Obj.cells #[.int .i64 a, .int .i64 b, .int .i64 c, .int .i64 a', .int .i64 b', .int .i64 c'] 81) ∈ Z) : Sl Z ⟨some ⟨n, 0, none⟩, 2, 2⟩ 3 ([(a, b, c, ()), (a', b', c', ())].flatMap plEnc) :=
  ⟨rfl, Nat.le_refl _, .inr ⟨_, rfl, ldB h rfl⟩⟩
theorem indexes_rd (L : HList) : Reads PP 56 #[] L (.bool true) := by
  refine Reads.of (args := []) noNum mixed Try.func56 (e56 _) ?_
  unfold t56
  refine cl_in [] L (inew_cl 1 2 (by decide) (by decide) (by decide) (by decide)) rfl ?_
  rintro _ A - ⟨m, rfl, hA⟩
  refine ⟨(some ⟨m, 0, none⟩, 0, ()), rfl, cl_rd (inew_bad _ 0 2 (by decide)) (none, 30, ()) rfl (ifF rfl (ifF rfl (cl_rd (at_rd _ 1) ((1, 1, 1, ()), ()) rfl ?_)))⟩
  refine cl_in [] L (iput_cl m 2 _ A hA (by decide) 5 (by decide) (1, 1, 1, ()) (by decide)) rfl ?_
  rintro _ A1 - ⟨⟨g1, rfl, -⟩, hA1⟩
  rw [iex1] at hA1
  refine ⟨((g1.b, g1.p, g1.e, ()), false, ()), rfl, nw_of fun n1 _ => st_of [] _ rfl rfl (by simp) (.inl (Nat.le_refl _)) #[.int .i64 g1.b, .int .i64 g1.p, .int .i64 g1.e] rfl (cl_rd (at_rd _ 2) ((1, 2, 1, ()), ()) rfl ?_)⟩
  generalize (n1, Obj.cells #[.int .i64 g1.b, .int .i64 g1.p, .int .i64 g1.e] 81) = o1
  refine cl_in [o1] L (iput_cl m 2 _ A1 hA1 (by decide) 5 (by decide) (1, 2, 1, ()) (by decide)) rfl ?_
  rintro _ A2 - ⟨⟨g2, rfl, -⟩, hA2⟩
  rw [iex2] at hA2
  refine ⟨((g2.b, g2.p, g2.e, ()), false, ()), rfl, nw_of fun n2 _ => st_of [] _ rfl rfl (by simp) (.inl (Nat.le_refl _)) #[.int .i64 g2.b, .int .i64 g2.p, .int .i64 g2.e] rfl (cl_rd (at_rd _ 3) ((1, 3, 1, ()), ()) rfl ?_)⟩
  generalize (n2, Obj.cells #[.int .i64 g2.b, .int .i64 g2.p, .int .i64 g2.e] 81) = o2
  refine cl_in [o2, o1] L (iput_cl m 2 _ A2 hA2 (by decide) 5 (by decide) (1, 3, 1, ()) (by decide)) rfl ?_
  rintro _ A3 - ⟨⟨g3, rfl, hg3⟩, hA3⟩
  rw [iex3] at hA3
  rw [iex3g] at hg3
  subst hg3
  refine ⟨((1, 1, 1, ()), true, ()), rfl, nw_of fun n3 _ => st_of [] _ rfl rfl (by simp) (.inl (Nat.le_refl _)) #[.int .i64 1, .int .i64 1, .int .i64 1] rfl ?_⟩
  generalize ho3 : (n3, Obj.cells #[.int .i64 1, .int .i64 1, .int .i64 1] 81) = o3
  have l3 : ∀ {Z : HList}, o3 ∈ Z → LdAt ⟨n3, 0, none⟩ [.int .i64 1, .int .i64 1, .int .i64 1] Z := by
    subst ho3
    exact fun h => ldB h rfl
  refine cl_in [o3, o2, o1] L (ifind_cl m 2 _ A3 hA3 5 (by decide)) rfl ?_
  rintro _ _ - ⟨u1, sg1, rfl, rfl, own1⟩
  rw [iex3f] at own1
  refine ⟨(u1, ()), rfl, cl_rd (at_rd _ 2) ((1, 2, 1, ()), ()) rfl ?_⟩
  refine cl_in ([o3, o2, o1] ++ sg1) L (ihit_cl m 2 _ A3 hA3 5 (by decide) (1, 2, 1, ()) (fun s hs => by revert s; decide)) (by simp) ?_
  rintro _ A4 - ⟨rfl, hA4⟩
  rw [iex4] at hA4
  refine ⟨(true, ()), rfl, cl_rd (at_rd _ 2) ((1, 2, 1, ()), ()) rfl (cl_rd (at_rd _ 4) ((1, 4, 1, ()), ()) rfl ?_)⟩
  refine cl_in ([o3, o2, o1] ++ sg1) L (imove_cl m 2 _ A4 hA4 5 (by decide) (1, 2, 1, ()) (1, 4, 1, ()) (fun s hs => by revert s; decide)) rfl ?_
  rintro _ A5 - ⟨rfl, hA5⟩
  rw [iex5] at hA5
  refine ⟨(true, ()), rfl, ifT rfl (ifT rfl (ld_of (1, 1, 1, ()) (l3 (by simp)) (cl_rd (at_rd _ 1) ((1, 1, 1, ()), ()) rfl (keep_of (l3 (by simp)) (eqPl _ _ _ _ _ _ (ifT (by decide) (ifT rfl (cl_rd (at_rd _ 2) ((1, 2, 1, ()), ()) rfl (cl_rd (at_rd _ 3) ((1, 3, 1, ()), ()) rfl (nw_of fun n4 _ => ?_))))))))))⟩
  refine cl_rd (places_rd _ u1 ⟨some ⟨n4, 0, none⟩, 2, 2⟩ [(1, 2, 1, ()), (1, 3, 1, ())] (own1.sl.mono fun x hx => by simp [hx]) (pl2_sl _ _ _ _ _ _ (by simp)) (by decide)) (true, ()) rfl (ifT rfl (ifT rfl (ifT rfl ?_)))
  generalize (n4, Obj.cells #[.int .i64 1, .int .i64 2, .int .i64 1, .int .i64 1, .int .i64 3, .int .i64 1] 81) = o4
  refine cl_in (o4 :: ([o3, o2, o1] ++ sg1)) L (ifind_cl m 2 _ A5 hA5 5 (by decide)) rfl ?_
  rintro _ _ - ⟨u2, sg2, rfl, rfl, own2⟩
  rw [iex5f] at own2
  refine ⟨(u2, ()), rfl, cl_rd (at_rd _ 3) ((1, 3, 1, ()), ()) rfl (cl_rd (at_rd _ 4) ((1, 4, 1, ()), ()) rfl (nw_of fun n5 _ => ?_))⟩
  refine cl_rd (places_rd _ u2 ⟨some ⟨n5, 0, none⟩, 2, 2⟩ [(1, 3, 1, ()), (1, 4, 1, ())] (own2.sl.mono fun x hx => by simp [hx]) (pl2_sl _ _ _ _ _ _ (by simp)) (by decide)) (true, ()) rfl (ifT rfl ?_)
  generalize (n5, Obj.cells #[.int .i64 1, .int .i64 3, .int .i64 1, .int .i64 1, .int .i64 4, .int .i64 1] 81) = o5
  generalize hG : o5 :: (o4 :: ([o3, o2, o1] ++ sg1)) ++ sg2 = G
  have hX : o5 :: (o4 :: ([o3, o2, o1] ++ sg1) ++ (sg2 ++ A5) ++ L) = G ++ A5 ++ L := by subst hG; simp
  rw [hX]
  refine cl_rd (at_rd _ 4) ((1, 4, 1, ()), ()) rfl (cl_rd (Reads.in (X := G) (Y := L) (ifreq_rd m 2 _ A5 hA5 5 (by decide) (1, 4, 1, ()))) ((0 : Int), ()) rfl (ifT rfl ?_))
  refine cl_rd (Reads.in (X := G) (Y := L) (ilen_rd m 2 _ A5 hA5)) ((2 : Int), ()) rfl (ifT rfl ?_)
  refine cl_rd (Reads.in (X := G) (Y := L) (icrowd_rd m 2 _ A5 hA5 9 (by decide))) ((2 : Int), ()) rfl (ifT rfl (cl_rd (at_rd _ 3) ((1, 3, 1, ()), ()) rfl ?_))
  refine cl_in G L (idrop_cl m 2 _ A5 hA5 5 (by decide) (1, 3, 1, ())) rfl ?_
  rintro _ A6 - ⟨rfl, hA6⟩
  refine ⟨(true, ()), rfl, ifT rfl (cl_rd (ilen_nil _) (0, ()) rfl (ifT rfl (cl_rd (at_rd _ 1) ((1, 1, 1, ()), ()) rfl (cl_rd (ihit_nil _ 5 (1, 1, 1, ())) (false, ()) rfl (.app (.of ⟨rfl, rfl⟩))))))⟩
end Go.Proofs.Ytefllmfoneocaaa
