/-
  It is proved what no queue answers, and that the law about it returns true for every input. There are no further conditions than those that each theorem names.
-/
import Derived.Test.YtefllmfoneocaaaQueue4
set_option linter.unusedVariables false
set_option linter.unusedSimpArgs false
namespace Go.Proofs.Ytefllmfoneocaaa
open Go.HL

theorem put_nil (L : HList) (k : ByteArray) (v : SlV) : Reads PP 30 #[.pointer none, .string k, .slice v.a v.len v.cap] L (.tuple #[]) := by
  refine Reads.of (args := [.pointer none, .string k, .slice v.a v.len v.cap]) noNum mixed Try.func30 (e30 none k v _) ?_
  unfold t30
  exact ifT rfl (.of ⟨rfl, rfl⟩)
theorem get_nil (L : HList) (k : ByteArray) : Reads PP 31 #[.pointer none, .string k] L (.tuple #[.slice none 0 0, .bool false]) := by
  refine Reads.of (args := [.pointer none, .string k]) noNum mixed Try.func31 (e31 none k _) ?_
  unfold t31
  exact cl_rd (find_nil L k) (none, ()) rfl (ifT rfl (.of ⟨rfl, rfl⟩))
theorem peek_nil (L : HList) (k : ByteArray) : Reads PP 37 #[.pointer none, .string k] L (.tuple #[.slice none 0 0, .bool false]) := by
  refine Reads.of (args := [.pointer none, .string k]) noNum mixed Try.func37 (e37 none k _) ?_
  unfold t37
  exact cl_rd (find_nil L k) (none, ()) rfl (ifT rfl (.of ⟨rfl, rfl⟩))
theorem has_nil (L : HList) (k : ByteArray) : Reads PP 42 #[.pointer none, .string k] L (.bool false) := by
  refine Reads.of (args := [.pointer none, .string k]) noNum mixed Try.func42 (e42 none k _) ?_
  unfold t42
  exact cl_rd (find_nil L k) (none, ()) rfl (.of ⟨rfl, rfl⟩)
theorem over_nil (L : HList) : Reads PP 35 #[.pointer none] L (.bool false) := by
  refine Reads.of (args := [.pointer none]) noNum mixed Try.func35 (e35 none _) ?_
  unfold t35
  exact ifF rfl (.of ⟨rfl, rfl⟩)
theorem bytes_nil (L : HList) : Reads PP 33 #[.pointer none] L (.int .i64 0) := by
  refine Reads.of (args := [.pointer none]) noNum mixed Try.func33 (e33 none _) ?_
  unfold t33
  exact ifT rfl (.of ⟨rfl, rfl⟩)
theorem qlen_nil (L : HList) : Reads PP 34 #[.pointer none] L (.int .i64 0) := by
  refine Reads.of (args := [.pointer none]) noNum mixed Try.func34 (e34 none _) ?_
  unfold t34
  exact ifT rfl (.of ⟨rfl, rfl⟩)
theorem pop_none (L : HList) : Reads PP 32 #[.pointer none] L (.tuple #[.agg #[.string ByteArray.empty, .slice none 0 0, .int .i64 0], .bool false]) := by
  refine Reads.of (args := [.pointer none]) noNum mixed Try.func32 (e32 none _) ?_
  unfold t32
  refine nw_of fun n1 _ => ifT rfl (st_of [] _ rfl rfl (by simp) (.inl (Nat.le_refl _)) _ rfl (ld_of (ByteArray.empty, ⟨none, 0, 0⟩, 0, ()) (ldB List.mem_cons_self rfl) ?_))
  exact .cons (.of ⟨rfl, rfl⟩)

/-! ### the page's example -/
theorem kAB : (⟨#[98]⟩ : ByteArray) ≠ ⟨#[97]⟩ := by decide
theorem kAC : (⟨#[99]⟩ : ByteArray) ≠ ⟨#[97]⟩ := by decide
theorem kBC : (⟨#[99]⟩ : ByteArray) ≠ ⟨#[98]⟩ := by decide
theorem constY {L : HList} {b : Nat} {l : List UInt8} {T : TypeId} {fz : Nat × Nat} (cap : Nat) (hc : l.length ≤ cap) (hm : (b, Obj.cells (bvs l).toArray T fz) ∈ L) : BSl L ⟨some ⟨b, 0, none⟩, l.length, cap⟩ l :=
  ⟨by rw [bvs_length]; simp, hc, .inr ⟨_, rfl, .blk hm fun i v hv => by simpa using hv⟩⟩
theorem undY : PP.underlying tyB = some (.slice tyb) := by kernel_rfl
theorem undy : PP.underlying tyb = some (.int .u8) := by kernel_rfl
theorem mvP {p : Nat × Obj} {A R : HList} : (p :: (A ++ R)).Perm ((A ++ [p]) ++ R) := by
  have : (A ++ p :: R).Perm (p :: (A ++ R)) := List.perm_middle
  simpa using this.symm
theorem queues_rd (L : HList) : Reads PP 28 #[] L (.bool true) := by
  refine Reads.of (args := []) noNum mixed Try.func28 (e28 _) ?_
  unfold t28
  refine cl_in [] L (qnew_cl 5) rfl ?_
  rintro _ R0 - ⟨m, rfl, h0⟩
  have e5 : imax 5 0 = 5 := by decide
  rw [e5] at h0
  refine ⟨(some ⟨m, 0, none⟩, ()), rfl, nw_of fun n1 _ => mark_of undY undy ?_⟩
  have hc1 : BSl [(n1, Obj.cells #[.int .u8 120, .int .u8 121] tyb (2, 3))] ⟨some ⟨n1, 0, none⟩, 2, 2⟩ [120, 121] := constY (l := [120, 121]) 2 (Nat.le_refl _) List.mem_cons_self
  refine cl_fr (R := L) (qput_cl m 5 [] R0 [(n1, Obj.cells #[.int .u8 120, .int .u8 121] tyb (2, 3))] h0 (by simp) ⟨#[97]⟩ (by decide) ⟨some ⟨n1, 0, none⟩, 2, 2⟩ [120, 121] hc1 (by decide)) ?_ ?_
  · exact mvP
  rintro _ _ - ⟨rfl, R1, e1, rfl, h1, k1, v1, f1⟩
  refine ⟨(), rfl, nw_of fun n2 _ => mark_of undY undy ?_⟩
  have hc2 : BSl [(n2, Obj.cells #[.int .u8 122] tyb (1, 2))] ⟨some ⟨n2, 0, none⟩, 1, 1⟩ [122] := constY (l := [122]) 1 (Nat.le_refl _) List.mem_cons_self
  have d1 : qdrop ([] : List QE) ⟨#[97]⟩ = [] := rfl
  rw [d1, List.nil_append] at h1
  refine cl_fr (R := [(n1, Obj.cells #[.int .u8 120, .int .u8 121] tyb (2, 3))] ++ L) (qput_cl m 5 [e1] R1 [(n2, Obj.cells #[.int .u8 122] tyb (1, 2))] h1 (by simp) ⟨#[98]⟩ (by decide) ⟨some ⟨n2, 0, none⟩, 1, 1⟩ [122] hc2 (by decide)) ?_ ?_
  · rw [List.append_assoc R1]; exact mvP
  rintro _ _ - ⟨rfl, R2, e2, rfl, h2, k2, v2, f2⟩
  refine ⟨(), rfl, ?_⟩
  have d2 : qdrop [e1] ⟨#[98]⟩ = [e1] := by simp [qdrop, List.eraseP, k1, kAB]
  rw [d2] at h2
  have hs2 : (qsum ([e1] ++ [e2]) : Int) = 5 := by simp [qsum, k1, k2, v1, v2]; decide
  rw [List.append_assoc R2]
  have hEnd : ∀ (B : HList), HL.Ends (fun v' L' => v' = Value.bool true ∧ L' = L) (.bool true) (B ++ ([(n2, Obj.cells #[.int .u8 122] tyb (1, 2))] ++ ([(n1, Obj.cells #[.int .u8 120, .int .u8 121] tyb (2, 3))] ++ L))) := fun B => .app (.app (.app (.of ⟨rfl, rfl⟩)))
  generalize ([(n2, Obj.cells #[.int .u8 122] tyb (1, 2))] ++ ([(n1, Obj.cells #[.int .u8 120, .int .u8 121] tyb (2, 3))] ++ L)) = G at hEnd ⊢
  have q1 := qover_rd m 5 _ R2 h2
  rw [hs2] at q1
  refine cl_rd (Reads.in (X := []) (Y := G) q1) (false, ()) rfl ?_
  have q2 := qbytes_rd m 5 _ R2 h2
  rw [hs2] at q2
  refine cl_rd (Reads.in (X := []) (Y := G) q2) ((5 : Int), ()) rfl ?_
  refine cl_in [] G (qget_cl m 5 _ R2 h2 ⟨#[97]⟩) rfl ?_
  have g1 : qfind ([e1] ++ [e2]) ⟨#[97]⟩ = some e1 := by simp [qfind, List.find?, k1]
  have g2 : qbump ([e1] ++ [e2]) ⟨#[97]⟩ = [bump e1] ++ [e2] := by simp [qbump, k1, k2, kAB]
  rintro _ _ - ⟨u, sg, R3, rfl, rfl, ownu, h3⟩
  rw [g1] at ownu ⊢
  rw [g2] at h3
  have ownu' : Own u 1 tyb (bvs [120, 121]) sg := by rw [← v1]; exact ownu
  refine ⟨(u, true, ()), rfl, ?_⟩
  refine cl_in sg G (qput_cl m 5 _ R3 [] h3 (by simp) ⟨#[99]⟩ (by decide) ⟨none, 0, 0⟩ [] (Sl.nil 1) (by decide)) (by simp) ?_
  rintro _ _ - ⟨rfl, R4, e3, rfl, h4, k3, v3, f3⟩
  have d3 : qdrop ([bump e1] ++ [e2]) ⟨#[99]⟩ = [bump e1] ++ [e2] := by simp [qdrop, List.eraseP, bump, k1, k2, kAC, kBC]
  rw [d3] at h4
  have hs4 : (qsum ([bump e1] ++ [e2] ++ [e3]) : Int) = 6 := by simp [qsum, bump, k1, k2, k3, v1, v2, v3]; decide
  refine ⟨(), rfl, ?_⟩
  rw [List.append_nil]
  have q3 := qover_rd m 5 _ R4 h4
  rw [hs4] at q3
  refine cl_rd (Reads.in (X := sg) (Y := G) q3) (true, ()) rfl ?_
  refine cl_in sg G (qpop_cl m 5 (bump e1) ([e2] ++ [e3]) R4 h4) rfl ?_
  rintro _ _ - ⟨rfl, R5, rfl, h5⟩
  refine ⟨((e1.key, e1.v, imin (e1.freq + 1) 3, ()), true, ()), rfl, nw_of fun n3 _ => st_of [] _ rfl rfl (by simp) (.inl (Nat.le_refl _)) #[.string e1.key, .slice e1.v.a e1.v.len e1.v.cap, .int .i64 (imin (e1.freq + 1) 3)] rfl ?_⟩
  refine cl_rd (put_nil _ ⟨#[97]⟩ ⟨none, 0, 0⟩) () rfl (ifT rfl (ifT rfl (b2s_of (l := [120, 121]) ?_ (ifT (by simp) (ifT rfl (ifT rfl ?_))))))
  · exact ((ownu'.sl.left (R := R5 ++ (bump e1).seg)).left (R := G)).cons
  refine ld_of e1.key (ldB List.mem_cons_self rfl) (ifT (by rw [k1]; simp) (ld_of (imin (e1.freq + 1) 3) (ldB List.mem_cons_self rfl) (ifEq (by rw [f1]; rfl) (ifT rfl ?_))))
  have in5 : ∀ {f : FuncId} {args : Array Value} {v : Value}, Reads PP f args R5 v → Reads PP f args ([] ++ (n3, Obj.cells #[.string e1.key, .slice e1.v.a e1.v.len e1.v.cap, .int .i64 (imin (e1.freq + 1) 3)] 56) :: (sg ++ (R5 ++ (bump e1).seg) ++ G)) v := fun h => by
    have := Reads.in (X := (n3, Obj.cells #[.string e1.key, .slice e1.v.a e1.v.len e1.v.cap, .int .i64 (imin (e1.freq + 1) 3)] 56) :: sg) (Y := (bump e1).seg ++ G) h
    simpa [List.append_assoc] using this
  refine cl_rd (in5 (qlen_rd m 5 _ R5 h5)) ((2 : Int), ()) rfl (ifT rfl ?_)
  have g3 : (qfind ([e2] ++ [e3]) ⟨#[99]⟩).isSome = true := by simp [qfind, List.find?, k2, k3, kBC]
  have g4 : (qfind ([e2] ++ [e3]) ⟨#[97]⟩) = none := by simp [qfind, List.find?, k2, k3, kAB.symm, kAC.symm]
  have q6 := qhas_rd m 5 _ R5 h5 ⟨#[99]⟩
  rw [g3] at q6
  refine cl_rd (in5 q6) (true, ()) rfl (ifT rfl ?_)
  have q7 := qdrop_cl m 5 _ R5 h5 ⟨#[97]⟩
  rw [g4] at q7
  refine cl_in ((n3, Obj.cells #[.string e1.key, .slice e1.v.a e1.v.len e1.v.cap, .int .i64 (imin (e1.freq + 1) 3)] 56) :: sg) ((bump e1).seg ++ G) q7 (by simp) ?_
  rintro _ R6 - ⟨rfl, _⟩
  refine ⟨(false, ()), rfl, ifT rfl (cl_rd (qlen_nil _) ((0 : Int), ()) rfl (cl_rd (bytes_nil _) ((0 : Int), ()) rfl (ifT rfl (cl_rd (over_nil _) (false, ()) rfl ?_))))⟩
  have := hEnd ((n3, Obj.cells #[.string e1.key, .slice e1.v.a e1.v.len e1.v.cap, .int .i64 (imin (e1.freq + 1) 3)] 56) :: sg ++ R6 ++ (bump e1).seg)
  rw [List.append_assoc _ (bump e1).seg G] at this
  exact this

theorem law_QueueNil (L : HList) (kind : Int) (k : ByteArray) (v : SlV) : Reads PP 8 #[.agg #[.int .i64 kind, .string k, .slice v.a v.len v.cap]] L (.bool true) := by
  refine Reads.of (args := [.agg #[.int .i64 kind, .string k, .slice v.a v.len v.cap]]) noNum mixed Try.func8 (e8 (kind, k, v, ()) _) ?_
  unfold t8
  have hm : ∀ {n : Nat}, (n, Obj.cells #[.int .i64 kind, .string k, .slice v.a v.len v.cap] 51) ∈ (n, Obj.cells #[.int .i64 kind, .string k, .slice v.a v.len v.cap] 51) :: L := List.mem_cons_self
  refine nw_of fun n1 _ => ld_of k (ldB hm rfl) ?_
  refine ifD_of (fun (h1 : (k.size : Int) > 300) => cl_rd (queues_rd _) (true, ()) rfl (.cons (.of ⟨rfl, rfl⟩))) (fun (h1 : ¬ (k.size : Int) > 300) => ?_)
  refine ld_of v (ldB hm rfl) ?_
  refine ifD_of (fun (h1 : (v.len : Int) > 300) => cl_rd (queues_rd _) (true, ()) rfl (.cons (.of ⟨rfl, rfl⟩))) (fun (h2 : ¬ (v.len : Int) > 300) => ?_)
  refine ld_of k (ldB hm rfl) (ld_of v (ldB hm rfl) (cl_rd (put_nil _ k v) () rfl (ld_of k (ldB hm rfl) (cl_rd (get_nil _ k) (⟨none, 0, 0⟩, false, ()) rfl ?_))))
  refine cl_rd (pop_none _) ((ByteArray.empty, ⟨none, 0, 0⟩, 0, ()), false, ()) rfl ?_
  refine nw_of fun n2 _ => st_of [] _ rfl rfl (by simp) (.inl (Nat.le_refl _)) #[.string ByteArray.empty, .slice none 0 0, .int .i64 0] rfl ?_
  have hk : ∀ {p : Nat × Obj}, LdAt ⟨n1, 1, none⟩ [.string k] ([] ++ p :: (n1, Obj.cells #[.int .i64 kind, .string k, .slice v.a v.len v.cap] 51) :: L) := ldB (List.mem_cons_of_mem _ hm) rfl
  refine ld_of k hk (cl_rd (peek_nil _ k) (⟨none, 0, 0⟩, false, ()) rfl (ifT rfl (ifT rfl (ifT rfl (ld_of ByteArray.empty (ldB List.mem_cons_self rfl) (ifT (by rw [show (ByteArray.empty : ByteArray) = ⟨#[]⟩ from rfl]; simp) (ifT rfl ?_)))))))
  refine ld_of k hk (cl_rd (qdrop_nil _ k) (false, ()) rfl (ifT rfl (ld_of k hk (cl_rd (has_nil _ k) (false, ()) rfl (ifT rfl ?_)))))
  refine cl_rd (over_nil _) (false, ()) rfl (ifT rfl (cl_rd (bytes_nil _) ((0 : Int), ()) rfl (cl_rd (qlen_nil _) ((0 : Int), ()) rfl (ifT rfl ?_))))
  exact cl_rd (queues_rd _) (true, ()) rfl (.cons (.cons (.of ⟨rfl, rfl⟩)))
theorem row_QueueNil (W : World) (x0 : Int × ByteArray × (SlV × List UInt8) × Unit) (w0 : intWf .i64 x0.1 ∧ x0.2.1.size ≤ maxLen ∧ SlOk W (fun b => [bv b]) (fun _ => True) 1 x0.2.2.1 ∧ True) :
    Reads PP 8 #[.agg #[.int .i64 x0.1, .string x0.2.1, .slice x0.2.2.1.1.a x0.2.2.1.1.len x0.2.2.1.1.cap]] (allB W) (.bool true) :=
  law_QueueNil _ x0.1 x0.2.1 x0.2.2.1.1
end Go.Proofs.Ytefllmfoneocaaa
