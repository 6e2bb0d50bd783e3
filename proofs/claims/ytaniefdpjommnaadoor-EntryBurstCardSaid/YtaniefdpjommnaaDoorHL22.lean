/-
  It is proved what a copy into a slice of one's own does. There are no further conditions than those that each theorem names.
-/
import Derived.Test.YtaniefdpjommnaaDoorHL21
set_option linter.unusedVariables false
set_option linter.unusedSimpArgs false
namespace Go.HL
section
variable {P : Program} {L : HList}
/-- 'copy' into a part of a slice of one's own. -/
theorem copy_own {t t2 ty e T : TypeId} {sz : Nat} (hu : P.underlying t = some (.slice e)) (hs : sizeOfT P e = some sz) {v : SlV} {vs : List Value} {seg : HList} (X Y : HList) (own : Own v sz T vs seg) (hL : L = X ++ seg ++ Y)
    {d : SlV} {l : Nat} {a : Addr} (ha : v.a = some a) (hd : d.a = some (Addr.add a (l * sz))) (hdl : l + d.len ≤ v.len) {u : SlV} {ws : List Value} (src : Sl L u sz ws) (hpl : ws.all plainV = true) {k : RsV [.lf (.int .i64)] → HP}
    (hk : ∀ seg', Own v sz T (putL vs (l * sz) (ws.take (min u.len d.len * sz))) seg' → k (((min u.len d.len : Nat) : Int), ()) (X ++ seg' ++ Y)) :
    smW P (Builtin.copy_ #[t, t2] ty #[.slice d.a d.len d.cap, .slice u.a u.len u.cap]) [.lf (.int .i64)] k L := by
  subst hL
  rcases own.row with ⟨ha', _, _⟩ | ⟨b, off, c, fz, ha', rfl, hsz, hfz, hc⟩
  · rw [ha] at ha'; cases ha'
  · rw [ha] at ha'
    obtain rfl := Option.some.inj ha'
    have hlen := own.len
    have hcap := own.cap
    have h1 := Nat.mul_le_mul_right sz (show l + d.len ≤ v.cap by omega)
    have h2 := Nat.mul_le_mul_right sz hdl
    rw [Nat.add_mul] at h1 h2
    have hle : min u.len d.len * sz ≤ d.len * sz := Nat.mul_le_mul_right _ (Nat.min_le_right _ _)
    have hlt : (ws.take (min u.len d.len * sz)).length ≤ min u.len d.len * sz := List.length_take_le _ _
    have hp : l * sz + (ws.take (min u.len d.len * sz)).length ≤ vs.length := by omega
    have hL2 : X ++ [(b, Obj.cells c T fz)] ++ Y = X ++ (b, Obj.cells c T fz) :: Y := by simp
    rw [hL2] at src ⊢
    refine copy_of (off := off + l * sz) hu hs (by rw [hd]; exact congrArg some (addr_add (ad := ⟨b, off, none⟩) rfl (l * sz))) src hpl (by omega) hfz ?_
    have := hk [(b, Obj.cells (wr c (off + l * sz) (ws.take (min u.len d.len * sz))) T fz)] ⟨by rw [putL_len _ _ _ hp]; exact hlen, hcap, .inr ⟨b, off, _, fz, ha, rfl, by rw [wr_size]; exact hsz, by rw [wr_size]; exact hfz, fun i x hx => ?_⟩⟩
    · simpa using this
    · rw [putL_get _ _ _ hp] at hx
      rw [wr_get _ _ _ _ (by omega)]
      split at hx
      · rw [if_pos (by omega), show off + i - (off + l * sz) = i - l * sz by omega]; exact hx
      · rw [if_neg (by omega)]; exact hc i x hx
theorem bvs_put (l : List UInt8) (p : Nat) (ws : List UInt8) : putL (bvs l) p (bvs ws) = bvs (l.take p ++ ws ++ l.drop (p + ws.length)) := by
  simp [putL, bvs, List.map_append, List.map_take, List.map_drop]
theorem bvs_take (l : List UInt8) (n : Nat) : (bvs l).take n = bvs (l.take n) := by simp [bvs, List.map_take]
theorem bvs_drop (l : List UInt8) (n : Nat) : (bvs l).drop n = bvs (l.drop n) := by simp [bvs, List.map_drop]
theorem zeros_bvs (n : Nat) : zeros [.int .u8 0] n = bvs (List.replicate n 0) := by
  induction n with
  | zero => rfl
  | succ n ih => rw [List.replicate_succ]; simp only [zeros] at ih ⊢; rw [List.replicate_succ, List.flatten_cons, ih]; rfl
end
end Go.HL
