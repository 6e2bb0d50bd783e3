/-
  It is proved that Parse inverts Image and Image inverts Parse: no program is in sight. There are no further conditions than those that each theorem names.
-/
import Derived.Test.YtaniefdpjommnaaPage5
import Derived.Test.YtaniefdpjommnaaCrcFlip
set_option linter.unusedVariables false
set_option linter.unusedSimpArgs false
namespace Go.Proofs.Ytaniefdpjommnaa
open Go.HL

theorem iAll_len {h : Hd} {p : List UInt8} {S : Nat} (h1 : 16 ≤ S) (h2 : p.length ≤ S - 16) : (iAll h p S).length = S := by
  unfold iAll
  rw [List.length_append, iBody_len h1 h2, digs_len]; omega
theorem dig0 {n : Nat} (h : n < 256) : (dig n 0).toNat = n := by
  have := num_digs 1 n (by simpa using h)
  have e : num (digs n 1) = (dig n 0).toNat := by simp [digs1, num]
  omega
theorem iAll_take (h : Hd) (p : List UInt8) {S : Nat} (h1 : 16 ≤ S) (h2 : p.length ≤ S - 16) : (iAll h p S).take (S - 4) = iBody h p S := by
  unfold iAll
  exact List.take_left' (iBody_len h1 h2)
theorem iAll_drop (h : Hd) (p : List UInt8) {S : Nat} (h1 : 16 ≤ S) (h2 : p.length ≤ S - 16) : (iAll h p S).drop (S - 4) = digs (crcSum (iBody h p S)).toNat 4 := by
  unfold iAll
  exact List.drop_left' (iBody_len h1 h2)
theorem num_crc (l : List UInt8) : ((num (digs (crcSum l).toNat 4) : Nat) : Int) = crcSum l := by
  have h := crcSum_rng l
  rw [num_digs 4 _ (show (crcSum l).toNat < 4294967296 by omega)]
  omega
theorem iAll_parts {h : Hd} (e : hErr h = 0) (p : List UInt8) {S : Nat} (h1 : 64 ≤ S ∧ S ≤ 512) (h2 : p.length ≤ S - 16) :
    hOf (iAll h p S) = h ∧ nOf (iAll h p S) = p.length ∧ payOf (iAll h p S) = p ∧ (∀ x ∈ padOf (iAll h p S), x = 0) ∧ (iAll h p S).getD 3 0 = 165 ∧ (iAll h p S).getD 9 0 = 0 := by
  have hok := hErr_ok e
  obtain ⟨k, pa, ps, ep, pg, u⟩ := h
  simp only at hok
  obtain ⟨k, rfl⟩ : ∃ n : Nat, k = n := ⟨k.toNat, by omega⟩
  obtain ⟨pa, rfl⟩ : ∃ n : Nat, pa = n := ⟨pa.toNat, by omega⟩
  obtain ⟨ps, rfl⟩ : ∃ n : Nat, ps = n := ⟨ps.toNat, by omega⟩
  obtain ⟨ep, rfl⟩ : ∃ n : Nat, ep = n := ⟨ep.toNat, by omega⟩
  obtain ⟨pg, rfl⟩ : ∃ n : Nat, pg = n := ⟨pg.toNat, by omega⟩
  have hlen := iAll_len (h := ((k : Int), (pa : Int), (ps : Int), (ep : Int), (pg : Int), ())) (p := p) (S := S) (by omega) h2
  generalize hq : List.replicate (S - 16 - p.length) 0 ++ digs (crcSum (iBody ((k : Int), (pa : Int), (ps : Int), (ep : Int), (pg : Int), ()) p S)).toNat 4 = q
  have hb : iAll ((k : Int), (pa : Int), (ps : Int), (ep : Int), (pg : Int), ()) p S = dig k 0 :: dig pa 0 :: dig ps 0 :: 165 :: dig ep 0 :: dig ep 1 :: dig ep 2 :: dig ep 3 :: dig pg 0 :: 0 :: dig p.length 0 :: dig p.length 1 :: (p ++ q) := by
    rw [← hq]
    unfold iAll
    conv => lhs; arg 1; unfold iBody hBytes
    simp only [Int.toNat_natCast, List.append_assoc]
    rfl
  have hbl : (S - 4) - 12 - p.length = S - 16 - p.length := by omega
  generalize hB : iAll ((k : Int), (pa : Int), (ps : Int), (ep : Int), (pg : Int), ()) p S = b at hb hlen ⊢
  have e4 : num (digs ep 4) = ep := num_digs 4 ep (show ep < 4294967296 by omega)
  have e2 : num (digs p.length 2) = p.length := num_digs 2 _ (show p.length < 65536 by omega)
  have hn : nOf b = p.length := by rw [hb]; exact e2
  refine ⟨?_, hn, ?_, ?_, by rw [hb]; rfl, by rw [hb]; rfl⟩
  · have : hOf b = (((dig k 0).toNat : Int), ((dig pa 0).toNat : Int), ((dig ps 0).toNat : Int), ((num (digs ep 4) : Nat) : Int), ((dig pg 0).toNat : Int), ()) := by rw [hb]; rfl
    rw [this, e4, dig0 (by omega), dig0 (by omega), dig0 (by omega), dig0 (by omega)]
  · unfold payOf
    rw [hn, hb]
    show List.take p.length (p ++ q) = p
    exact List.take_left' rfl
  · unfold padOf
    rw [hn, hlen, hb]
    have : List.drop (12 + p.length) (dig k 0 :: dig pa 0 :: dig ps 0 :: 165 :: dig ep 0 :: dig ep 1 :: dig ep 2 :: dig ep 3 :: dig pg 0 :: 0 :: dig p.length 0 :: dig p.length 1 :: (p ++ q)) = q := by
      rw [← List.drop_drop]
      show List.drop p.length (p ++ q) = q
      exact List.drop_left' rfl
    rw [this, ← hq, show S - 4 - (12 + p.length) = S - 16 - p.length by omega, List.take_left' (by rw [List.length_replicate])]
    exact fun x hx => List.eq_of_mem_replicate hx
theorem par_img {h : Hd} (e : hErr h = 0) (p : List UInt8) {S : Nat} (h1 : 64 ≤ S ∧ S ≤ 512) (h2 : p.length ≤ S - 16) : parR (iAll h p S) = (h, p, 0) ∧ pblank (iAll h p S) = false := by
  obtain ⟨a1, a2, a3, a4, a5, a6⟩ := iAll_parts e p h1 h2
  have hlen := iAll_len (h := h) (p := p) (S := S) (by omega) h2
  have hbk : pblank (iAll h p S) = false := by
    unfold pblank
    rw [List.all_eq_false]
    rw [getD_at (by omega)] at a5
    exact ⟨_, List.getElem_mem (show 3 < (iAll h p S).length by omega), by rw [a5]; decide⟩
  have hc : crcSum ((iAll h p S).take ((iAll h p S).length - 4)) = (num ((iAll h p S).drop ((iAll h p S).length - 4)) : Int) := by
    rw [hlen, iAll_take h p (by omega) h2, iAll_drop h p (by omega) h2, num_crc]
  have := parR_ok (b := iAll h p S) (by rw [hlen]; exact h1) hbk hc (pbad_f a5 a6 (by omega) (by rw [a1]; exact e) a4)
  rw [a1, a3] at this
  exact ⟨this, hbk⟩
theorem img_par {b : List UInt8} (h : (parR b).2.2 = 0) : (64 ≤ b.length ∧ b.length ≤ 512) ∧ hErr (parR b).1 = 0 ∧ (parR b).2.1.length ≤ b.length - 16 ∧ iAll (parR b).1 (parR b).2.1 b.length = b ∧ pblank b = false := by
  by_cases h1 : 64 ≤ b.length ∧ b.length ≤ 512
  · cases h2 : pblank b with
    | true => rw [parR_blank h1 h2] at h; cases h
    | false =>
      by_cases h3 : crcSum (b.take (b.length - 4)) = (num (b.drop (b.length - 4)) : Int)
      · cases h4 : pbad b with
        | true => rw [parR_bad h1 h2 h3 h4] at h; cases h
        | false =>
          have hno := fun c => (Bool.eq_false_iff.1 h4) ((pbad_iff b).2 c)
          have hn : nOf b ≤ b.length - 16 := by
            rcases Nat.lt_or_ge (b.length - 16) (nOf b) with c | c
            · exact absurd (.inr (.inr (.inl c))) hno
            · exact c
          rw [parR_ok h1 h2 h3 h4]
          refine ⟨h1, Decidable.byContradiction fun c => hno (.inr (.inr (.inr (.inl c)))), by rw [payOf_len (by omega)]; exact hn, ?_, rfl⟩
          refine (again h1.1 h3 hn).2 ⟨Decidable.byContradiction fun c => hno (.inl c), Decidable.byContradiction fun c => hno (.inr (.inl c)), fun x hx => Decidable.byContradiction fun c => hno (.inr (.inr (.inr (.inr ⟨x, hx, c⟩))))⟩
      · rw [parR_sum h1 h2 h3] at h; cases h
  · rw [parR_size h1] at h; cases h
theorem imgR_cases (h : Hd) (p : List UInt8) (size : Int) : (imgR h p size).2 = 0 ∧ (∃ S : Nat, size = S ∧ (64 ≤ S ∧ S ≤ 512) ∧ hErr h = 0 ∧ p.length ≤ S - 16 ∧ imgR h p size = (iAll h p S, 0)) ∨ (imgR h p size).2 ≠ 0 ∧ (imgR h p size).1 = [] := by
  by_cases h1 : 64 ≤ size ∧ size ≤ 512
  · obtain ⟨S, rfl⟩ : ∃ S : Nat, size = S := ⟨size.toNat, by omega⟩
    by_cases h2 : hErr h = 0
    · by_cases h3 : p.length ≤ S - 16
      · have := imgR_ok (h := h) (p := p) (S := S) (by omega) h2 h3
        exact .inl ⟨by rw [this], S, rfl, by omega, h2, h3, this⟩
      · refine .inr ?_
        unfold imgR
        rw [if_neg (by omega), if_neg (by simpa using h2), if_pos (by omega)]
        exact ⟨by decide, rfl⟩
    · refine .inr ?_
      rw [imgR_err (by omega) h2]
      exact ⟨h2, rfl⟩
  · refine .inr ?_
    unfold imgR
    rw [if_pos h1]
    exact ⟨by decide, rfl⟩
end Go.Proofs.Ytaniefdpjommnaa
