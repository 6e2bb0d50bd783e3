/-
  It is proved that every operation's node is sound. There are no further conditions than those that each theorem names.
-/
import Derived.Test.YtaniefdpjommnaaDoorHL10
set_option linter.unusedVariables false
set_option linter.unusedSimpArgs false
namespace Go.HL
section
variable {P : Program} {n : Nat} {env : Env} {a : Act} {o : Oper} {φs : List HP} {k : Value → List HP → HP} {L : HList}

theorem ok_P {s : Sem Value} (hc : clsOf P o = .P) (he : ∀ w, (execOp a.eval o).run P w = (do pure (.value (← s)) : Sem Next).run P w) {v : Value} (hs : ∀ w, s.run P w = .ok v w) (hk : k v [] L) : OpOk P (clsOf P o) o a L φs k := by
  rw [hc]; exact ⟨v, fun w => by rw [he]; exact run_v (hs w), hk⟩

theorem hp_eq {M : HP} {L : HList} (h : M L) : ∃ M' : HP, M' = M ∧ M' L := ⟨M, rfl, h⟩

theorem flatOp_sound (hN : NoNum P) (hag : Agree n env a) (h : flatOp P o env (keeps φs) k L) : OpOk P (clsOf P o) o a L φs k := by
  cases ho : o.op with
  | move x =>
    simp only [flatOp, ho] at h
    cases hx : evL env x with
    | none => rw [hx] at h; exact False.elim h
    | some v =>
      rw [hx] at h
      have hc : clsOf P o = .P := by simp only [clsOf, ho]
      rw [hc]
      exact ⟨v, fun w => by simp only [execOp, ho, hag.ev hx]; rfl, h⟩
  | assign x =>
    simp only [flatOp, ho] at h
    cases hx : evL env x with
    | none => rw [hx] at h; exact False.elim h
    | some v =>
      rw [hx] at h
      have hc : clsOf P o = .P := by simp only [clsOf, ho]
      rw [hc]
      exact ⟨v, fun w => by simp only [execOp, ho, hag.ev hx]; rfl, h⟩
  | pick c x y =>
    simp only [flatOp, ho] at h
    have hc : clsOf P o = .P := by simp only [clsOf, ho]
    have hq := hp_eq h; clear h; obtain ⟨M, hM, h⟩ := hq
    split at hM <;> subst hM
    · rename_i t va vb h1 h2 h3
      rw [hc]
      have e1 := hag.ev h1
      have e2 := hag.ev h2
      have e3 := hag.ev h3
      rcases ifB_spec h with ⟨rfl, h⟩ | ⟨rfl, h⟩
      · exact ⟨va, fun w => by simp [execOp, ho, e1, e2, asBool], h⟩
      · exact ⟨vb, fun w => by simp [execOp, ho, e1, e3, asBool], h⟩
    · exact False.elim h
  | alloc t =>
    simp only [flatOp, ho] at h
    cases hz : zeroOf P t with
    | none => rw [hz] at h; exact False.elim h
    | some z =>
      rw [hz] at h
      refine ok_new (by simp only [clsOf, ho]) (s := Instr.alloc t true (.tuple #[])) (fun w => by simp only [execOp, ho]) (ob := .cells z.cells t) (f := fun m => .pointer (some ⟨m, 0, none⟩)) (fun w => ?_) h
      simp [Instr.alloc, zeroOf_spec hz, newVar, newRow]
  | box t x =>
    simp only [flatOp, ho] at h
    cases hx : evL env x with
    | none => rw [hx] at h; exact False.elim h
    | some v =>
      rw [hx] at h
      refine ok_new (by simp only [clsOf, ho]) (s := Instr.box t (a.eval x)) (fun w => by simp only [execOp, ho]) (ob := .cells v.cells t) (f := fun m => .pointer (some ⟨m, 0, none⟩)) (fun w => ?_) h
      rw [hag.ev hx]
      simp [Instr.box, newVar, newRow]
  | build t parts =>
    simp only [flatOp, ho] at h
    have hc : clsOf P o = .P := by simp only [clsOf, ho]
    have hq := hp_eq h; clear h; obtain ⟨M, hM, h⟩ := hq
    split at hM <;> subst hM
    · rename_i ps z fs h1 h2 h3
      have hq := hp_eq h; clear h; obtain ⟨M, hM, h⟩ := hq
      split at hM <;> subst hM
      · rename_i pl hpl
        have hq := hp_eq h; clear h; obtain ⟨M, hM, h⟩ := hq
        split at hM <;> subst hM
        · rename_i cs hcs
          refine ok_P hc (s := Instr.build t (parts.map fun (i, x) => (i, a.eval x))) (fun w => by simp only [execOp, ho]) (fun w => ?_) h
          have hpl' : ∀ w, (fs.mapM (m := Sem) fun f => do pure (f.offset, ← sizeOf f.type)).run P w = .ok pl.toArray w := by
            intro w
            rw [Array.mapM_eq_mapM_toList]
            rw [Sem.run_map, mapM_places fs.toList pl hpl w]
            rfl
          simp only [Instr.build, Sem.run_bind, zeroOf_spec h2, Result.andThen_ok, run_und h3, hpl', hag.evpa h1]
          have : Instr.fill (fun x => pl.toArray[x]?) z.cells ps = some cs := by simpa using hcs
          rw [this]
          rfl
        · exact False.elim h
      · exact False.elim h
    · rename_i ps z q e h1 h2 h3
      have hq := hp_eq h; clear h; obtain ⟨M, hM, h⟩ := hq
      split at hM <;> subst hM
      · rename_i m hm
        have hq := hp_eq h; clear h; obtain ⟨M, hM, h⟩ := hq
        split at hM <;> subst hM
        · rename_i cs hcs
          refine ok_P hc (s := Instr.build t (parts.map fun (i, x) => (i, a.eval x))) (fun w => by simp only [execOp, ho]) (fun w => ?_) h
          simp only [Instr.build, Sem.run_bind, zeroOf_spec h2, Result.andThen_ok, run_und h3, sizeOfT_spec hm, hag.evpa h1, hcs]
          rfl
        · exact False.elim h
      · exact False.elim h
    · exact False.elim h
  | buildSlice t len parts =>
    simp only [flatOp, ho] at h
    have hc : clsOf P o = .A := by simp only [clsOf, ho]
    have hq := hp_eq h; clear h; obtain ⟨M, hM, h⟩ := hq
    split at hM <;> subst hM
    · rename_i ps e h1 h3
      have hq := hp_eq h; clear h; obtain ⟨M, hM, h⟩ := hq
      split at hM <;> subst hM
      · rename_i m z hm hz
        have hq := hp_eq h; clear h; obtain ⟨M, hM, h⟩ := hq
        split at hM <;> subst hM
        · rename_i cs hle hne hcs
          have hne' : len * m ≠ 0 := Nat.ne_of_beq_eq_false hne
          have hle' : ¬ 16777216 < len * m := Nat.not_lt.2 (Nat.le_of_ble_eq_true hle)
          refine ok_new hc (s := Instr.buildSlice t len (parts.map fun (i, x) => (i, a.eval x))) (fun w => by simp only [execOp, ho]) (ob := .cells cs e) (f := fun b => .slice (some ⟨b, 0, none⟩) len len) (fun w => ?_) h
          simp only [Instr.buildSlice, Sem.run_bind, run_und h3, Result.andThen_ok, sizeOfT_spec hm, Sem.run_ite, hag.evpa h1]
          rw [if_neg (by simpa using hle'), if_neg hne']
          simp only [Sem.run_pure, Result.andThen_ok, Sem.run_bind, zeroOf_spec hz, hcs]
          simp [newRow]
        · have hq := hp_eq h; clear h; obtain ⟨M, hM, h⟩ := hq
          split at hM <;> subst hM
          · rename_i hb hps
            have hl0 : len = 0 := Nat.eq_of_beq_eq_true hb
            subst hl0
            refine ok_new hc (s := Instr.buildSlice t 0 (parts.map fun (i, x) => (i, a.eval x))) (fun w => by simp only [execOp, ho]) (ob := .cells #[] e) (f := fun b => .slice (some ⟨b, 0, none⟩) 0 0) (fun w => ?_) h
            simp only [Instr.buildSlice, Sem.run_bind, run_und h3, Result.andThen_ok, sizeOfT_spec hm, Sem.run_ite, hag.evpa h1, Nat.zero_mul]
            have h0 : (Array.range 0 : Array Nat) = #[] := Array.ext' (by simp)
            simp [newRow, Instr.fill, h0]
          · exact False.elim h
      · exact False.elim h
    · exact False.elim h
  | load t x =>
    simp only [flatOp, ho] at h
    have hc : clsOf P o = .R := by simp only [clsOf, ho]
    have hq := hp_eq h; clear h; obtain ⟨M, hM, h⟩ := hq
    split at hM <;> subst hM
    · rename_i p sh h1 h2
      obtain ⟨ad, rfl, y, hl, hk⟩ := nilc_spec h
      rw [hc]
      have hr : ∀ L', LdAt ad (sh.vals y) L' → RdV P (Instr.loadAt t (a.eval x)) (sh.val y) L' := by
        intro L' hl E F w hw
        rw [hag.ev h1]
        simp only [Instr.loadAt, Instr.sureAddr, Sem.run_bind, Sem.run_pure, Result.andThen_ok]
        exact loadVar_spec h2 y (hl.cells hw)
      exact ok_R (s := Instr.loadAt t (a.eval x)) (fun w => by simp only [execOp, ho]) (hr L hl) hr hk
    · exact False.elim h
  | store t x y =>
    simp only [flatOp, ho] at h
    have hc : clsOf P o = .W := by simp only [clsOf, ho]
    have hq := hp_eq h; clear h; obtain ⟨M, hM, h⟩ := hq
    split at hM <;> subst hM
    · rename_i p v m h1 h2 h3
      have hq := hp_eq h; clear h; obtain ⟨M, hM, h⟩ := hq
      split at hM <;> subst hM
      · rename_i hb
        simp only [Bool.and_eq_true] at hb
        obtain ⟨ad, rfl, A, B, c, T, fz, rfl, hs, hsz, hfz, hk⟩ := nilc_spec h
        rw [hc]
        refine ok_U (s := Instr.storeAt t (a.eval x) (a.eval y)) (fun w => by simp only [execOp, ho]) fun E F w hw => ?_
        obtain ⟨b, off, sp⟩ := ad
        simp only at hs hsz hfz hk hw
        subst hs
        have hlen : v.cells.size = m := by have := Nat.eq_of_beq_eq_true hb.2; simpa using this
        obtain ⟨w', hr, hw'⟩ := run_storeCells (P := P) v.cells.toList c off 0 w hb.1 hw (by simpa using hsz) (by simpa using hfz)
        refine ⟨w', _, ?_, hw', keeps_spec hk⟩
        rw [hag.ev h1, hag.ev h2]
        simp only [Instr.storeAt, Instr.sureAddr, Sem.run_bind, Sem.run_pure, Result.andThen_ok, storeVar, sizeOfT_spec h3, hlen]
        simpa using hr
      · exact False.elim h
    · exact False.elim h
  | ready g => simp only [flatOp, ho] at h; exact False.elim h
  | waits g => simp only [flatOp, ho] at h; exact False.elim h
  | nilCheck x =>
    simp only [flatOp, ho] at h
    have hc : clsOf P o = .P := by simp only [clsOf, ho]
    have hq := hp_eq h; clear h; obtain ⟨M, hM, h⟩ := hq
    split at hM <;> subst hM
    · rename_i p h1
      obtain ⟨ad, rfl, hk⟩ := nilc_spec h
      rw [hc]
      exact ⟨_, fun w => by simp only [execOp, ho, hag.ev h1]; rfl, hk⟩
    · exact False.elim h
  | binOp op xt x y yt =>
    simp only [flatOp, ho] at h
    exact flatBin_sound hag ho h
  | unOp op t x =>
    simp only [flatOp, ho] at h
    have hc : clsOf P o = .P := by simp only [clsOf, ho]
    have hq := hp_eq h; clear h; obtain ⟨M, hM, h⟩ := hq
    split at hM <;> subst hM
    · rename_i b h1
      exact ok_P hc (s := Op.unary .not (a.eval x)) (fun w => by simp only [execOp, ho]) (fun w => by rw [hag.ev h1]; rfl) h
    · rename_i kd m h1
      exact ok_P hc (s := Op.unary .neg (a.eval x)) (fun w => by simp only [execOp, ho]) (fun w => by rw [hag.ev h1]; rfl) h
    · rename_i kd m h1
      exact ok_P hc (s := Op.unary .xor (a.eval x)) (fun w => by simp only [execOp, ho]) (fun w => by rw [hag.ev h1]; rfl) h
    · exact False.elim h
  | convert src dst x =>
    simp only [flatOp, ho] at h
    have hq := hp_eq h; clear h; obtain ⟨M, hM, h⟩ := hq
    split at hM <;> subst hM
    · rename_i k1 m k2 kd h1 h2 h3
      have hc : clsOf P o = .P := by simp only [clsOf, ho, h2, h3]
      refine ok_P hc (s := convert src dst (a.eval x)) (fun w => by simp only [execOp, ho]) (fun w => ?_) h
      rw [hag.ev h1]
      simp [convert, run_und h2, run_und h3, Conv.intToInt]
    · rename_i s h1 h2 h3
      have hc : clsOf P o = .P := by simp only [clsOf, ho, h2, h3]
      refine ok_P hc (s := convert src dst (a.eval x)) (fun w => by simp only [execOp, ho]) (fun w => ?_) h
      rw [hag.ev h1]
      simp [convert, run_und h2, run_und h3]
    · rename_i s e h1 h2 h3
      have hc : clsOf P o = .A := by simp only [clsOf, ho, h2, h3]
      have hq := hp_eq h; clear h; obtain ⟨M, hM, h⟩ := hq
      split at hM <;> subst hM
      · rename_i h4
        have hconv : ∀ w, (convert src dst (a.eval x)).run P w = (Conv.stringToBytes e s).run P w := by
          intro w; rw [hag.ev h1]; simp [convert, run_und h2, run_und h3, run_und h4]
        have hgood : OpOk P .A o a L φs k := by
          refine ok_A (s := convert src dst (a.eval x)) (fun w => by simp only [execOp, ho]) (fun w => ?_) fun m ob v hg hs => ?_
          · obtain ⟨ob, v, d, hr⟩ := h.1 w
            exact ⟨ob, v, d, by rw [hconv]; exact hr⟩
          · obtain ⟨w, d, hw, hr⟩ := hg
            rw [hconv] at hr
            obtain ⟨r, rfl, hk⟩ := h.2 m ob v ⟨w, d, hw, hr⟩ hs
            exact hk
        rw [hc]; exact hgood
      · exact False.elim h
    · rename_i b l c e1 e2 h1 h2 h3
      have hc : clsOf P o = .W := by simp only [clsOf, ho, h2, h3]
      rw [hc]
      have e1 := hag.ev h1
      refine ok_W (s := convert src dst (.slice b l c)) (fun w => by simp only [execOp, ho, e1]) fun E F w hw => ?_
      obtain ⟨v, w', L', hr, hw', r, rfl, hk⟩ := h E F w hw
      exact ⟨_, w', L', hr, hw', keeps_spec hk⟩
    · rename_i b l c e h1 h2 h3
      have hc : clsOf P o = .R := by simp only [clsOf, ho, h2, h3]
      have hq := hp_eq h; clear h; obtain ⟨M, hM, h⟩ := hq
      split at hM <;> subst hM
      · rename_i h4
        have hconv : ∀ w, (convert src dst (a.eval x)).run P w = (Conv.bytesToString (.slice b l c)).run P w := by
          intro w; rw [hag.ev h1]; simp [convert, run_und h2, run_und h3, run_und h4]
        obtain ⟨r, hr, hk⟩ := h
        rw [hc]
        refine ok_R (s := convert src dst (a.eval x)) (fun w => by simp only [execOp, ho]) (v := .string r.1) (fun E F w hw => ?_) (fun L' h E F w hw => ?_) hk
        · rw [hconv]; exact hr E F w hw
        · rw [hconv]; exact h E F w hw
      · exact False.elim h
    · exact False.elim h
  | sliceToArrayPointer t x => simp only [flatOp, ho] at h; exact False.elim h
  | makeInterface t x => simp only [flatOp, ho] at h; exact False.elim h
  | makeFunc fn first captured =>
    simp only [flatOp, ho] at h
    have hc : clsOf P o = .P := by simp only [clsOf, ho]
    have hq := hp_eq h; clear h; obtain ⟨M, hM, h⟩ := hq
    split at hM <;> subst hM
    · rename_i f1 c1 h1 h2
      exact ok_P hc (s := Instr.makeFunc fn (first.map a.eval) (captured.map a.eval)) (fun w => by simp only [execOp, ho]) (fun w => by rw [hag.eva h1, hag.eva h2]; rfl) h
    · exact False.elim h
  | makeMap t r =>
    cases r with
    | some r => simp only [flatOp, ho] at h; exact False.elim h
    | none =>
      simp only [flatOp, ho] at h
      refine ok_new (by simp only [clsOf, ho]) (s := Instr.makeMap t none) (fun w => by simp only [execOp, ho, Option.map_none]) (ob := .map #[] 0) (f := fun m => .map (some m)) (fun w => ?_) h
      simp [Instr.makeMap]
  | makeChan t s => simp only [flatOp, ho] at h; exact False.elim h
  | makeSlice t l c =>
    simp only [flatOp, ho] at h
    have hc : clsOf P o = .A := by simp only [clsOf, ho]
    have hq := hp_eq h; clear h; obtain ⟨M, hM, h⟩ := hq
    split at hM <;> subst hM
    · rename_i kl nl kc nc h1 h2
      have he1 := hag.ev h1
      have he2 := hag.ev h2
      rw [hc]
      refine ok_A (s := Instr.makeSlice t (.int kl nl) (.int kc nc)) (fun w => by simp only [execOp, ho, he1, he2]) h.1 fun m ob v hg hs => ?_
      obtain ⟨r, rfl, hk⟩ := h.2 m ob v hg hs
      exact hk
    · exact False.elim h
  | slice t x lo hi mx =>
    simp only [flatOp, ho] at h
    have hc : clsOf P o = .P := by simp only [clsOf, ho]
    have hq := hp_eq h; clear h; obtain ⟨M, hM, h⟩ := hq
    split at hM <;> subst hM
    · rename_i s lo' hi' h1 h2 h3 h4 h5
      have hq := hp_eq h; clear h; obtain ⟨M, hM, h⟩ := hq
      split at hM <;> subst hM
      · rename_i l hh e1 e2
        obtain ⟨hb, hk⟩ := h
        refine ok_P hc (s := Instr.sliceAt t (a.eval x) (lo.map a.eval) (hi.map a.eval) (mx.map a.eval)) (fun w => by simp only [execOp, ho]) (fun w => ?_) hk
        rw [hag.ev h1, hag.evo h2, hag.evo h3, hag.evo h4]
        have := slice_bounds (P := P) false (len := s.size) (cap := s.size) (mx := none) (m := s.size) e1 e2 rfl (by intro h; cases h) (by omega) w
        simp [Instr.sliceAt, Instr.slice, run_und h5, this]
      · exact False.elim h
    · rename_i b l0 c0 lo' hi' mx' e h1 h2 h3 h4 h5
      have hq := hp_eq h; clear h; obtain ⟨M, hM, h⟩ := hq
      split at hM <;> subst hM
      · exact False.elim h
      · rename_i hi' mx' _ _ _ _ _ _ sz l hh m e1 e2 hno e3 e4
        obtain ⟨hb, hk⟩ := h
        refine ok_P hc (s := Instr.sliceAt t (a.eval x) (lo.map a.eval) (hi.map a.eval) (mx.map a.eval)) (fun w => by simp only [execOp, ho]) (fun w => ?_) hk
        rw [hag.ev h1, hag.evo h2, hag.evo h3, hag.evo h4]
        have hno' : mx'.isSome = true → hi'.isSome = true := by
          intro hm
          cases hi' with
          | some _ => rfl
          | none =>
            cases mx' with
            | none => cases hm
            | some v => exact (hno v rfl rfl).elim
        have := slice_bounds (P := P) true (len := l0) (cap := c0) e2 e3 e4 hno' hb w
        simp [Instr.sliceAt, Instr.slice, run_und h5, this, sizeOfT_spec e1, slcV]
      · exact False.elim h
    · rename_i p lo' hi' q e h1 h2 h3 h4 h5
      have hq := hp_eq h; clear h; obtain ⟨M, hM, h⟩ := hq
      split at hM <;> subst hM
      · rename_i sz l hh e1 e2 e3
        obtain ⟨ad, rfl, hb, hk⟩ := nilc_spec h
        refine ok_P hc (s := Instr.sliceAt t (a.eval x) (lo.map a.eval) (hi.map a.eval) (mx.map a.eval)) (fun w => by simp only [execOp, ho]) (fun w => ?_) hk
        rw [hag.ev h1, hag.evo h2, hag.evo h3, hag.evo h4]
        have := slice_bounds (P := P) false (len := q) (cap := q) (mx := none) (m := q) e2 e3 rfl (by intro h; cases h) (by simpa using hb) w
        simp [Instr.sliceAt, run_und h5, this, sizeOfT_spec e1, Instr.sureAddr, slcV]
        split <;> rfl
      · exact False.elim h
    · exact False.elim h
  | fieldAddr s x f =>
    simp only [flatOp, ho] at h
    have hc : clsOf P o = .P := by simp only [clsOf, ho]
    have hq := hp_eq h; clear h; obtain ⟨M, hM, h⟩ := hq
    split at hM <;> subst hM
    · rename_i p off h1 h2
      obtain ⟨ad, rfl, hk⟩ := nilc_spec h
      exact ok_P hc (s := Instr.fieldAt s (a.eval x) f) (fun w => by simp only [execOp, ho]) (fun w => by rw [hag.ev h1]; exact fieldOff_spec h2 w) hk
    · exact False.elim h
  | field s x f =>
    simp only [flatOp, ho] at h
    have hc : clsOf P o = .P := by simp only [clsOf, ho]
    have hq := hp_eq h; clear h; obtain ⟨M, hM, h⟩ := hq
    split at hM <;> subst hM
    · rename_i cs fs h1 h2
      have hq := hp_eq h; clear h; obtain ⟨M, hM, h⟩ := hq
      split at hM <;> subst hM
      · rename_i fd h3
        have hq := hp_eq h; clear h; obtain ⟨M, hM, h⟩ := hq
        split at hM <;> subst hM
        · rename_i v h4
          refine ok_P hc (s := Instr.field s (a.eval x) f) (fun w => by simp only [execOp, ho]) (fun w => ?_) h
          rw [hag.ev h1]
          simp only [Instr.field, Sem.run_bind, run_und h2, Result.andThen_ok, h3, asAgg, Sem.run_pure]
          exact partOf_spec h4 w
        · exact False.elim h
      · exact False.elim h
    · exact False.elim h
  | indexAddr t x i =>
    simp only [flatOp, ho] at h
    have hc : clsOf P o = .P := by simp only [clsOf, ho]
    have hq := hp_eq h; clear h; obtain ⟨M, hM, h⟩ := hq
    split at hM <;> subst hM
    · rename_i b l c kk j e h1 h2 h3
      have hq := hp_eq h; clear h; obtain ⟨M, hM, h⟩ := hq
      split at hM <;> subst hM
      · rename_i sz h4
        obtain ⟨ad, rfl, hb, hk⟩ := nilc_spec h
        refine ok_P hc (s := Instr.indexAt t (a.eval x) (a.eval i)) (fun w => by simp only [execOp, ho]) (fun w => ?_) hk
        rw [hag.ev h1, hag.ev h2]
        simp [Instr.indexAt, asIntOf, run_und h3, hb.1, hb.2, sizeOfT_spec h4]
      · exact False.elim h
    · rename_i p kk j q e h1 h2 h3
      have hq := hp_eq h; clear h; obtain ⟨M, hM, h⟩ := hq
      split at hM <;> subst hM
      · rename_i sz h4
        obtain ⟨ad, rfl, hb, hk⟩ := nilc_spec h
        refine ok_P hc (s := Instr.indexAt t (a.eval x) (a.eval i)) (fun w => by simp only [execOp, ho]) (fun w => ?_) hk
        rw [hag.ev h1, hag.ev h2]
        simp [Instr.indexAt, asIntOf, run_und h3, hb.1, hb.2, sizeOfT_spec h4, Instr.sureAddr]
      · exact False.elim h
    · exact False.elim h
  | index t x i =>
    simp only [flatOp, ho] at h
    have hc : clsOf P o = .P := by simp only [clsOf, ho]
    have hq := hp_eq h; clear h; obtain ⟨M, hM, h⟩ := hq
    split at hM <;> subst hM
    · rename_i s kk j h1 h2 h3
      obtain ⟨hb, hk⟩ := h
      refine ok_P hc (s := Instr.index t (a.eval x) (a.eval i)) (fun w => by simp only [execOp, ho]) (fun w => ?_) hk
      rw [hag.ev h1, hag.ev h2]
      have hj : j.toNat < s.size := by omega
      have hj' : j.toNat < s.data.size := hj
      simp only [Instr.index, asIntOf, Sem.run_bind, Sem.run_pure, Result.andThen_ok, run_und h3, hb.1, if_true]
      rw [getElem?_pos s j.toNat hj]
      have : byteAt s j = (s[j.toNat].toNat : Int) := by
        unfold byteAt
        rw [Array.getD_eq_getD_getElem?, Array.getElem?_eq_getElem hj']
        rfl
      rw [this]
      rfl
    · rename_i cs kk j q e h1 h2 h3
      have hq := hp_eq h; clear h; obtain ⟨M, hM, h⟩ := hq
      split at hM <;> subst hM
      · obtain ⟨r, hr, hk⟩ := h
        exact ok_P hc (s := Instr.index t (a.eval x) (a.eval i)) (fun w => by simp only [execOp, ho]) (fun w => by rw [hag.ev h1, hag.ev h2]; exact hr w) hk
      · exact False.elim h
    · exact False.elim h
  | lookup t x i ok =>
    simp only [flatOp, ho] at h
    have hc : clsOf P o = .R := by simp only [clsOf, ho]
    rw [hc]
    have hq := hp_eq h; clear h; obtain ⟨M, hM, h⟩ := hq
    split at hM <;> subst hM
    · rename_i vm vi kk e h1 h2 h3
      have e1 := hag.ev h1
      have e2 := hag.ev h2
      have hq := hp_eq h; clear h; obtain ⟨M, hM, h⟩ := hq
      split at hM <;> subst hM
      · rename_i s h4
        obtain ⟨r, hr, hk⟩ := h
        exact ok_R (s := Instr.lookup t vm vi false) (fun w => by simp only [execOp, ho, e1, e2]) hr (fun L' h => h) hk
      · rename_i s h4
        obtain ⟨r, hr, hk⟩ := h
        exact ok_R (s := Instr.lookup t vm vi true) (fun w => by simp only [execOp, ho, e1, e2]) hr (fun L' h => h) hk
      · exact False.elim h
    · exact False.elim h
  | mapUpdate t m i x =>
    simp only [flatOp, ho] at h
    have hc : clsOf P o = .W := by simp only [clsOf, ho]
    rw [hc]
    have hq := hp_eq h; clear h; obtain ⟨M, hM, h⟩ := hq
    split at hM <;> subst hM
    · rename_i vm vi vx h1 h2 h3
      refine ok_U (s := Instr.mapUpdate t (a.eval m) (a.eval i) (a.eval x)) (fun w => by simp only [execOp, ho]) fun E F w hw => ?_
      rw [hag.ev h1, hag.ev h2, hag.ev h3]
      obtain ⟨w', L', hr, hw', hk⟩ := h E F w hw
      exact ⟨w', L', hr, hw', keeps_spec hk⟩
    · exact False.elim h
  | insert t m i x =>
    simp only [flatOp, ho] at h
    have hc : clsOf P o = .W := by simp only [clsOf, ho]
    rw [hc]
    have hq := hp_eq h; clear h; obtain ⟨M, hM, h⟩ := hq
    split at hM <;> subst hM
    · rename_i vm vi vx h1 h2 h3
      refine ok_U (s := Instr.mapUpdate t (a.eval m) (a.eval i) (a.eval x)) (fun w => by simp only [execOp, ho]) fun E F w hw => ?_
      rw [hag.ev h1, hag.ev h2, hag.ev h3]
      obtain ⟨w', L', hr, hw', hk⟩ := h E F w hw
      exact ⟨w', L', hr, hw', keeps_spec hk⟩
    · exact False.elim h
  | mapEntry t m i => simp only [flatOp, ho] at h; exact False.elim h
  | entryStore t m s x => simp only [flatOp, ho] at h; exact False.elim h
  | range t x =>
    simp only [flatOp, ho] at h
    have hc : clsOf P o = .W := by simp only [clsOf, ho]
    rw [hc]
    have hq := hp_eq h; clear h; obtain ⟨M, hM, h⟩ := hq
    split at hM <;> subst hM
    · rename_i v h1
      have e1 := hag.ev h1
      refine ok_W (s := Instr.range t v) (fun w => by simp only [execOp, ho, e1]) fun E F w hw => ?_
      obtain ⟨v, w', L', hr, hw', r, rfl, hk⟩ := h E F w hw
      exact ⟨_, w', L', hr, hw', keeps_spec hk⟩
    · exact False.elim h
  | next it s => simp only [flatOp, ho] at h; exact False.elim h
  | entry it => simp only [flatOp, ho] at h; exact False.elim h
  | typeAssert x t u ok => simp only [flatOp, ho] at h; exact False.elim h
  | extract x i =>
    simp only [flatOp, ho] at h
    have hc : clsOf P o = .P := by simp only [clsOf, ho]
    have hq := hp_eq h; clear h; obtain ⟨M, hM, h⟩ := hq
    split at hM <;> subst hM
    · rename_i vs h1
      have hq := hp_eq h; clear h; obtain ⟨M, hM, h⟩ := hq
      split at hM <;> subst hM
      · rename_i v h2
        refine ok_P hc (s := Instr.extract (a.eval x) i) (fun w => by simp only [execOp, ho]) (fun w => ?_) h
        rw [hag.ev h1]
        simp [Instr.extract, h2]
      · exact False.elim h
    · exact False.elim h
  | call c =>
    simp only [flatOp, ho] at h
    exact flatCall_sound hN hag ho h
  | go c => simp only [flatOp, ho] at h; exact False.elim h
  | defer c => simp only [flatOp, ho] at h; exact False.elim h
  | panic x => simp only [flatOp, ho] at h; exact False.elim h
  | send c x => simp only [flatOp, ho] at h; exact False.elim h
  | recv t c ok => simp only [flatOp, ho] at h; exact False.elim h
  | select cs b => simp only [flatOp, ho] at h; exact False.elim h
end
end Go.HL
