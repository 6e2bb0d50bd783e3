/-
  It is proved that the functions of the program are the trees that are printed here. There are no further conditions.
-/
import Derived.Test.YtnhpojbjkfgeoaaT0
set_option linter.unusedVariables false
set_option maxRecDepth 100000
namespace Go.Proofs.Ytnhpojbjkfgeoaa
open Go.HL
/-- (*depot/depotref28.Ghost).Add -/
def h49 : Hints := ⟨[], [], [(2, [0, 1, 2, 5, 6, 7, 3, 4, 8, 9])]⟩
def t49 (x0 : Option Addr) (x1 : Int) (K : Value → HP) : HP :=
  cl PP 47 #[.pointer x0, .int .u64 x1] [.lf .bool] fun r1 =>
  nilc x0 fun a1 =>
  ld (Addr.add a1 1) (.lf .sl) fun v1 =>
  nw (.cells #[.int .u64 x1] 34) fun n1 =>
  smW PP (Builtin.append_ #[66, 66] 66 #[.slice v1.a v1.len v1.cap, .slice (some ⟨n1, 0, none⟩) 1 1]) [.lf .sl] fun v2 =>
  nilc x0 fun a2 =>
  st (Addr.add a2 1) [.slice v2.1.a v2.1.len v2.1.cap] <|
  nilc x0 fun a3 =>
  nilc x0 fun a4 =>
  ld (Addr.add a3 1) (.lf .sl) fun v3 =>
  ld a4 (.lf (.int .i64)) fun v4 =>
  ifB (decide ((v3.len : Int) > v4)) (
   nilc x0 fun a5 =>
   ld (Addr.add a5 1) (.lf .sl) fun v5 =>
   slc ⟨v5.a, v5.len, v5.cap⟩ 1 v5.len v5.cap 1 fun s1 =>
   nilc x0 fun a6 =>
   st (Addr.add a6 1) [.slice s1.a s1.len s1.cap] <|
   K (.tuple #[])) (
   K (.tuple #[]))
theorem e49 (x0 : Option Addr) (x1 : Int) (K : Value → HP) : flatFn PP h49 Try.f49 [.pointer x0, .int .u64 x1] K = t49 x0 x1 K := by kernel_rfl

/-- (*depot/ghost.Ghost).Len -/
def h50 : Hints := ⟨[], [], []⟩
def t50 (x0 : Option Addr) (K : Value → HP) : HP :=
  ifB (Option.isNone x0) (
   K (.int .i64 0)) (
   nilc x0 fun a1 =>
   ld (Addr.add a1 66) (.lf (.int .i64)) fun v1 =>
   K (.int .i64 v1))
theorem e50 (x0 : Option Addr) (K : Value → HP) : flatFn PP h50 Try.f50 [.pointer x0] K = t50 x0 K := by kernel_rfl

/-- (*depot/ghost.Ghost).Has -/
def h51 : Hints := ⟨[], [], []⟩
def t51 (x0 : Option Addr) (x1 : Int) (K : Value → HP) : HP :=
  ifB (!(Option.isNone x0)) (
   cl PP 61 #[.pointer x0] [.lf .sl] fun r1 =>
   cl PP 62 #[.slice r1.1.a r1.1.len r1.1.cap, .int .u64 x1] [.lf (.int .i64)] fun r2 =>
   K (.bool (decide ((r2.1 : Int) ≥ 0)))) (
   K (.bool false))
theorem e51 (x0 : Option Addr) (x1 : Int) (K : Value → HP) : flatFn PP h51 Try.f51 [.pointer x0, .int .u64 x1] K = t51 x0 x1 K := by kernel_rfl

/-- (*depot/depotref28.Ghost).Has -/
def h52 : Hints := ⟨[], [], []⟩
def t52 (x0 : Option Addr) (x1 : Int) (K : Value → HP) : HP :=
  cl PP 65 #[.pointer x0, .int .u64 x1] [.lf (.int .i64)] fun r1 =>
  K (.bool (decide ((r1.1 : Int) ≥ 0)))
theorem e52 (x0 : Option Addr) (x1 : Int) (K : Value → HP) : flatFn PP h52 Try.f52 [.pointer x0, .int .u64 x1] K = t52 x0 x1 K := by kernel_rfl

/-- depot/crc.steps -/
def h53 : Hints := ⟨[(0, [(0, .lf (.int .u32)), (10, .lf (.int .i64))]), (2, [(0, .lf (.int .u32)), (18, .lf (.int .i64))])], [], []⟩
def t53 (x0 : Int) (x1 : SlV) (K : Value → HP) : HP :=
  lp [.lf (.int .u32), .lf (.int .i64)] (x0, 0, ()) fun z1 go1 =>   -- s, 
   ifB (decide ((z1.2.1 : Int) < x1.len)) (
    nilc x1.a fun a1 =>
    ixn z1.2.1 x1.len <|
    ld (Addr.add a1 (z1.2.1.toNat * 1)) (.lf (.int .u8)) fun v1 =>
    lp [.lf (.int .u32), .lf (.int .i64)] (bitI .xor .u32 z1.1 (IntKind.u32.wrap v1), 0, ()) fun z2 go2 =>   -- s, 
     ifB (decide ((z2.2.1 : Int) < 8)) (
      req ((0 : Int) ≤ 1) <|
      go2 (bitI .xor .u32 (Int.fdiv z2.1 (2 ^ (min (1 : Int).toNat IntKind.u32.bits))) (bitI .and .u32 2197175160 (IntKind.u32.wrap (0 - (bitI .and .u32 z2.1 1)))), IntKind.i64.wrap (z2.2.1 + 1), ())) (
      go1 (z2.1, IntKind.i64.wrap (z1.2.1 + 1), ()))) (
    K (.int .u32 z1.1))
theorem e53 (x0 : Int) (x1 : SlV) (K : Value → HP) : flatFn PP h53 Try.f53 [.int .u32 x0, .slice x1.a x1.len x1.cap] K = t53 x0 x1 K := by kernel_rfl

/-- depot/depotref04.low -/
def h54 : Hints := ⟨[], [], []⟩
def t54 (x0 : Int) (K : Value → HP) : HP :=
  K (.int .u32 (IntKind.u32.wrap (IntKind.u64.wrap x0)))
theorem e54 (x0 : Int) (K : Value → HP) : flatFn PP h54 Try.f54 [.int .i64 x0] K = t54 x0 K := by kernel_rfl

/-- depot/mix.steps -/
def h55 : Hints := ⟨[(0, [(0, .lf (.int .u64)), (9, .lf (.int .i64))])], [], []⟩
def t55 (x0 : Int) (x1 : SlV) (K : Value → HP) : HP :=
  lp [.lf (.int .u64), .lf (.int .i64)] (x0, 0, ()) fun z1 go1 =>   -- h, 
   ifB (decide ((z1.2.1 : Int) < x1.len)) (
    nilc x1.a fun a1 =>
    ixn z1.2.1 x1.len <|
    ld (Addr.add a1 (z1.2.1.toNat * 1)) (.lf (.int .u8)) fun v1 =>
    req ((0 : Int) ≤ 29) <|
    go1 (bitI .xor .u64 (IntKind.u64.wrap ((bitI .xor .u64 z1.1 (IntKind.u64.wrap v1)) * 1099511628211)) (Int.fdiv (IntKind.u64.wrap ((bitI .xor .u64 z1.1 (IntKind.u64.wrap v1)) * 1099511628211)) (2 ^ (min (29 : Int).toNat IntKind.u64.bits))), IntKind.i64.wrap (z1.2.1 + 1), ())) (
    K (.int .u64 z1.1))
theorem e55 (x0 : Int) (x1 : SlV) (K : Value → HP) : flatFn PP h55 Try.f55 [.int .u64 x0, .slice x1.a x1.len x1.cap] K = t55 x0 x1 K := by kernel_rfl

/-- depot/depotref05.fold -/
def h56 : Hints := ⟨[], [], []⟩
def t56 (x0 : Int) (x1 : Int) (K : Value → HP) : HP :=
  req ((0 : Int) ≤ x1) <|
  K (.int .u64 (bitI .xor .u64 x0 (Int.fdiv x0 (2 ^ (min (x1 : Int).toNat IntKind.u64.bits)))))
theorem e56 (x0 : Int) (x1 : Int) (K : Value → HP) : flatFn PP h56 Try.f56 [.int .u64 x0, .int .u64 x1] K = t56 x0 x1 K := by kernel_rfl

/-- depot/mix.inverse -/
def h57 : Hints := ⟨[(0, [(1, .lf (.int .u64)), (2, .lf (.int .i64))])], [], []⟩
def t57 (K : Value → HP) : HP :=
  lp [.lf (.int .u64), .lf (.int .i64)] (1099511628211, 0, ()) fun z1 go1 =>   -- x, 
   ifB (decide ((z1.2.1 : Int) < 6)) (
    go1 (IntKind.u64.wrap (z1.1 * (IntKind.u64.wrap (2 - (IntKind.u64.wrap (1099511628211 * z1.1))))), IntKind.i64.wrap (z1.2.1 + 1), ())) (
    K (.int .u64 z1.1))
theorem e57 (K : Value → HP) : flatFn PP h57 Try.f57 [] K = t57 K := by kernel_rfl

/-- depot/bucket.held -/
def h58 : Hints := ⟨[(0, [(0, .lf (.int .i64)), (9, .lf (.int .i64))])], [], []⟩
def t58 (x0 : Int) (x1 : SlV) (K : Value → HP) : HP :=
  lp [.lf (.int .i64), .lf (.int .i64)] (x0, 0, ()) fun z1 go1 =>   -- n, 
   ifB (decide ((z1.2.1 : Int) < x1.len)) (
    nilc x1.a fun a1 =>
    ixn z1.2.1 x1.len <|
    ld (Addr.add a1 (z1.2.1.toNat * 1)) (.lf (.int .i64)) fun v1 =>
    go1 (imin z1.1 v1, IntKind.i64.wrap (z1.2.1 + 1), ())) (
    K (.int .i64 (imax z1.1 0)))
theorem e58 (x0 : Int) (x1 : SlV) (K : Value → HP) : flatFn PP h58 Try.f58 [.int .i64 x0, .slice x1.a x1.len x1.cap] K = t58 x0 x1 K := by kernel_rfl

/-- depot/depotref22.cut -/
def h59 : Hints := ⟨[], [], []⟩
def t59 (x0 : Int) (x1 : Int) (K : Value → HP) : HP :=
  K (.int .i64 (imin (imax x0 0) x1))
theorem e59 (x0 : Int) (x1 : Int) (K : Value → HP) : flatFn PP h59 Try.f59 [.int .i64 x0, .int .i64 x1] K = t59 x0 x1 K := by kernel_rfl

/-- (depot/bucket.pace).since -/
def h60 : Hints := ⟨[], [], [(3, [0, 2, 3, 7, 9, 1, 4, 5, 6, 11, 8, 10, 12]), (2, [1, 0, 2])]⟩
def t60 (x0 : ShV (.agg [.int .i64, .int .i64])) (x1 : Int) (K : Value → HP) : HP :=
  nw (.cells #[.int .i64 x0.1, .int .i64 x0.2.1] 78) fun n1 =>
  nw (.cells #[.int .i64 0, .int .i64 0] 78) fun n2 =>
  ld (Addr.add ⟨n1, 0, none⟩ 1) (.lf (.int .i64)) fun v1 =>
  ifB (decide ((x1 : Int) ≤ v1)) (
   ld ⟨n1, 0, none⟩ (.agg [.int .i64, .int .i64]) fun v2 =>
   st ⟨n2, 0, none⟩ [.int .i64 v2.1, .int .i64 v2.2.1] <|
   ld ⟨n2, 0, none⟩ (.agg [.int .i64, .int .i64]) fun v3 =>
   K (.tuple #[.int .i64 0, .agg #[.int .i64 v3.1, .int .i64 v3.2.1]])) (
   ld ⟨n1, 0, none⟩ (.lf (.int .i64)) fun v4 =>
   ld (Addr.add ⟨n1, 0, none⟩ 1) (.lf (.int .i64)) fun v5 =>
   ld ⟨n1, 0, none⟩ (.lf (.int .i64)) fun v6 =>
   st ⟨n2, 0, none⟩ [.int .i64 v6, .int .i64 x1] <|
   ld ⟨n2, 0, none⟩ (.agg [.int .i64, .int .i64]) fun v7 =>
   K (.tuple #[.int .i64 (IntKind.i64.wrap (v4 * (IntKind.i64.wrap (x1 - v5)))), .agg #[.int .i64 v7.1, .int .i64 v7.2.1]]))
theorem e60 (x0 : ShV (.agg [.int .i64, .int .i64])) (x1 : Int) (K : Value → HP) : flatFn PP h60 Try.f60 [.agg #[.int .i64 x0.1, .int .i64 x0.2.1], .int .i64 x1] K = t60 x0 x1 K := by kernel_rfl

/-- (*depot/ghost.Ghost).all -/
def h61 : Hints := ⟨[(0, [(3, .lf .sl), (9, .lf (.int .i64))])], [], [(5, [0, 1, 2, 3, 4, 6, 9, 10, 5, 7, 8, 11, 12, 13, 14, 15])]⟩
def t61 (x0 : Option Addr) (K : Value → HP) : HP :=
  nilc x0 fun a1 =>
  ld (Addr.add a1 66) (.lf (.int .i64)) fun v1 =>
  lp [.lf .sl, .lf (.int .i64)] (⟨none, 0, 0⟩, 0, ()) fun z1 go1 =>   -- l, 
   ifB (decide ((z1.2.1 : Int) < v1)) (
    nilc x0 fun a2 =>
    nilc x0 fun a3 =>
    ld (Addr.add a2 65) (.lf (.int .i64)) fun v2 =>
    req ((64 : Int) ≠ 0) <|
    ixn (Int.tmod (IntKind.i64.wrap (v2 + z1.2.1)) 64) 64 <|
    ld (Addr.add (Addr.add a3 1) ((Int.tmod (IntKind.i64.wrap (v2 + z1.2.1)) 64).toNat * 1)) (.lf (.int .u64)) fun v3 =>
    nw (.cells #[.int .u64 v3] 34) fun n1 =>
    smW PP (Builtin.append_ #[66, 66] 66 #[.slice z1.1.a z1.1.len z1.1.cap, .slice (some ⟨n1, 0, none⟩) 1 1]) [.lf .sl] fun v4 =>
    go1 (⟨v4.1.a, v4.1.len, v4.1.cap⟩, IntKind.i64.wrap (z1.2.1 + 1), ())) (
    K (.slice z1.1.a z1.1.len z1.1.cap))
theorem e61 (x0 : Option Addr) (K : Value → HP) : flatFn PP h61 Try.f61 [.pointer x0] K = t61 x0 K := by kernel_rfl

/-- depot/ghost.place[uint64] -/
def h62 : Hints := ⟨[(0, [(9, .lf (.int .i64))])], [], []⟩
def t62 (x0 : SlV) (x1 : Int) (K : Value → HP) : HP :=
  lp [.lf (.int .i64)] (0, ()) fun z1 go1 =>   -- 
   ifB (decide ((z1.1 : Int) < x0.len)) (
    nilc x0.a fun a1 =>
    ixn z1.1 x0.len <|
    ld (Addr.add a1 (z1.1.toNat * 1)) (.lf (.int .u64)) fun v1 =>
    ifB ((x1 : Int) == v1) (
     K (.int .i64 z1.1)) (
     go1 (IntKind.i64.wrap (z1.1 + 1), ()))) (
    K (.int .i64 (-1)))
theorem e62 (x0 : SlV) (x1 : Int) (K : Value → HP) : flatFn PP h62 Try.f62 [.slice x0.a x0.len x0.cap, .int .u64 x1] K = t62 x0 x1 K := by kernel_rfl

/-- (*depot/ghost.Ghost).set -/
def h63 : Hints := ⟨[], [], []⟩
def t63 (x0 : Option Addr) (x1 : SlV) (K : Value → HP) : HP :=
  nilc x0 fun a1 =>
  slc ⟨some (Addr.add a1 1), 64, 64⟩ 0 64 64 1 fun s1 =>
  smW PP (Builtin.copy_ #[66, 66] 3 #[.slice s1.a s1.len s1.cap, .slice x1.a x1.len x1.cap]) [.lf (.int .i64)] fun v1 =>
  nilc x0 fun a2 =>
  st (Addr.add a2 65) [.int .i64 0] <|
  nilc x0 fun a3 =>
  st (Addr.add a3 66) [.int .i64 v1.1] <|
  K (.tuple #[])
theorem e63 (x0 : Option Addr) (x1 : SlV) (K : Value → HP) : flatFn PP h63 Try.f63 [.pointer x0, .slice x1.a x1.len x1.cap] K = t63 x0 x1 K := by kernel_rfl

/-- slices.Delete[[]uint64,uint64] -/
def h64 : Hints := ⟨[], [], [(5, [0, 1, 2, 3, 4, 5, 6, 7])]⟩
def t64 (x0 : SlV) (x1 : Int) (x2 : Int) (K : Value → HP) : HP :=
  slc ⟨x0.a, x0.len, x0.cap⟩ x1 x2 x0.len 1 fun s1 =>
  ifB ((x1 : Int) == x2) (
   K (.slice x0.a x0.len x0.cap)) (
   slc ⟨x0.a, x0.len, x0.cap⟩ 0 x1 x0.cap 1 fun s2 =>
   slc ⟨x0.a, x0.len, x0.cap⟩ x2 x0.len x0.cap 1 fun s3 =>
   smW PP (Builtin.append_ #[66, 66] 66 #[.slice s2.a s2.len s2.cap, .slice s3.a s3.len s3.cap]) [.lf .sl] fun v1 =>
   slc ⟨v1.1.a, v1.1.len, v1.1.cap⟩ v1.1.len x0.len v1.1.cap 1 fun s4 =>
   smW PP (Builtin.clear_ #[66] 0 #[.slice s4.a s4.len s4.cap]) [] fun v2 =>
   K (.slice v1.1.a v1.1.len v1.1.cap))
theorem e64 (x0 : SlV) (x1 : Int) (x2 : Int) (K : Value → HP) : flatFn PP h64 Try.f64 [.slice x0.a x0.len x0.cap, .int .i64 x1, .int .i64 x2] K = t64 x0 x1 x2 K := by kernel_rfl

/-- (*depot/depotref28.Ghost).at -/
def h65 : Hints := ⟨[(0, [(5, .lf (.int .i64))])], [], []⟩
def t65 (x0 : Option Addr) (x1 : Int) (K : Value → HP) : HP :=
  lp [.lf (.int .i64)] (0, ()) fun z1 go1 =>   -- i
   nilc x0 fun a1 =>
   ld (Addr.add a1 1) (.lf .sl) fun v1 =>
   ifB (decide ((z1.1 : Int) < v1.len)) (
    nilc x0 fun a2 =>
    ld (Addr.add a2 1) (.lf .sl) fun v2 =>
    nilc v2.a fun a3 =>
    ixn z1.1 v2.len <|
    ld (Addr.add a3 (z1.1.toNat * 1)) (.lf (.int .u64)) fun v3 =>
    ifB ((v3 : Int) == x1) (
     K (.int .i64 z1.1)) (
     go1 (IntKind.i64.wrap (z1.1 + 1), ()))) (
    K (.int .i64 (-1)))
theorem e65 (x0 : Option Addr) (x1 : Int) (K : Value → HP) : flatFn PP h65 Try.f65 [.pointer x0, .int .u64 x1] K = t65 x0 x1 K := by kernel_rfl

end Go.Proofs.Ytnhpojbjkfgeoaa
