/-
  It is proved that the functions of the program are the trees that are printed here. There are no further conditions.
-/
import Derived.Test.YtaniefdpjommnaaDoorT0
set_option linter.unusedVariables false
set_option maxRecDepth 100000
namespace Go.Proofs.YtaniefdpjommnaaDoor
open Go.HL
/-- depot/crc.steps -/
def h45 : Hints := ⟨[(0, [(0, .lf (.int .u32)), (10, .lf (.int .i64))]), (2, [(0, .lf (.int .u32)), (18, .lf (.int .i64))])], [], []⟩
def t45 (x0 : Int) (x1 : SlV) (K : Value → HP) : HP :=
  lp [.lf (.int .u32), .lf (.int .i64)] (x0, 0, ()) fun z1 go1 =>   -- s, 
   ifB (decide ((z1.2.1 : Int) < x1.len)) (
    nilc x1.a fun a1 =>
    ixn z1.2.1 x1.len <|
    ld (Addr.add a1 (z1.2.1.toNat * 1)) (.lf (.int .u8)) fun v1 =>
    lp [.lf (.int .u32), .lf (.int .i64)] (bitI .xor .u32 z1.1 (IntKind.u32.wrap v1), 0, ()) fun z2 go2 =>   -- s, 
     ifB (decide ((z2.2.1 : Int) < 8)) (
      req ((0 : Int) ≤ 1) <|
      go2 (bitI .xor .u32 (Int.fdiv z2.1 (2 ^ (min (1 : Int).toNat IntKind.u32.bits))) (bitI .and .u32 2197175160 (IntKind.u32.wrap (0 - (bitI .and .u32 z2.1 1)))), IntKind.i64.wrap (z2.2.1 + 1), ())) (
      go1 (z2.1, IntKind.i64.wrap (z1.2.1 + 1), ()))) (
    K (.int .u32 z1.1))
theorem e45 (x0 : Int) (x1 : SlV) (K : Value → HP) : flatFn PP h45 Tryd.f45 [.int .u32 x0, .slice x1.a x1.len x1.cap] K = t45 x0 x1 K := by kernel_rfl

/-- depot/depotref04.low -/
def h46 : Hints := ⟨[], [], []⟩
def t46 (x0 : Int) (K : Value → HP) : HP :=
  K (.int .u32 (IntKind.u32.wrap (IntKind.u64.wrap x0)))
theorem e46 (x0 : Int) (K : Value → HP) : flatFn PP h46 Tryd.f46 [.int .i64 x0] K = t46 x0 K := by kernel_rfl

/-- depot/depotref04.Step -/
def h47 : Hints := ⟨[(0, [(5, .lf (.int .u32)), (6, .lf (.int .i64))])], [], []⟩
def t47 (x0 : Int) (x1 : Int) (K : Value → HP) : HP :=
  cl PP 46 #[.int .i64 x0] [.lf (.int .u32)] fun r1 =>
  lp [.lf (.int .u32), .lf (.int .i64)] (bitI .xor .u32 r1.1 (IntKind.u32.wrap x1), 0, ()) fun z1 go1 =>   -- s, i
   ifB (decide ((z1.2.1 : Int) < 8)) (
    req ((2 : Int) ≠ 0) <|
    req ((2 : Int) ≠ 0) <|
    ifB ((Int.tmod z1.1 2 : Int) == 1) (
     go1 (bitI .xor .u32 (IntKind.u32.wrap (Int.tdiv z1.1 2)) 2197175160, IntKind.i64.wrap (z1.2.1 + 1), ())) (
     go1 (IntKind.u32.wrap (Int.tdiv z1.1 2), IntKind.i64.wrap (z1.2.1 + 1), ()))) (
    K (.int .i64 (IntKind.i64.wrap z1.1)))
theorem e47 (x0 : Int) (x1 : Int) (K : Value → HP) : flatFn PP h47 Tryd.f47 [.int .i64 x0, .int .u8 x1] K = t47 x0 x1 K := by kernel_rfl

end Go.Proofs.YtaniefdpjommnaaDoor
