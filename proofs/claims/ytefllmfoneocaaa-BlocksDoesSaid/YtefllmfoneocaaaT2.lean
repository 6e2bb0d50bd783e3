/-
  It is proved that the functions of the program are the trees that are printed here. There are no further conditions.
-/
import Derived.Test.YtefllmfoneocaaaT0
set_option linter.unusedVariables false
set_option maxRecDepth 100000
namespace Go.Proofs.Ytefllmfoneocaaa
open Go.HL
/-- (*depot/depotref29.Blocks).Oldest -/
def h66 : Hints := ⟨[], [], []⟩
def t66 (x0 : Option Addr) (K : Value → HP) : HP :=
  nilc x0 fun a1 =>
  ld (Addr.add a1 1) (.lf .sl) fun v1 =>
  ifB ((v1.len : Int) == 0) (
   K (.tuple #[.int .i64 0, .bool false])) (
   nilc x0 fun a2 =>
   ld (Addr.add a2 1) (.lf .sl) fun v2 =>
   nilc v2.a fun a3 =>
   ixn 0 v2.len <|
   ld (Addr.add a3 ((0 : Int).toNat * 1)) (.lf (.int .i64)) fun v3 =>
   K (.tuple #[.int .i64 v3, .bool true]))
theorem e66 (x0 : Option Addr) (K : Value → HP) : flatFn PP h66 Try.f66 [.pointer x0] K = t66 x0 K := by kernel_rfl

/-- (*depot/blocks.Blocks).Free -/
def h67 : Hints := ⟨[], [], []⟩
def t67 (x0 : Option Addr) (K : Value → HP) : HP :=
  nw (.cells #[.int .i64 0] 3) fun n1 =>
  st ⟨n1, 0, none⟩ [.int .i64 0] <|
  cl PP 103 #[.pointer x0, .func (.func 101) #[.pointer x0] #[], .func (.func 108) #[] #[.pointer (some ⟨n1, 0, none⟩)]] [] fun r1 =>
  ld ⟨n1, 0, none⟩ (.lf (.int .i64)) fun v1 =>
  K (.int .i64 v1)
theorem e67 (x0 : Option Addr) (K : Value → HP) : flatFn PP h67 Try.f67 [.pointer x0] K = t67 x0 K := by kernel_rfl

/-- (*depot/depotref29.Blocks).Free -/
def h68 : Hints := ⟨[(0, [(3, .lf (.int .i64)), (4, .lf (.int .i64))])], [], []⟩
def t68 (x0 : Option Addr) (K : Value → HP) : HP :=
  lp [.lf (.int .i64), .lf (.int .i64)] (0, 0, ()) fun z1 go1 =>   -- k, n
   nilc x0 fun a1 =>
   ld a1 (.lf .sl) fun v1 =>
   ifB (decide ((z1.2.1 : Int) < v1.len)) (
    cl PP 106 #[.pointer x0, .int .i64 z1.2.1] [.lf .bool] fun r1 =>
    ifB r1.1 (
     go1 (IntKind.i64.wrap (z1.1 + 1), IntKind.i64.wrap (z1.2.1 + 1), ())) (
     go1 (z1.1, IntKind.i64.wrap (z1.2.1 + 1), ()))) (
    K (.int .i64 z1.1))
theorem e68 (x0 : Option Addr) (K : Value → HP) : flatFn PP h68 Try.f68 [.pointer x0] K = t68 x0 K := by kernel_rfl

/-- depot/depotref29.Ints -/
def h69 : Hints := ⟨[(0, [(5, .lf (.int .i64))])], [], [(6, [0, 1, 2, 4, 5, 6, 3, 7, 8])]⟩
def t69 (x0 : SlV) (x1 : SlV) (K : Value → HP) : HP :=
  ifB ((x0.len : Int) != x1.len) (
   K (.bool false)) (
   lp [.lf (.int .i64)] (0, ()) fun z1 go1 =>   -- i
    ifB (decide ((z1.1 : Int) < x0.len)) (
     nilc x0.a fun a1 =>
     ixn z1.1 x0.len <|
     nilc x1.a fun a2 =>
     ixn z1.1 x1.len <|
     ld (Addr.add a1 (z1.1.toNat * 1)) (.lf (.int .i64)) fun v1 =>
     ld (Addr.add a2 (z1.1.toNat * 1)) (.lf (.int .i64)) fun v2 =>
     ifB ((v1 : Int) != v2) (
      K (.bool false)) (
      go1 (IntKind.i64.wrap (z1.1 + 1), ()))) (
     K (.bool true)))
theorem e69 (x0 : SlV) (x1 : SlV) (K : Value → HP) : flatFn PP h69 Try.f69 [.slice x0.a x0.len x0.cap, .slice x1.a x1.len x1.cap] K = t69 x0 x1 K := by kernel_rfl

/-- (*depot/blocks.Blocks).Used -/
def h70 : Hints := ⟨[], [], []⟩
def t70 (x0 : Option Addr) (K : Value → HP) : HP :=
  ifB (Option.isNone x0) (
   K (.slice none 0 0)) (
   nilc x0 fun a1 =>
   ld (Addr.add a1 1) (.lf .sl) fun v1 =>
   cl PP 109 #[.slice v1.a v1.len v1.cap] [.lf .sl] fun r1 =>
   K (.slice r1.1.a r1.1.len r1.1.cap))
theorem e70 (x0 : Option Addr) (K : Value → HP) : flatFn PP h70 Try.f70 [.pointer x0] K = t70 x0 K := by kernel_rfl

/-- (*depot/blocks.Blocks).Spread -/
def h71 : Hints := ⟨[], [], []⟩
def t71 (x0 : Option Addr) (K : Value → HP) : HP :=
  nw (.cells #[.int .i64 0] 3) fun n1 =>
  nw (.cells #[.int .i64 0] 3) fun n2 =>
  nw (.cells #[.bool false] 4) fun n3 =>
  st ⟨n1, 0, none⟩ [.int .i64 0] <|
  st ⟨n2, 0, none⟩ [.int .i64 0] <|
  st ⟨n3, 0, none⟩ [.bool false] <|
  cl PP 103 #[.pointer x0, .func (.func 110) #[.pointer x0] #[], .func (.func 111) #[] #[.pointer (some ⟨n3, 0, none⟩), .pointer (some ⟨n1, 0, none⟩), .pointer (some ⟨n2, 0, none⟩)]] [] fun r1 =>
  ld ⟨n2, 0, none⟩ (.lf (.int .i64)) fun v1 =>
  ld ⟨n1, 0, none⟩ (.lf (.int .i64)) fun v2 =>
  K (.int .i64 (IntKind.i64.wrap (v1 - v2)))
theorem e71 (x0 : Option Addr) (K : Value → HP) : flatFn PP h71 Try.f71 [.pointer x0] K = t71 x0 K := by kernel_rfl

/-- (*depot/depotref29.Blocks).Spread -/
def h72 : Hints := ⟨[(0, [(3, .lf (.int .i64)), (4, .lf (.int .i64)), (5, .lf (.int .i64))])], [(9, [(3, .lf (.int .i64))])], []⟩
def t72 (x0 : Option Addr) (K : Value → HP) : HP :=
  lp [.lf (.int .i64), .lf (.int .i64), .lf (.int .i64)] (-1, -1, 0, ()) fun z1 go1 =>   -- least, most, n
   nilc x0 fun a1 =>
   ld a1 (.lf .sl) fun v1 =>
   ifB (decide ((z1.2.2.1 : Int) < v1.len)) (
    nilc x0 fun a2 =>
    ld a2 (.lf .sl) fun v2 =>
    nilc v2.a fun a3 =>
    ixn z1.2.2.1 v2.len <|
    ld (Addr.add (Addr.add a3 (z1.2.2.1.toNat * 3)) 1) (.lf .bool) fun v3 =>
    ifB v3 (
     go1 (z1.1, z1.2.1, IntKind.i64.wrap (z1.2.2.1 + 1), ())) (
     nilc x0 fun a4 =>
     ld a4 (.lf .sl) fun v4 =>
     nilc v4.a fun a5 =>
     ixn z1.2.2.1 v4.len <|
     ld (Addr.add a5 (z1.2.2.1.toNat * 3)) (.lf (.int .i64)) fun v5 =>
     jn (fun y1 : RsV [.lf (.int .i64)] =>
      go1 (y1.1, imax z1.2.1 v5, IntKind.i64.wrap (z1.2.2.1 + 1), ())) fun j1 =>
     ifB (decide ((z1.1 : Int) < 0)) (
       j1 (v5, ())) (
       ifB (decide ((v5 : Int) < z1.1)) (
        j1 (v5, ())) (
        j1 (z1.1, ()))))) (
    K (.int .i64 (IntKind.i64.wrap (z1.2.1 - z1.1))))
theorem e72 (x0 : Option Addr) (K : Value → HP) : flatFn PP h72 Try.f72 [.pointer x0] K = t72 x0 K := by kernel_rfl

/-- (*depot/blocks.Blocks).Opened -/
def h73 : Hints := ⟨[], [], []⟩
def t73 (x0 : Option Addr) (x1 : Int) (K : Value → HP) : HP :=
  cl PP 101 #[.pointer x0, .int .i64 x1] [.lf .bool] fun r1 =>
  ifB (!r1.1) (
   K (.bool false)) (
   nilc x0 fun a1 =>
   ld a1 (.lf .sl) fun v1 =>
   nilc v1.a fun a2 =>
   ixn x1 v1.len <|
   ld (Addr.add (Addr.add a2 (x1.toNat * 3)) 2) (.lf .bool) fun v2 =>
   ifB v2 (
    K (.bool false)) (
    nilc x0 fun a3 =>
    ld (Addr.add a3 1) (.lf .sl) fun v3 =>
    nw (.cells #[.int .i64 x1] 3) fun n1 =>
    smW PP (Builtin.append_ #[37, 37] 37 #[.slice v3.a v3.len v3.cap, .slice (some ⟨n1, 0, none⟩) 1 1]) [.lf .sl] fun v4 =>
    nilc x0 fun a4 =>
    st (Addr.add a4 1) [.slice v4.1.a v4.1.len v4.1.cap] <|
    K (.bool true)))
theorem e73 (x0 : Option Addr) (x1 : Int) (K : Value → HP) : flatFn PP h73 Try.f73 [.pointer x0, .int .i64 x1] K = t73 x0 x1 K := by kernel_rfl

/-- (*depot/depotref29.Blocks).Opened -/
def h74 : Hints := ⟨[], [], []⟩
def t74 (x0 : Option Addr) (x1 : Int) (K : Value → HP) : HP :=
  cl PP 106 #[.pointer x0, .int .i64 x1] [.lf .bool] fun r1 =>
  ifB (!r1.1) (
   K (.bool false)) (
   nilc x0 fun a1 =>
   ld a1 (.lf .sl) fun v1 =>
   nilc v1.a fun a2 =>
   ixn x1 v1.len <|
   ld (Addr.add (Addr.add a2 (x1.toNat * 3)) 2) (.lf .bool) fun v2 =>
   ifB v2 (
    K (.bool false)) (
    nilc x0 fun a3 =>
    ld (Addr.add a3 1) (.lf .sl) fun v3 =>
    nw (.cells #[.int .i64 x1] 3) fun n1 =>
    smW PP (Builtin.append_ #[37, 37] 37 #[.slice v3.a v3.len v3.cap, .slice (some ⟨n1, 0, none⟩) 1 1]) [.lf .sl] fun v4 =>
    nilc x0 fun a4 =>
    st (Addr.add a4 1) [.slice v4.1.a v4.1.len v4.1.cap] <|
    K (.bool true)))
theorem e74 (x0 : Option Addr) (x1 : Int) (K : Value → HP) : flatFn PP h74 Try.f74 [.pointer x0, .int .i64 x1] K = t74 x0 x1 K := by kernel_rfl

/-- (*depot/blocks.Blocks).Erased -/
def h75 : Hints := ⟨[], [], []⟩
def t75 (x0 : Option Addr) (x1 : Int) (x2 : Bool) (K : Value → HP) : HP :=
  nw (.cells #[.bool x2] 4) fun n1 =>
  cl PP 112 #[.pointer x0, .int .i64 x1, .func (.func 113) #[] #[.pointer (some ⟨n1, 0, none⟩)]] [.lf .bool] fun r1 =>
  K (.bool r1.1)
theorem e75 (x0 : Option Addr) (x1 : Int) (x2 : Bool) (K : Value → HP) : flatFn PP h75 Try.f75 [.pointer x0, .int .i64 x1, .bool x2] K = t75 x0 x1 x2 K := by kernel_rfl

/-- (*depot/depotref29.Blocks).Erased -/
def h76 : Hints := ⟨[], [], [(4, [0, 1, 2, 4, 5, 6, 7, 9, 14, 3, 8, 10, 11, 12, 13, 15, 16, 17])]⟩
def t76 (x0 : Option Addr) (x1 : Int) (x2 : Bool) (K : Value → HP) : HP :=
  cl PP 114 #[.pointer x0, .int .i64 x1] [.lf .bool] fun r1 =>
  ifB (!r1.1) (
   K (.bool false)) (
   cl PP 115 #[.pointer x0, .int .i64 x1] [] fun r2 =>
   nilc x0 fun a1 =>
   nilc x0 fun a2 =>
   ld a1 (.lf .sl) fun v1 =>
   ld a2 (.lf .sl) fun v2 =>
   nilc v2.a fun a3 =>
   ixn x1 v2.len <|
   ld (Addr.add a3 (x1.toNat * 3)) (.lf (.int .i64)) fun v3 =>
   nilc v1.a fun a4 =>
   ixn x1 v1.len <|
   st (Addr.add a4 (x1.toNat * 3)) [.int .i64 (IntKind.i64.wrap (v3 + 1)), .bool x2, .bool false] <|
   K (.bool true))
theorem e76 (x0 : Option Addr) (x1 : Int) (x2 : Bool) (K : Value → HP) : flatFn PP h76 Try.f76 [.pointer x0, .int .i64 x1, .bool x2] K = t76 x0 x1 x2 K := by kernel_rfl

/-- (*depot/blocks.Blocks).Spoilt -/
def h77 : Hints := ⟨[], [], []⟩
def t77 (x0 : Option Addr) (x1 : Int) (K : Value → HP) : HP :=
  cl PP 112 #[.pointer x0, .int .i64 x1, .func (.func 116) #[] #[]] [.lf .bool] fun r1 =>
  K (.bool r1.1)
theorem e77 (x0 : Option Addr) (x1 : Int) (K : Value → HP) : flatFn PP h77 Try.f77 [.pointer x0, .int .i64 x1] K = t77 x0 x1 K := by kernel_rfl

/-- (*depot/depotref29.Blocks).Spoilt -/
def h78 : Hints := ⟨[], [], []⟩
def t78 (x0 : Option Addr) (x1 : Int) (K : Value → HP) : HP :=
  cl PP 114 #[.pointer x0, .int .i64 x1] [.lf .bool] fun r1 =>
  ifB (!r1.1) (
   K (.bool false)) (
   cl PP 115 #[.pointer x0, .int .i64 x1] [] fun r2 =>
   nilc x0 fun a1 =>
   ld a1 (.lf .sl) fun v1 =>
   nilc v1.a fun a2 =>
   ixn x1 v1.len <|
   st (Addr.add (Addr.add a2 (x1.toNat * 3)) 2) [.bool true] <|
   K (.bool true))
theorem e78 (x0 : Option Addr) (x1 : Int) (K : Value → HP) : flatFn PP h78 Try.f78 [.pointer x0, .int .i64 x1] K = t78 x0 x1 K := by kernel_rfl

/-- depot/depotlaw29.without -/
def h79 : Hints := ⟨[(0, [(5, .lf .sl), (6, .lf (.int .i64))])], [], []⟩
def t79 (x0 : SlV) (x1 : Int) (K : Value → HP) : HP :=
  lp [.lf .sl, .lf (.int .i64)] (⟨none, 0, 0⟩, 0, ()) fun z1 go1 =>   -- out, i
   ifB (decide ((z1.2.1 : Int) < x0.len)) (
    nilc x0.a fun a1 =>
    ixn z1.2.1 x0.len <|
    ld (Addr.add a1 (z1.2.1.toNat * 1)) (.lf (.int .i64)) fun v1 =>
    ifB ((v1 : Int) != x1) (
     nilc x0.a fun a2 =>
     ixn z1.2.1 x0.len <|
     ld (Addr.add a2 (z1.2.1.toNat * 1)) (.lf (.int .i64)) fun v2 =>
     nw (.cells #[.int .i64 v2] 3) fun n1 =>
     smW PP (Builtin.append_ #[37, 37] 37 #[.slice z1.1.a z1.1.len z1.1.cap, .slice (some ⟨n1, 0, none⟩) 1 1]) [.lf .sl] fun v3 =>
     go1 (⟨v3.1.a, v3.1.len, v3.1.cap⟩, IntKind.i64.wrap (z1.2.1 + 1), ())) (
     go1 (⟨z1.1.a, z1.1.len, z1.1.cap⟩, IntKind.i64.wrap (z1.2.1 + 1), ()))) (
    K (.slice z1.1.a z1.1.len z1.1.cap))
theorem e79 (x0 : SlV) (x1 : Int) (K : Value → HP) : flatFn PP h79 Try.f79 [.slice x0.a x0.len x0.cap, .int .i64 x1] K = t79 x0 x1 K := by kernel_rfl

/-- depot/wire.of -/
def h80 : Hints := ⟨[(0, [(5, .lf (.int .i64))])], [], []⟩
def t80 (x0 : Int) (K : Value → HP) : HP :=
  nw (.cells #[.int .u8 0, .int .u8 0, .int .u8 0, .int .u8 0, .int .u8 0, .int .u8 0, .int .u8 0, .int .u8 0] 125) fun n1 =>
  nw (.cells #[.int .u8 0, .int .u8 0, .int .u8 0, .int .u8 0, .int .u8 0, .int .u8 0, .int .u8 0, .int .u8 0] 125) fun n2 =>
  lp [.lf (.int .i64)] (0, ()) fun z1 go1 =>   -- 
   ifB (decide ((z1.1 : Int) < 8)) (
    req ((0 : Int) ≤ (IntKind.i64.wrap (8 * z1.1))) <|
    ixn z1.1 8 <|
    st (Addr.add ⟨n2, 0, none⟩ (z1.1.toNat * 1)) [.int .u8 (IntKind.u8.wrap (Int.fdiv x0 (2 ^ (min (IntKind.i64.wrap (8 * z1.1) : Int).toNat IntKind.i64.bits))))] <|
    go1 (IntKind.i64.wrap (z1.1 + 1), ())) (
    ld ⟨n2, 0, none⟩ (.agg [.int .u8, .int .u8, .int .u8, .int .u8, .int .u8, .int .u8, .int .u8, .int .u8]) fun v1 =>
    st ⟨n1, 0, none⟩ [.int .u8 v1.1, .int .u8 v1.2.1, .int .u8 v1.2.2.1, .int .u8 v1.2.2.2.1, .int .u8 v1.2.2.2.2.1, .int .u8 v1.2.2.2.2.2.1, .int .u8 v1.2.2.2.2.2.2.1, .int .u8 v1.2.2.2.2.2.2.2.1] <|
    ld ⟨n1, 0, none⟩ (.agg [.int .u8, .int .u8, .int .u8, .int .u8, .int .u8, .int .u8, .int .u8, .int .u8]) fun v2 =>
    K (.agg #[.int .u8 v2.1, .int .u8 v2.2.1, .int .u8 v2.2.2.1, .int .u8 v2.2.2.2.1, .int .u8 v2.2.2.2.2.1, .int .u8 v2.2.2.2.2.2.1, .int .u8 v2.2.2.2.2.2.2.1, .int .u8 v2.2.2.2.2.2.2.2.1]))
theorem e80 (x0 : Int) (K : Value → HP) : flatFn PP h80 Try.f80 [.int .i64 x0] K = t80 x0 K := by kernel_rfl

/-- (*depot/queue.node).size -/
def h81 : Hints := ⟨[], [], [(1, [0, 1, 2, 3, 6, 7, 8, 9, 4, 5, 10, 11, 12, 13])]⟩
def t81 (x0 : Option Addr) (K : Value → HP) : HP :=
  nilc x0 fun a1 =>
  nilc x0 fun a2 =>
  ld a1 (.lf .str) fun v1 =>
  ld (Addr.add a2 1) (.lf .sl) fun v2 =>
  K (.int .i64 (IntKind.i64.wrap (v1.size + v2.len)))
theorem e81 (x0 : Option Addr) (K : Value → HP) : flatFn PP h81 Try.f81 [.pointer x0] K = t81 x0 K := by kernel_rfl

/-- (*depot/queue.Queue).find -/
def h82 : Hints := ⟨[], [], []⟩
def t82 (x0 : Option Addr) (x1 : ByteArray) (K : Value → HP) : HP :=
  ifB (Option.isNone x0) (
   K (.pointer none)) (
   nilc x0 fun a1 =>
   ld (Addr.add a1 4) (.lf .map) fun v1 =>
   smR PP (Instr.lookup 129 (.map v1) (.string x1) false) [.lf .ptr] fun v2 =>
   K (.pointer v2.1))
theorem e82 (x0 : Option Addr) (x1 : ByteArray) (K : Value → HP) : flatFn PP h82 Try.f82 [.pointer x0, .string x1] K = t82 x0 x1 K := by kernel_rfl

/-- (*depot/queue.Queue).unlink -/
def h83 : Hints := ⟨[], [(3, []), (6, [])], [(7, [0, 1, 2, 4, 5, 6, 7, 3, 8, 9]), (6, [0, 1, 2, 4, 3, 5, 6, 7, 8, 9]), (4, [0, 1, 2, 4, 5, 6, 3, 7, 8, 9, 10]), (1, [0, 1, 2, 4, 5, 6, 3, 7, 8, 9, 10])]⟩
def t83 (x0 : Option Addr) (x1 : Option Addr) (K : Value → HP) : HP :=
  jn (fun y1 : RsV [] =>
   jn (fun y2 : RsV [] =>
    nilc x0 fun a13 =>
    ld (Addr.add a13 1) (.lf (.int .i64)) fun v9 =>
    cl PP 81 #[.pointer x1] [.lf (.int .i64)] fun r1 =>
    keep (LdAt (Addr.add a13 1) [.int .i64 v9]) <|
    nilc x0 fun a14 =>
    st (Addr.add a14 1) [.int .i64 (IntKind.i64.wrap (v9 - r1.1))] <|
    nilc x0 fun a15 =>
    nilc x1 fun a16 =>
    ld (Addr.add a15 4) (.lf .map) fun v10 =>
    ld a16 (.lf .str) fun v11 =>
    smW PP (Builtin.delete_ #[129, 9] 0 #[.map v10, .string v11]) [] fun v12 =>
    K (.tuple #[])) fun j2 =>
   nilc x1 fun a7 =>
    ld (Addr.add a7 4) (.lf .ptr) fun v5 =>
    ifB (!(Option.isNone v5)) (
     nilc x1 fun a8 =>
     nilc x1 fun a9 =>
     ld (Addr.add a8 4) (.lf .ptr) fun v6 =>
     ld (Addr.add a9 3) (.lf .ptr) fun v7 =>
     nilc v6 fun a10 =>
     st (Addr.add a10 3) [.pointer v7] <|
     j2 (())) (
     nilc x1 fun a11 =>
     ld (Addr.add a11 3) (.lf .ptr) fun v8 =>
     nilc x0 fun a12 =>
     st (Addr.add a12 3) [.pointer v8] <|
     j2 (()))) fun j1 =>
  nilc x1 fun a1 =>
   ld (Addr.add a1 3) (.lf .ptr) fun v1 =>
   ifB (!(Option.isNone v1)) (
    nilc x1 fun a2 =>
    nilc x1 fun a3 =>
    ld (Addr.add a2 3) (.lf .ptr) fun v2 =>
    ld (Addr.add a3 4) (.lf .ptr) fun v3 =>
    nilc v2 fun a4 =>
    st (Addr.add a4 4) [.pointer v3] <|
    j1 (())) (
    nilc x1 fun a5 =>
    ld (Addr.add a5 4) (.lf .ptr) fun v4 =>
    nilc x0 fun a6 =>
    st (Addr.add a6 2) [.pointer v4] <|
    j1 (()))
theorem e83 (x0 : Option Addr) (x1 : Option Addr) (K : Value → HP) : flatFn PP h83 Try.f83 [.pointer x0, .pointer x1] K = t83 x0 x1 K := by kernel_rfl

/-- (*depot/depotref27.Queue).at -/
def h84 : Hints := ⟨[(0, [(5, .lf (.int .i64))])], [], []⟩
def t84 (x0 : Option Addr) (x1 : ByteArray) (K : Value → HP) : HP :=
  lp [.lf (.int .i64)] (0, ()) fun z1 go1 =>   -- i
   nilc x0 fun a1 =>
   ld (Addr.add a1 1) (.lf .sl) fun v1 =>
   ifB (decide ((z1.1 : Int) < v1.len)) (
    nilc x0 fun a2 =>
    ld (Addr.add a2 1) (.lf .sl) fun v2 =>
    nilc v2.a fun a3 =>
    ixn z1.1 v2.len <|
    ld (Addr.add a3 (z1.1.toNat * 3)) (.lf .str) fun v3 =>
    ifB (ByteArray.toList v3 == ByteArray.toList x1) (
     K (.int .i64 z1.1)) (
     go1 (IntKind.i64.wrap (z1.1 + 1), ()))) (
    K (.int .i64 (-1)))
theorem e84 (x0 : Option Addr) (x1 : ByteArray) (K : Value → HP) : flatFn PP h84 Try.f84 [.pointer x0, .string x1] K = t84 x0 x1 K := by kernel_rfl

/-- (*depot/depotref27.Queue).Put -/
def h85 : Hints := ⟨[], [], [(1, [0, 1, 2, 3, 5, 7, 4, 6, 8, 9, 10, 11, 12, 13, 14])]⟩
def t85 (x0 : Option Addr) (x1 : ByteArray) (x2 : SlV) (K : Value → HP) : HP :=
  cl PP 87 #[.pointer x0, .string x1] [.lf .bool] fun r1 =>
  nilc x0 fun a1 =>
  ld (Addr.add a1 1) (.lf .sl) fun v1 =>
  nw (.cells #[] 5) fun n1 =>
  smW PP (Builtin.append_ #[22, 22] 22 #[.slice (some ⟨n1, 0, none⟩) 0 0, .slice x2.a x2.len x2.cap]) [.lf .sl] fun v2 =>
  keep (LdAt (Addr.add a1 1) [.slice v1.a v1.len v1.cap]) <|
  nw (.cells #[.string x1, .slice v2.1.a v2.1.len v2.1.cap, .int .i64 0] 138) fun n2 =>
  smW PP (Builtin.append_ #[63, 63] 63 #[.slice v1.a v1.len v1.cap, .slice (some ⟨n2, 0, none⟩) 1 1]) [.lf .sl] fun v3 =>
  nilc x0 fun a2 =>
  st (Addr.add a2 1) [.slice v3.1.a v3.1.len v3.1.cap] <|
  K (.tuple #[])
theorem e85 (x0 : Option Addr) (x1 : ByteArray) (x2 : SlV) (K : Value → HP) : flatFn PP h85 Try.f85 [.pointer x0, .string x1, .slice x2.a x2.len x2.cap] K = t85 x0 x1 x2 K := by kernel_rfl

/-- (*depot/depotref27.Queue).Get -/
def h86 : Hints := ⟨[], [], [(4, [0, 1, 2, 4, 5, 6, 7, 9, 3, 8, 10, 11, 12, 13, 14, 15, 16, 17])]⟩
def t86 (x0 : Option Addr) (x1 : ByteArray) (K : Value → HP) : HP :=
  cl PP 84 #[.pointer x0, .string x1] [.lf (.int .i64)] fun r1 =>
  ifB (decide ((r1.1 : Int) < 0)) (
   K (.tuple #[.slice none 0 0, .bool false])) (
   nilc x0 fun a1 =>
   nilc x0 fun a2 =>
   ld (Addr.add a1 1) (.lf .sl) fun v1 =>
   ld (Addr.add a2 1) (.lf .sl) fun v2 =>
   nilc v2.a fun a3 =>
   ixn r1.1 v2.len <|
   ld (Addr.add (Addr.add a3 (r1.1.toNat * 3)) 2) (.lf (.int .i64)) fun v3 =>
   nilc v1.a fun a4 =>
   ixn r1.1 v1.len <|
   st (Addr.add (Addr.add a4 (r1.1.toNat * 3)) 2) [.int .i64 (imin (IntKind.i64.wrap (v3 + 1)) 3)] <|
   nw (.cells #[] 5) fun n1 =>
   nilc x0 fun a5 =>
   ld (Addr.add a5 1) (.lf .sl) fun v4 =>
   nilc v4.a fun a6 =>
   ixn r1.1 v4.len <|
   ld (Addr.add (Addr.add a6 (r1.1.toNat * 3)) 1) (.lf .sl) fun v5 =>
   smW PP (Builtin.append_ #[22, 22] 22 #[.slice (some ⟨n1, 0, none⟩) 0 0, .slice v5.a v5.len v5.cap]) [.lf .sl] fun v6 =>
   K (.tuple #[.slice v6.1.a v6.1.len v6.1.cap, .bool true]))
theorem e86 (x0 : Option Addr) (x1 : ByteArray) (K : Value → HP) : flatFn PP h86 Try.f86 [.pointer x0, .string x1] K = t86 x0 x1 K := by kernel_rfl

/-- (*depot/depotref27.Queue).Drop -/
def h87 : Hints := ⟨[], [], [(4, [0, 2, 3, 4, 6, 9, 10, 11, 13, 14, 5, 7, 12, 15, 1, 8, 16, 17, 18, 19])]⟩
def t87 (x0 : Option Addr) (x1 : ByteArray) (K : Value → HP) : HP :=
  cl PP 84 #[.pointer x0, .string x1] [.lf (.int .i64)] fun r1 =>
  ifB (decide ((r1.1 : Int) < 0)) (
   K (.bool false)) (
   nilc x0 fun a1 =>
   nilc x0 fun a2 =>
   ld (Addr.add a1 1) (.lf .sl) fun v1 =>
   slc ⟨v1.a, v1.len, v1.cap⟩ 0 r1.1 v1.cap 3 fun s1 =>
   ld (Addr.add a2 1) (.lf .sl) fun v2 =>
   slc ⟨v2.a, v2.len, v2.cap⟩ (IntKind.i64.wrap (r1.1 + 1)) v2.len v2.cap 3 fun s2 =>
   nw (.cells #[] 138) fun n1 =>
   smW PP (Builtin.append_ #[63, 63] 63 #[.slice (some ⟨n1, 0, none⟩) 0 0, .slice s1.a s1.len s1.cap]) [.lf .sl] fun v3 =>
   keep (LdAt (Addr.add a2 1) [.slice v2.a v2.len v2.cap]) <|
   smW PP (Builtin.append_ #[63, 63] 63 #[.slice v3.1.a v3.1.len v3.1.cap, .slice s2.a s2.len s2.cap]) [.lf .sl] fun v4 =>
   nilc x0 fun a3 =>
   st (Addr.add a3 1) [.slice v4.1.a v4.1.len v4.1.cap] <|
   K (.bool true))
theorem e87 (x0 : Option Addr) (x1 : ByteArray) (K : Value → HP) : flatFn PP h87 Try.f87 [.pointer x0, .string x1] K = t87 x0 x1 K := by kernel_rfl

/-- (*depot/depotref27.Queue).Pop -/
def h88 : Hints := ⟨[], [], []⟩
def t88 (x0 : Option Addr) (K : Value → HP) : HP :=
  nw (.cells #[.string ByteArray.empty, .slice none 0 0, .int .i64 0] 138) fun n1 =>
  nilc x0 fun a1 =>
  ld (Addr.add a1 1) (.lf .sl) fun v1 =>
  ifB ((v1.len : Int) == 0) (
   st ⟨n1, 0, none⟩ [.string ByteArray.empty, .slice none 0 0, .int .i64 0] <|
   ld ⟨n1, 0, none⟩ (.agg [.str, .sl, .int .i64]) fun v2 =>
   K (.tuple #[.agg #[.string v2.1, .slice v2.2.1.a v2.2.1.len v2.2.1.cap, .int .i64 v2.2.2.1], .bool false])) (
   nilc x0 fun a2 =>
   ld (Addr.add a2 1) (.lf .sl) fun v3 =>
   nilc v3.a fun a3 =>
   ixn 0 v3.len <|
   ld (Addr.add a3 ((0 : Int).toNat * 3)) (.agg [.str, .sl, .int .i64]) fun v4 =>
   nw (.cells #[.string ByteArray.empty, .slice none 0 0, .int .i64 0] 138) fun n2 =>
   st ⟨n2, 0, none⟩ [.string v4.1, .slice v4.2.1.a v4.2.1.len v4.2.1.cap, .int .i64 v4.2.2.1] <|
   nilc x0 fun a4 =>
   ld (Addr.add a4 1) (.lf .sl) fun v5 =>
   slc ⟨v5.a, v5.len, v5.cap⟩ 1 v5.len v5.cap 3 fun s1 =>
   nilc x0 fun a5 =>
   st (Addr.add a5 1) [.slice s1.a s1.len s1.cap] <|
   ld ⟨n2, 0, none⟩ (.agg [.str, .sl, .int .i64]) fun v6 =>
   st ⟨n1, 0, none⟩ [.string v6.1, .slice v6.2.1.a v6.2.1.len v6.2.1.cap, .int .i64 v6.2.2.1] <|
   ld ⟨n1, 0, none⟩ (.agg [.str, .sl, .int .i64]) fun v7 =>
   K (.tuple #[.agg #[.string v7.1, .slice v7.2.1.a v7.2.1.len v7.2.1.cap, .int .i64 v7.2.2.1], .bool true]))
theorem e88 (x0 : Option Addr) (K : Value → HP) : flatFn PP h88 Try.f88 [.pointer x0] K = t88 x0 K := by kernel_rfl

/-- (*depot/index.Index).take -/
def h89 : Hints := ⟨[], [], [(3, [0, 1, 3, 4, 2, 5, 6, 7, 8])]⟩
def t89 (x0 : Option Addr) (x1 : Int) (x2 : ShV (.agg [.int .i64, .int .i64, .int .i64])) (K : Value → HP) : HP :=
  nw (.cells #[.int .i64 x2.1, .int .i64 x2.2.1, .int .i64 x2.2.2.1] 81) fun n1 =>
  nw (.cells #[.int .i64 0, .int .i64 0, .int .i64 0, .int .i64 0, .int .i64 0] 144) fun n2 =>
  ifB (Option.isNone x0) (
   st ⟨n2, 0, none⟩ [.int .i64 0, .int .i64 0, .int .i64 0, .int .i64 0, .int .i64 0] <|
   ld ⟨n2, 0, none⟩ (.agg [.int .i64, .int .i64, .int .i64, .int .i64, .int .i64]) fun v1 =>
   K (.tuple #[.agg #[.int .i64 v1.1, .int .i64 v1.2.1, .int .i64 v1.2.2.1, .int .i64 v1.2.2.2.1, .int .i64 v1.2.2.2.2.1], .bool false])) (
   ld ⟨n1, 0, none⟩ (.agg [.int .i64, .int .i64, .int .i64]) fun v2 =>
   cl PP 90 #[.pointer x0, .int .u64 x1] [.lf .ptr] fun r1 =>
   keep (LdAt ⟨n1, 0, none⟩ [.int .i64 v2.1, .int .i64 v2.2.1, .int .i64 v2.2.2.1]) <|
   cl PP 93 #[.int .u64 x1, .agg #[.int .i64 v2.1, .int .i64 v2.2.1, .int .i64 v2.2.2.1]] [.agg [.int .i64, .int .i64, .int .i64, .int .i64]] fun r2 =>
   nw (.cells #[.int .i64 0, .int .i64 0, .int .i64 0, .int .i64 0] 142) fun n3 =>
   st ⟨n3, 0, none⟩ [.int .i64 r2.1.1, .int .i64 r2.1.2.1, .int .i64 r2.1.2.2.1, .int .i64 r2.1.2.2.2.1] <|
   nilc r1.1 fun a1 =>
   ld a1 (.lf .sl) fun v3 =>
   cl PP 117 #[.slice v3.a v3.len v3.cap, .func (.func 118) #[] #[.pointer (some ⟨n3, 0, none⟩)]] [.lf (.int .i64)] fun r3 =>
   ifB (decide ((r3.1 : Int) < 0)) (
    st ⟨n2, 0, none⟩ [.int .i64 0, .int .i64 0, .int .i64 0, .int .i64 0, .int .i64 0] <|
    ld ⟨n2, 0, none⟩ (.agg [.int .i64, .int .i64, .int .i64, .int .i64, .int .i64]) fun v4 =>
    K (.tuple #[.agg #[.int .i64 v4.1, .int .i64 v4.2.1, .int .i64 v4.2.2.1, .int .i64 v4.2.2.2.1, .int .i64 v4.2.2.2.2.1], .bool false])) (
    nilc r1.1 fun a2 =>
    ld a2 (.lf .sl) fun v5 =>
    nilc v5.a fun a3 =>
    ixn r3.1 v5.len <|
    ld (Addr.add a3 (r3.1.toNat * 5)) (.agg [.int .i64, .int .i64, .int .i64, .int .i64, .int .i64]) fun v6 =>
    nw (.cells #[.int .i64 0, .int .i64 0, .int .i64 0, .int .i64 0, .int .i64 0] 144) fun n4 =>
    st ⟨n4, 0, none⟩ [.int .i64 v6.1, .int .i64 v6.2.1, .int .i64 v6.2.2.1, .int .i64 v6.2.2.2.1, .int .i64 v6.2.2.2.2.1] <|
    nilc r1.1 fun a4 =>
    ld a4 (.lf .sl) fun v7 =>
    cl PP 91 #[.slice v7.a v7.len v7.cap, .int .i64 r3.1, .int .i64 (IntKind.i64.wrap (r3.1 + 1))] [.lf .sl] fun r4 =>
    nilc r1.1 fun a5 =>
    st a5 [.slice r4.1.a r4.1.len r4.1.cap] <|
    ld ⟨n4, 0, none⟩ (.agg [.int .i64, .int .i64, .int .i64, .int .i64, .int .i64]) fun v8 =>
    st ⟨n2, 0, none⟩ [.int .i64 v8.1, .int .i64 v8.2.1, .int .i64 v8.2.2.1, .int .i64 v8.2.2.2.1, .int .i64 v8.2.2.2.2.1] <|
    ld ⟨n2, 0, none⟩ (.agg [.int .i64, .int .i64, .int .i64, .int .i64, .int .i64]) fun v9 =>
    K (.tuple #[.agg #[.int .i64 v9.1, .int .i64 v9.2.1, .int .i64 v9.2.2.1, .int .i64 v9.2.2.2.1, .int .i64 v9.2.2.2.2.1], .bool true])))
theorem e89 (x0 : Option Addr) (x1 : Int) (x2 : ShV (.agg [.int .i64, .int .i64, .int .i64])) (K : Value → HP) : flatFn PP h89 Try.f89 [.pointer x0, .int .u64 x1, .agg #[.int .i64 x2.1, .int .i64 x2.2.1, .int .i64 x2.2.2.1]] K = t89 x0 x1 x2 K := by kernel_rfl

/-- (*depot/index.Index).set -/
def h90 : Hints := ⟨[], [], [(1, [0, 1, 2, 4, 5, 6, 7, 3, 8, 9, 10, 11, 12])]⟩
def t90 (x0 : Option Addr) (x1 : Int) (K : Value → HP) : HP :=
  nilc x0 fun a1 =>
  nilc x0 fun a2 =>
  ld (Addr.add a1 1) (.lf .sl) fun v1 =>
  ld (Addr.add a2 1) (.lf .sl) fun v2 =>
  cl PP 119 #[.int .u64 x1, .int .i64 v2.len] [.lf (.int .i64)] fun r1 =>
  keep (LdAt (Addr.add a1 1) [.slice v1.a v1.len v1.cap]) <|
  nilc v1.a fun a3 =>
  ixn r1.1 v1.len <|
  K (.pointer (some (Addr.add a3 (r1.1.toNat * 1))))
theorem e90 (x0 : Option Addr) (x1 : Int) (K : Value → HP) : flatFn PP h90 Try.f90 [.pointer x0, .int .u64 x1] K = t90 x0 x1 K := by kernel_rfl

/-- slices.Delete[[]depot/index.slot,depot/index.slot] -/
def h91 : Hints := ⟨[], [], [(5, [0, 1, 2, 3, 4, 5, 6, 7])]⟩
def t91 (x0 : SlV) (x1 : Int) (x2 : Int) (K : Value → HP) : HP :=
  slc ⟨x0.a, x0.len, x0.cap⟩ x1 x2 x0.len 5 fun s1 =>
  ifB ((x1 : Int) == x2) (
   K (.slice x0.a x0.len x0.cap)) (
   slc ⟨x0.a, x0.len, x0.cap⟩ 0 x1 x0.cap 5 fun s2 =>
   slc ⟨x0.a, x0.len, x0.cap⟩ x2 x0.len x0.cap 5 fun s3 =>
   smW PP (Builtin.append_ #[149, 149] 149 #[.slice s2.a s2.len s2.cap, .slice s3.a s3.len s3.cap]) [.lf .sl] fun v1 =>
   slc ⟨v1.1.a, v1.1.len, v1.1.cap⟩ v1.1.len x0.len v1.1.cap 5 fun s4 =>
   smW PP (Builtin.clear_ #[149] 0 #[.slice s4.a s4.len s4.cap]) [] fun v2 =>
   K (.slice v1.1.a v1.1.len v1.1.cap))
theorem e91 (x0 : SlV) (x1 : Int) (x2 : Int) (K : Value → HP) : flatFn PP h91 Try.f91 [.slice x0.a x0.len x0.cap, .int .i64 x1, .int .i64 x2] K = t91 x0 x1 x2 K := by kernel_rfl

/-- (*depot/index.Index).young -/
def h92 : Hints := ⟨[], [], [(2, [0, 1, 2, 3, 4, 5, 6, 7, 8])]⟩
def t92 (x0 : Option Addr) (x1 : Int) (x2 : ShV (.agg [.int .i64, .int .i64, .int .i64, .int .i64, .int .i64])) (K : Value → HP) : HP :=
  nw (.cells #[.int .i64 x2.1, .int .i64 x2.2.1, .int .i64 x2.2.2.1, .int .i64 x2.2.2.2.1, .int .i64 x2.2.2.2.2.1] 144) fun n1 =>
  cl PP 90 #[.pointer x0, .int .u64 x1] [.lf .ptr] fun r1 =>
  nilc r1.1 fun a1 =>
  ld a1 (.lf .sl) fun v1 =>
  ld ⟨n1, 0, none⟩ (.agg [.int .i64, .int .i64, .int .i64, .int .i64, .int .i64]) fun v2 =>
  nw (.cells #[.int .i64 v2.1, .int .i64 v2.2.1, .int .i64 v2.2.2.1, .int .i64 v2.2.2.2.1, .int .i64 v2.2.2.2.2.1] 144) fun n2 =>
  smW PP (Builtin.append_ #[149, 149] 149 #[.slice v1.a v1.len v1.cap, .slice (some ⟨n2, 0, none⟩) 1 1]) [.lf .sl] fun v3 =>
  nilc r1.1 fun a2 =>
  st a2 [.slice v3.1.a v3.1.len v3.1.cap] <|
  K (.tuple #[])
theorem e92 (x0 : Option Addr) (x1 : Int) (x2 : ShV (.agg [.int .i64, .int .i64, .int .i64, .int .i64, .int .i64])) (K : Value → HP) : flatFn PP h92 Try.f92 [.pointer x0, .int .u64 x1, .agg #[.int .i64 x2.1, .int .i64 x2.2.1, .int .i64 x2.2.2.1, .int .i64 x2.2.2.2.1, .int .i64 x2.2.2.2.2.1]] K = t92 x0 x1 x2 K := by kernel_rfl

/-- depot/index.of -/
def h93 : Hints := ⟨[], [], [(1, [0, 2, 1, 3, 4])]⟩
def t93 (x0 : Int) (x1 : ShV (.agg [.int .i64, .int .i64, .int .i64])) (K : Value → HP) : HP :=
  nw (.cells #[.int .i64 x1.1, .int .i64 x1.2.1, .int .i64 x1.2.2.1] 81) fun n1 =>
  nw (.cells #[.int .i64 0, .int .i64 0, .int .i64 0, .int .i64 0] 142) fun n2 =>
  ld ⟨n1, 0, none⟩ (.agg [.int .i64, .int .i64, .int .i64]) fun v1 =>
  cl PP 94 #[.int .u64 x0] [.lf (.int .i64)] fun r1 =>
  keep (LdAt ⟨n1, 0, none⟩ [.int .i64 v1.1, .int .i64 v1.2.1, .int .i64 v1.2.2.1]) <|
  st ⟨n2, 0, none⟩ [.int .i64 r1.1, .int .i64 v1.1, .int .i64 v1.2.1, .int .i64 v1.2.2.1] <|
  ld ⟨n2, 0, none⟩ (.agg [.int .i64, .int .i64, .int .i64, .int .i64]) fun v2 =>
  K (.agg #[.int .i64 v2.1, .int .i64 v2.2.1, .int .i64 v2.2.2.1, .int .i64 v2.2.2.2.1])
theorem e93 (x0 : Int) (x1 : ShV (.agg [.int .i64, .int .i64, .int .i64])) (K : Value → HP) : flatFn PP h93 Try.f93 [.int .u64 x0, .agg #[.int .i64 x1.1, .int .i64 x1.2.1, .int .i64 x1.2.2.1]] K = t93 x0 x1 K := by kernel_rfl

/-- depot/mix.Part -/
def h94 : Hints := ⟨[], [], []⟩
def t94 (x0 : Int) (K : Value → HP) : HP :=
  req ((0 : Int) ≤ 48) <|
  K (.int .i64 (IntKind.i64.wrap (Int.fdiv x0 (2 ^ (min (48 : Int).toNat IntKind.u64.bits)))))
theorem e94 (x0 : Int) (K : Value → HP) : flatFn PP h94 Try.f94 [.int .u64 x0] K = t94 x0 K := by kernel_rfl

/-- (*depot/index.Index).with -/
def h95 : Hints := ⟨[(0, [(24, .lf (.int .i64))])], [], [(7, [0, 1, 2, 3, 4, 5, 6]), (3, [0, 1, 5, 6, 2, 3, 4, 7, 8, 9, 10])]⟩
def t95 (x0 : Option Addr) (x1 : Int) (x2 : ShV (.agg [.int .i64, .int .i64, .int .i64])) (x3 : FnV) (K : Value → HP) : HP :=
  nw (.cells #[.int .i64 x2.1, .int .i64 x2.2.1, .int .i64 x2.2.2.1] 81) fun n1 =>
  ifB (Option.isNone x0) (
   K (.bool false)) (
   ld ⟨n1, 0, none⟩ (.agg [.int .i64, .int .i64, .int .i64]) fun v1 =>
   cl PP 90 #[.pointer x0, .int .u64 x1] [.lf .ptr] fun r1 =>
   keep (LdAt ⟨n1, 0, none⟩ [.int .i64 v1.1, .int .i64 v1.2.1, .int .i64 v1.2.2.1]) <|
   nilc r1.1 fun a1 =>
   ld a1 (.lf .sl) fun v2 =>
   cl PP 93 #[.int .u64 x1, .agg #[.int .i64 v1.1, .int .i64 v1.2.1, .int .i64 v1.2.2.1]] [.agg [.int .i64, .int .i64, .int .i64, .int .i64]] fun r2 =>
   keep (LdAt a1 [.slice v2.a v2.len v2.cap]) <|
   nw (.cells #[.int .i64 0, .int .i64 0, .int .i64 0, .int .i64 0] 142) fun n2 =>
   st ⟨n2, 0, none⟩ [.int .i64 r2.1.1, .int .i64 r2.1.2.1, .int .i64 r2.1.2.2.1, .int .i64 r2.1.2.2.2.1] <|
   lp [.lf (.int .i64)] (0, ()) fun z1 go1 =>   -- 
    ifB (decide ((z1.1 : Int) < v2.len)) (
     nilc v2.a fun a2 =>
     ixn z1.1 v2.len <|
     ld (Addr.add a2 (z1.1.toNat * 5)) (.agg [.int .i64, .int .i64, .int .i64, .int .i64]) fun v3 =>
     ld ⟨n2, 0, none⟩ (.agg [.int .i64, .int .i64, .int .i64, .int .i64]) fun v4 =>
     smP PP (binOp .eql 142 (.agg #[.int .i64 v3.1, .int .i64 v3.2.1, .int .i64 v3.2.2.1, .int .i64 v3.2.2.2.1]) (.agg #[.int .i64 v4.1, .int .i64 v4.2.1, .int .i64 v4.2.2.1, .int .i64 v4.2.2.2.1])) (.lf .bool) fun v5 =>
     ifB v5 (
      nilc v2.a fun a3 =>
      ixn z1.1 v2.len <|
      clv PP x3.fn (x3.first ++ #[.pointer (some (Addr.add a3 (z1.1.toNat * 5)))]) x3.captured [] fun r3 =>
      K (.bool true)) (
      go1 (IntKind.i64.wrap (z1.1 + 1), ()))) (
     K (.bool false)))
theorem e95 (x0 : Option Addr) (x1 : Int) (x2 : ShV (.agg [.int .i64, .int .i64, .int .i64])) (x3 : FnV) (K : Value → HP) : flatFn PP h95 Try.f95 [.pointer x0, .int .u64 x1, .agg #[.int .i64 x2.1, .int .i64 x2.2.1, .int .i64 x2.2.2.1], .func x3.fn x3.first x3.captured] K = t95 x0 x1 x2 x3 K := by kernel_rfl

/-- (*depot/index.Index).Hit$1 -/
def h96 : Hints := ⟨[], [], []⟩
def t96 (x0 : Option Addr) (K : Value → HP) : HP :=
  nilc x0 fun a1 =>
  ld (Addr.add a1 4) (.lf (.int .i64)) fun v1 =>
  nilc x0 fun a2 =>
  st (Addr.add a2 4) [.int .i64 (imin (IntKind.i64.wrap (v1 + 1)) 3)] <|
  K (.tuple #[])
theorem e96 (x0 : Option Addr) (K : Value → HP) : flatFn PP h96 Try.f96 [.pointer x0] K = t96 x0 K := by kernel_rfl

/-- (*depot/index.Index).Freq$1 -/
def h97 : Hints := ⟨[], [], []⟩
def t97 (x0 : Option Addr) (x1 : Option Addr) (K : Value → HP) : HP :=
  nilc x0 fun a1 =>
  ld (Addr.add a1 4) (.lf (.int .i64)) fun v1 =>
  nilc x1 fun a2 =>
  st a2 [.int .i64 v1] <|
  K (.tuple #[])
theorem e97 (x0 : Option Addr) (x1 : Option Addr) (K : Value → HP) : flatFn PP h97 Try.f97 [.pointer x0, .pointer x1] K = t97 x0 x1 K := by kernel_rfl

/-- depot/depotlaw26.at -/
def h98 : Hints := ⟨[], [], []⟩
def t98 (x0 : Int) (K : Value → HP) : HP :=
  nw (.cells #[.int .i64 0, .int .i64 0, .int .i64 0] 81) fun n1 =>
  st ⟨n1, 0, none⟩ [.int .i64 1, .int .i64 x0, .int .i64 1] <|
  ld ⟨n1, 0, none⟩ (.agg [.int .i64, .int .i64, .int .i64]) fun v1 =>
  K (.agg #[.int .i64 v1.1, .int .i64 v1.2.1, .int .i64 v1.2.2.1])
theorem e98 (x0 : Int) (K : Value → HP) : flatFn PP h98 Try.f98 [.int .i64 x0] K = t98 x0 K := by kernel_rfl

/-- depot/depotref25.Places -/
def h99 : Hints := ⟨[(0, [(5, .lf (.int .i64))])], [], [(6, [0, 1, 2, 4, 5, 6, 3, 7, 8])]⟩
def t99 (x0 : SlV) (x1 : SlV) (K : Value → HP) : HP :=
  ifB ((x0.len : Int) != x1.len) (
   K (.bool false)) (
   lp [.lf (.int .i64)] (0, ()) fun z1 go1 =>   -- i
    ifB (decide ((z1.1 : Int) < x0.len)) (
     nilc x0.a fun a1 =>
     ixn z1.1 x0.len <|
     nilc x1.a fun a2 =>
     ixn z1.1 x1.len <|
     ld (Addr.add a1 (z1.1.toNat * 3)) (.agg [.int .i64, .int .i64, .int .i64]) fun v1 =>
     ld (Addr.add a2 (z1.1.toNat * 3)) (.agg [.int .i64, .int .i64, .int .i64]) fun v2 =>
     smP PP (binOp .neq 81 (.agg #[.int .i64 v1.1, .int .i64 v1.2.1, .int .i64 v1.2.2.1]) (.agg #[.int .i64 v2.1, .int .i64 v2.2.1, .int .i64 v2.2.2.1])) (.lf .bool) fun v3 =>
     ifB v3 (
      K (.bool false)) (
      go1 (IntKind.i64.wrap (z1.1 + 1), ()))) (
     K (.bool true)))
theorem e99 (x0 : SlV) (x1 : SlV) (K : Value → HP) : flatFn PP h99 Try.f99 [.slice x0.a x0.len x0.cap, .slice x1.a x1.len x1.cap] K = t99 x0 x1 K := by kernel_rfl

/-- slices.Clone[[]depot/blocks.State,depot/blocks.State] -/
def h100 : Hints := ⟨[], [], []⟩
def t100 (x0 : SlV) (K : Value → HP) : HP :=
  ifB (Option.isNone x0.a) (
   K (.slice none 0 0)) (
   nw (.cells #[] 163) fun n1 =>
   smW PP (Builtin.append_ #[104, 104] 104 #[.slice (some ⟨n1, 0, none⟩) 0 0, .slice x0.a x0.len x0.cap]) [.lf .sl] fun v1 =>
   K (.slice v1.1.a v1.1.len v1.1.cap))
theorem e100 (x0 : SlV) (K : Value → HP) : flatFn PP h100 Try.f100 [.slice x0.a x0.len x0.cap] K = t100 x0 K := by kernel_rfl

/-- (*depot/blocks.Blocks).free -/
def h101 : Hints := ⟨[], [], []⟩
def t101 (x0 : Option Addr) (x1 : Int) (K : Value → HP) : HP :=
  cl PP 110 #[.pointer x0, .int .i64 x1] [.lf .bool] fun r1 =>
  ifB r1.1 (
   nilc x0 fun a1 =>
   ld (Addr.add a1 1) (.lf .sl) fun v1 =>
   cl PP 120 #[.slice v1.a v1.len v1.cap, .int .i64 x1] [.lf .bool] fun r2 =>
   K (.bool (!r2.1))) (
   K (.bool false))
theorem e101 (x0 : Option Addr) (x1 : Int) (K : Value → HP) : flatFn PP h101 Try.f101 [.pointer x0, .int .i64 x1] K = t101 x0 x1 K := by kernel_rfl

/-- depot/depotref29.in -/
def h102 : Hints := ⟨[(0, [(5, .lf (.int .i64))])], [], []⟩
def t102 (x0 : Int) (x1 : SlV) (K : Value → HP) : HP :=
  lp [.lf (.int .i64)] (0, ()) fun z1 go1 =>   -- i
   ifB (decide ((z1.1 : Int) < x1.len)) (
    nilc x1.a fun a1 =>
    ixn z1.1 x1.len <|
    ld (Addr.add a1 (z1.1.toNat * 1)) (.lf (.int .i64)) fun v1 =>
    ifB ((v1 : Int) == x0) (
     K (.bool true)) (
     go1 (IntKind.i64.wrap (z1.1 + 1), ()))) (
    K (.bool false))
theorem e102 (x0 : Int) (x1 : SlV) (K : Value → HP) : flatFn PP h102 Try.f102 [.int .i64 x0, .slice x1.a x1.len x1.cap] K = t102 x0 x1 K := by kernel_rfl

/-- (*depot/blocks.Blocks).each -/
def h103 : Hints := ⟨[(0, [(14, .lf (.int .i64))])], [], []⟩
def t103 (x0 : Option Addr) (x1 : FnV) (x2 : FnV) (K : Value → HP) : HP :=
  ifB (Option.isNone x0) (
   K (.tuple #[])) (
   nilc x0 fun a1 =>
   ld a1 (.lf .sl) fun v1 =>
   lp [.lf (.int .i64)] (0, ()) fun z1 go1 =>   -- 
    ifB (decide ((z1.1 : Int) < v1.len)) (
     clv PP x1.fn (x1.first ++ #[.int .i64 z1.1]) x1.captured [.lf .bool] fun r1 =>
     ifB r1.1 (
      nilc x0 fun a2 =>
      ld a2 (.lf .sl) fun v2 =>
      nilc v2.a fun a3 =>
      ixn z1.1 v2.len <|
      ld (Addr.add a3 (z1.1.toNat * 3)) (.agg [.int .i64, .bool, .bool]) fun v3 =>
      clv PP x2.fn (x2.first ++ #[.int .i64 z1.1, .agg #[.int .i64 v3.1, .bool v3.2.1, .bool v3.2.2.1]]) x2.captured [] fun r2 =>
      go1 (IntKind.i64.wrap (z1.1 + 1), ())) (
      go1 (IntKind.i64.wrap (z1.1 + 1), ()))) (
     K (.tuple #[])))
theorem e103 (x0 : Option Addr) (x1 : FnV) (x2 : FnV) (K : Value → HP) : flatFn PP h103 Try.f103 [.pointer x0, .func x1.fn x1.first x1.captured, .func x2.fn x2.first x2.captured] K = t103 x0 x1 x2 K := by kernel_rfl

/-- (*depot/blocks.Blocks).Pick$1 -/
def h104 : Hints := ⟨[], [], [(2, [0, 1, 2, 3, 4]), (1, [0, 1, 2, 3, 5, 4, 6, 7, 8])]⟩
def t104 (x0 : Int) (x1 : ShV (.agg [.int .i64, .bool, .bool])) (x2 : Option Addr) (x3 : Option Addr) (x4 : Option Addr) (K : Value → HP) : HP :=
  nw (.cells #[.int .i64 x1.1, .bool x1.2.1, .bool x1.2.2.1] 163) fun n1 =>
  nilc x2 fun a1 =>
  ld a1 (.lf .bool) fun v1 =>
  ifB (!v1) (
   ld ⟨n1, 0, none⟩ (.agg [.int .i64, .bool, .bool]) fun v2 =>
   nilc x4 fun a2 =>
   st a2 [.int .i64 x0] <|
   keep (LdAt ⟨n1, 0, none⟩ [.int .i64 v2.1, .bool v2.2.1, .bool v2.2.2.1]) <|
   nilc x3 fun a3 =>
   st a3 [.int .i64 v2.1, .bool v2.2.1, .bool v2.2.2.1] <|
   nilc x2 fun a4 =>
   st a4 [.bool true] <|
   K (.tuple #[])) (
   ld ⟨n1, 0, none⟩ (.agg [.int .i64, .bool, .bool]) fun v3 =>
   nilc x3 fun a5 =>
   ld a5 (.agg [.int .i64, .bool, .bool]) fun v4 =>
   cl PP 105 #[.agg #[.int .i64 v3.1, .bool v3.2.1, .bool v3.2.2.1]] [.lf (.int .i64)] fun r1 =>
   keep (LdAt a5 [.int .i64 v4.1, .bool v4.2.1, .bool v4.2.2.1]) <|
   cl PP 105 #[.agg #[.int .i64 v4.1, .bool v4.2.1, .bool v4.2.2.1]] [.lf (.int .i64)] fun r2 =>
   ifB (decide ((r1.1 : Int) < r2.1)) (
    ld ⟨n1, 0, none⟩ (.agg [.int .i64, .bool, .bool]) fun v5 =>
    nilc x4 fun a6 =>
    st a6 [.int .i64 x0] <|
    keep (LdAt ⟨n1, 0, none⟩ [.int .i64 v5.1, .bool v5.2.1, .bool v5.2.2.1]) <|
    nilc x3 fun a7 =>
    st a7 [.int .i64 v5.1, .bool v5.2.1, .bool v5.2.2.1] <|
    nilc x2 fun a8 =>
    st a8 [.bool true] <|
    K (.tuple #[])) (
    K (.tuple #[])))
theorem e104 (x0 : Int) (x1 : ShV (.agg [.int .i64, .bool, .bool])) (x2 : Option Addr) (x3 : Option Addr) (x4 : Option Addr) (K : Value → HP) : flatFn PP h104 Try.f104 [.int .i64 x0, .agg #[.int .i64 x1.1, .bool x1.2.1, .bool x1.2.2.1], .pointer x2, .pointer x3, .pointer x4] K = t104 x0 x1 x2 x3 x4 K := by kernel_rfl

/-- (depot/blocks.State).cost -/
def h105 : Hints := ⟨[], [], []⟩
def t105 (x0 : ShV (.agg [.int .i64, .bool, .bool])) (K : Value → HP) : HP :=
  nw (.cells #[.int .i64 x0.1, .bool x0.2.1, .bool x0.2.2.1] 163) fun n1 =>
  ld (Addr.add ⟨n1, 0, none⟩ 2) (.lf .bool) fun v1 =>
  ifB v1 (
   ld ⟨n1, 0, none⟩ (.lf (.int .i64)) fun v2 =>
   K (.int .i64 (IntKind.i64.wrap (v2 + 1)))) (
   ld ⟨n1, 0, none⟩ (.lf (.int .i64)) fun v3 =>
   K (.int .i64 v3))
theorem e105 (x0 : ShV (.agg [.int .i64, .bool, .bool])) (K : Value → HP) : flatFn PP h105 Try.f105 [.agg #[.int .i64 x0.1, .bool x0.2.1, .bool x0.2.2.1]] K = t105 x0 K := by kernel_rfl

/-- (*depot/depotref29.Blocks).free -/
def h106 : Hints := ⟨[], [], []⟩
def t106 (x0 : Option Addr) (x1 : Int) (K : Value → HP) : HP :=
  cl PP 114 #[.pointer x0, .int .i64 x1] [.lf .bool] fun r1 =>
  ifB r1.1 (
   nilc x0 fun a1 =>
   ld (Addr.add a1 1) (.lf .sl) fun v1 =>
   cl PP 102 #[.int .i64 x1, .slice v1.a v1.len v1.cap] [.lf .bool] fun r2 =>
   K (.bool (!r2.1))) (
   K (.bool false))
theorem e106 (x0 : Option Addr) (x1 : Int) (K : Value → HP) : flatFn PP h106 Try.f106 [.pointer x0, .int .i64 x1] K = t106 x0 x1 K := by kernel_rfl

/-- (*depot/depotref29.Blocks).cost -/
def h107 : Hints := ⟨[], [], []⟩
def t107 (x0 : Option Addr) (x1 : Int) (K : Value → HP) : HP :=
  nilc x0 fun a1 =>
  ld a1 (.lf .sl) fun v1 =>
  nilc v1.a fun a2 =>
  ixn x1 v1.len <|
  ld (Addr.add (Addr.add a2 (x1.toNat * 3)) 2) (.lf .bool) fun v2 =>
  ifB v2 (
   nilc x0 fun a3 =>
   ld a3 (.lf .sl) fun v3 =>
   nilc v3.a fun a4 =>
   ixn x1 v3.len <|
   ld (Addr.add a4 (x1.toNat * 3)) (.lf (.int .i64)) fun v4 =>
   K (.int .i64 (IntKind.i64.wrap (v4 + 1)))) (
   nilc x0 fun a5 =>
   ld a5 (.lf .sl) fun v5 =>
   nilc v5.a fun a6 =>
   ixn x1 v5.len <|
   ld (Addr.add a6 (x1.toNat * 3)) (.lf (.int .i64)) fun v6 =>
   K (.int .i64 v6))
theorem e107 (x0 : Option Addr) (x1 : Int) (K : Value → HP) : flatFn PP h107 Try.f107 [.pointer x0, .int .i64 x1] K = t107 x0 x1 K := by kernel_rfl

/-- (*depot/blocks.Blocks).Free$1 -/
def h108 : Hints := ⟨[], [], []⟩
def t108 (x0 : Int) (x1 : ShV (.agg [.int .i64, .bool, .bool])) (x2 : Option Addr) (K : Value → HP) : HP :=
  nw (.cells #[.int .i64 x1.1, .bool x1.2.1, .bool x1.2.2.1] 163) fun n1 =>
  nilc x2 fun a1 =>
  ld a1 (.lf (.int .i64)) fun v1 =>
  nilc x2 fun a2 =>
  st a2 [.int .i64 (IntKind.i64.wrap (v1 + 1))] <|
  K (.tuple #[])
theorem e108 (x0 : Int) (x1 : ShV (.agg [.int .i64, .bool, .bool])) (x2 : Option Addr) (K : Value → HP) : flatFn PP h108 Try.f108 [.int .i64 x0, .agg #[.int .i64 x1.1, .bool x1.2.1, .bool x1.2.2.1], .pointer x2] K = t108 x0 x1 x2 K := by kernel_rfl

/-- slices.Clone[[]int,int] -/
def h109 : Hints := ⟨[], [], []⟩
def t109 (x0 : SlV) (K : Value → HP) : HP :=
  ifB (Option.isNone x0.a) (
   K (.slice none 0 0)) (
   nw (.cells #[] 3) fun n1 =>
   smW PP (Builtin.append_ #[37, 37] 37 #[.slice (some ⟨n1, 0, none⟩) 0 0, .slice x0.a x0.len x0.cap]) [.lf .sl] fun v1 =>
   K (.slice v1.1.a v1.1.len v1.1.cap))
theorem e109 (x0 : SlV) (K : Value → HP) : flatFn PP h109 Try.f109 [.slice x0.a x0.len x0.cap] K = t109 x0 K := by kernel_rfl

/-- (*depot/blocks.Blocks).good -/
def h110 : Hints := ⟨[], [], []⟩
def t110 (x0 : Option Addr) (x1 : Int) (K : Value → HP) : HP :=
  ifB (!(Option.isNone x0)) (
   ifB (decide ((x1 : Int) ≥ 0)) (
    nilc x0 fun a1 =>
    ld a1 (.lf .sl) fun v1 =>
    ifB (decide ((x1 : Int) < v1.len)) (
     nilc x0 fun a2 =>
     ld a2 (.lf .sl) fun v2 =>
     nilc v2.a fun a3 =>
     ixn x1 v2.len <|
     ld (Addr.add (Addr.add a3 (x1.toNat * 3)) 1) (.lf .bool) fun v3 =>
     K (.bool (!v3))) (
     K (.bool false))) (
    K (.bool false))) (
   K (.bool false))
theorem e110 (x0 : Option Addr) (x1 : Int) (K : Value → HP) : flatFn PP h110 Try.f110 [.pointer x0, .int .i64 x1] K = t110 x0 x1 K := by kernel_rfl

/-- (*depot/blocks.Blocks).Spread$1 -/
def h111 : Hints := ⟨[], [(3, [])], [(3, [1, 5, 0, 2, 3, 4, 6, 7, 8, 9]), (2, [0, 2, 1, 3, 4, 5, 6])]⟩
def t111 (x0 : Int) (x1 : ShV (.agg [.int .i64, .bool, .bool])) (x2 : Option Addr) (x3 : Option Addr) (x4 : Option Addr) (K : Value → HP) : HP :=
  nw (.cells #[.int .i64 x1.1, .bool x1.2.1, .bool x1.2.2.1] 163) fun n1 =>
  jn (fun y1 : RsV [] =>
   nilc x3 fun a5 =>
   ld a5 (.lf (.int .i64)) fun v4 =>
   ld ⟨n1, 0, none⟩ (.lf (.int .i64)) fun v5 =>
   nilc x4 fun a6 =>
   ld a6 (.lf (.int .i64)) fun v6 =>
   ld ⟨n1, 0, none⟩ (.lf (.int .i64)) fun v7 =>
   nilc x3 fun a7 =>
   st a7 [.int .i64 (imin v4 v5)] <|
   keep (LdAt ⟨n1, 0, none⟩ [.int .i64 v7]) <|
   keep (LdAt a6 [.int .i64 v6]) <|
   nilc x4 fun a8 =>
   st a8 [.int .i64 (imax v6 v7)] <|
   K (.tuple #[])) fun j1 =>
  nilc x2 fun a1 =>
   ld a1 (.lf .bool) fun v1 =>
   ifB (!v1) (
    ld ⟨n1, 0, none⟩ (.lf (.int .i64)) fun v2 =>
    ld ⟨n1, 0, none⟩ (.lf (.int .i64)) fun v3 =>
    nilc x3 fun a2 =>
    st a2 [.int .i64 v2] <|
    keep (LdAt ⟨n1, 0, none⟩ [.int .i64 v3]) <|
    nilc x4 fun a3 =>
    st a3 [.int .i64 v3] <|
    nilc x2 fun a4 =>
    st a4 [.bool true] <|
    j1 (())) (
    j1 (()))
theorem e111 (x0 : Int) (x1 : ShV (.agg [.int .i64, .bool, .bool])) (x2 : Option Addr) (x3 : Option Addr) (x4 : Option Addr) (K : Value → HP) : flatFn PP h111 Try.f111 [.int .i64 x0, .agg #[.int .i64 x1.1, .bool x1.2.1, .bool x1.2.2.1], .pointer x2, .pointer x3, .pointer x4] K = t111 x0 x1 x2 x3 x4 K := by kernel_rfl

/-- (*depot/blocks.Blocks).turn -/
def h112 : Hints := ⟨[], [], [(4, [0, 1, 2, 3, 4, 5, 6, 7])]⟩
def t112 (x0 : Option Addr) (x1 : Int) (x2 : FnV) (K : Value → HP) : HP :=
  nw (.cells #[.int .i64 x1] 3) fun n1 =>
  ld ⟨n1, 0, none⟩ (.lf (.int .i64)) fun v1 =>
  cl PP 110 #[.pointer x0, .int .i64 v1] [.lf .bool] fun r1 =>
  ifB (!r1.1) (
   K (.bool false)) (
   nilc x0 fun a1 =>
   ld (Addr.add a1 1) (.lf .sl) fun v2 =>
   cl PP 121 #[.slice v2.a v2.len v2.cap, .func (.func 122) #[] #[.pointer (some ⟨n1, 0, none⟩)]] [.lf .sl] fun r2 =>
   nilc x0 fun a2 =>
   st (Addr.add a2 1) [.slice r2.1.a r2.1.len r2.1.cap] <|
   nilc x0 fun a3 =>
   ld a3 (.lf .sl) fun v3 =>
   ld ⟨n1, 0, none⟩ (.lf (.int .i64)) fun v4 =>
   nilc v3.a fun a4 =>
   ixn v4 v3.len <|
   clv PP x2.fn (x2.first ++ #[.pointer (some (Addr.add a4 (v4.toNat * 3)))]) x2.captured [] fun r3 =>
   K (.bool true))
theorem e112 (x0 : Option Addr) (x1 : Int) (x2 : FnV) (K : Value → HP) : flatFn PP h112 Try.f112 [.pointer x0, .int .i64 x1, .func x2.fn x2.first x2.captured] K = t112 x0 x1 x2 K := by kernel_rfl

/-- (*depot/blocks.Blocks).Erased$1 -/
def h113 : Hints := ⟨[], [], []⟩
def t113 (x0 : Option Addr) (x1 : Option Addr) (K : Value → HP) : HP :=
  nilc x0 fun a1 =>
  ld a1 (.lf (.int .i64)) fun v1 =>
  nilc x0 fun a2 =>
  st a2 [.int .i64 (IntKind.i64.wrap (v1 + 1))] <|
  nilc x1 fun a3 =>
  ld a3 (.lf .bool) fun v2 =>
  nilc x0 fun a4 =>
  st (Addr.add a4 1) [.bool v2] <|
  nilc x0 fun a5 =>
  st (Addr.add a5 2) [.bool false] <|
  K (.tuple #[])
theorem e113 (x0 : Option Addr) (x1 : Option Addr) (K : Value → HP) : flatFn PP h113 Try.f113 [.pointer x0, .pointer x1] K = t113 x0 x1 K := by kernel_rfl

/-- (*depot/depotref29.Blocks).good -/
def h114 : Hints := ⟨[], [], []⟩
def t114 (x0 : Option Addr) (x1 : Int) (K : Value → HP) : HP :=
  ifB (decide ((x1 : Int) ≥ 0)) (
   nilc x0 fun a1 =>
   ld a1 (.lf .sl) fun v1 =>
   ifB (decide ((x1 : Int) < v1.len)) (
    nilc x0 fun a2 =>
    ld a2 (.lf .sl) fun v2 =>
    nilc v2.a fun a3 =>
    ixn x1 v2.len <|
    ld (Addr.add (Addr.add a3 (x1.toNat * 3)) 1) (.lf .bool) fun v3 =>
    K (.bool (!v3))) (
    K (.bool false))) (
   K (.bool false))
theorem e114 (x0 : Option Addr) (x1 : Int) (K : Value → HP) : flatFn PP h114 Try.f114 [.pointer x0, .int .i64 x1] K = t114 x0 x1 K := by kernel_rfl

/-- (*depot/depotref29.Blocks).out -/
def h115 : Hints := ⟨[(0, [(4, .lf .sl), (5, .lf (.int .i64))])], [], []⟩
def t115 (x0 : Option Addr) (x1 : Int) (K : Value → HP) : HP :=
  lp [.lf .sl, .lf (.int .i64)] (⟨none, 0, 0⟩, 0, ()) fun z1 go1 =>   -- l, i
   nilc x0 fun a1 =>
   ld (Addr.add a1 1) (.lf .sl) fun v1 =>
   ifB (decide ((z1.2.1 : Int) < v1.len)) (
    nilc x0 fun a2 =>
    ld (Addr.add a2 1) (.lf .sl) fun v2 =>
    nilc v2.a fun a3 =>
    ixn z1.2.1 v2.len <|
    ld (Addr.add a3 (z1.2.1.toNat * 1)) (.lf (.int .i64)) fun v3 =>
    ifB ((v3 : Int) != x1) (
     nilc x0 fun a4 =>
     ld (Addr.add a4 1) (.lf .sl) fun v4 =>
     nilc v4.a fun a5 =>
     ixn z1.2.1 v4.len <|
     ld (Addr.add a5 (z1.2.1.toNat * 1)) (.lf (.int .i64)) fun v5 =>
     nw (.cells #[.int .i64 v5] 3) fun n1 =>
     smW PP (Builtin.append_ #[37, 37] 37 #[.slice z1.1.a z1.1.len z1.1.cap, .slice (some ⟨n1, 0, none⟩) 1 1]) [.lf .sl] fun v6 =>
     go1 (⟨v6.1.a, v6.1.len, v6.1.cap⟩, IntKind.i64.wrap (z1.2.1 + 1), ())) (
     go1 (⟨z1.1.a, z1.1.len, z1.1.cap⟩, IntKind.i64.wrap (z1.2.1 + 1), ()))) (
    nilc x0 fun a6 =>
    st (Addr.add a6 1) [.slice z1.1.a z1.1.len z1.1.cap] <|
    K (.tuple #[]))
theorem e115 (x0 : Option Addr) (x1 : Int) (K : Value → HP) : flatFn PP h115 Try.f115 [.pointer x0, .int .i64 x1] K = t115 x0 x1 K := by kernel_rfl

/-- (*depot/blocks.Blocks).Spoilt$1 -/
def h116 : Hints := ⟨[], [], []⟩
def t116 (x0 : Option Addr) (K : Value → HP) : HP :=
  nilc x0 fun a1 =>
  st (Addr.add a1 2) [.bool true] <|
  K (.tuple #[])
theorem e116 (x0 : Option Addr) (K : Value → HP) : flatFn PP h116 Try.f116 [.pointer x0] K = t116 x0 K := by kernel_rfl

/-- slices.IndexFunc[[]depot/index.slot,depot/index.slot] -/
def h117 : Hints := ⟨[(0, [(8, .lf (.int .i64))])], [], []⟩
def t117 (x0 : SlV) (x1 : FnV) (K : Value → HP) : HP :=
  lp [.lf (.int .i64)] (0, ()) fun z1 go1 =>   -- 
   ifB (decide ((z1.1 : Int) < x0.len)) (
    nilc x0.a fun a1 =>
    ixn z1.1 x0.len <|
    ld (Addr.add a1 (z1.1.toNat * 5)) (.agg [.int .i64, .int .i64, .int .i64, .int .i64, .int .i64]) fun v1 =>
    clv PP x1.fn (x1.first ++ #[.agg #[.int .i64 v1.1, .int .i64 v1.2.1, .int .i64 v1.2.2.1, .int .i64 v1.2.2.2.1, .int .i64 v1.2.2.2.2.1]]) x1.captured [.lf .bool] fun r1 =>
    ifB r1.1 (
     K (.int .i64 z1.1)) (
     go1 (IntKind.i64.wrap (z1.1 + 1), ()))) (
    K (.int .i64 (-1)))
theorem e117 (x0 : SlV) (x1 : FnV) (K : Value → HP) : flatFn PP h117 Try.f117 [.slice x0.a x0.len x0.cap, .func x1.fn x1.first x1.captured] K = t117 x0 x1 K := by kernel_rfl

/-- (*depot/index.Index).take$1 -/
def h118 : Hints := ⟨[], [], []⟩
def t118 (x0 : ShV (.agg [.int .i64, .int .i64, .int .i64, .int .i64, .int .i64])) (x1 : Option Addr) (K : Value → HP) : HP :=
  nw (.cells #[.int .i64 x0.1, .int .i64 x0.2.1, .int .i64 x0.2.2.1, .int .i64 x0.2.2.2.1, .int .i64 x0.2.2.2.2.1] 144) fun n1 =>
  ld ⟨n1, 0, none⟩ (.agg [.int .i64, .int .i64, .int .i64, .int .i64]) fun v1 =>
  nilc x1 fun a1 =>
  ld a1 (.agg [.int .i64, .int .i64, .int .i64, .int .i64]) fun v2 =>
  smP PP (binOp .eql 142 (.agg #[.int .i64 v1.1, .int .i64 v1.2.1, .int .i64 v1.2.2.1, .int .i64 v1.2.2.2.1]) (.agg #[.int .i64 v2.1, .int .i64 v2.2.1, .int .i64 v2.2.2.1, .int .i64 v2.2.2.2.1])) (.lf .bool) fun v3 =>
  K (.bool v3)
theorem e118 (x0 : ShV (.agg [.int .i64, .int .i64, .int .i64, .int .i64, .int .i64])) (x1 : Option Addr) (K : Value → HP) : flatFn PP h118 Try.f118 [.agg #[.int .i64 x0.1, .int .i64 x0.2.1, .int .i64 x0.2.2.1, .int .i64 x0.2.2.2.1, .int .i64 x0.2.2.2.2.1], .pointer x1] K = t118 x0 x1 K := by kernel_rfl

/-- depot/mix.Set -/
def h119 : Hints := ⟨[], [], []⟩
def t119 (x0 : Int) (x1 : Int) (K : Value → HP) : HP :=
  ifB (decide ((x1 : Int) < 1)) (
   K (.int .i64 0)) (
   req ((IntKind.u64.wrap x1 : Int) ≠ 0) <|
   K (.int .i64 (IntKind.i64.wrap (Int.tmod x0 (IntKind.u64.wrap x1)))))
theorem e119 (x0 : Int) (x1 : Int) (K : Value → HP) : flatFn PP h119 Try.f119 [.int .u64 x0, .int .i64 x1] K = t119 x0 x1 K := by kernel_rfl

/-- slices.Contains[[]int,int] -/
def h120 : Hints := ⟨[], [], []⟩
def t120 (x0 : SlV) (x1 : Int) (K : Value → HP) : HP :=
  cl PP 123 #[.slice x0.a x0.len x0.cap, .int .i64 x1] [.lf (.int .i64)] fun r1 =>
  K (.bool (decide ((r1.1 : Int) ≥ 0)))
theorem e120 (x0 : SlV) (x1 : Int) (K : Value → HP) : flatFn PP h120 Try.f120 [.slice x0.a x0.len x0.cap, .int .i64 x1] K = t120 x0 x1 K := by kernel_rfl

/-- slices.DeleteFunc[[]int,int] -/
def h121 : Hints := ⟨[(0, [(5, .lf (.int .i64)), (6, .lf (.int .i64))])], [], []⟩
def t121 (x0 : SlV) (x1 : FnV) (K : Value → HP) : HP :=
  cl PP 124 #[.slice x0.a x0.len x0.cap, .func x1.fn x1.first x1.captured] [.lf (.int .i64)] fun r1 =>
  ifB ((r1.1 : Int) == (-1)) (
   K (.slice x0.a x0.len x0.cap)) (
   lp [.lf (.int .i64), .lf (.int .i64)] (r1.1, IntKind.i64.wrap (r1.1 + 1), ()) fun z1 go1 =>   -- i, j
    ifB (decide ((z1.2.1 : Int) < x0.len)) (
     nilc x0.a fun a1 =>
     ixn z1.2.1 x0.len <|
     ld (Addr.add a1 (z1.2.1.toNat * 1)) (.lf (.int .i64)) fun v1 =>
     clv PP x1.fn (x1.first ++ #[.int .i64 v1]) x1.captured [.lf .bool] fun r2 =>
     ifB (!r2.1) (
      nilc x0.a fun a2 =>
      ixn z1.1 x0.len <|
      st (Addr.add a2 (z1.1.toNat * 1)) [.int .i64 v1] <|
      go1 (IntKind.i64.wrap (z1.1 + 1), IntKind.i64.wrap (z1.2.1 + 1), ())) (
      go1 (z1.1, IntKind.i64.wrap (z1.2.1 + 1), ()))) (
     slc ⟨x0.a, x0.len, x0.cap⟩ z1.1 x0.len x0.cap 1 fun s1 =>
     smW PP (Builtin.clear_ #[37] 0 #[.slice s1.a s1.len s1.cap]) [] fun v2 =>
     slc ⟨x0.a, x0.len, x0.cap⟩ 0 z1.1 x0.cap 1 fun s2 =>
     K (.slice s2.a s2.len s2.cap)))
theorem e121 (x0 : SlV) (x1 : FnV) (K : Value → HP) : flatFn PP h121 Try.f121 [.slice x0.a x0.len x0.cap, .func x1.fn x1.first x1.captured] K = t121 x0 x1 K := by kernel_rfl

/-- (*depot/blocks.Blocks).turn$1 -/
def h122 : Hints := ⟨[], [], []⟩
def t122 (x0 : Int) (x1 : Option Addr) (K : Value → HP) : HP :=
  nilc x1 fun a1 =>
  ld a1 (.lf (.int .i64)) fun v1 =>
  K (.bool ((x0 : Int) == v1))
theorem e122 (x0 : Int) (x1 : Option Addr) (K : Value → HP) : flatFn PP h122 Try.f122 [.int .i64 x0, .pointer x1] K = t122 x0 x1 K := by kernel_rfl

/-- slices.Index[[]int,int] -/
def h123 : Hints := ⟨[(0, [(8, .lf (.int .i64))])], [], []⟩
def t123 (x0 : SlV) (x1 : Int) (K : Value → HP) : HP :=
  lp [.lf (.int .i64)] (0, ()) fun z1 go1 =>   -- 
   ifB (decide ((z1.1 : Int) < x0.len)) (
    nilc x0.a fun a1 =>
    ixn z1.1 x0.len <|
    ld (Addr.add a1 (z1.1.toNat * 1)) (.lf (.int .i64)) fun v1 =>
    ifB ((x1 : Int) == v1) (
     K (.int .i64 z1.1)) (
     go1 (IntKind.i64.wrap (z1.1 + 1), ()))) (
    K (.int .i64 (-1)))
theorem e123 (x0 : SlV) (x1 : Int) (K : Value → HP) : flatFn PP h123 Try.f123 [.slice x0.a x0.len x0.cap, .int .i64 x1] K = t123 x0 x1 K := by kernel_rfl

/-- slices.IndexFunc[[]int,int] -/
def h124 : Hints := ⟨[(0, [(8, .lf (.int .i64))])], [], []⟩
def t124 (x0 : SlV) (x1 : FnV) (K : Value → HP) : HP :=
  lp [.lf (.int .i64)] (0, ()) fun z1 go1 =>   -- 
   ifB (decide ((z1.1 : Int) < x0.len)) (
    nilc x0.a fun a1 =>
    ixn z1.1 x0.len <|
    ld (Addr.add a1 (z1.1.toNat * 1)) (.lf (.int .i64)) fun v1 =>
    clv PP x1.fn (x1.first ++ #[.int .i64 v1]) x1.captured [.lf .bool] fun r1 =>
    ifB r1.1 (
     K (.int .i64 z1.1)) (
     go1 (IntKind.i64.wrap (z1.1 + 1), ()))) (
    K (.int .i64 (-1)))
theorem e124 (x0 : SlV) (x1 : FnV) (K : Value → HP) : flatFn PP h124 Try.f124 [.slice x0.a x0.len x0.cap, .func x1.fn x1.first x1.captured] K = t124 x0 x1 K := by kernel_rfl

end Go.Proofs.Ytefllmfoneocaaa
