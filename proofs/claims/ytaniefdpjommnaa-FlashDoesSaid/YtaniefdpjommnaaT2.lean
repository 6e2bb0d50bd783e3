/-
  It is proved that the functions of the program are the trees that are printed here. There are no further conditions.
-/
import Derived.Test.YtaniefdpjommnaaT0
set_option linter.unusedVariables false
set_option maxRecDepth 100000
namespace Go.Proofs.Ytaniefdpjommnaa
open Go.HL
/-- (*depot/depotref21.Flash).Erase -/
def h58 : Hints := ⟨[(0, [(7, .lf (.int .i64))])], [(11, [(6, .lf (.int .i64))])], [(20, [0, 1, 2, 4, 5, 6, 7, 9, 12, 13, 14, 15, 3, 8, 10, 11, 16, 17, 18, 19]), (19, [0, 1, 2, 4, 5, 6, 7, 9, 3, 8, 10, 11, 12, 13, 14]), (16, [0, 1, 2, 4, 5, 6, 7, 8, 3, 9, 10, 11]), (14, [0, 1, 2, 4, 7, 8, 9, 10, 11, 3, 5, 6, 12, 13, 14, 15])]⟩
def t58 (x0 : Option Addr) (x1 : Int) (K : Value → HP) : HP :=
  nilc x0 fun a1 =>
  ld (Addr.add a1 9) (.lf .bool) fun v1 =>
  ifB v1 (
   K (.int .i64 11)) (
   cl PP 71 #[.pointer x0, .int .i64 x1, .int .i64 0] [.lf .bool] fun r1 =>
   ifB (!r1.1) (
    K (.int .i64 2)) (
    nilc x0 fun a2 =>
    ld (Addr.add a2 7) (.lf .sl) fun v2 =>
    nilc v2.a fun a3 =>
    ixn x1 v2.len <|
    ld (Addr.add a3 (x1.toNat * 1)) (.lf .bool) fun v3 =>
    ifB v3 (
     K (.int .i64 10)) (
     cl PP 72 #[.pointer x0] [.lf .bool] fun r2 =>
     nilc x0 fun a4 =>
     ld (Addr.add a4 1) (.lf (.int .i64)) fun v4 =>
     jn (fun y1 : RsV [.lf (.int .i64)] =>
      lp [.lf (.int .i64)] (0, ()) fun z1 go1 =>   -- p
       ifB (decide ((z1.1 : Int) < y1.1)) (
        nilc x0 fun a6 =>
        nilc x0 fun a7 =>
        ld (Addr.add a6 4) (.lf .sl) fun v6 =>
        nilc v6.a fun a8 =>
        ixn x1 v6.len <|
        ld (Addr.add a8 (x1.toNat * 1)) (.lf .sl) fun v7 =>
        ld (Addr.add a7 2) (.lf (.int .i64)) fun v8 =>
        cl PP 55 #[.int .i64 v8] [.lf .str] fun r3 =>
        keep (LdAt (Addr.add a8 (x1.toNat * 1)) [.slice v7.a v7.len v7.cap]) <|
        keep (LdAt (Addr.add a6 4) [.slice v6.a v6.len v6.cap]) <|
        nilc v7.a fun a9 =>
        ixn z1.1 v7.len <|
        st (Addr.add a9 (z1.1.toNat * 1)) [.string r3.1] <|
        go1 (IntKind.i64.wrap (z1.1 + 1), ())) (
        ifB r2.1 (
         nilc x0 fun a10 =>
         nilc x0 fun a11 =>
         ld (Addr.add a10 5) (.lf .sl) fun v9 =>
         ld (Addr.add a11 1) (.lf (.int .i64)) fun v10 =>
         nilc v9.a fun a12 =>
         ixn x1 v9.len <|
         st (Addr.add a12 (x1.toNat * 1)) [.int .i64 v10] <|
         K (.int .i64 11)) (
         nilc x0 fun a13 =>
         ld (Addr.add a13 5) (.lf .sl) fun v11 =>
         nilc v11.a fun a14 =>
         ixn x1 v11.len <|
         st (Addr.add a14 (x1.toNat * 1)) [.int .i64 0] <|
         nilc x0 fun a15 =>
         nilc x0 fun a16 =>
         ld (Addr.add a15 6) (.lf .sl) fun v12 =>
         ld (Addr.add a16 6) (.lf .sl) fun v13 =>
         nilc v13.a fun a17 =>
         ixn x1 v13.len <|
         ld (Addr.add a17 (x1.toNat * 1)) (.lf (.int .i64)) fun v14 =>
         nilc v12.a fun a18 =>
         ixn x1 v12.len <|
         st (Addr.add a18 (x1.toNat * 1)) [.int .i64 (IntKind.i64.wrap (v14 + 1))] <|
         nilc x0 fun a19 =>
         nilc x0 fun a20 =>
         nilc x0 fun a21 =>
         ld (Addr.add a19 7) (.lf .sl) fun v15 =>
         ld (Addr.add a20 6) (.lf .sl) fun v16 =>
         nilc v16.a fun a22 =>
         ixn x1 v16.len <|
         ld (Addr.add a22 (x1.toNat * 1)) (.lf (.int .i64)) fun v17 =>
         ld (Addr.add a21 3) (.lf (.int .i64)) fun v18 =>
         nilc v15.a fun a23 =>
         ixn x1 v15.len <|
         st (Addr.add a23 (x1.toNat * 1)) [.bool ((v17 : Int) == v18)] <|
         nilc x0 fun a24 =>
         ld (Addr.add a24 7) (.lf .sl) fun v19 =>
         nilc v19.a fun a25 =>
         ixn x1 v19.len <|
         ld (Addr.add a25 (x1.toNat * 1)) (.lf .bool) fun v20 =>
         ifB v20 (
          K (.int .i64 10)) (
          K (.int .i64 0))))) fun j1 =>
     ifB r2.1 (
       nilc x0 fun a5 =>
       ld (Addr.add a5 11) (.lf (.int .i64)) fun v5 =>
       j1 (imin (imax v5 0) v4, ())) (
       j1 (v4, ())))))
theorem e58 (x0 : Option Addr) (x1 : Int) (K : Value → HP) : flatFn PP h58 Try.f58 [.pointer x0, .int .i64 x1] K = t58 x0 x1 K := by kernel_rfl

/-- (*depot/depotref21.Flash).Arm -/
def h59 : Hints := ⟨[], [], []⟩
def t59 (x0 : Option Addr) (x1 : Int) (x2 : Int) (K : Value → HP) : HP :=
  nilc x0 fun a1 =>
  ld (Addr.add a1 9) (.lf .bool) fun v1 =>
  ifB (!v1) (
   nilc x0 fun a2 =>
   st (Addr.add a2 10) [.int .i64 (imax x1 0)] <|
   nilc x0 fun a3 =>
   st (Addr.add a3 11) [.int .i64 x2] <|
   K (.tuple #[])) (
   K (.tuple #[]))
theorem e59 (x0 : Option Addr) (x1 : Int) (x2 : Int) (K : Value → HP) : flatFn PP h59 Try.f59 [.pointer x0, .int .i64 x1, .int .i64 x2] K = t59 x0 x1 x2 K := by kernel_rfl

/-- (*depot/depotref21.Flash).Restart -/
def h60 : Hints := ⟨[], [], []⟩
def t60 (x0 : Option Addr) (K : Value → HP) : HP :=
  nilc x0 fun a1 =>
  st (Addr.add a1 9) [.bool false] <|
  nilc x0 fun a2 =>
  st (Addr.add a2 10) [.int .i64 0] <|
  K (.tuple #[])
theorem e60 (x0 : Option Addr) (K : Value → HP) : flatFn PP h60 Try.f60 [.pointer x0] K = t60 x0 K := by kernel_rfl

/-- (*depot/flash.Flash).at -/
def h61 : Hints := ⟨[], [], []⟩
def t61 (x0 : Option Addr) (x1 : Int) (K : Value → HP) : HP :=
  ifB (Option.isNone x0) (
   K (.pointer none)) (
   nilc x0 fun a1 =>
   ld (Addr.add a1 7) (.lf .sl) fun v1 =>
   cl PP 52 #[.int .i64 x1, .int .i64 0, .int .i64 (IntKind.i64.wrap (v1.len - 1))] [.lf .bool] fun r1 =>
   ifB (!r1.1) (
    K (.pointer none)) (
    nilc x0 fun a2 =>
    ld (Addr.add a2 7) (.lf .sl) fun v2 =>
    nilc v2.a fun a3 =>
    ixn x1 v2.len <|
    ld (Addr.add a3 (x1.toNat * 1)) (.lf .ptr) fun v3 =>
    K (.pointer v3)))
theorem e61 (x0 : Option Addr) (x1 : Int) (K : Value → HP) : flatFn PP h61 Try.f61 [.pointer x0, .int .i64 x1] K = t61 x0 x1 K := by kernel_rfl

/-- (*depot/flash.Flash).find -/
def h62 : Hints := ⟨[], [], []⟩
def t62 (x0 : Option Addr) (x1 : Int) (x2 : Int) (K : Value → HP) : HP :=
  ifB (Option.isNone x0) (
   K (.tuple #[.pointer none, .int .i64 1])) (
   nilc x0 fun a1 =>
   ld (Addr.add a1 2) (.lf .bool) fun v1 =>
   ifB v1 (
    K (.tuple #[.pointer none, .int .i64 11])) (
    cl PP 61 #[.pointer x0, .int .i64 x1] [.lf .ptr] fun r1 =>
    ifB (Option.isNone r1.1) (
     K (.tuple #[.pointer none, .int .i64 2])) (
     nilc x0 fun a2 =>
     ld (Addr.add (Addr.add a2 3) 1) (.lf (.int .i64)) fun v2 =>
     cl PP 52 #[.int .i64 x2, .int .i64 0, .int .i64 (IntKind.i64.wrap (v2 - 1))] [.lf .bool] fun r2 =>
     ifB (!r2.1) (
      K (.tuple #[.pointer none, .int .i64 2])) (
      K (.tuple #[.pointer r1.1, .int .i64 0])))))
theorem e62 (x0 : Option Addr) (x1 : Int) (x2 : Int) (K : Value → HP) : flatFn PP h62 Try.f62 [.pointer x0, .int .i64 x1, .int .i64 x2] K = t62 x0 x1 x2 K := by kernel_rfl

/-- depot/flash.blank -/
def h63 : Hints := ⟨[(0, [(9, .lf (.int .i64))])], [], []⟩
def t63 (x0 : Int) (K : Value → HP) : HP :=
  smA PP (Instr.makeSlice 24 (.int .i64 x0) (.int .i64 x0)) (.lf .sl) fun v1 =>
  lp [.lf (.int .i64)] (0, ()) fun z1 go1 =>   -- 
   ifB (decide ((z1.1 : Int) < v1.len)) (
    nilc v1.a fun a1 =>
    ixn z1.1 v1.len <|
    st (Addr.add a1 (z1.1.toNat * 1)) [.int .u8 255] <|
    go1 (IntKind.i64.wrap (z1.1 + 1), ())) (
    K (.slice v1.a v1.len v1.cap))
theorem e63 (x0 : Int) (K : Value → HP) : flatFn PP h63 Try.f63 [.int .i64 x0] K = t63 x0 K := by kernel_rfl

/-- (*depot/flash.tearer).tears -/
def h64 : Hints := ⟨[], [], []⟩
def t64 (x0 : Option Addr) (K : Value → HP) : HP :=
  nilc x0 fun a1 =>
  ld a1 (.lf (.int .i64)) fun v1 =>
  ifB ((v1 : Int) == 0) (
   K (.bool false)) (
   nilc x0 fun a2 =>
   ld a2 (.lf (.int .i64)) fun v2 =>
   nilc x0 fun a3 =>
   st a3 [.int .i64 (IntKind.i64.wrap (v2 - 1))] <|
   nilc x0 fun a4 =>
   ld a4 (.lf (.int .i64)) fun v3 =>
   nilc x0 fun a5 =>
   st (Addr.add a5 2) [.bool ((v3 : Int) == 0)] <|
   nilc x0 fun a6 =>
   ld (Addr.add a6 2) (.lf .bool) fun v4 =>
   K (.bool v4))
theorem e64 (x0 : Option Addr) (K : Value → HP) : flatFn PP h64 Try.f64 [.pointer x0] K = t64 x0 K := by kernel_rfl

/-- (*depot/flash.tearer).kept -/
def h65 : Hints := ⟨[], [], []⟩
def t65 (x0 : Option Addr) (x1 : Int) (K : Value → HP) : HP :=
  nilc x0 fun a1 =>
  ld (Addr.add a1 1) (.lf (.int .i64)) fun v1 =>
  K (.int .i64 (imin (imax v1 0) x1))
theorem e65 (x0 : Option Addr) (x1 : Int) (K : Value → HP) : flatFn PP h65 Try.f65 [.pointer x0, .int .i64 x1] K = t65 x0 x1 K := by kernel_rfl

/-- (*depot/flash.block).worn -/
def h66 : Hints := ⟨[], [], []⟩
def t66 (x0 : Option Addr) (x1 : Int) (K : Value → HP) : HP :=
  nilc x0 fun a1 =>
  st (Addr.add a1 1) [.int .i64 0] <|
  nilc x0 fun a2 =>
  ld (Addr.add a2 2) (.lf (.int .i64)) fun v1 =>
  nilc x0 fun a3 =>
  st (Addr.add a3 2) [.int .i64 (IntKind.i64.wrap (v1 + 1))] <|
  nilc x0 fun a4 =>
  ld (Addr.add a4 2) (.lf (.int .i64)) fun v2 =>
  nilc x0 fun a5 =>
  st (Addr.add a5 3) [.bool ((v2 : Int) == x1)] <|
  nilc x0 fun a6 =>
  ld (Addr.add a6 3) (.lf .bool) fun v3 =>
  K (.bool v3)
theorem e66 (x0 : Option Addr) (x1 : Int) (K : Value → HP) : flatFn PP h66 Try.f66 [.pointer x0, .int .i64 x1] K = t66 x0 x1 K := by kernel_rfl

/-- depot/wire.Put -/
def h67 : Hints := ⟨[], [], []⟩
def t67 (x0 : SlV) (x1 : Int) (x2 : Int) (K : Value → HP) : HP :=
  ifB (decide ((x2 : Int) < 1)) (
   K (.tuple #[.slice none 0 0, .int .i64 2])) (
   ifB (decide ((x2 : Int) > 7)) (
    K (.tuple #[.slice none 0 0, .int .i64 2])) (
    ifB (decide ((x1 : Int) < 0)) (
     K (.tuple #[.slice none 0 0, .int .i64 3])) (
     req ((0 : Int) ≤ (IntKind.i64.wrap (8 * x2))) <|
     ifB ((Int.fdiv x1 (2 ^ (min (IntKind.i64.wrap (8 * x2) : Int).toNat IntKind.i64.bits)) : Int) != 0) (
      K (.tuple #[.slice none 0 0, .int .i64 3])) (
      cl PP 73 #[.int .i64 x1] [.agg [.int .u8, .int .u8, .int .u8, .int .u8, .int .u8, .int .u8, .int .u8, .int .u8]] fun r1 =>
      nw (.cells #[.int .u8 0, .int .u8 0, .int .u8 0, .int .u8 0, .int .u8 0, .int .u8 0, .int .u8 0, .int .u8 0] 115) fun n1 =>
      st ⟨n1, 0, none⟩ [.int .u8 r1.1.1, .int .u8 r1.1.2.1, .int .u8 r1.1.2.2.1, .int .u8 r1.1.2.2.2.1, .int .u8 r1.1.2.2.2.2.1, .int .u8 r1.1.2.2.2.2.2.1, .int .u8 r1.1.2.2.2.2.2.2.1, .int .u8 r1.1.2.2.2.2.2.2.2.1] <|
      smA PP (Instr.makeSlice 24 (.int .i64 0) (.int .i64 (IntKind.i64.wrap (x0.len + x2)))) (.lf .sl) fun v1 =>
      smW PP (Builtin.append_ #[24, 24] 24 #[.slice v1.a v1.len v1.cap, .slice x0.a x0.len x0.cap]) [.lf .sl] fun v2 =>
      slc ⟨some ⟨n1, 0, none⟩, 8, 8⟩ 0 x2 8 1 fun s1 =>
      smW PP (Builtin.append_ #[24, 24] 24 #[.slice v2.1.a v2.1.len v2.1.cap, .slice s1.a s1.len s1.cap]) [.lf .sl] fun v3 =>
      K (.tuple #[.slice v3.1.a v3.1.len v3.1.cap, .int .i64 0])))))
theorem e67 (x0 : SlV) (x1 : Int) (x2 : Int) (K : Value → HP) : flatFn PP h67 Try.f67 [.slice x0.a x0.len x0.cap, .int .i64 x1, .int .i64 x2] K = t67 x0 x1 x2 K := by kernel_rfl

/-- depot/crc.More -/
def h68 : Hints := ⟨[], [], []⟩
def t68 (x0 : Int) (x1 : SlV) (K : Value → HP) : HP :=
  cl PP 74 #[.int .u32 (bitI .xor .u32 IntKind.u32.max (IntKind.u32.wrap x0)), .slice x1.a x1.len x1.cap] [.lf (.int .u32)] fun r1 =>
  K (.int .i64 (IntKind.i64.wrap (bitI .xor .u32 IntKind.u32.max r1.1)))
theorem e68 (x0 : Int) (x1 : SlV) (K : Value → HP) : flatFn PP h68 Try.f68 [.int .i64 x0, .slice x1.a x1.len x1.cap] K = t68 x0 x1 K := by kernel_rfl

/-- depot/depotref04.More -/
def h69 : Hints := ⟨[(0, [(5, .lf (.int .i64)), (6, .lf (.int .i64))])], [], []⟩
def t69 (x0 : Int) (x1 : SlV) (K : Value → HP) : HP :=
  cl PP 75 #[.int .i64 x0] [.lf (.int .u32)] fun r1 =>
  lp [.lf (.int .i64), .lf (.int .i64)] (IntKind.i64.wrap (bitI .xor .u32 IntKind.u32.max r1.1), 0, ()) fun z1 go1 =>   -- s, i
   ifB (decide ((z1.2.1 : Int) < x1.len)) (
    nilc x1.a fun a1 =>
    ixn z1.2.1 x1.len <|
    ld (Addr.add a1 (z1.2.1.toNat * 1)) (.lf (.int .u8)) fun v1 =>
    cl PP 76 #[.int .i64 z1.1, .int .u8 v1] [.lf (.int .i64)] fun r2 =>
    go1 (r2.1, IntKind.i64.wrap (z1.2.1 + 1), ())) (
    cl PP 75 #[.int .i64 z1.1] [.lf (.int .u32)] fun r3 =>
    K (.int .i64 (IntKind.i64.wrap (bitI .xor .u32 IntKind.u32.max r3.1))))
theorem e69 (x0 : Int) (x1 : SlV) (K : Value → HP) : flatFn PP h69 Try.f69 [.int .i64 x0, .slice x1.a x1.len x1.cap] K = t69 x0 x1 K := by kernel_rfl

/-- depot/wire.Get -/
def h70 : Hints := ⟨[(1, [(8, .lf (.int .i64)), (9, .lf (.int .i64)), (36, .lf (.int .i64))])], [], []⟩
def t70 (x0 : SlV) (x1 : Int) (x2 : Int) (K : Value → HP) : HP :=
  ifB (decide ((x2 : Int) < 1)) (
   K (.tuple #[.int .i64 0, .int .i64 2])) (
   ifB (decide ((x2 : Int) > 7)) (
    K (.tuple #[.int .i64 0, .int .i64 2])) (
    ifB (decide ((x1 : Int) < 0)) (
     K (.tuple #[.int .i64 0, .int .i64 6])) (
     ifB (decide ((x1 : Int) > x0.len)) (
      K (.tuple #[.int .i64 0, .int .i64 6])) (
      ifB (decide ((x2 : Int) > (IntKind.i64.wrap (x0.len - x1)))) (
       K (.tuple #[.int .i64 0, .int .i64 6])) (
       lp [.lf (.int .i64), .lf (.int .i64), .lf (.int .i64)] (0, 1, 0, ()) fun z1 go1 =>   -- n, unit, 
        ifB (decide ((z1.2.2.1 : Int) < x2)) (
         nilc x0.a fun a1 =>
         ixn (IntKind.i64.wrap (x1 + z1.2.2.1)) x0.len <|
         ld (Addr.add a1 ((IntKind.i64.wrap (x1 + z1.2.2.1)).toNat * 1)) (.lf (.int .u8)) fun v1 =>
         go1 (IntKind.i64.wrap (z1.1 + (IntKind.i64.wrap (z1.2.1 * (IntKind.i64.wrap v1)))), IntKind.i64.wrap (z1.2.1 * 256), IntKind.i64.wrap (z1.2.2.1 + 1), ())) (
         K (.tuple #[.int .i64 z1.1, .int .i64 0])))))))
theorem e70 (x0 : SlV) (x1 : Int) (x2 : Int) (K : Value → HP) : flatFn PP h70 Try.f70 [.slice x0.a x0.len x0.cap, .int .i64 x1, .int .i64 x2] K = t70 x0 x1 x2 K := by kernel_rfl

/-- (*depot/depotref21.Flash).there -/
def h71 : Hints := ⟨[], [], []⟩
def t71 (x0 : Option Addr) (x1 : Int) (x2 : Int) (K : Value → HP) : HP :=
  ifB (decide ((x1 : Int) ≥ 0)) (
   nilc x0 fun a1 =>
   ld a1 (.lf (.int .i64)) fun v1 =>
   ifB (decide ((x1 : Int) < v1)) (
    ifB (decide ((x2 : Int) ≥ 0)) (
     nilc x0 fun a2 =>
     ld (Addr.add a2 1) (.lf (.int .i64)) fun v2 =>
     K (.bool (decide ((x2 : Int) < v2)))) (
     K (.bool false))) (
    K (.bool false))) (
   K (.bool false))
theorem e71 (x0 : Option Addr) (x1 : Int) (x2 : Int) (K : Value → HP) : flatFn PP h71 Try.f71 [.pointer x0, .int .i64 x1, .int .i64 x2] K = t71 x0 x1 x2 K := by kernel_rfl

/-- (*depot/depotref21.Flash).tears -/
def h72 : Hints := ⟨[], [], []⟩
def t72 (x0 : Option Addr) (K : Value → HP) : HP :=
  nilc x0 fun a1 =>
  ld (Addr.add a1 10) (.lf (.int .i64)) fun v1 =>
  ifB (decide ((v1 : Int) < 1)) (
   K (.bool false)) (
   nilc x0 fun a2 =>
   ld (Addr.add a2 10) (.lf (.int .i64)) fun v2 =>
   nilc x0 fun a3 =>
   st (Addr.add a3 10) [.int .i64 (IntKind.i64.wrap (v2 - 1))] <|
   nilc x0 fun a4 =>
   ld (Addr.add a4 10) (.lf (.int .i64)) fun v3 =>
   nilc x0 fun a5 =>
   st (Addr.add a5 9) [.bool ((v3 : Int) == 0)] <|
   nilc x0 fun a6 =>
   ld (Addr.add a6 9) (.lf .bool) fun v4 =>
   K (.bool v4))
theorem e72 (x0 : Option Addr) (K : Value → HP) : flatFn PP h72 Try.f72 [.pointer x0] K = t72 x0 K := by kernel_rfl

/-- depot/wire.of -/
def h73 : Hints := ⟨[(0, [(5, .lf (.int .i64))])], [], []⟩
def t73 (x0 : Int) (K : Value → HP) : HP :=
  nw (.cells #[.int .u8 0, .int .u8 0, .int .u8 0, .int .u8 0, .int .u8 0, .int .u8 0, .int .u8 0, .int .u8 0] 115) fun n1 =>
  nw (.cells #[.int .u8 0, .int .u8 0, .int .u8 0, .int .u8 0, .int .u8 0, .int .u8 0, .int .u8 0, .int .u8 0] 115) fun n2 =>
  lp [.lf (.int .i64)] (0, ()) fun z1 go1 =>   -- 
   ifB (decide ((z1.1 : Int) < 8)) (
    req ((0 : Int) ≤ (IntKind.i64.wrap (8 * z1.1))) <|
    ixn z1.1 8 <|
    st (Addr.add ⟨n2, 0, none⟩ (z1.1.toNat * 1)) [.int .u8 (IntKind.u8.wrap (Int.fdiv x0 (2 ^ (min (IntKind.i64.wrap (8 * z1.1) : Int).toNat IntKind.i64.bits))))] <|
    go1 (IntKind.i64.wrap (z1.1 + 1), ())) (
    ld ⟨n2, 0, none⟩ (.agg [.int .u8, .int .u8, .int .u8, .int .u8, .int .u8, .int .u8, .int .u8, .int .u8]) fun v1 =>
    st ⟨n1, 0, none⟩ [.int .u8 v1.1, .int .u8 v1.2.1, .int .u8 v1.2.2.1, .int .u8 v1.2.2.2.1, .int .u8 v1.2.2.2.2.1, .int .u8 v1.2.2.2.2.2.1, .int .u8 v1.2.2.2.2.2.2.1, .int .u8 v1.2.2.2.2.2.2.2.1] <|
    ld ⟨n1, 0, none⟩ (.agg [.int .u8, .int .u8, .int .u8, .int .u8, .int .u8, .int .u8, .int .u8, .int .u8]) fun v2 =>
    K (.agg #[.int .u8 v2.1, .int .u8 v2.2.1, .int .u8 v2.2.2.1, .int .u8 v2.2.2.2.1, .int .u8 v2.2.2.2.2.1, .int .u8 v2.2.2.2.2.2.1, .int .u8 v2.2.2.2.2.2.2.1, .int .u8 v2.2.2.2.2.2.2.2.1]))
theorem e73 (x0 : Int) (K : Value → HP) : flatFn PP h73 Try.f73 [.int .i64 x0] K = t73 x0 K := by kernel_rfl

/-- depot/crc.steps -/
def h74 : Hints := ⟨[(0, [(0, .lf (.int .u32)), (10, .lf (.int .i64))]), (2, [(0, .lf (.int .u32)), (18, .lf (.int .i64))])], [], []⟩
def t74 (x0 : Int) (x1 : SlV) (K : Value → HP) : HP :=
  lp [.lf (.int .u32), .lf (.int .i64)] (x0, 0, ()) fun z1 go1 =>   -- s, 
   ifB (decide ((z1.2.1 : Int) < x1.len)) (
    nilc x1.a fun a1 =>
    ixn z1.2.1 x1.len <|
    ld (Addr.add a1 (z1.2.1.toNat * 1)) (.lf (.int .u8)) fun v1 =>
    lp [.lf (.int .u32), .lf (.int .i64)] (bitI .xor .u32 z1.1 (IntKind.u32.wrap v1), 0, ()) fun z2 go2 =>   -- s, 
     ifB (decide ((z2.2.1 : Int) < 8)) (
      req ((0 : Int) ≤ 1) <|
      go2 (bitI .xor .u32 (Int.fdiv z2.1 (2 ^ (min (1 : Int).toNat IntKind.u32.bits))) (bitI .and .u32 2197175160 (IntKind.u32.wrap (0 - (bitI .and .u32 z2.1 1)))), IntKind.i64.wrap (z2.2.1 + 1), ())) (
      go1 (z2.1, IntKind.i64.wrap (z1.2.1 + 1), ()))) (
    K (.int .u32 z1.1))
theorem e74 (x0 : Int) (x1 : SlV) (K : Value → HP) : flatFn PP h74 Try.f74 [.int .u32 x0, .slice x1.a x1.len x1.cap] K = t74 x0 x1 K := by kernel_rfl

/-- depot/depotref04.low -/
def h75 : Hints := ⟨[], [], []⟩
def t75 (x0 : Int) (K : Value → HP) : HP :=
  K (.int .u32 (IntKind.u32.wrap (IntKind.u64.wrap x0)))
theorem e75 (x0 : Int) (K : Value → HP) : flatFn PP h75 Try.f75 [.int .i64 x0] K = t75 x0 K := by kernel_rfl

/-- depot/depotref04.Step -/
def h76 : Hints := ⟨[(0, [(5, .lf (.int .u32)), (6, .lf (.int .i64))])], [], []⟩
def t76 (x0 : Int) (x1 : Int) (K : Value → HP) : HP :=
  cl PP 75 #[.int .i64 x0] [.lf (.int .u32)] fun r1 =>
  lp [.lf (.int .u32), .lf (.int .i64)] (bitI .xor .u32 r1.1 (IntKind.u32.wrap x1), 0, ()) fun z1 go1 =>   -- s, i
   ifB (decide ((z1.2.1 : Int) < 8)) (
    req ((2 : Int) ≠ 0) <|
    req ((2 : Int) ≠ 0) <|
    ifB ((Int.tmod z1.1 2 : Int) == 1) (
     go1 (bitI .xor .u32 (IntKind.u32.wrap (Int.tdiv z1.1 2)) 2197175160, IntKind.i64.wrap (z1.2.1 + 1), ())) (
     go1 (IntKind.u32.wrap (Int.tdiv z1.1 2), IntKind.i64.wrap (z1.2.1 + 1), ()))) (
    K (.int .i64 (IntKind.i64.wrap z1.1)))
theorem e76 (x0 : Int) (x1 : Int) (K : Value → HP) : flatFn PP h76 Try.f76 [.int .i64 x0, .int .u8 x1] K = t76 x0 x1 K := by kernel_rfl

end Go.Proofs.Ytaniefdpjommnaa
