/-
  It is proved that the functions of the program are the trees that are printed here. There are no further conditions.
-/
import Derived.Test.YtaniefdpjommnaaT0
set_option linter.unusedVariables false
set_option maxRecDepth 100000
namespace Go.Proofs.Ytaniefdpjommnaa
open Go.HL
/-- depot/depotref23.Parse -/
def h18 : Hints := ⟨[], [], [(10, [0, 1, 4, 5, 8, 9, 12, 13, 14, 2, 3, 6, 7, 10, 11, 15, 16, 17, 18, 19])]⟩
def t18 (x0 : SlV) (K : Value → HP) : HP :=
  nw (.cells #[.int .i64 0, .int .i64 0, .int .i64 0, .int .i64 0, .int .i64 0] 23) fun n1 =>
  cl PP 45 #[.int .i64 x0.len] [.lf .bool] fun r1 =>
  ifB (!r1.1) (
   st ⟨n1, 0, none⟩ [.int .i64 0, .int .i64 0, .int .i64 0, .int .i64 0, .int .i64 0] <|
   ld ⟨n1, 0, none⟩ (.agg [.int .i64, .int .i64, .int .i64, .int .i64, .int .i64]) fun v1 =>
   K (.tuple #[.agg #[.int .i64 v1.1, .int .i64 v1.2.1, .int .i64 v1.2.2.1, .int .i64 v1.2.2.2.1, .int .i64 v1.2.2.2.2.1], .slice none 0 0, .int .i64 2])) (
   cl PP 20 #[.slice x0.a x0.len x0.cap] [.lf .bool] fun r2 =>
   ifB r2.1 (
    st ⟨n1, 0, none⟩ [.int .i64 0, .int .i64 0, .int .i64 0, .int .i64 0, .int .i64 0] <|
    ld ⟨n1, 0, none⟩ (.agg [.int .i64, .int .i64, .int .i64, .int .i64, .int .i64]) fun v2 =>
    K (.tuple #[.agg #[.int .i64 v2.1, .int .i64 v2.2.1, .int .i64 v2.2.2.1, .int .i64 v2.2.2.2.1, .int .i64 v2.2.2.2.2.1], .slice none 0 0, .int .i64 15])) (
    cl PP 51 #[.slice x0.a x0.len x0.cap, .int .i64 (IntKind.i64.wrap (x0.len - 4)), .int .i64 4] [.lf (.int .i64), .lf (.int .i64)] fun r3 =>
    slc ⟨x0.a, x0.len, x0.cap⟩ 0 (IntKind.i64.wrap (x0.len - 4)) x0.cap 1 fun s1 =>
    cl PP 48 #[.slice s1.a s1.len s1.cap] [.lf (.int .i64)] fun r4 =>
    ifB ((r3.1 : Int) != r4.1) (
     st ⟨n1, 0, none⟩ [.int .i64 0, .int .i64 0, .int .i64 0, .int .i64 0, .int .i64 0] <|
     ld ⟨n1, 0, none⟩ (.agg [.int .i64, .int .i64, .int .i64, .int .i64, .int .i64]) fun v3 =>
     K (.tuple #[.agg #[.int .i64 v3.1, .int .i64 v3.2.1, .int .i64 v3.2.2.1, .int .i64 v3.2.2.2.1, .int .i64 v3.2.2.2.2.1], .slice none 0 0, .int .i64 12])) (
     cl PP 51 #[.slice x0.a x0.len x0.cap, .int .i64 4, .int .i64 4] [.lf (.int .i64), .lf (.int .i64)] fun r5 =>
     cl PP 51 #[.slice x0.a x0.len x0.cap, .int .i64 10, .int .i64 2] [.lf (.int .i64), .lf (.int .i64)] fun r6 =>
     nilc x0.a fun a1 =>
     ixn 0 x0.len <|
     nilc x0.a fun a2 =>
     ixn 1 x0.len <|
     nilc x0.a fun a3 =>
     ixn 2 x0.len <|
     nilc x0.a fun a4 =>
     ixn 8 x0.len <|
     ld (Addr.add a1 ((0 : Int).toNat * 1)) (.lf (.int .u8)) fun v4 =>
     ld (Addr.add a2 ((1 : Int).toNat * 1)) (.lf (.int .u8)) fun v5 =>
     ld (Addr.add a3 ((2 : Int).toNat * 1)) (.lf (.int .u8)) fun v6 =>
     ld (Addr.add a4 ((8 : Int).toNat * 1)) (.lf (.int .u8)) fun v7 =>
     nw (.cells #[.int .i64 0, .int .i64 0, .int .i64 0, .int .i64 0, .int .i64 0] 23) fun n2 =>
     st ⟨n2, 0, none⟩ [.int .i64 (IntKind.i64.wrap v4), .int .i64 (IntKind.i64.wrap v5), .int .i64 (IntKind.i64.wrap v6), .int .i64 r5.1, .int .i64 (IntKind.i64.wrap v7)] <|
     ifB (decide ((r6.1 : Int) > (IntKind.i64.wrap (x0.len - 16)))) (
      st ⟨n1, 0, none⟩ [.int .i64 0, .int .i64 0, .int .i64 0, .int .i64 0, .int .i64 0] <|
      ld ⟨n1, 0, none⟩ (.agg [.int .i64, .int .i64, .int .i64, .int .i64, .int .i64]) fun v8 =>
      K (.tuple #[.agg #[.int .i64 v8.1, .int .i64 v8.2.1, .int .i64 v8.2.2.1, .int .i64 v8.2.2.2.1, .int .i64 v8.2.2.2.2.1], .slice none 0 0, .int .i64 5])) (
      nw (.cells #[] 5) fun n3 =>
      slc ⟨x0.a, x0.len, x0.cap⟩ 12 (IntKind.i64.wrap (12 + r6.1)) x0.cap 1 fun s2 =>
      smW PP (Builtin.append_ #[24, 24] 24 #[.slice (some ⟨n3, 0, none⟩) 0 0, .slice s2.a s2.len s2.cap]) [.lf .sl] fun v9 =>
      ld ⟨n2, 0, none⟩ (.agg [.int .i64, .int .i64, .int .i64, .int .i64, .int .i64]) fun v10 =>
      cl PP 13 #[.agg #[.int .i64 v10.1, .int .i64 v10.2.1, .int .i64 v10.2.2.1, .int .i64 v10.2.2.2.1, .int .i64 v10.2.2.2.2.1], .slice v9.1.a v9.1.len v9.1.cap, .int .i64 x0.len] [.lf .sl, .lf (.int .i64)] fun r7 =>
      ifB ((r7.2.1 : Int) != 0) (
       st ⟨n1, 0, none⟩ [.int .i64 0, .int .i64 0, .int .i64 0, .int .i64 0, .int .i64 0] <|
       ld ⟨n1, 0, none⟩ (.agg [.int .i64, .int .i64, .int .i64, .int .i64, .int .i64]) fun v11 =>
       K (.tuple #[.agg #[.int .i64 v11.1, .int .i64 v11.2.1, .int .i64 v11.2.2.1, .int .i64 v11.2.2.2.1, .int .i64 v11.2.2.2.2.1], .slice none 0 0, .int .i64 5])) (
       smR PP (Conv.bytesToString (.slice r7.1.a r7.1.len r7.1.cap)) [.lf .str] fun v12 =>
       smR PP (Conv.bytesToString (.slice x0.a x0.len x0.cap)) [.lf .str] fun v13 =>
       ifB (!(ByteArray.toList v12.1 == ByteArray.toList v13.1)) (
        st ⟨n1, 0, none⟩ [.int .i64 0, .int .i64 0, .int .i64 0, .int .i64 0, .int .i64 0] <|
        ld ⟨n1, 0, none⟩ (.agg [.int .i64, .int .i64, .int .i64, .int .i64, .int .i64]) fun v14 =>
        K (.tuple #[.agg #[.int .i64 v14.1, .int .i64 v14.2.1, .int .i64 v14.2.2.1, .int .i64 v14.2.2.2.1, .int .i64 v14.2.2.2.2.1], .slice none 0 0, .int .i64 5])) (
        ld ⟨n2, 0, none⟩ (.agg [.int .i64, .int .i64, .int .i64, .int .i64, .int .i64]) fun v15 =>
        st ⟨n1, 0, none⟩ [.int .i64 v15.1, .int .i64 v15.2.1, .int .i64 v15.2.2.1, .int .i64 v15.2.2.2.1, .int .i64 v15.2.2.2.2.1] <|
        ld ⟨n1, 0, none⟩ (.agg [.int .i64, .int .i64, .int .i64, .int .i64, .int .i64]) fun v16 =>
        K (.tuple #[.agg #[.int .i64 v16.1, .int .i64 v16.2.1, .int .i64 v16.2.2.1, .int .i64 v16.2.2.2.1, .int .i64 v16.2.2.2.2.1], .slice v9.1.a v9.1.len v9.1.cap, .int .i64 0])))))))
theorem e18 (x0 : SlV) (K : Value → HP) : flatFn PP h18 Try.f18 [.slice x0.a x0.len x0.cap] K = t18 x0 K := by kernel_rfl

/-- depot/page.Blank -/
def h19 : Hints := ⟨[(0, [(7, .lf (.int .i64))])], [], []⟩
def t19 (x0 : SlV) (K : Value → HP) : HP :=
  lp [.lf (.int .i64)] (0, ()) fun z1 go1 =>   -- 
   ifB (decide ((z1.1 : Int) < x0.len)) (
    nilc x0.a fun a1 =>
    ixn z1.1 x0.len <|
    ld (Addr.add a1 (z1.1.toNat * 1)) (.lf (.int .u8)) fun v1 =>
    ifB ((v1 : Int) != 255) (
     K (.bool false)) (
     go1 (IntKind.i64.wrap (z1.1 + 1), ()))) (
    K (.bool true))
theorem e19 (x0 : SlV) (K : Value → HP) : flatFn PP h19 Try.f19 [.slice x0.a x0.len x0.cap] K = t19 x0 K := by kernel_rfl

/-- depot/depotref23.Blank -/
def h20 : Hints := ⟨[(0, [(3, .lf (.int .i64))])], [], []⟩
def t20 (x0 : SlV) (K : Value → HP) : HP :=
  lp [.lf (.int .i64)] (0, ()) fun z1 go1 =>   -- i
   ifB (decide ((z1.1 : Int) < x0.len)) (
    nilc x0.a fun a1 =>
    ixn z1.1 x0.len <|
    ld (Addr.add a1 (z1.1.toNat * 1)) (.lf (.int .u8)) fun v1 =>
    ifB ((v1 : Int) != 255) (
     K (.bool false)) (
     go1 (IntKind.i64.wrap (z1.1 + 1), ()))) (
    K (.bool true))
theorem e20 (x0 : SlV) (K : Value → HP) : flatFn PP h20 Try.f20 [.slice x0.a x0.len x0.cap] K = t20 x0 K := by kernel_rfl

/-- depot/flash.New -/
def h21 : Hints := ⟨[(0, [(34, .lf (.int .i64))])], [], []⟩
def t21 (x0 : ShV (.agg [.int .i64, .int .i64, .int .i64, .int .i64])) (K : Value → HP) : HP :=
  nw (.cells #[.int .i64 x0.1, .int .i64 x0.2.1, .int .i64 x0.2.2.1, .int .i64 x0.2.2.2.1] 44) fun n1 =>
  ld ⟨n1, 0, none⟩ (.lf (.int .i64)) fun v1 =>
  cl PP 52 #[.int .i64 v1, .int .i64 2, .int .i64 16] [.lf .bool] fun r1 =>
  ifB r1.1 (
   ld (Addr.add ⟨n1, 0, none⟩ 1) (.lf (.int .i64)) fun v2 =>
   cl PP 52 #[.int .i64 v2, .int .i64 4, .int .i64 16] [.lf .bool] fun r2 =>
   ifB (!r2.1) (
    K (.tuple #[.pointer none, .int .i64 30])) (
    ld (Addr.add ⟨n1, 0, none⟩ 2) (.lf (.int .i64)) fun v3 =>
    cl PP 52 #[.int .i64 v3, .int .i64 64, .int .i64 512] [.lf .bool] fun r3 =>
    ifB (!r3.1) (
     K (.tuple #[.pointer none, .int .i64 30])) (
     ld (Addr.add ⟨n1, 0, none⟩ 3) (.lf (.int .i64)) fun v4 =>
     cl PP 52 #[.int .i64 v4, .int .i64 1, .int .i64 1048576] [.lf .bool] fun r4 =>
     ifB (!r4.1) (
      K (.tuple #[.pointer none, .int .i64 30])) (
      ld ⟨n1, 0, none⟩ (.agg [.int .i64, .int .i64, .int .i64, .int .i64]) fun v5 =>
      nw (.cells #[.int .i64 0, .int .i64 0, .bool false, .int .i64 v5.1, .int .i64 v5.2.1, .int .i64 v5.2.2.1, .int .i64 v5.2.2.2.1, .slice none 0 0, .int .i64 0, .slice none 0 0] 93) fun n2 =>
      ld ⟨n1, 0, none⟩ (.lf (.int .i64)) fun v6 =>
      lp [.lf (.int .i64)] (0, ()) fun z1 go1 =>   -- 
       ifB (decide ((z1.1 : Int) < v6)) (
        ld (Addr.add ⟨n1, 0, none⟩ 1) (.lf (.int .i64)) fun v7 =>
        smA PP (Instr.makeSlice 95 (.int .i64 v7) (.int .i64 v7)) (.lf .sl) fun v8 =>
        nw (.cells #[.slice v8.a v8.len v8.cap, .int .i64 0, .int .i64 0, .bool false] 97) fun n3 =>
        ld (Addr.add ⟨n1, 0, none⟩ 1) (.lf (.int .i64)) fun v9 =>
        ld (Addr.add ⟨n1, 0, none⟩ 2) (.lf (.int .i64)) fun v10 =>
        cl PP 53 #[.pointer (some ⟨n3, 0, none⟩), .int .i64 v9, .int .i64 v10] [] fun r5 =>
        ld (Addr.add ⟨n2, 0, none⟩ 7) (.lf .sl) fun v11 =>
        nw (.cells #[.pointer (some ⟨n3, 0, none⟩)] 94) fun n4 =>
        smW PP (Builtin.append_ #[91, 91] 91 #[.slice v11.a v11.len v11.cap, .slice (some ⟨n4, 0, none⟩) 1 1]) [.lf .sl] fun v12 =>
        st (Addr.add ⟨n2, 0, none⟩ 7) [.slice v12.1.a v12.1.len v12.1.cap] <|
        go1 (IntKind.i64.wrap (z1.1 + 1), ())) (
        K (.tuple #[.pointer (some ⟨n2, 0, none⟩), .int .i64 0])))))) (
   K (.tuple #[.pointer none, .int .i64 30]))
theorem e21 (x0 : ShV (.agg [.int .i64, .int .i64, .int .i64, .int .i64])) (K : Value → HP) : flatFn PP h21 Try.f21 [.agg #[.int .i64 x0.1, .int .i64 x0.2.1, .int .i64 x0.2.2.1, .int .i64 x0.2.2.2.1]] K = t21 x0 K := by kernel_rfl

/-- depot/depotref21.New -/
def h22 : Hints := ⟨[(0, [(5, .lf (.int .i64))]), (2, [(6, .lf .sl), (7, .lf (.int .i64))])], [], []⟩
def t22 (x0 : ShV (.agg [.int .i64, .int .i64, .int .i64, .int .i64])) (K : Value → HP) : HP :=
  nw (.cells #[.int .i64 x0.1, .int .i64 x0.2.1, .int .i64 x0.2.2.1, .int .i64 x0.2.2.2.1] 44) fun n1 =>
  ld ⟨n1, 0, none⟩ (.agg [.int .i64, .int .i64, .int .i64, .int .i64]) fun v1 =>
  cl PP 54 #[.agg #[.int .i64 v1.1, .int .i64 v1.2.1, .int .i64 v1.2.2.1, .int .i64 v1.2.2.2.1]] [.lf .bool] fun r1 =>
  ifB (!r1.1) (
   K (.tuple #[.pointer none, .int .i64 30])) (
   ld ⟨n1, 0, none⟩ (.agg [.int .i64, .int .i64, .int .i64, .int .i64]) fun v2 =>
   nw (.cells #[.int .i64 v2.1, .int .i64 v2.2.1, .int .i64 v2.2.2.1, .int .i64 v2.2.2.2.1, .slice none 0 0, .slice none 0 0, .slice none 0 0, .slice none 0 0, .int .i64 0, .bool false, .int .i64 0, .int .i64 0, .slice none 0 0] 62) fun n2 =>
   lp [.lf (.int .i64)] (0, ()) fun z1 go1 =>   -- b
    ld ⟨n1, 0, none⟩ (.lf (.int .i64)) fun v3 =>
    ifB (decide ((z1.1 : Int) < v3)) (
     lp [.lf .sl, .lf (.int .i64)] (⟨none, 0, 0⟩, 0, ()) fun z2 go2 =>   -- l, p
      ld (Addr.add ⟨n1, 0, none⟩ 1) (.lf (.int .i64)) fun v4 =>
      ifB (decide ((z2.2.1 : Int) < v4)) (
       ld (Addr.add ⟨n1, 0, none⟩ 2) (.lf (.int .i64)) fun v5 =>
       cl PP 55 #[.int .i64 v5] [.lf .str] fun r2 =>
       nw (.cells #[.string r2.1] 9) fun n3 =>
       smW PP (Builtin.append_ #[99, 99] 99 #[.slice z2.1.a z2.1.len z2.1.cap, .slice (some ⟨n3, 0, none⟩) 1 1]) [.lf .sl] fun v6 =>
       go2 (⟨v6.1.a, v6.1.len, v6.1.cap⟩, IntKind.i64.wrap (z2.2.1 + 1), ())) (
       ld (Addr.add ⟨n2, 0, none⟩ 4) (.lf .sl) fun v7 =>
       nw (.cells #[.slice z2.1.a z2.1.len z2.1.cap] 99) fun n4 =>
       smW PP (Builtin.append_ #[57, 57] 57 #[.slice v7.a v7.len v7.cap, .slice (some ⟨n4, 0, none⟩) 1 1]) [.lf .sl] fun v8 =>
       st (Addr.add ⟨n2, 0, none⟩ 4) [.slice v8.1.a v8.1.len v8.1.cap] <|
       ld (Addr.add ⟨n2, 0, none⟩ 5) (.lf .sl) fun v9 =>
       nw (.cells #[.int .i64 0] 3) fun n5 =>
       smW PP (Builtin.append_ #[58, 58] 58 #[.slice v9.a v9.len v9.cap, .slice (some ⟨n5, 0, none⟩) 1 1]) [.lf .sl] fun v10 =>
       st (Addr.add ⟨n2, 0, none⟩ 5) [.slice v10.1.a v10.1.len v10.1.cap] <|
       ld (Addr.add ⟨n2, 0, none⟩ 6) (.lf .sl) fun v11 =>
       nw (.cells #[.int .i64 0] 3) fun n6 =>
       smW PP (Builtin.append_ #[58, 58] 58 #[.slice v11.a v11.len v11.cap, .slice (some ⟨n6, 0, none⟩) 1 1]) [.lf .sl] fun v12 =>
       st (Addr.add ⟨n2, 0, none⟩ 6) [.slice v12.1.a v12.1.len v12.1.cap] <|
       ld (Addr.add ⟨n2, 0, none⟩ 7) (.lf .sl) fun v13 =>
       nw (.cells #[.bool false] 4) fun n7 =>
       smW PP (Builtin.append_ #[59, 59] 59 #[.slice v13.a v13.len v13.cap, .slice (some ⟨n7, 0, none⟩) 1 1]) [.lf .sl] fun v14 =>
       st (Addr.add ⟨n2, 0, none⟩ 7) [.slice v14.1.a v14.1.len v14.1.cap] <|
       go1 (IntKind.i64.wrap (z1.1 + 1), ()))) (
     K (.tuple #[.pointer (some ⟨n2, 0, none⟩), .int .i64 0])))
theorem e22 (x0 : ShV (.agg [.int .i64, .int .i64, .int .i64, .int .i64])) (K : Value → HP) : flatFn PP h22 Try.f22 [.agg #[.int .i64 x0.1, .int .i64 x0.2.1, .int .i64 x0.2.2.1, .int .i64 x0.2.2.2.1]] K = t22 x0 K := by kernel_rfl

/-- depot/depotlaw21.small -/
def h23 : Hints := ⟨[(0, [(3, .lf (.int .i64))])], [], []⟩
def t23 (x0 : SlV) (K : Value → HP) : HP :=
  lp [.lf (.int .i64)] (0, ()) fun z1 go1 =>   -- i
   ifB (decide ((z1.1 : Int) < x0.len)) (
    ifB (decide ((z1.1 : Int) ≤ 200)) (
     nilc x0.a fun a1 =>
     ixn z1.1 x0.len <|
     ld (Addr.add (Addr.add a1 (z1.1.toNat * 6)) 3) (.lf .sl) fun v1 =>
     ifB (decide ((v1.len : Int) > 600)) (
      K (.bool false)) (
      go1 (IntKind.i64.wrap (z1.1 + 1), ()))) (
     K (.bool (decide ((x0.len : Int) ≤ 200))))) (
    K (.bool (decide ((x0.len : Int) ≤ 200))))
theorem e23 (x0 : SlV) (K : Value → HP) : flatFn PP h23 Try.f23 [.slice x0.a x0.len x0.cap] K = t23 x0 K := by kernel_rfl

/-- depot/depotlaw21.burns -/
def h24 : Hints := ⟨[], [], []⟩
def t24 (K : Value → HP) : HP :=
  cl PP 40 #[] [.agg [.int .i64, .int .i64, .int .i64, .int .i64]] fun r1 =>
  cl PP 21 #[.agg #[.int .i64 r1.1.1, .int .i64 r1.1.2.1, .int .i64 r1.1.2.2.1, .int .i64 r1.1.2.2.2.1]] [.lf .ptr, .lf (.int .i64)] fun r2 =>
  cl PP 21 #[.agg #[.int .i64 0, .int .i64 0, .int .i64 0, .int .i64 0]] [.lf .ptr, .lf (.int .i64)] fun r3 =>
  ifB ((r2.2.1 : Int) != 0) (
   K (.bool false)) (
   ifB ((r3.2.1 : Int) != 30) (
    K (.bool false)) (
    smA PP (Instr.makeSlice 24 (.int .i64 64) (.int .i64 64)) (.lf .sl) fun v1 =>
    cl PP 37 #[.pointer r2.1, .int .i64 0, .int .i64 0, .slice v1.a v1.len v1.cap] [.lf (.int .i64)] fun r4 =>
    cl PP 37 #[.pointer r2.1, .int .i64 0, .int .i64 0, .slice v1.a v1.len v1.cap] [.lf (.int .i64)] fun r5 =>
    cl PP 34 #[.pointer r2.1, .int .i64 1, .int .i64 3] [] fun r6 =>
    cl PP 37 #[.pointer r2.1, .int .i64 0, .int .i64 1, .slice v1.a v1.len v1.cap] [.lf (.int .i64)] fun r7 =>
    cl PP 27 #[.pointer r2.1] [.lf .bool] fun r8 =>
    cl PP 35 #[.pointer r2.1] [] fun r9 =>
    cl PP 36 #[.pointer r2.1, .int .i64 0, .int .i64 1] [.lf .sl, .lf (.int .i64)] fun r10 =>
    cl PP 32 #[.pointer r2.1] [.lf .sl] fun r11 =>
    cl PP 38 #[.pointer r2.1, .int .i64 0] [.lf (.int .i64)] fun r12 =>
    ifB ((r4.1 : Int) == 0) (
     ifB ((r5.1 : Int) == 9) (
      ifB ((r7.1 : Int) == 11) (
       ifB r8.1 (
        cl PP 27 #[.pointer r2.1] [.lf .bool] fun r13 =>
        ifB (!r13.1) (
         ifB ((r10.1.len : Int) == 64) (
          nilc r10.1.a fun a1 =>
          ixn 2 r10.1.len <|
          ld (Addr.add a1 ((2 : Int).toNat * 1)) (.lf (.int .u8)) fun v2 =>
          ifB ((v2 : Int) == 0) (
           nilc r10.1.a fun a2 =>
           ixn 3 r10.1.len <|
           ld (Addr.add a2 ((3 : Int).toNat * 1)) (.lf (.int .u8)) fun v3 =>
           ifB ((v3 : Int) == 255) (
            ifB ((r10.2.1 : Int) == 0) (
             ifB ((r11.1.len : Int) == 1) (
              nilc r11.1.a fun a3 =>
              ixn 0 r11.1.len <|
              ld (Addr.add (Addr.add a3 ((0 : Int).toNat * 4)) 1) (.lf (.int .i64)) fun v4 =>
              ifB ((v4 : Int) == 1) (
               ifB ((r12.1 : Int) == 0) (
                cl PP 29 #[.pointer r2.1, .int .i64 0] [.lf (.int .i64)] fun r14 =>
                ifB ((r14.1 : Int) == 1) (
                 cl PP 28 #[.pointer r2.1, .int .i64 0] [.lf (.int .i64)] fun r15 =>
                 ifB ((r15.1 : Int) == 0) (
                  cl PP 26 #[.pointer r2.1] [.lf (.int .i64)] fun r16 =>
                  ifB ((r16.1 : Int) == 128) (
                   cl PP 30 #[.pointer r2.1, .int .i64 0] [.lf .bool] fun r17 =>
                   ifB (!r17.1) (
                    cl PP 33 #[.pointer r2.1] [.agg [.int .i64, .int .i64, .int .i64, .int .i64]] fun r18 =>
                    cl PP 40 #[] [.agg [.int .i64, .int .i64, .int .i64, .int .i64]] fun r19 =>
                    smP PP (binOp .eql 44 (.agg #[.int .i64 r18.1.1, .int .i64 r18.1.2.1, .int .i64 r18.1.2.2.1, .int .i64 r18.1.2.2.2.1]) (.agg #[.int .i64 r19.1.1, .int .i64 r19.1.2.1, .int .i64 r19.1.2.2.1, .int .i64 r19.1.2.2.2.1])) (.lf .bool) fun v5 =>
                    K (.bool v5)) (
                    K (.bool false))) (
                   K (.bool false))) (
                  K (.bool false))) (
                 K (.bool false))) (
                K (.bool false))) (
               K (.bool false))) (
              K (.bool false))) (
             K (.bool false))) (
            K (.bool false))) (
           K (.bool false))) (
          K (.bool false))) (
         K (.bool false))) (
        K (.bool false))) (
       K (.bool false))) (
      K (.bool false))) (
     K (.bool false))))
theorem e24 (K : Value → HP) : flatFn PP h24 Try.f24 [] K = t24 K := by kernel_rfl

/-- depot/depotlaw21.do -/
def h25 : Hints := ⟨[], [], [(5, [0, 1, 3, 5, 8, 9, 11, 13, 2, 4, 6, 10, 12, 14, 7, 15, 16, 17]), (11, [0, 1, 4, 5, 2, 6, 3, 7, 8, 9])]⟩
def t25 (x0 : Option Addr) (x1 : Option Addr) (x2 : ShV (.agg [.int .i64, .int .i64, .int .i64, .sl, .int .i64, .int .i64])) (K : Value → HP) : HP :=
  nw (.cells #[.int .i64 x2.1, .int .i64 x2.2.1, .int .i64 x2.2.2.1, .slice x2.2.2.2.1.a x2.2.2.2.1.len x2.2.2.2.1.cap, .int .i64 x2.2.2.2.2.1, .int .i64 x2.2.2.2.2.2.1] 55) fun n1 =>
  ld ⟨n1, 0, none⟩ (.lf (.int .i64)) fun v1 =>
  ifB ((v1 : Int) == 0) (
   ld (Addr.add ⟨n1, 0, none⟩ 1) (.lf (.int .i64)) fun v2 =>
   ld (Addr.add ⟨n1, 0, none⟩ 2) (.lf (.int .i64)) fun v3 =>
   ld (Addr.add ⟨n1, 0, none⟩ 3) (.lf .sl) fun v4 =>
   ld (Addr.add ⟨n1, 0, none⟩ 1) (.lf (.int .i64)) fun v5 =>
   ld (Addr.add ⟨n1, 0, none⟩ 2) (.lf (.int .i64)) fun v6 =>
   ld (Addr.add ⟨n1, 0, none⟩ 3) (.lf .sl) fun v7 =>
   cl PP 37 #[.pointer x0, .int .i64 v2, .int .i64 v3, .slice v4.a v4.len v4.cap] [.lf (.int .i64)] fun r1 =>
   keep (LdAt (Addr.add ⟨n1, 0, none⟩ 3) [.slice v7.a v7.len v7.cap]) <|
   keep (LdAt (Addr.add ⟨n1, 0, none⟩ 2) [.int .i64 v6]) <|
   keep (LdAt (Addr.add ⟨n1, 0, none⟩ 1) [.int .i64 v5]) <|
   cl PP 56 #[.pointer x1, .int .i64 v5, .int .i64 v6, .slice v7.a v7.len v7.cap] [.lf (.int .i64)] fun r2 =>
   K (.bool ((r1.1 : Int) == r2.1))) (
   ifB ((v1 : Int) == 1) (
    ld (Addr.add ⟨n1, 0, none⟩ 1) (.lf (.int .i64)) fun v8 =>
    ld (Addr.add ⟨n1, 0, none⟩ 2) (.lf (.int .i64)) fun v9 =>
    cl PP 36 #[.pointer x0, .int .i64 v8, .int .i64 v9] [.lf .sl, .lf (.int .i64)] fun r3 =>
    ld (Addr.add ⟨n1, 0, none⟩ 1) (.lf (.int .i64)) fun v10 =>
    ld (Addr.add ⟨n1, 0, none⟩ 2) (.lf (.int .i64)) fun v11 =>
    cl PP 57 #[.pointer x1, .int .i64 v10, .int .i64 v11] [.lf .sl, .lf (.int .i64)] fun r4 =>
    cl PP 14 #[.slice r3.1.a r3.1.len r3.1.cap, .slice r4.1.a r4.1.len r4.1.cap] [.lf .bool] fun r5 =>
    ifB r5.1 (
     K (.bool ((r3.2.1 : Int) == r4.2.1))) (
     K (.bool false))) (
    ifB ((v1 : Int) == 2) (
     ld (Addr.add ⟨n1, 0, none⟩ 1) (.lf (.int .i64)) fun v12 =>
     ld (Addr.add ⟨n1, 0, none⟩ 1) (.lf (.int .i64)) fun v13 =>
     cl PP 38 #[.pointer x0, .int .i64 v12] [.lf (.int .i64)] fun r6 =>
     keep (LdAt (Addr.add ⟨n1, 0, none⟩ 1) [.int .i64 v13]) <|
     cl PP 58 #[.pointer x1, .int .i64 v13] [.lf (.int .i64)] fun r7 =>
     K (.bool ((r6.1 : Int) == r7.1))) (
     ifB ((v1 : Int) == 3) (
      ld (Addr.add ⟨n1, 0, none⟩ 4) (.lf (.int .i64)) fun v14 =>
      ld (Addr.add ⟨n1, 0, none⟩ 5) (.lf (.int .i64)) fun v15 =>
      cl PP 34 #[.pointer x0, .int .i64 v14, .int .i64 v15] [] fun r8 =>
      ld (Addr.add ⟨n1, 0, none⟩ 4) (.lf (.int .i64)) fun v16 =>
      ld (Addr.add ⟨n1, 0, none⟩ 5) (.lf (.int .i64)) fun v17 =>
      cl PP 59 #[.pointer x1, .int .i64 v16, .int .i64 v17] [] fun r9 =>
      K (.bool true)) (
      cl PP 35 #[.pointer x0] [] fun r10 =>
      cl PP 60 #[.pointer x1] [] fun r11 =>
      K (.bool true)))))
theorem e25 (x0 : Option Addr) (x1 : Option Addr) (x2 : ShV (.agg [.int .i64, .int .i64, .int .i64, .sl, .int .i64, .int .i64])) (K : Value → HP) : flatFn PP h25 Try.f25 [.pointer x0, .pointer x1, .agg #[.int .i64 x2.1, .int .i64 x2.2.1, .int .i64 x2.2.2.1, .slice x2.2.2.2.1.a x2.2.2.2.1.len x2.2.2.2.1.cap, .int .i64 x2.2.2.2.2.1, .int .i64 x2.2.2.2.2.2.1]] K = t25 x0 x1 x2 K := by kernel_rfl

/-- (*depot/flash.Flash).Bytes -/
def h26 : Hints := ⟨[], [], []⟩
def t26 (x0 : Option Addr) (K : Value → HP) : HP :=
  ifB (Option.isNone x0) (
   K (.int .i64 0)) (
   nilc x0 fun a1 =>
   ld (Addr.add a1 8) (.lf (.int .i64)) fun v1 =>
   K (.int .i64 v1))
theorem e26 (x0 : Option Addr) (K : Value → HP) : flatFn PP h26 Try.f26 [.pointer x0] K = t26 x0 K := by kernel_rfl

/-- (*depot/flash.Flash).Down -/
def h27 : Hints := ⟨[], [], []⟩
def t27 (x0 : Option Addr) (K : Value → HP) : HP :=
  ifB (!(Option.isNone x0)) (
   nilc x0 fun a1 =>
   ld (Addr.add a1 2) (.lf .bool) fun v1 =>
   K (.bool v1)) (
   K (.bool false))
theorem e27 (x0 : Option Addr) (K : Value → HP) : flatFn PP h27 Try.f27 [.pointer x0] K = t27 x0 K := by kernel_rfl

/-- (*depot/flash.Flash).Next -/
def h28 : Hints := ⟨[], [], []⟩
def t28 (x0 : Option Addr) (x1 : Int) (K : Value → HP) : HP :=
  cl PP 61 #[.pointer x0, .int .i64 x1] [.lf .ptr] fun r1 =>
  ifB (!(Option.isNone r1.1)) (
   nilc r1.1 fun a1 =>
   ld (Addr.add a1 1) (.lf (.int .i64)) fun v1 =>
   K (.int .i64 v1)) (
   K (.int .i64 0))
theorem e28 (x0 : Option Addr) (x1 : Int) (K : Value → HP) : flatFn PP h28 Try.f28 [.pointer x0, .int .i64 x1] K = t28 x0 x1 K := by kernel_rfl

/-- (*depot/flash.Flash).Wear -/
def h29 : Hints := ⟨[], [], []⟩
def t29 (x0 : Option Addr) (x1 : Int) (K : Value → HP) : HP :=
  cl PP 61 #[.pointer x0, .int .i64 x1] [.lf .ptr] fun r1 =>
  ifB (!(Option.isNone r1.1)) (
   nilc r1.1 fun a1 =>
   ld (Addr.add a1 2) (.lf (.int .i64)) fun v1 =>
   K (.int .i64 v1)) (
   K (.int .i64 0))
theorem e29 (x0 : Option Addr) (x1 : Int) (K : Value → HP) : flatFn PP h29 Try.f29 [.pointer x0, .int .i64 x1] K = t29 x0 x1 K := by kernel_rfl

/-- (*depot/flash.Flash).Bad -/
def h30 : Hints := ⟨[], [], []⟩
def t30 (x0 : Option Addr) (x1 : Int) (K : Value → HP) : HP :=
  cl PP 61 #[.pointer x0, .int .i64 x1] [.lf .ptr] fun r1 =>
  ifB (!(Option.isNone r1.1)) (
   nilc r1.1 fun a1 =>
   ld (Addr.add a1 3) (.lf .bool) fun v1 =>
   K (.bool v1)) (
   K (.bool false))
theorem e30 (x0 : Option Addr) (x1 : Int) (K : Value → HP) : flatFn PP h30 Try.f30 [.pointer x0, .int .i64 x1] K = t30 x0 x1 K := by kernel_rfl

/-- depot/depotref21.SameTorn -/
def h31 : Hints := ⟨[(0, [(5, .lf (.int .i64))])], [], [(6, [0, 1, 2, 3, 5, 6, 7, 8, 4, 9, 10, 11, 12, 13, 14, 15, 17, 18, 19, 20, 16, 21, 22, 23, 24, 25, 26, 27, 28, 31, 32, 33, 34, 29, 30, 35, 36, 37, 38, 39, 40, 41, 42, 43, 46, 47, 48, 49, 44, 45, 50, 51, 52, 53])]⟩
def t31 (x0 : SlV) (x1 : SlV) (K : Value → HP) : HP :=
  ifB ((x0.len : Int) != x1.len) (
   K (.bool false)) (
   lp [.lf (.int .i64)] (0, ()) fun z1 go1 =>   -- i
    ifB (decide ((z1.1 : Int) < x0.len)) (
     nilc x0.a fun a1 =>
     ixn z1.1 x0.len <|
     nilc x1.a fun a2 =>
     ixn z1.1 x1.len <|
     ld (Addr.add a1 (z1.1.toNat * 4)) (.lf (.int .i64)) fun v1 =>
     ld (Addr.add a2 (z1.1.toNat * 4)) (.lf (.int .i64)) fun v2 =>
     ifB ((v1 : Int) != v2) (
      K (.bool false)) (
      nilc x0.a fun a3 =>
      ixn z1.1 x0.len <|
      nilc x1.a fun a4 =>
      ixn z1.1 x1.len <|
      ld (Addr.add (Addr.add a3 (z1.1.toNat * 4)) 1) (.lf (.int .i64)) fun v3 =>
      ld (Addr.add (Addr.add a4 (z1.1.toNat * 4)) 1) (.lf (.int .i64)) fun v4 =>
      ifB ((v3 : Int) != v4) (
       K (.bool false)) (
       nilc x0.a fun a5 =>
       ixn z1.1 x0.len <|
       nilc x1.a fun a6 =>
       ixn z1.1 x1.len <|
       ld (Addr.add (Addr.add a5 (z1.1.toNat * 4)) 2) (.lf .sl) fun v5 =>
       smR PP (Conv.bytesToString (.slice v5.a v5.len v5.cap)) [.lf .str] fun v6 =>
       ld (Addr.add (Addr.add a6 (z1.1.toNat * 4)) 2) (.lf .sl) fun v7 =>
       smR PP (Conv.bytesToString (.slice v7.a v7.len v7.cap)) [.lf .str] fun v8 =>
       ifB (!(ByteArray.toList v6.1 == ByteArray.toList v8.1)) (
        K (.bool false)) (
        nilc x0.a fun a7 =>
        ixn z1.1 x0.len <|
        nilc x1.a fun a8 =>
        ixn z1.1 x1.len <|
        ld (Addr.add (Addr.add a7 (z1.1.toNat * 4)) 3) (.lf .sl) fun v9 =>
        smR PP (Conv.bytesToString (.slice v9.a v9.len v9.cap)) [.lf .str] fun v10 =>
        ld (Addr.add (Addr.add a8 (z1.1.toNat * 4)) 3) (.lf .sl) fun v11 =>
        smR PP (Conv.bytesToString (.slice v11.a v11.len v11.cap)) [.lf .str] fun v12 =>
        ifB (!(ByteArray.toList v10.1 == ByteArray.toList v12.1)) (
         K (.bool false)) (
         go1 (IntKind.i64.wrap (z1.1 + 1), ())))))) (
     K (.bool true)))
theorem e31 (x0 : SlV) (x1 : SlV) (K : Value → HP) : flatFn PP h31 Try.f31 [.slice x0.a x0.len x0.cap, .slice x1.a x1.len x1.cap] K = t31 x0 x1 K := by kernel_rfl

/-- (*depot/flash.Flash).Torn -/
def h32 : Hints := ⟨[(0, [(3, .lf .sl), (13, .lf (.int .i64))])], [], [(7, [1, 5, 2, 6, 0, 3, 8, 4, 7, 9, 10, 11])]⟩
def t32 (x0 : Option Addr) (K : Value → HP) : HP :=
  ifB (Option.isNone x0) (
   K (.slice none 0 0)) (
   nilc x0 fun a1 =>
   ld (Addr.add a1 9) (.lf .sl) fun v1 =>
   lp [.lf .sl, .lf (.int .i64)] (⟨none, 0, 0⟩, 0, ()) fun z1 go1 =>   -- l, 
    ifB (decide ((z1.2.1 : Int) < v1.len)) (
     nilc v1.a fun a2 =>
     ixn z1.2.1 v1.len <|
     ld (Addr.add a2 (z1.2.1.toNat * 4)) (.agg [.int .i64, .int .i64, .sl, .sl]) fun v2 =>
     nw (.cells #[.int .i64 0, .int .i64 0, .slice none 0 0, .slice none 0 0] 76) fun n1 =>
     st ⟨n1, 0, none⟩ [.int .i64 v2.1, .int .i64 v2.2.1, .slice v2.2.2.1.a v2.2.2.1.len v2.2.2.1.cap, .slice v2.2.2.2.1.a v2.2.2.2.1.len v2.2.2.2.1.cap] <|
     ld (Addr.add ⟨n1, 0, none⟩ 2) (.lf .sl) fun v3 =>
     ld (Addr.add ⟨n1, 0, none⟩ 3) (.lf .sl) fun v4 =>
     nw (.cells #[] 5) fun n2 =>
     smW PP (Builtin.append_ #[24, 24] 24 #[.slice (some ⟨n2, 0, none⟩) 0 0, .slice v3.a v3.len v3.cap]) [.lf .sl] fun v5 =>
     keep (LdAt (Addr.add ⟨n1, 0, none⟩ 3) [.slice v4.a v4.len v4.cap]) <|
     nw (.cells #[] 5) fun n3 =>
     smW PP (Builtin.append_ #[24, 24] 24 #[.slice (some ⟨n3, 0, none⟩) 0 0, .slice v4.a v4.len v4.cap]) [.lf .sl] fun v6 =>
     st (Addr.add ⟨n1, 0, none⟩ 2) [.slice v5.1.a v5.1.len v5.1.cap] <|
     st (Addr.add ⟨n1, 0, none⟩ 3) [.slice v6.1.a v6.1.len v6.1.cap] <|
     ld ⟨n1, 0, none⟩ (.agg [.int .i64, .int .i64, .sl, .sl]) fun v7 =>
     nw (.cells #[.int .i64 v7.1, .int .i64 v7.2.1, .slice v7.2.2.1.a v7.2.2.1.len v7.2.2.1.cap, .slice v7.2.2.2.1.a v7.2.2.2.1.len v7.2.2.2.1.cap] 76) fun n4 =>
     smW PP (Builtin.append_ #[60, 60] 60 #[.slice z1.1.a z1.1.len z1.1.cap, .slice (some ⟨n4, 0, none⟩) 1 1]) [.lf .sl] fun v8 =>
     go1 (⟨v8.1.a, v8.1.len, v8.1.cap⟩, IntKind.i64.wrap (z1.2.1 + 1), ())) (
     K (.slice z1.1.a z1.1.len z1.1.cap)))
theorem e32 (x0 : Option Addr) (K : Value → HP) : flatFn PP h32 Try.f32 [.pointer x0] K = t32 x0 K := by kernel_rfl

/-- (*depot/flash.Flash).Config -/
def h33 : Hints := ⟨[], [], []⟩
def t33 (x0 : Option Addr) (K : Value → HP) : HP :=
  nw (.cells #[.int .i64 0, .int .i64 0, .int .i64 0, .int .i64 0] 44) fun n1 =>
  ifB (Option.isNone x0) (
   st ⟨n1, 0, none⟩ [.int .i64 0, .int .i64 0, .int .i64 0, .int .i64 0] <|
   ld ⟨n1, 0, none⟩ (.agg [.int .i64, .int .i64, .int .i64, .int .i64]) fun v1 =>
   K (.agg #[.int .i64 v1.1, .int .i64 v1.2.1, .int .i64 v1.2.2.1, .int .i64 v1.2.2.2.1])) (
   nilc x0 fun a1 =>
   ld (Addr.add a1 3) (.agg [.int .i64, .int .i64, .int .i64, .int .i64]) fun v2 =>
   st ⟨n1, 0, none⟩ [.int .i64 v2.1, .int .i64 v2.2.1, .int .i64 v2.2.2.1, .int .i64 v2.2.2.2.1] <|
   ld ⟨n1, 0, none⟩ (.agg [.int .i64, .int .i64, .int .i64, .int .i64]) fun v3 =>
   K (.agg #[.int .i64 v3.1, .int .i64 v3.2.1, .int .i64 v3.2.2.1, .int .i64 v3.2.2.2.1]))
theorem e33 (x0 : Option Addr) (K : Value → HP) : flatFn PP h33 Try.f33 [.pointer x0] K = t33 x0 K := by kernel_rfl

/-- (*depot/flash.Flash).Arm -/
def h34 : Hints := ⟨[], [], []⟩
def t34 (x0 : Option Addr) (x1 : Int) (x2 : Int) (K : Value → HP) : HP :=
  ifB (!(Option.isNone x0)) (
   nilc x0 fun a1 =>
   ld (Addr.add a1 2) (.lf .bool) fun v1 =>
   ifB (!v1) (
    nilc x0 fun a2 =>
    st a2 [.int .i64 (imax x1 0)] <|
    nilc x0 fun a3 =>
    st (Addr.add a3 1) [.int .i64 x2] <|
    K (.tuple #[])) (
    K (.tuple #[]))) (
   K (.tuple #[]))
theorem e34 (x0 : Option Addr) (x1 : Int) (x2 : Int) (K : Value → HP) : flatFn PP h34 Try.f34 [.pointer x0, .int .i64 x1, .int .i64 x2] K = t34 x0 x1 x2 K := by kernel_rfl

/-- (*depot/flash.Flash).Restart -/
def h35 : Hints := ⟨[], [], []⟩
def t35 (x0 : Option Addr) (K : Value → HP) : HP :=
  ifB (!(Option.isNone x0)) (
   nilc x0 fun a1 =>
   st (Addr.add a1 2) [.bool false] <|
   nilc x0 fun a2 =>
   st a2 [.int .i64 0] <|
   K (.tuple #[])) (
   K (.tuple #[]))
theorem e35 (x0 : Option Addr) (K : Value → HP) : flatFn PP h35 Try.f35 [.pointer x0] K = t35 x0 K := by kernel_rfl

/-- (*depot/flash.Flash).Read -/
def h36 : Hints := ⟨[], [], []⟩
def t36 (x0 : Option Addr) (x1 : Int) (x2 : Int) (K : Value → HP) : HP :=
  cl PP 62 #[.pointer x0, .int .i64 x1, .int .i64 x2] [.lf .ptr, .lf (.int .i64)] fun r1 =>
  ifB ((r1.2.1 : Int) != 0) (
   K (.tuple #[.slice none 0 0, .int .i64 r1.2.1])) (
   nilc r1.1 fun a1 =>
   ld (Addr.add a1 3) (.lf .bool) fun v1 =>
   ifB v1 (
    nilc x0 fun a2 =>
    ld (Addr.add (Addr.add a2 3) 2) (.lf (.int .i64)) fun v2 =>
    cl PP 63 #[.int .i64 v2] [.lf .sl] fun r2 =>
    K (.tuple #[.slice r2.1.a r2.1.len r2.1.cap, .int .i64 0])) (
    nw (.cells #[] 5) fun n1 =>
    nilc r1.1 fun a3 =>
    ld a3 (.lf .sl) fun v3 =>
    nilc v3.a fun a4 =>
    ixn x2 v3.len <|
    ld (Addr.add a4 (x2.toNat * 1)) (.lf .sl) fun v4 =>
    smW PP (Builtin.append_ #[24, 24] 24 #[.slice (some ⟨n1, 0, none⟩) 0 0, .slice v4.a v4.len v4.cap]) [.lf .sl] fun v5 =>
    K (.tuple #[.slice v5.1.a v5.1.len v5.1.cap, .int .i64 0])))
theorem e36 (x0 : Option Addr) (x1 : Int) (x2 : Int) (K : Value → HP) : flatFn PP h36 Try.f36 [.pointer x0, .int .i64 x1, .int .i64 x2] K = t36 x0 x1 x2 K := by kernel_rfl

/-- (*depot/flash.Flash).Program -/
def h37 : Hints := ⟨[], [], [(18, [0, 1, 2, 3, 5, 6, 8, 11, 4, 7, 9, 10, 12, 13, 14, 15, 16, 17, 18]), (17, [0, 1, 2, 3, 4, 5, 6, 7, 8, 9, 10, 11, 12]), (13, [0, 1, 2, 4, 5, 6, 7, 3, 8, 9, 10, 11, 12])]⟩
def t37 (x0 : Option Addr) (x1 : Int) (x2 : Int) (x3 : SlV) (K : Value → HP) : HP :=
  cl PP 62 #[.pointer x0, .int .i64 x1, .int .i64 x2] [.lf .ptr, .lf (.int .i64)] fun r1 =>
  ifB ((r1.2.1 : Int) != 0) (
   K (.int .i64 r1.2.1)) (
   nilc x0 fun a1 =>
   ld (Addr.add (Addr.add a1 3) 2) (.lf (.int .i64)) fun v1 =>
   ifB ((x3.len : Int) != v1) (
    K (.int .i64 2)) (
    nilc r1.1 fun a2 =>
    ld (Addr.add a2 3) (.lf .bool) fun v2 =>
    ifB v2 (
     K (.int .i64 10)) (
     nilc r1.1 fun a3 =>
     ld (Addr.add a3 1) (.lf (.int .i64)) fun v3 =>
     ifB ((v3 : Int) != x2) (
      K (.int .i64 9)) (
      nilc x0 fun a4 =>
      ld (Addr.add (Addr.add a4 3) 2) (.lf (.int .i64)) fun v4 =>
      cl PP 63 #[.int .i64 v4] [.lf .sl] fun r2 =>
      nilc r1.1 fun a5 =>
      ld a5 (.lf .sl) fun v5 =>
      nilc v5.a fun a6 =>
      ixn x2 v5.len <|
      st (Addr.add a6 (x2.toNat * 1)) [.slice r2.1.a r2.1.len r2.1.cap] <|
      nilc r1.1 fun a7 =>
      ld (Addr.add a7 1) (.lf (.int .i64)) fun v6 =>
      nilc r1.1 fun a8 =>
      st (Addr.add a8 1) [.int .i64 (IntKind.i64.wrap (v6 + 1))] <|
      nilc x0 fun a9 =>
      nilc x0 fun a10 =>
      ld (Addr.add a9 8) (.lf (.int .i64)) fun v7 =>
      ld (Addr.add (Addr.add a10 3) 2) (.lf (.int .i64)) fun v8 =>
      nilc x0 fun a11 =>
      st (Addr.add a11 8) [.int .i64 (IntKind.i64.wrap (v7 + v8))] <|
      nilc x0 fun a12 =>
      cl PP 64 #[.pointer (some a12)] [.lf .bool] fun r3 =>
      ifB (!r3.1) (
       smW PP (Builtin.copy_ #[24, 24] 3 #[.slice r2.1.a r2.1.len r2.1.cap, .slice x3.a x3.len x3.cap]) [.lf (.int .i64)] fun v9 =>
       K (.int .i64 0)) (
       nilc x0 fun a13 =>
       nilc x0 fun a14 =>
       ld (Addr.add (Addr.add a14 3) 2) (.lf (.int .i64)) fun v10 =>
       cl PP 65 #[.pointer (some a13), .int .i64 v10] [.lf (.int .i64)] fun r4 =>
       slc ⟨x3.a, x3.len, x3.cap⟩ 0 r4.1 x3.cap 1 fun s1 =>
       smW PP (Builtin.copy_ #[24, 24] 3 #[.slice r2.1.a r2.1.len r2.1.cap, .slice s1.a s1.len s1.cap]) [.lf (.int .i64)] fun v11 =>
       nilc x0 fun a15 =>
       ld (Addr.add a15 9) (.lf .sl) fun v12 =>
       nw (.cells #[] 5) fun n1 =>
       smW PP (Builtin.append_ #[24, 24] 24 #[.slice (some ⟨n1, 0, none⟩) 0 0, .slice x3.a x3.len x3.cap]) [.lf .sl] fun v13 =>
       keep (LdAt (Addr.add a15 9) [.slice v12.a v12.len v12.cap]) <|
       nw (.cells #[] 5) fun n2 =>
       smW PP (Builtin.append_ #[24, 24] 24 #[.slice (some ⟨n2, 0, none⟩) 0 0, .slice r2.1.a r2.1.len r2.1.cap]) [.lf .sl] fun v14 =>
       keep (LdAt (Addr.add a15 9) [.slice v12.a v12.len v12.cap]) <|
       nw (.cells #[.int .i64 x1, .int .i64 x2, .slice v13.1.a v13.1.len v13.1.cap, .slice v14.1.a v14.1.len v14.1.cap] 76) fun n3 =>
       smW PP (Builtin.append_ #[60, 60] 60 #[.slice v12.a v12.len v12.cap, .slice (some ⟨n3, 0, none⟩) 1 1]) [.lf .sl] fun v15 =>
       nilc x0 fun a16 =>
       st (Addr.add a16 9) [.slice v15.1.a v15.1.len v15.1.cap] <|
       K (.int .i64 11))))))
theorem e37 (x0 : Option Addr) (x1 : Int) (x2 : Int) (x3 : SlV) (K : Value → HP) : flatFn PP h37 Try.f37 [.pointer x0, .int .i64 x1, .int .i64 x2, .slice x3.a x3.len x3.cap] K = t37 x0 x1 x2 x3 K := by kernel_rfl

/-- (*depot/flash.Flash).Erase -/
def h38 : Hints := ⟨[], [], [(10, [0, 1, 2, 3, 4, 6, 7, 8, 9, 5, 10, 11]), (7, [0, 1, 2, 3, 4, 5, 6, 7, 10, 11, 12, 13, 8, 14, 9, 15])]⟩
def t38 (x0 : Option Addr) (x1 : Int) (K : Value → HP) : HP :=
  cl PP 62 #[.pointer x0, .int .i64 x1, .int .i64 0] [.lf .ptr, .lf (.int .i64)] fun r1 =>
  ifB ((r1.2.1 : Int) != 0) (
   K (.int .i64 r1.2.1)) (
   nilc r1.1 fun a1 =>
   ld (Addr.add a1 3) (.lf .bool) fun v1 =>
   ifB v1 (
    K (.int .i64 10)) (
    nilc x0 fun a2 =>
    cl PP 64 #[.pointer (some a2)] [.lf .bool] fun r2 =>
    ifB r2.1 (
     nilc x0 fun a3 =>
     nilc x0 fun a4 =>
     nilc x0 fun a5 =>
     ld (Addr.add (Addr.add a4 3) 1) (.lf (.int .i64)) fun v2 =>
     ld (Addr.add (Addr.add a5 3) 2) (.lf (.int .i64)) fun v3 =>
     cl PP 65 #[.pointer (some a3), .int .i64 v2] [.lf (.int .i64)] fun r3 =>
     keep (LdAt (Addr.add (Addr.add a5 3) 2) [.int .i64 v3]) <|
     cl PP 53 #[.pointer r1.1, .int .i64 r3.1, .int .i64 v3] [] fun r4 =>
     nilc x0 fun a6 =>
     ld (Addr.add (Addr.add a6 3) 1) (.lf (.int .i64)) fun v4 =>
     nilc r1.1 fun a7 =>
     st (Addr.add a7 1) [.int .i64 v4] <|
     K (.int .i64 11)) (
     nilc x0 fun a8 =>
     nilc x0 fun a9 =>
     ld (Addr.add (Addr.add a8 3) 1) (.lf (.int .i64)) fun v5 =>
     ld (Addr.add (Addr.add a9 3) 2) (.lf (.int .i64)) fun v6 =>
     cl PP 53 #[.pointer r1.1, .int .i64 v5, .int .i64 v6] [] fun r5 =>
     nilc x0 fun a10 =>
     ld (Addr.add (Addr.add a10 3) 3) (.lf (.int .i64)) fun v7 =>
     cl PP 66 #[.pointer r1.1, .int .i64 v7] [.lf .bool] fun r6 =>
     ifB r6.1 (
      K (.int .i64 10)) (
      K (.int .i64 0)))))
theorem e38 (x0 : Option Addr) (x1 : Int) (K : Value → HP) : flatFn PP h38 Try.f38 [.pointer x0, .int .i64 x1] K = t38 x0 x1 K := by kernel_rfl

/-- depot/depotlaw21.do1 -/
def h39 : Hints := ⟨[], [], []⟩
def t39 (x0 : Option Addr) (x1 : ShV (.agg [.int .i64, .int .i64, .int .i64, .sl, .int .i64, .int .i64])) (K : Value → HP) : HP :=
  nw (.cells #[.int .i64 x1.1, .int .i64 x1.2.1, .int .i64 x1.2.2.1, .slice x1.2.2.2.1.a x1.2.2.2.1.len x1.2.2.2.1.cap, .int .i64 x1.2.2.2.2.1, .int .i64 x1.2.2.2.2.2.1] 55) fun n1 =>
  ld ⟨n1, 0, none⟩ (.lf (.int .i64)) fun v1 =>
  ifB ((v1 : Int) == 0) (
   ld (Addr.add ⟨n1, 0, none⟩ 1) (.lf (.int .i64)) fun v2 =>
   ld (Addr.add ⟨n1, 0, none⟩ 2) (.lf (.int .i64)) fun v3 =>
   ld (Addr.add ⟨n1, 0, none⟩ 3) (.lf .sl) fun v4 =>
   cl PP 37 #[.pointer x0, .int .i64 v2, .int .i64 v3, .slice v4.a v4.len v4.cap] [.lf (.int .i64)] fun r1 =>
   K (.tuple #[])) (
   ifB ((v1 : Int) == 1) (
    ld (Addr.add ⟨n1, 0, none⟩ 1) (.lf (.int .i64)) fun v5 =>
    ld (Addr.add ⟨n1, 0, none⟩ 2) (.lf (.int .i64)) fun v6 =>
    cl PP 36 #[.pointer x0, .int .i64 v5, .int .i64 v6] [.lf .sl, .lf (.int .i64)] fun r2 =>
    K (.tuple #[])) (
    ifB ((v1 : Int) == 2) (
     ld (Addr.add ⟨n1, 0, none⟩ 1) (.lf (.int .i64)) fun v7 =>
     cl PP 38 #[.pointer x0, .int .i64 v7] [.lf (.int .i64)] fun r3 =>
     K (.tuple #[])) (
     ifB ((v1 : Int) == 3) (
      ld (Addr.add ⟨n1, 0, none⟩ 4) (.lf (.int .i64)) fun v8 =>
      ld (Addr.add ⟨n1, 0, none⟩ 5) (.lf (.int .i64)) fun v9 =>
      cl PP 34 #[.pointer x0, .int .i64 v8, .int .i64 v9] [] fun r4 =>
      K (.tuple #[])) (
      cl PP 35 #[.pointer x0] [] fun r5 =>
      K (.tuple #[])))))
theorem e39 (x0 : Option Addr) (x1 : ShV (.agg [.int .i64, .int .i64, .int .i64, .sl, .int .i64, .int .i64])) (K : Value → HP) : flatFn PP h39 Try.f39 [.pointer x0, .agg #[.int .i64 x1.1, .int .i64 x1.2.1, .int .i64 x1.2.2.1, .slice x1.2.2.2.1.a x1.2.2.2.1.len x1.2.2.2.1.cap, .int .i64 x1.2.2.2.2.1, .int .i64 x1.2.2.2.2.2.1]] K = t39 x0 x1 K := by kernel_rfl

/-- depot/depotlaw21.device -/
def h40 : Hints := ⟨[], [], []⟩
def t40 (K : Value → HP) : HP :=
  nw (.cells #[.int .i64 0, .int .i64 0, .int .i64 0, .int .i64 0] 44) fun n1 =>
  st ⟨n1, 0, none⟩ [.int .i64 2, .int .i64 4, .int .i64 64, .int .i64 3] <|
  ld ⟨n1, 0, none⟩ (.agg [.int .i64, .int .i64, .int .i64, .int .i64]) fun v1 =>
  K (.agg #[.int .i64 v1.1, .int .i64 v1.2.1, .int .i64 v1.2.2.1, .int .i64 v1.2.2.2.1])
theorem e40 (K : Value → HP) : flatFn PP h40 Try.f40 [] K = t40 K := by kernel_rfl

/-- depot/page.sized -/
def h41 : Hints := ⟨[], [], []⟩
def t41 (x0 : Int) (K : Value → HP) : HP :=
  ifB (decide ((x0 : Int) ≥ 64)) (
   K (.bool (decide ((x0 : Int) ≤ 512)))) (
   K (.bool false))
theorem e41 (x0 : Int) (K : Value → HP) : flatFn PP h41 Try.f41 [.int .i64 x0] K = t41 x0 K := by kernel_rfl

/-- depot/page.check -/
def h42 : Hints := ⟨[], [], []⟩
def t42 (x0 : ShV (.agg [.int .i64, .int .i64, .int .i64, .int .i64, .int .i64])) (K : Value → HP) : HP :=
  nw (.cells #[.int .i64 x0.1, .int .i64 x0.2.1, .int .i64 x0.2.2.1, .int .i64 x0.2.2.2.1, .int .i64 x0.2.2.2.2.1] 23) fun n1 =>
  ld ⟨n1, 0, none⟩ (.lf (.int .i64)) fun v1 =>
  ifB (decide ((v1 : Int) < 1)) (
   K (.int .i64 16)) (
   ld ⟨n1, 0, none⟩ (.lf (.int .i64)) fun v2 =>
   ifB (decide ((v2 : Int) > 4)) (
    K (.int .i64 16)) (
    ld (Addr.add ⟨n1, 0, none⟩ 2) (.lf (.int .i64)) fun v3 =>
    ifB (decide ((v3 : Int) < 1)) (
     K (.int .i64 3)) (
     ld (Addr.add ⟨n1, 0, none⟩ 2) (.lf (.int .i64)) fun v4 =>
     ifB (decide ((v4 : Int) > 16)) (
      K (.int .i64 3)) (
      ld (Addr.add ⟨n1, 0, none⟩ 1) (.lf (.int .i64)) fun v5 =>
      ifB (decide ((v5 : Int) < 0)) (
       K (.int .i64 3)) (
       ld (Addr.add ⟨n1, 0, none⟩ 1) (.lf (.int .i64)) fun v6 =>
       ld (Addr.add ⟨n1, 0, none⟩ 2) (.lf (.int .i64)) fun v7 =>
       ifB (decide ((v6 : Int) ≥ v7)) (
        K (.int .i64 3)) (
        ld (Addr.add ⟨n1, 0, none⟩ 3) (.lf (.int .i64)) fun v8 =>
        ifB (decide ((v8 : Int) < 1)) (
         K (.int .i64 3)) (
         ld (Addr.add ⟨n1, 0, none⟩ 3) (.lf (.int .i64)) fun v9 =>
         ifB (decide ((v9 : Int) > 1073741824)) (
          K (.int .i64 3)) (
          ld (Addr.add ⟨n1, 0, none⟩ 4) (.lf (.int .i64)) fun v10 =>
          ifB (decide ((v10 : Int) < 0)) (
           K (.int .i64 3)) (
           ld (Addr.add ⟨n1, 0, none⟩ 4) (.lf (.int .i64)) fun v11 =>
           ifB (decide ((v11 : Int) ≥ 16)) (
            K (.int .i64 3)) (
            K (.int .i64 0)))))))))))
theorem e42 (x0 : ShV (.agg [.int .i64, .int .i64, .int .i64, .int .i64, .int .i64])) (K : Value → HP) : flatFn PP h42 Try.f42 [.agg #[.int .i64 x0.1, .int .i64 x0.2.1, .int .i64 x0.2.2.1, .int .i64 x0.2.2.2.1, .int .i64 x0.2.2.2.2.1]] K = t42 x0 K := by kernel_rfl

/-- depot/page.put -/
def h43 : Hints := ⟨[(0, [(0, .lf .sl), (9, .lf (.int .i64))])], [], []⟩
def t43 (x0 : SlV) (x1 : SlV) (K : Value → HP) : HP :=
  lp [.lf .sl, .lf (.int .i64)] (⟨x0.a, x0.len, x0.cap⟩, 0, ()) fun z1 go1 =>   -- b, 
   ifB (decide ((z1.2.1 : Int) < x1.len)) (
    nilc x1.a fun a1 =>
    ixn z1.2.1 x1.len <|
    ld (Addr.add a1 (z1.2.1.toNat * 2)) (.agg [.int .i64, .int .i64]) fun v1 =>
    nw (.cells #[.int .i64 0, .int .i64 0] 80) fun n1 =>
    st ⟨n1, 0, none⟩ [.int .i64 v1.1, .int .i64 v1.2.1] <|
    ld ⟨n1, 0, none⟩ (.lf (.int .i64)) fun v2 =>
    ld (Addr.add ⟨n1, 0, none⟩ 1) (.lf (.int .i64)) fun v3 =>
    cl PP 67 #[.slice z1.1.a z1.1.len z1.1.cap, .int .i64 v2, .int .i64 v3] [.lf .sl, .lf (.int .i64)] fun r1 =>
    go1 (⟨r1.1.a, r1.1.len, r1.1.cap⟩, IntKind.i64.wrap (z1.2.1 + 1), ())) (
    K (.slice z1.1.a z1.1.len z1.1.cap))
theorem e43 (x0 : SlV) (x1 : SlV) (K : Value → HP) : flatFn PP h43 Try.f43 [.slice x0.a x0.len x0.cap, .slice x1.a x1.len x1.cap] K = t43 x0 x1 K := by kernel_rfl

/-- depot/crc.Sum -/
def h44 : Hints := ⟨[], [], []⟩
def t44 (x0 : SlV) (K : Value → HP) : HP :=
  cl PP 68 #[.int .i64 0, .slice x0.a x0.len x0.cap] [.lf (.int .i64)] fun r1 =>
  K (.int .i64 r1.1)
theorem e44 (x0 : SlV) (K : Value → HP) : flatFn PP h44 Try.f44 [.slice x0.a x0.len x0.cap] K = t44 x0 K := by kernel_rfl

/-- depot/depotref23.sized -/
def h45 : Hints := ⟨[], [], []⟩
def t45 (x0 : Int) (K : Value → HP) : HP :=
  ifB (decide ((x0 : Int) ≥ 64)) (
   K (.bool (decide ((x0 : Int) ≤ 512)))) (
   K (.bool false))
theorem e45 (x0 : Int) (K : Value → HP) : flatFn PP h45 Try.f45 [.int .i64 x0] K = t45 x0 K := by kernel_rfl

/-- depot/depotref23.right -/
def h46 : Hints := ⟨[], [], []⟩
def t46 (x0 : ShV (.agg [.int .i64, .int .i64, .int .i64, .int .i64, .int .i64])) (K : Value → HP) : HP :=
  nw (.cells #[.int .i64 x0.1, .int .i64 x0.2.1, .int .i64 x0.2.2.1, .int .i64 x0.2.2.2.1, .int .i64 x0.2.2.2.2.1] 23) fun n1 =>
  ld ⟨n1, 0, none⟩ (.lf (.int .i64)) fun v1 =>
  ifB (decide ((v1 : Int) < 1)) (
   K (.int .i64 16)) (
   ld ⟨n1, 0, none⟩ (.lf (.int .i64)) fun v2 =>
   ifB (decide ((v2 : Int) > 4)) (
    K (.int .i64 16)) (
    ld (Addr.add ⟨n1, 0, none⟩ 2) (.lf (.int .i64)) fun v3 =>
    ifB (decide ((v3 : Int) < 1)) (
     K (.int .i64 3)) (
     ld (Addr.add ⟨n1, 0, none⟩ 2) (.lf (.int .i64)) fun v4 =>
     ifB (decide ((v4 : Int) > 16)) (
      K (.int .i64 3)) (
      ld (Addr.add ⟨n1, 0, none⟩ 1) (.lf (.int .i64)) fun v5 =>
      ifB (decide ((v5 : Int) < 0)) (
       K (.int .i64 3)) (
       ld (Addr.add ⟨n1, 0, none⟩ 1) (.lf (.int .i64)) fun v6 =>
       ld (Addr.add ⟨n1, 0, none⟩ 2) (.lf (.int .i64)) fun v7 =>
       ifB (decide ((v6 : Int) ≥ v7)) (
        K (.int .i64 3)) (
        ld (Addr.add ⟨n1, 0, none⟩ 3) (.lf (.int .i64)) fun v8 =>
        ifB (decide ((v8 : Int) < 1)) (
         K (.int .i64 3)) (
         ld (Addr.add ⟨n1, 0, none⟩ 3) (.lf (.int .i64)) fun v9 =>
         ifB (decide ((v9 : Int) > 1073741824)) (
          K (.int .i64 3)) (
          ld (Addr.add ⟨n1, 0, none⟩ 4) (.lf (.int .i64)) fun v10 =>
          ifB (decide ((v10 : Int) < 0)) (
           K (.int .i64 3)) (
           ld (Addr.add ⟨n1, 0, none⟩ 4) (.lf (.int .i64)) fun v11 =>
           ifB (decide ((v11 : Int) > 15)) (
            K (.int .i64 3)) (
            K (.int .i64 0)))))))))))
theorem e46 (x0 : ShV (.agg [.int .i64, .int .i64, .int .i64, .int .i64, .int .i64])) (K : Value → HP) : flatFn PP h46 Try.f46 [.agg #[.int .i64 x0.1, .int .i64 x0.2.1, .int .i64 x0.2.2.1, .int .i64 x0.2.2.2.1, .int .i64 x0.2.2.2.2.1]] K = t46 x0 K := by kernel_rfl

/-- depot/depotref03.Put -/
def h47 : Hints := ⟨[(0, [(8, .lf .sl), (9, .lf (.int .i64)), (10, .lf (.int .i64))])], [], []⟩
def t47 (x0 : SlV) (x1 : Int) (x2 : Int) (K : Value → HP) : HP :=
  ifB (decide ((x2 : Int) < 1)) (
   K (.tuple #[.slice none 0 0, .int .i64 2])) (
   ifB (decide ((x2 : Int) > 7)) (
    K (.tuple #[.slice none 0 0, .int .i64 2])) (
    nw (.cells #[] 5) fun n1 =>
    smW PP (Builtin.append_ #[24, 24] 24 #[.slice (some ⟨n1, 0, none⟩) 0 0, .slice x0.a x0.len x0.cap]) [.lf .sl] fun v1 =>
    lp [.lf .sl, .lf (.int .i64), .lf (.int .i64)] (⟨v1.1.a, v1.1.len, v1.1.cap⟩, x1, 0, ()) fun z1 go1 =>   -- out, left, i
     ifB (decide ((z1.2.2.1 : Int) < x2)) (
      req ((256 : Int) ≠ 0) <|
      nw (.cells #[.int .u8 (IntKind.u8.wrap (Int.tmod z1.2.1 256))] 5) fun n2 =>
      smW PP (Builtin.append_ #[24, 24] 24 #[.slice z1.1.a z1.1.len z1.1.cap, .slice (some ⟨n2, 0, none⟩) 1 1]) [.lf .sl] fun v2 =>
      req ((256 : Int) ≠ 0) <|
      go1 (⟨v2.1.a, v2.1.len, v2.1.cap⟩, IntKind.i64.wrap (Int.tdiv z1.2.1 256), IntKind.i64.wrap (z1.2.2.1 + 1), ())) (
      ifB (decide ((x1 : Int) < 0)) (
       K (.tuple #[.slice none 0 0, .int .i64 3])) (
       ifB (decide ((z1.2.1 : Int) > 0)) (
        K (.tuple #[.slice none 0 0, .int .i64 3])) (
        K (.tuple #[.slice z1.1.a z1.1.len z1.1.cap, .int .i64 0]))))))
theorem e47 (x0 : SlV) (x1 : Int) (x2 : Int) (K : Value → HP) : flatFn PP h47 Try.f47 [.slice x0.a x0.len x0.cap, .int .i64 x1, .int .i64 x2] K = t47 x0 x1 x2 K := by kernel_rfl

/-- depot/depotref04.Sum -/
def h48 : Hints := ⟨[], [], []⟩
def t48 (x0 : SlV) (K : Value → HP) : HP :=
  cl PP 69 #[.int .i64 0, .slice x0.a x0.len x0.cap] [.lf (.int .i64)] fun r1 =>
  K (.int .i64 r1.1)
theorem e48 (x0 : SlV) (K : Value → HP) : flatFn PP h48 Try.f48 [.slice x0.a x0.len x0.cap] K = t48 x0 K := by kernel_rfl

/-- depot/crc.Check -/
def h49 : Hints := ⟨[], [], []⟩
def t49 (x0 : SlV) (x1 : Int) (K : Value → HP) : HP :=
  cl PP 44 #[.slice x0.a x0.len x0.cap] [.lf (.int .i64)] fun r1 =>
  K (.bool ((r1.1 : Int) == x1))
theorem e49 (x0 : SlV) (x1 : Int) (K : Value → HP) : flatFn PP h49 Try.f49 [.slice x0.a x0.len x0.cap, .int .i64 x1] K = t49 x0 x1 K := by kernel_rfl

/-- depot/page.at -/
def h50 : Hints := ⟨[], [], []⟩
def t50 (x0 : SlV) (x1 : Int) (x2 : Int) (K : Value → HP) : HP :=
  cl PP 70 #[.slice x0.a x0.len x0.cap, .int .i64 x1, .int .i64 x2] [.lf (.int .i64), .lf (.int .i64)] fun r1 =>
  K (.int .i64 r1.1)
theorem e50 (x0 : SlV) (x1 : Int) (x2 : Int) (K : Value → HP) : flatFn PP h50 Try.f50 [.slice x0.a x0.len x0.cap, .int .i64 x1, .int .i64 x2] K = t50 x0 x1 x2 K := by kernel_rfl

/-- depot/depotref03.Get -/
def h51 : Hints := ⟨[(0, [(8, .lf (.int .i64)), (9, .lf (.int .i64))])], [], []⟩
def t51 (x0 : SlV) (x1 : Int) (x2 : Int) (K : Value → HP) : HP :=
  ifB (decide ((x2 : Int) < 1)) (
   K (.tuple #[.int .i64 0, .int .i64 2])) (
   ifB (decide ((x2 : Int) > 7)) (
    K (.tuple #[.int .i64 0, .int .i64 2])) (
    ifB (decide ((x1 : Int) < 0)) (
     K (.tuple #[.int .i64 0, .int .i64 6])) (
     ifB (decide ((x1 : Int) > x0.len)) (
      K (.tuple #[.int .i64 0, .int .i64 6])) (
      ifB (decide ((IntKind.i64.wrap (x0.len - x1) : Int) < x2)) (
       K (.tuple #[.int .i64 0, .int .i64 6])) (
       lp [.lf (.int .i64), .lf (.int .i64)] (0, IntKind.i64.wrap (x2 - 1), ()) fun z1 go1 =>   -- n, i
        ifB (decide ((z1.2.1 : Int) ≥ 0)) (
         nilc x0.a fun a1 =>
         ixn (IntKind.i64.wrap (x1 + z1.2.1)) x0.len <|
         ld (Addr.add a1 ((IntKind.i64.wrap (x1 + z1.2.1)).toNat * 1)) (.lf (.int .u8)) fun v1 =>
         go1 (IntKind.i64.wrap ((IntKind.i64.wrap (256 * z1.1)) + (IntKind.i64.wrap v1)), IntKind.i64.wrap (z1.2.1 - 1), ())) (
         K (.tuple #[.int .i64 z1.1, .int .i64 0])))))))
theorem e51 (x0 : SlV) (x1 : Int) (x2 : Int) (K : Value → HP) : flatFn PP h51 Try.f51 [.slice x0.a x0.len x0.cap, .int .i64 x1, .int .i64 x2] K = t51 x0 x1 x2 K := by kernel_rfl

/-- depot/flash.within -/
def h52 : Hints := ⟨[], [], []⟩
def t52 (x0 : Int) (x1 : Int) (x2 : Int) (K : Value → HP) : HP :=
  ifB (decide ((x0 : Int) ≥ x1)) (
   K (.bool (decide ((x0 : Int) ≤ x2)))) (
   K (.bool false))
theorem e52 (x0 : Int) (x1 : Int) (x2 : Int) (K : Value → HP) : flatFn PP h52 Try.f52 [.int .i64 x0, .int .i64 x1, .int .i64 x2] K = t52 x0 x1 x2 K := by kernel_rfl

/-- (*depot/flash.block).wipe -/
def h53 : Hints := ⟨[(0, [(8, .lf (.int .i64))])], [], [(3, [0, 1, 2, 4, 5, 3, 6, 7, 8])]⟩
def t53 (x0 : Option Addr) (x1 : Int) (x2 : Int) (K : Value → HP) : HP :=
  lp [.lf (.int .i64)] (0, ()) fun z1 go1 =>   -- 
   ifB (decide ((z1.1 : Int) < x1)) (
    nilc x0 fun a1 =>
    ld a1 (.lf .sl) fun v1 =>
    cl PP 63 #[.int .i64 x2] [.lf .sl] fun r1 =>
    keep (LdAt a1 [.slice v1.a v1.len v1.cap]) <|
    nilc v1.a fun a2 =>
    ixn z1.1 v1.len <|
    st (Addr.add a2 (z1.1.toNat * 1)) [.slice r1.1.a r1.1.len r1.1.cap] <|
    go1 (IntKind.i64.wrap (z1.1 + 1), ())) (
    K (.tuple #[]))
theorem e53 (x0 : Option Addr) (x1 : Int) (x2 : Int) (K : Value → HP) : flatFn PP h53 Try.f53 [.pointer x0, .int .i64 x1, .int .i64 x2] K = t53 x0 x1 x2 K := by kernel_rfl

/-- depot/depotref21.Right -/
def h54 : Hints := ⟨[], [], []⟩
def t54 (x0 : ShV (.agg [.int .i64, .int .i64, .int .i64, .int .i64])) (K : Value → HP) : HP :=
  nw (.cells #[.int .i64 x0.1, .int .i64 x0.2.1, .int .i64 x0.2.2.1, .int .i64 x0.2.2.2.1] 44) fun n1 =>
  ld ⟨n1, 0, none⟩ (.lf (.int .i64)) fun v1 =>
  ifB (decide ((v1 : Int) ≥ 2)) (
   ld ⟨n1, 0, none⟩ (.lf (.int .i64)) fun v2 =>
   ifB (decide ((v2 : Int) ≤ 16)) (
    ld (Addr.add ⟨n1, 0, none⟩ 1) (.lf (.int .i64)) fun v3 =>
    ifB (decide ((v3 : Int) ≥ 4)) (
     ld (Addr.add ⟨n1, 0, none⟩ 1) (.lf (.int .i64)) fun v4 =>
     ifB (decide ((v4 : Int) ≤ 16)) (
      ld (Addr.add ⟨n1, 0, none⟩ 2) (.lf (.int .i64)) fun v5 =>
      ifB (decide ((v5 : Int) ≥ 64)) (
       ld (Addr.add ⟨n1, 0, none⟩ 2) (.lf (.int .i64)) fun v6 =>
       ifB (decide ((v6 : Int) ≤ 512)) (
        ld (Addr.add ⟨n1, 0, none⟩ 3) (.lf (.int .i64)) fun v7 =>
        ifB (decide ((v7 : Int) ≥ 1)) (
         ld (Addr.add ⟨n1, 0, none⟩ 3) (.lf (.int .i64)) fun v8 =>
         K (.bool (decide ((v8 : Int) ≤ 1048576)))) (
         K (.bool false))) (
        K (.bool false))) (
       K (.bool false))) (
      K (.bool false))) (
     K (.bool false))) (
    K (.bool false))) (
   K (.bool false))
theorem e54 (x0 : ShV (.agg [.int .i64, .int .i64, .int .i64, .int .i64])) (K : Value → HP) : flatFn PP h54 Try.f54 [.agg #[.int .i64 x0.1, .int .i64 x0.2.1, .int .i64 x0.2.2.1, .int .i64 x0.2.2.2.1]] K = t54 x0 K := by kernel_rfl

/-- depot/depotref21.blank -/
def h55 : Hints := ⟨[(0, [(4, .lf (.int .i64))])], [], []⟩
def t55 (x0 : Int) (K : Value → HP) : HP :=
  smA PP (Instr.makeSlice 24 (.int .i64 x0) (.int .i64 x0)) (.lf .sl) fun v1 =>
  lp [.lf (.int .i64)] (0, ()) fun z1 go1 =>   -- i
   ifB (decide ((z1.1 : Int) < x0)) (
    nilc v1.a fun a1 =>
    ixn z1.1 v1.len <|
    st (Addr.add a1 (z1.1.toNat * 1)) [.int .u8 255] <|
    go1 (IntKind.i64.wrap (z1.1 + 1), ())) (
    smR PP (Conv.bytesToString (.slice v1.a v1.len v1.cap)) [.lf .str] fun v2 =>
    K (.string v2.1))
theorem e55 (x0 : Int) (K : Value → HP) : flatFn PP h55 Try.f55 [.int .i64 x0] K = t55 x0 K := by kernel_rfl

/-- (*depot/depotref21.Flash).Program -/
def h56 : Hints := ⟨[], [], [(16, [0, 1, 2, 3, 5, 6, 8, 10, 11, 12, 14, 17, 4, 13, 15, 16, 18, 19, 7, 9, 20, 21, 22, 23, 24, 25, 26]), (15, [0, 1, 2, 4, 7, 8, 9, 10, 12, 13, 14, 15, 17, 3, 5, 6, 11, 16, 18, 19, 20, 21, 22]), (14, [0, 1, 2, 5, 6, 7, 8, 3, 4, 9, 10, 11]), (11, [0, 1, 2, 4, 7, 8, 3, 5, 6, 9, 10, 11]), (10, [0, 1, 2, 3, 5, 6, 7, 8, 4, 9, 10, 11, 12, 13])]⟩
def t56 (x0 : Option Addr) (x1 : Int) (x2 : Int) (x3 : SlV) (K : Value → HP) : HP :=
  nilc x0 fun a1 =>
  ld (Addr.add a1 9) (.lf .bool) fun v1 =>
  ifB v1 (
   K (.int .i64 11)) (
   cl PP 71 #[.pointer x0, .int .i64 x1, .int .i64 x2] [.lf .bool] fun r1 =>
   ifB (!r1.1) (
    K (.int .i64 2)) (
    nilc x0 fun a2 =>
    ld (Addr.add a2 2) (.lf (.int .i64)) fun v2 =>
    ifB ((x3.len : Int) != v2) (
     K (.int .i64 2)) (
     nilc x0 fun a3 =>
     ld (Addr.add a3 7) (.lf .sl) fun v3 =>
     nilc v3.a fun a4 =>
     ixn x1 v3.len <|
     ld (Addr.add a4 (x1.toNat * 1)) (.lf .bool) fun v4 =>
     ifB v4 (
      K (.int .i64 10)) (
      nilc x0 fun a5 =>
      ld (Addr.add a5 5) (.lf .sl) fun v5 =>
      nilc v5.a fun a6 =>
      ixn x1 v5.len <|
      ld (Addr.add a6 (x1.toNat * 1)) (.lf (.int .i64)) fun v6 =>
      ifB ((v6 : Int) != x2) (
       K (.int .i64 9)) (
       nilc x0 fun a7 =>
       ld (Addr.add a7 5) (.lf .sl) fun v7 =>
       nilc v7.a fun a8 =>
       ixn x1 v7.len <|
       st (Addr.add a8 (x1.toNat * 1)) [.int .i64 (IntKind.i64.wrap (x2 + 1))] <|
       nilc x0 fun a9 =>
       nilc x0 fun a10 =>
       ld (Addr.add a9 8) (.lf (.int .i64)) fun v8 =>
       ld (Addr.add a10 2) (.lf (.int .i64)) fun v9 =>
       nilc x0 fun a11 =>
       st (Addr.add a11 8) [.int .i64 (IntKind.i64.wrap (v8 + v9))] <|
       nilc x0 fun a12 =>
       ld (Addr.add a12 4) (.lf .sl) fun v10 =>
       nilc v10.a fun a13 =>
       ixn x1 v10.len <|
       ld (Addr.add a13 (x1.toNat * 1)) (.lf .sl) fun v11 =>
       smR PP (Conv.bytesToString (.slice x3.a x3.len x3.cap)) [.lf .str] fun v12 =>
       nilc v11.a fun a14 =>
       ixn x2 v11.len <|
       st (Addr.add a14 (x2.toNat * 1)) [.string v12.1] <|
       cl PP 72 #[.pointer x0] [.lf .bool] fun r2 =>
       ifB (!r2.1) (
        K (.int .i64 0)) (
        nilc x0 fun a15 =>
        nilc x0 fun a16 =>
        ld (Addr.add a15 11) (.lf (.int .i64)) fun v13 =>
        ld (Addr.add a16 2) (.lf (.int .i64)) fun v14 =>
        nilc x0 fun a17 =>
        slc ⟨x3.a, x3.len, x3.cap⟩ 0 (imin (imax v13 0) v14) x3.cap 1 fun s1 =>
        nilc x0 fun a18 =>
        ld (Addr.add a17 4) (.lf .sl) fun v15 =>
        nilc v15.a fun a19 =>
        ixn x1 v15.len <|
        ld (Addr.add a19 (x1.toNat * 1)) (.lf .sl) fun v16 =>
        smR PP (Conv.bytesToString (.slice s1.a s1.len s1.cap)) [.lf .str] fun v17 =>
        ld (Addr.add a18 2) (.lf (.int .i64)) fun v18 =>
        cl PP 55 #[.int .i64 (IntKind.i64.wrap (v18 - (imin (imax v13 0) v14)))] [.lf .str] fun r3 =>
        keep (RdV PP (Conv.bytesToString (.slice s1.a s1.len s1.cap)) (.string v17.1)) <|
        keep (LdAt (Addr.add a19 (x1.toNat * 1)) [.slice v16.a v16.len v16.cap]) <|
        keep (LdAt (Addr.add a17 4) [.slice v15.a v15.len v15.cap]) <|
        req (((v17.1.size + r3.1.size : Nat) : Int) ≤ IntKind.i64.max) <|
        nilc v16.a fun a20 =>
        ixn x2 v16.len <|
        st (Addr.add a20 (x2.toNat * 1)) [.string (v17.1 ++ r3.1)] <|
        nilc x0 fun a21 =>
        nilc x0 fun a22 =>
        ld (Addr.add a21 12) (.lf .sl) fun v19 =>
        ld (Addr.add a22 4) (.lf .sl) fun v20 =>
        nilc v20.a fun a23 =>
        ixn x1 v20.len <|
        ld (Addr.add a23 (x1.toNat * 1)) (.lf .sl) fun v21 =>
        nilc v21.a fun a24 =>
        ixn x2 v21.len <|
        ld (Addr.add a24 (x2.toNat * 1)) (.lf .str) fun v22 =>
        nw (.cells #[] 5) fun n1 =>
        smW PP (Builtin.append_ #[24, 24] 24 #[.slice (some ⟨n1, 0, none⟩) 0 0, .slice x3.a x3.len x3.cap]) [.lf .sl] fun v23 =>
        keep (LdAt (Addr.add a24 (x2.toNat * 1)) [.string v22]) <|
        keep (LdAt (Addr.add a23 (x1.toNat * 1)) [.slice v21.a v21.len v21.cap]) <|
        keep (LdAt (Addr.add a22 4) [.slice v20.a v20.len v20.cap]) <|
        keep (LdAt (Addr.add a21 12) [.slice v19.a v19.len v19.cap]) <|
        smA PP (Conv.stringToBytes 5 v22) (.lf .sl) fun v24 =>
        nw (.cells #[.int .i64 x1, .int .i64 x2, .slice v23.1.a v23.1.len v23.1.cap, .slice v24.a v24.len v24.cap] 76) fun n2 =>
        smW PP (Builtin.append_ #[60, 60] 60 #[.slice v19.a v19.len v19.cap, .slice (some ⟨n2, 0, none⟩) 1 1]) [.lf .sl] fun v25 =>
        nilc x0 fun a25 =>
        st (Addr.add a25 12) [.slice v25.1.a v25.1.len v25.1.cap] <|
        K (.int .i64 11)))))))
theorem e56 (x0 : Option Addr) (x1 : Int) (x2 : Int) (x3 : SlV) (K : Value → HP) : flatFn PP h56 Try.f56 [.pointer x0, .int .i64 x1, .int .i64 x2, .slice x3.a x3.len x3.cap] K = t56 x0 x1 x2 x3 K := by kernel_rfl

/-- (*depot/depotref21.Flash).Read -/
def h57 : Hints := ⟨[], [], []⟩
def t57 (x0 : Option Addr) (x1 : Int) (x2 : Int) (K : Value → HP) : HP :=
  nilc x0 fun a1 =>
  ld (Addr.add a1 9) (.lf .bool) fun v1 =>
  ifB v1 (
   K (.tuple #[.slice none 0 0, .int .i64 11])) (
   cl PP 71 #[.pointer x0, .int .i64 x1, .int .i64 x2] [.lf .bool] fun r1 =>
   ifB (!r1.1) (
    K (.tuple #[.slice none 0 0, .int .i64 2])) (
    nilc x0 fun a2 =>
    ld (Addr.add a2 7) (.lf .sl) fun v2 =>
    nilc v2.a fun a3 =>
    ixn x1 v2.len <|
    ld (Addr.add a3 (x1.toNat * 1)) (.lf .bool) fun v3 =>
    ifB v3 (
     nilc x0 fun a4 =>
     ld (Addr.add a4 2) (.lf (.int .i64)) fun v4 =>
     cl PP 55 #[.int .i64 v4] [.lf .str] fun r2 =>
     smA PP (Conv.stringToBytes 5 r2.1) (.lf .sl) fun v5 =>
     K (.tuple #[.slice v5.a v5.len v5.cap, .int .i64 0])) (
     nilc x0 fun a5 =>
     ld (Addr.add a5 4) (.lf .sl) fun v6 =>
     nilc v6.a fun a6 =>
     ixn x1 v6.len <|
     ld (Addr.add a6 (x1.toNat * 1)) (.lf .sl) fun v7 =>
     nilc v7.a fun a7 =>
     ixn x2 v7.len <|
     ld (Addr.add a7 (x2.toNat * 1)) (.lf .str) fun v8 =>
     smA PP (Conv.stringToBytes 5 v8) (.lf .sl) fun v9 =>
     K (.tuple #[.slice v9.a v9.len v9.cap, .int .i64 0]))))
theorem e57 (x0 : Option Addr) (x1 : Int) (x2 : Int) (K : Value → HP) : flatFn PP h57 Try.f57 [.pointer x0, .int .i64 x1, .int .i64 x2] K = t57 x0 x1 x2 K := by kernel_rfl

end Go.Proofs.Ytaniefdpjommnaa
