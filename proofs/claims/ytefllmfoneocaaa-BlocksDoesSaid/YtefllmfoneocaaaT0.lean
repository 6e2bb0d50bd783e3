/-
  It is proved that the functions of the program are the trees that are printed here. There are no further conditions.
-/
import Derived.Test.YtefllmfoneocaaaHL12
import Derived.Test.YtefllmfoneocaaaProg
import Derived.KernelRfl
set_option linter.unusedVariables false
set_option maxRecDepth 100000
namespace Go.Proofs.Ytefllmfoneocaaa
open Go.HL
noncomputable abbrev PP : Program := Try.prog
theorem noNum : NoNum PP := by unfold NoNum; kernel_rfl
theorem mixed : PP.follows .mixedOrders = true := by kernel_rfl

/-- depot/depotlaw03.WirePuts -/
def h3 : Hints := ⟨[], [], []⟩
def t3 (x0 : SlV) (x1 : Int) (x2 : Int) (x3 : Int) (K : Value → HP) : HP :=
  ifB (decide ((x0.len : Int) > 300)) (
   cl PP 15 #[] [.lf .bool] fun r1 =>
   K (.bool r1.1)) (
   smR PP (Conv.bytesToString (.slice x0.a x0.len x0.cap)) [.lf .str] fun v1 =>
   cl PP 16 #[.slice x0.a x0.len x0.cap, .int .i64 x1, .int .i64 x2] [.lf .sl, .lf (.int .i64)] fun r2 =>
   cl PP 17 #[.slice x0.a x0.len x0.cap, .int .i64 x1, .int .i64 x2] [.lf .sl, .lf (.int .i64)] fun r3 =>
   cl PP 18 #[.slice x0.a x0.len x0.cap, .int .i64 x3, .int .i64 x2] [.lf (.int .i64), .lf (.int .i64)] fun r4 =>
   cl PP 19 #[.slice x0.a x0.len x0.cap, .int .i64 x3, .int .i64 x2] [.lf (.int .i64), .lf (.int .i64)] fun r5 =>
   cl PP 20 #[.slice x0.a x0.len x0.cap, .string v1.1] [.lf .sl, .lf (.int .i64)] fun r6 =>
   cl PP 21 #[.slice x0.a x0.len x0.cap, .string v1.1] [.lf .sl, .lf (.int .i64)] fun r7 =>
   cl PP 22 #[.slice r2.1.a r2.1.len r2.1.cap, .slice r3.1.a r3.1.len r3.1.cap] [.lf .bool] fun r8 =>
   ifB r8.1 (
    ifB ((r2.2.1 : Int) == r3.2.1) (
     ifB ((r4.1 : Int) == r5.1) (
      ifB ((r4.2.1 : Int) == r5.2.1) (
       cl PP 22 #[.slice r6.1.a r6.1.len r6.1.cap, .slice r7.1.a r7.1.len r7.1.cap] [.lf .bool] fun r9 =>
       ifB r9.1 (
        ifB ((r6.2.1 : Int) == r7.2.1) (
         smR PP (Conv.bytesToString (.slice x0.a x0.len x0.cap)) [.lf .str] fun v2 =>
         ifB (ByteArray.toList v2.1 == ByteArray.toList v1.1) (
          cl PP 15 #[] [.lf .bool] fun r10 =>
          K (.bool r10.1)) (
          K (.bool false))) (
         K (.bool false))) (
        K (.bool false))) (
       K (.bool false))) (
      K (.bool false))) (
     K (.bool false))) (
    K (.bool false)))
theorem e3 (x0 : SlV) (x1 : Int) (x2 : Int) (x3 : Int) (K : Value → HP) : flatFn PP h3 Try.f3 [.slice x0.a x0.len x0.cap, .int .i64 x1, .int .i64 x2, .int .i64 x3] K = t3 x0 x1 x2 x3 K := by kernel_rfl

/-- depot/depotlaw03.WireBack -/
def h4 : Hints := ⟨[(0, [(5, .lf .sl), (6, .lf (.int .i64))]), (2, [(12, .lf (.int .i64))])], [], []⟩
def t4 (x0 : SlV) (x1 : ByteArray) (K : Value → HP) : HP :=
  ifB (decide ((x0.len : Int) > 40)) (
   cl PP 15 #[] [.lf .bool] fun r1 =>
   K (.bool r1.1)) (
   ifB (decide ((x1.size : Int) > 300)) (
    cl PP 15 #[] [.lf .bool] fun r2 =>
    K (.bool r2.1)) (
    lp [.lf .sl, .lf (.int .i64)] (⟨none, 0, 0⟩, 0, ()) fun z1 go1 =>   -- b, i
     ifB (decide ((z1.2.1 : Int) < x0.len)) (
      nilc x0.a fun a1 =>
      ixn z1.2.1 x0.len <|
      ld (Addr.add a1 (z1.2.1.toNat * 1)) (.lf (.int .i64)) fun v1 =>
      ifB (decide ((v1 : Int) < 0)) (
       cl PP 15 #[] [.lf .bool] fun r3 =>
       K (.bool r3.1)) (
       nilc x0.a fun a2 =>
       ixn z1.2.1 x0.len <|
       ld (Addr.add a2 (z1.2.1.toNat * 1)) (.lf (.int .i64)) fun v2 =>
       ifB (decide ((v2 : Int) ≥ 1099511627776)) (
        cl PP 15 #[] [.lf .bool] fun r4 =>
        K (.bool r4.1)) (
        nilc x0.a fun a3 =>
        ixn z1.2.1 x0.len <|
        ld (Addr.add a3 (z1.2.1.toNat * 1)) (.lf (.int .i64)) fun v3 =>
        cl PP 16 #[.slice z1.1.a z1.1.len z1.1.cap, .int .i64 v3, .int .i64 5] [.lf .sl, .lf (.int .i64)] fun r5 =>
        cl PP 20 #[.slice r5.1.a r5.1.len r5.1.cap, .string x1] [.lf .sl, .lf (.int .i64)] fun r6 =>
        ifB ((r5.2.1 : Int) != 0) (
         K (.bool false)) (
         ifB ((r6.2.1 : Int) != 0) (
          K (.bool false)) (
          ifB ((r5.1.len : Int) != (IntKind.i64.wrap (z1.1.len + 5))) (
           K (.bool false)) (
           ifB ((r6.1.len : Int) != (IntKind.i64.wrap ((IntKind.i64.wrap (r5.1.len + 4)) + x1.size))) (
            K (.bool false)) (
            go1 (⟨r6.1.a, r6.1.len, r6.1.cap⟩, IntKind.i64.wrap (z1.2.1 + 1), ())))))))) (
      cl PP 23 #[.slice z1.1.a z1.1.len z1.1.cap] [.lf .ptr] fun r7 =>
      lp [.lf (.int .i64)] (0, ()) fun z2 go2 =>   -- i
       ifB (decide ((z2.1 : Int) < x0.len)) (
        cl PP 24 #[.pointer r7.1, .int .i64 5] [.lf (.int .i64), .lf (.int .i64)] fun r8 =>
        cl PP 25 #[.pointer r7.1] [.lf .str, .lf (.int .i64)] fun r9 =>
        nilc x0.a fun a4 =>
        ixn z2.1 x0.len <|
        ld (Addr.add a4 (z2.1.toNat * 1)) (.lf (.int .i64)) fun v4 =>
        ifB ((r8.1 : Int) != v4) (
         K (.bool false)) (
         ifB ((r8.2.1 : Int) != 0) (
          K (.bool false)) (
          ifB (!(ByteArray.toList r9.1 == ByteArray.toList x1)) (
           K (.bool false)) (
           ifB ((r9.2.1 : Int) != 0) (
            K (.bool false)) (
            go2 (IntKind.i64.wrap (z2.1 + 1), ())))))) (
        cl PP 26 #[.pointer r7.1] [.lf (.int .i64)] fun r10 =>
        ifB ((r10.1 : Int) == 0) (
         cl PP 15 #[] [.lf .bool] fun r11 =>
         K (.bool r11.1)) (
         K (.bool false))))))
theorem e4 (x0 : SlV) (x1 : ByteArray) (K : Value → HP) : flatFn PP h4 Try.f4 [.slice x0.a x0.len x0.cap, .string x1] K = t4 x0 x1 K := by kernel_rfl

/-- depot/depotlaw03.WireKeeps -/
def h5 : Hints := ⟨[(0, [(8, .lf (.int .i64))])], [], []⟩
def t5 (x0 : SlV) (x1 : Int) (K : Value → HP) : HP :=
  ifB (decide ((x0.len : Int) > 300)) (
   cl PP 15 #[] [.lf .bool] fun r1 =>
   K (.bool r1.1)) (
   cl PP 23 #[.slice x0.a x0.len x0.cap] [.lf .ptr] fun r2 =>
   nw (.cells #[] 5) fun n1 =>
   smW PP (Builtin.append_ #[22, 22] 22 #[.slice (some ⟨n1, 0, none⟩) 0 0, .slice x0.a x0.len x0.cap]) [.lf .sl] fun v1 =>
   cl PP 23 #[.slice v1.1.a v1.1.len v1.1.cap] [.lf .ptr] fun r3 =>
   lp [.lf (.int .i64)] (0, ()) fun z1 go1 =>   -- i
    ifB (decide ((z1.1 : Int) < v1.1.len)) (
     nilc v1.1.a fun a1 =>
     ixn z1.1 v1.1.len <|
     ld (Addr.add a1 (z1.1.toNat * 1)) (.lf (.int .u8)) fun v2 =>
     nilc v1.1.a fun a2 =>
     ixn z1.1 v1.1.len <|
     st (Addr.add a2 (z1.1.toNat * 1)) [.int .u8 (bitI .xor .u8 v2 255)] <|
     go1 (IntKind.i64.wrap (z1.1 + 1), ())) (
     cl PP 24 #[.pointer r2.1, .int .i64 x1] [.lf (.int .i64), .lf (.int .i64)] fun r4 =>
     cl PP 24 #[.pointer r3.1, .int .i64 x1] [.lf (.int .i64), .lf (.int .i64)] fun r5 =>
     ifB ((r4.1 : Int) != r5.1) (
      K (.bool false)) (
      ifB ((r4.2.1 : Int) != r5.2.1) (
       K (.bool false)) (
       cl PP 26 #[.pointer r2.1] [.lf (.int .i64)] fun r6 =>
       cl PP 26 #[.pointer r3.1] [.lf (.int .i64)] fun r7 =>
       ifB ((r6.1 : Int) != r7.1) (
        K (.bool false)) (
        ifB ((r4.2.1 : Int) != 0) (
         cl PP 26 #[.pointer r2.1] [.lf (.int .i64)] fun r8 =>
         ifB ((r8.1 : Int) != x0.len) (
          K (.bool false)) (
          ifB ((r4.2.1 : Int) == 0) (
           cl PP 26 #[.pointer r2.1] [.lf (.int .i64)] fun r9 =>
           ifB ((r9.1 : Int) != (IntKind.i64.wrap (x0.len - x1))) (
            K (.bool false)) (
            cl PP 26 #[.pointer r2.1] [.lf (.int .i64)] fun r10 =>
            cl PP 25 #[.pointer r2.1] [.lf .str, .lf (.int .i64)] fun r11 =>
            ifB ((r11.2.1 : Int) == 0) (
             cl PP 15 #[] [.lf .bool] fun r12 =>
             K (.bool r12.1)) (
             cl PP 26 #[.pointer r2.1] [.lf (.int .i64)] fun r13 =>
             ifB ((r13.1 : Int) == r10.1) (
              cl PP 15 #[] [.lf .bool] fun r14 =>
              K (.bool r14.1)) (
              K (.bool false))))) (
           cl PP 26 #[.pointer r2.1] [.lf (.int .i64)] fun r15 =>
           cl PP 25 #[.pointer r2.1] [.lf .str, .lf (.int .i64)] fun r16 =>
           ifB ((r16.2.1 : Int) == 0) (
            cl PP 15 #[] [.lf .bool] fun r17 =>
            K (.bool r17.1)) (
            cl PP 26 #[.pointer r2.1] [.lf (.int .i64)] fun r18 =>
            ifB ((r18.1 : Int) == r15.1) (
             cl PP 15 #[] [.lf .bool] fun r19 =>
             K (.bool r19.1)) (
             K (.bool false)))))) (
         ifB ((r4.2.1 : Int) == 0) (
          cl PP 26 #[.pointer r2.1] [.lf (.int .i64)] fun r20 =>
          ifB ((r20.1 : Int) != (IntKind.i64.wrap (x0.len - x1))) (
           K (.bool false)) (
           cl PP 26 #[.pointer r2.1] [.lf (.int .i64)] fun r21 =>
           cl PP 25 #[.pointer r2.1] [.lf .str, .lf (.int .i64)] fun r22 =>
           ifB ((r22.2.1 : Int) == 0) (
            cl PP 15 #[] [.lf .bool] fun r23 =>
            K (.bool r23.1)) (
            cl PP 26 #[.pointer r2.1] [.lf (.int .i64)] fun r24 =>
            ifB ((r24.1 : Int) == r21.1) (
             cl PP 15 #[] [.lf .bool] fun r25 =>
             K (.bool r25.1)) (
             K (.bool false))))) (
          cl PP 26 #[.pointer r2.1] [.lf (.int .i64)] fun r26 =>
          cl PP 25 #[.pointer r2.1] [.lf .str, .lf (.int .i64)] fun r27 =>
          ifB ((r27.2.1 : Int) == 0) (
           cl PP 15 #[] [.lf .bool] fun r28 =>
           K (.bool r28.1)) (
           cl PP 26 #[.pointer r2.1] [.lf (.int .i64)] fun r29 =>
           ifB ((r29.1 : Int) == r26.1) (
            cl PP 15 #[] [.lf .bool] fun r30 =>
            K (.bool r30.1)) (
            K (.bool false))))))))))
theorem e5 (x0 : SlV) (x1 : Int) (K : Value → HP) : flatFn PP h5 Try.f5 [.slice x0.a x0.len x0.cap, .int .i64 x1] K = t5 x0 x1 K := by kernel_rfl

/-- depot/depotlaw27.QueueOrder -/
def h6 : Hints := ⟨[(0, [(8, .lf (.int .i64))]), (2, [(10, .lf (.int .i64))]), (4, [(13, .lf (.int .i64))]), (6, [(14, .lf (.int .i64))]), (8, [(15, .lf .bool), (16, .lf (.int .i64))])], [], [(28, [0, 1, 2, 3, 5, 6, 7, 8, 4, 9, 10, 11, 12, 13, 15, 16, 17, 18, 14, 19, 20, 21, 22, 23, 24, 25, 26, 27, 28, 29, 30, 31, 32, 33, 34, 35, 36, 37, 38, 40, 39, 41, 42, 43]), (25, [0, 1, 2, 3, 4, 5, 7, 8, 9, 10, 6, 11, 12, 13, 14])]⟩
def t6 (x0 : Int) (x1 : SlV) (x2 : ByteArray) (K : Value → HP) : HP :=
  cl PP 27 #[.slice x1.a x1.len x1.cap, .int .i64 60, .int .i64 300] [.lf .bool] fun r1 =>
  ifB (!r1.1) (
   cl PP 28 #[] [.lf .bool] fun r2 =>
   K (.bool r2.1)) (
   ifB (decide ((x2.size : Int) > 300)) (
    cl PP 28 #[] [.lf .bool] fun r3 =>
    K (.bool r3.1)) (
    cl PP 29 #[.int .i64 x0] [.lf .ptr] fun r4 =>
    lp [.lf (.int .i64)] (0, ()) fun z1 go1 =>   -- i
     ifB (decide ((z1.1 : Int) < x1.len)) (
      nw (.cells #[] 5) fun n1 =>
      nilc x1.a fun a1 =>
      ixn z1.1 x1.len <|
      ld (Addr.add (Addr.add a1 (z1.1.toNat * 3)) 2) (.lf .sl) fun v1 =>
      smW PP (Builtin.append_ #[22, 22] 22 #[.slice (some ⟨n1, 0, none⟩) 0 0, .slice v1.a v1.len v1.cap]) [.lf .sl] fun v2 =>
      nilc x1.a fun a2 =>
      ixn z1.1 x1.len <|
      ld (Addr.add (Addr.add a2 (z1.1.toNat * 3)) 1) (.lf .str) fun v3 =>
      cl PP 30 #[.pointer r4.1, .string v3, .slice v2.1.a v2.1.len v2.1.cap] [] fun r5 =>
      lp [.lf (.int .i64)] (0, ()) fun z2 go2 =>   -- k
       ifB (decide ((z2.1 : Int) < v2.1.len)) (
        nilc v2.1.a fun a3 =>
        ixn z2.1 v2.1.len <|
        ld (Addr.add a3 (z2.1.toNat * 1)) (.lf (.int .u8)) fun v4 =>
        nilc v2.1.a fun a4 =>
        ixn z2.1 v2.1.len <|
        st (Addr.add a4 (z2.1.toNat * 1)) [.int .u8 (bitI .xor .u8 v4 255)] <|
        go2 (IntKind.i64.wrap (z2.1 + 1), ())) (
        cl PP 31 #[.pointer r4.1, .string x2] [.lf .sl, .lf .bool] fun r6 =>
        lp [.lf (.int .i64)] (0, ()) fun z3 go3 =>   -- k
         ifB (decide ((z3.1 : Int) < r6.1.len)) (
          nilc r6.1.a fun a5 =>
          ixn z3.1 r6.1.len <|
          ld (Addr.add a5 (z3.1.toNat * 1)) (.lf (.int .u8)) fun v5 =>
          nilc r6.1.a fun a6 =>
          ixn z3.1 r6.1.len <|
          st (Addr.add a6 (z3.1.toNat * 1)) [.int .u8 (bitI .xor .u8 v5 255)] <|
          go3 (IntKind.i64.wrap (z3.1 + 1), ())) (
          go1 (IntKind.i64.wrap (z1.1 + 1), ())))) (
      lp [.lf (.int .i64)] (0, ()) fun z4 go4 =>   -- i
       ifB (decide ((z4.1 : Int) < x1.len)) (
        lp [.lf .bool, .lf (.int .i64)] (false, IntKind.i64.wrap (z4.1 + 1), ()) fun z5 go5 =>   -- again, k
         ifB (decide ((z5.2.1 : Int) < x1.len)) (
          ifB z5.1 (
           go5 (true, IntKind.i64.wrap (z5.2.1 + 1), ())) (
           nilc x1.a fun a7 =>
           ixn z5.2.1 x1.len <|
           nilc x1.a fun a8 =>
           ixn z4.1 x1.len <|
           ld (Addr.add (Addr.add a7 (z5.2.1.toNat * 3)) 1) (.lf .str) fun v6 =>
           ld (Addr.add (Addr.add a8 (z4.1.toNat * 3)) 1) (.lf .str) fun v7 =>
           go5 (ByteArray.toList v6 == ByteArray.toList v7, IntKind.i64.wrap (z5.2.1 + 1), ()))) (
          ifB z5.1 (
           go4 (IntKind.i64.wrap (z4.1 + 1), ())) (
           cl PP 32 #[.pointer r4.1] [.agg [.str, .sl, .int .i64], .lf .bool] fun r7 =>
           nw (.cells #[.string ByteArray.empty, .slice none 0 0, .int .i64 0] 56) fun n2 =>
           st ⟨n2, 0, none⟩ [.string r7.1.1, .slice r7.1.2.1.a r7.1.2.1.len r7.1.2.1.cap, .int .i64 r7.1.2.2.1] <|
           ifB (!r7.2.1) (
            K (.bool false)) (
            nilc x1.a fun a9 =>
            ixn z4.1 x1.len <|
            ld ⟨n2, 0, none⟩ (.lf .str) fun v8 =>
            ld (Addr.add (Addr.add a9 (z4.1.toNat * 3)) 1) (.lf .str) fun v9 =>
            ifB (!(ByteArray.toList v8 == ByteArray.toList v9)) (
             K (.bool false)) (
             nilc x1.a fun a10 =>
             ixn z4.1 x1.len <|
             ld (Addr.add ⟨n2, 0, none⟩ 1) (.lf .sl) fun v10 =>
             ld (Addr.add (Addr.add a10 (z4.1.toNat * 3)) 2) (.lf .sl) fun v11 =>
             cl PP 22 #[.slice v10.a v10.len v10.cap, .slice v11.a v11.len v11.cap] [.lf .bool] fun r8 =>
             ifB (!r8.1) (
              K (.bool false)) (
              ld (Addr.add ⟨n2, 0, none⟩ 2) (.lf (.int .i64)) fun v12 =>
              ifB (decide ((v12 : Int) < 0)) (
               K (.bool false)) (
               ld (Addr.add ⟨n2, 0, none⟩ 2) (.lf (.int .i64)) fun v13 =>
               ifB (decide ((v13 : Int) > 3)) (
                K (.bool false)) (
                ld (Addr.add ⟨n2, 0, none⟩ 2) (.lf (.int .i64)) fun v14 =>
                ifB (decide ((v14 : Int) > 0)) (
                 ld ⟨n2, 0, none⟩ (.lf .str) fun v15 =>
                 ifB (!(ByteArray.toList v15 == ByteArray.toList x2)) (
                  K (.bool false)) (
                  go4 (IntKind.i64.wrap (z4.1 + 1), ()))) (
                 go4 (IntKind.i64.wrap (z4.1 + 1), ())))))))))) (
        cl PP 32 #[.pointer r4.1] [.agg [.str, .sl, .int .i64], .lf .bool] fun r9 =>
        nw (.cells #[.string ByteArray.empty, .slice none 0 0, .int .i64 0] 56) fun n3 =>
        st ⟨n3, 0, none⟩ [.string r9.1.1, .slice r9.1.2.1.a r9.1.2.1.len r9.1.2.1.cap, .int .i64 r9.1.2.2.1] <|
        ifB (!r9.2.1) (
         cl PP 33 #[.pointer r4.1] [.lf (.int .i64)] fun r10 =>
         cl PP 34 #[.pointer r4.1] [.lf (.int .i64)] fun r11 =>
         ifB ((IntKind.i64.wrap (r10.1 + r11.1) : Int) == 0) (
          cl PP 35 #[.pointer r4.1] [.lf .bool] fun r12 =>
          ifB (!r12.1) (
           cl PP 28 #[] [.lf .bool] fun r13 =>
           K (.bool r13.1)) (
           K (.bool false))) (
          K (.bool false))) (
         K (.bool false))))))
theorem e6 (x0 : Int) (x1 : SlV) (x2 : ByteArray) (K : Value → HP) : flatFn PP h6 Try.f6 [.int .i64 x0, .slice x1.a x1.len x1.cap, .string x2] K = t6 x0 x1 x2 K := by kernel_rfl

/-- depot/depotlaw27.QueueDoes -/
def h7 : Hints := ⟨[(0, [(7, .lf (.int .i64))])], [], [(9, [0, 1, 2, 3, 4, 5, 6, 7, 8, 9, 10, 11, 12, 13, 14, 15, 16, 17, 18, 19, 20, 22, 21, 23, 24, 25, 26, 27, 29, 28, 30, 31, 32, 33, 34, 36, 37, 38, 39, 40, 35, 41, 42, 43, 44, 45, 46, 47, 48, 51, 52, 53, 54, 55, 49, 56, 50, 57, 58, 59])]⟩
def t7 (x0 : Int) (x1 : SlV) (K : Value → HP) : HP :=
  cl PP 27 #[.slice x1.a x1.len x1.cap, .int .i64 200, .int .i64 300] [.lf .bool] fun r1 =>
  ifB (!r1.1) (
   cl PP 28 #[] [.lf .bool] fun r2 =>
   K (.bool r2.1)) (
   cl PP 29 #[.int .i64 x0] [.lf .ptr] fun r3 =>
   cl PP 36 #[.int .i64 x0] [.lf .ptr] fun r4 =>
   lp [.lf (.int .i64)] (0, ()) fun z1 go1 =>   -- i
    ifB (decide ((z1.1 : Int) < x1.len)) (
     nilc x1.a fun a1 =>
     ixn z1.1 x1.len <|
     ld (Addr.add (Addr.add a1 (z1.1.toNat * 3)) 1) (.lf .str) fun v1 =>
     cl PP 37 #[.pointer r3.1, .string v1] [.lf .sl, .lf .bool] fun r5 =>
     nilc x1.a fun a2 =>
     ixn z1.1 x1.len <|
     ld (Addr.add (Addr.add a2 (z1.1.toNat * 3)) 1) (.lf .str) fun v2 =>
     cl PP 38 #[.pointer r4.1, .string v2] [.lf .sl, .lf .bool] fun r6 =>
     cl PP 22 #[.slice r5.1.a r5.1.len r5.1.cap, .slice r6.1.a r6.1.len r6.1.cap] [.lf .bool] fun r7 =>
     ifB (!r7.1) (
      K (.bool false)) (
      ifB (!(r5.2.1 == r6.2.1)) (
       K (.bool false)) (
       nilc x1.a fun a3 =>
       ixn z1.1 x1.len <|
       ld (Addr.add a3 (z1.1.toNat * 3)) (.agg [.int .i64, .str, .sl]) fun v3 =>
       cl PP 39 #[.pointer r3.1, .pointer r4.1, .agg #[.int .i64 v3.1, .string v3.2.1, .slice v3.2.2.1.a v3.2.2.1.len v3.2.2.1.cap]] [.lf .bool] fun r8 =>
       ifB (!r8.1) (
        K (.bool false)) (
        cl PP 33 #[.pointer r3.1] [.lf (.int .i64)] fun r9 =>
        cl PP 40 #[.pointer r4.1] [.lf (.int .i64)] fun r10 =>
        ifB ((r9.1 : Int) != r10.1) (
         K (.bool false)) (
         cl PP 35 #[.pointer r3.1] [.lf .bool] fun r11 =>
         cl PP 41 #[.pointer r4.1] [.lf .bool] fun r12 =>
         ifB (!(r11.1 == r12.1)) (
          K (.bool false)) (
          nilc r4.1 fun a4 =>
          ld (Addr.add a4 1) (.lf .sl) fun v4 =>
          cl PP 34 #[.pointer r3.1] [.lf (.int .i64)] fun r13 =>
          keep (LdAt (Addr.add a4 1) [.slice v4.a v4.len v4.cap]) <|
          ifB ((r13.1 : Int) != v4.len) (
           K (.bool false)) (
           nilc x1.a fun a5 =>
           ixn z1.1 x1.len <|
           nilc x1.a fun a6 =>
           ixn z1.1 x1.len <|
           ld (Addr.add (Addr.add a5 (z1.1.toNat * 3)) 1) (.lf .str) fun v5 =>
           ld (Addr.add (Addr.add a6 (z1.1.toNat * 3)) 1) (.lf .str) fun v6 =>
           cl PP 42 #[.pointer r3.1, .string v5] [.lf .bool] fun r14 =>
           keep (LdAt (Addr.add (Addr.add a6 (z1.1.toNat * 3)) 1) [.string v6]) <|
           cl PP 43 #[.pointer r4.1, .string v6] [.lf .bool] fun r15 =>
           ifB (!(r14.1 == r15.1)) (
            K (.bool false)) (
            go1 (IntKind.i64.wrap (z1.1 + 1), ()))))))))) (
     cl PP 28 #[] [.lf .bool] fun r16 =>
     K (.bool r16.1)))
theorem e7 (x0 : Int) (x1 : SlV) (K : Value → HP) : flatFn PP h7 Try.f7 [.int .i64 x0, .slice x1.a x1.len x1.cap] K = t7 x0 x1 K := by kernel_rfl

/-- depot/depotlaw27.QueueNil -/
def h8 : Hints := ⟨[], [], []⟩
def t8 (x0 : ShV (.agg [.int .i64, .str, .sl])) (K : Value → HP) : HP :=
  nw (.cells #[.int .i64 x0.1, .string x0.2.1, .slice x0.2.2.1.a x0.2.2.1.len x0.2.2.1.cap] 51) fun n1 =>
  ld (Addr.add ⟨n1, 0, none⟩ 1) (.lf .str) fun v1 =>
  ifB (decide ((v1.size : Int) > 300)) (
   cl PP 28 #[] [.lf .bool] fun r1 =>
   K (.bool r1.1)) (
   ld (Addr.add ⟨n1, 0, none⟩ 2) (.lf .sl) fun v2 =>
   ifB (decide ((v2.len : Int) > 300)) (
    cl PP 28 #[] [.lf .bool] fun r2 =>
    K (.bool r2.1)) (
    ld (Addr.add ⟨n1, 0, none⟩ 1) (.lf .str) fun v3 =>
    ld (Addr.add ⟨n1, 0, none⟩ 2) (.lf .sl) fun v4 =>
    cl PP 30 #[.pointer none, .string v3, .slice v4.a v4.len v4.cap] [] fun r3 =>
    ld (Addr.add ⟨n1, 0, none⟩ 1) (.lf .str) fun v5 =>
    cl PP 31 #[.pointer none, .string v5] [.lf .sl, .lf .bool] fun r4 =>
    cl PP 32 #[.pointer none] [.agg [.str, .sl, .int .i64], .lf .bool] fun r5 =>
    nw (.cells #[.string ByteArray.empty, .slice none 0 0, .int .i64 0] 56) fun n2 =>
    st ⟨n2, 0, none⟩ [.string r5.1.1, .slice r5.1.2.1.a r5.1.2.1.len r5.1.2.1.cap, .int .i64 r5.1.2.2.1] <|
    ld (Addr.add ⟨n1, 0, none⟩ 1) (.lf .str) fun v6 =>
    cl PP 37 #[.pointer none, .string v6] [.lf .sl, .lf .bool] fun r6 =>
    ifB ((r4.1.len : Int) == 0) (
     ifB (!r4.2.1) (
      ifB (!r6.2.1) (
       ld ⟨n2, 0, none⟩ (.lf .str) fun v7 =>
       ifB (ByteArray.toList v7 == ByteArray.toList ⟨#[]⟩) (
        ifB (!r5.2.1) (
         ld (Addr.add ⟨n1, 0, none⟩ 1) (.lf .str) fun v8 =>
         cl PP 44 #[.pointer none, .string v8] [.lf .bool] fun r7 =>
         ifB (!r7.1) (
          ld (Addr.add ⟨n1, 0, none⟩ 1) (.lf .str) fun v9 =>
          cl PP 42 #[.pointer none, .string v9] [.lf .bool] fun r8 =>
          ifB (!r8.1) (
           cl PP 35 #[.pointer none] [.lf .bool] fun r9 =>
           ifB (!r9.1) (
            cl PP 33 #[.pointer none] [.lf (.int .i64)] fun r10 =>
            cl PP 34 #[.pointer none] [.lf (.int .i64)] fun r11 =>
            ifB ((IntKind.i64.wrap (r10.1 + r11.1) : Int) == 0) (
             cl PP 28 #[] [.lf .bool] fun r12 =>
             K (.bool r12.1)) (
             K (.bool false))) (
            K (.bool false))) (
           K (.bool false))) (
          K (.bool false))) (
         K (.bool false))) (
        K (.bool false))) (
       K (.bool false))) (
      K (.bool false))) (
     K (.bool false))))
theorem e8 (x0 : ShV (.agg [.int .i64, .str, .sl])) (K : Value → HP) : flatFn PP h8 Try.f8 [.agg #[.int .i64 x0.1, .string x0.2.1, .slice x0.2.2.1.a x0.2.2.1.len x0.2.2.1.cap]] K = t8 x0 K := by kernel_rfl

/-- depot/depotlaw03.WireReads -/
def h9 : Hints := ⟨[(0, [(6, .lf (.int .i64)), (7, .lf (.int .i64))])], [(27, [(6, .lf (.int .i64))])], []⟩
def t9 (x0 : SlV) (x1 : SlV) (K : Value → HP) : HP :=
  ifB (decide ((x0.len : Int) > 300)) (
   cl PP 15 #[] [.lf .bool] fun r1 =>
   K (.bool r1.1)) (
   ifB (decide ((x1.len : Int) > 60)) (
    cl PP 15 #[] [.lf .bool] fun r2 =>
    K (.bool r2.1)) (
    cl PP 23 #[.slice x0.a x0.len x0.cap] [.lf .ptr] fun r3 =>
    lp [.lf (.int .i64), .lf (.int .i64)] (0, 0, ()) fun z1 go1 =>   -- at, i
     ifB (decide ((z1.2.1 : Int) < x1.len)) (
      jn (fun y1 : RsV [.lf (.int .i64)] =>
       cl PP 26 #[.pointer r3.1] [.lf (.int .i64)] fun r10 =>
       ifB ((r10.1 : Int) != (IntKind.i64.wrap (x0.len - y1.1))) (
        K (.bool false)) (
        go1 (y1.1, IntKind.i64.wrap (z1.2.1 + 1), ()))) fun j1 =>
      nilc x1.a fun a1 =>
       ixn z1.2.1 x1.len <|
       ld (Addr.add a1 (z1.2.1.toNat * 2)) (.lf (.int .i64)) fun v1 =>
       ifB ((v1 : Int) == 0) (
        cl PP 25 #[.pointer r3.1] [.lf .str, .lf (.int .i64)] fun r4 =>
        cl PP 45 #[.slice x0.a x0.len x0.cap, .int .i64 z1.1] [.lf .str, .lf (.int .i64), .lf (.int .i64)] fun r5 =>
        ifB (!(ByteArray.toList r4.1 == ByteArray.toList r5.1)) (
         K (.bool false)) (
         ifB ((r4.2.1 : Int) != r5.2.2.1) (
          K (.bool false)) (
          j1 (r5.2.1, ())))) (
        ifB ((v1 : Int) == 1) (
         cl PP 46 #[.pointer r3.1] [.lf .bool, .lf (.int .i64)] fun r6 =>
         cl PP 47 #[.slice x0.a x0.len x0.cap, .int .i64 z1.1] [.lf .bool, .lf (.int .i64), .lf (.int .i64)] fun r7 =>
         ifB (!(r6.1 == r7.1)) (
          K (.bool false)) (
          ifB ((r6.2.1 : Int) != r7.2.2.1) (
           K (.bool false)) (
           j1 (r7.2.1, ())))) (
         nilc x1.a fun a2 =>
         ixn z1.2.1 x1.len <|
         ld (Addr.add (Addr.add a2 (z1.2.1.toNat * 2)) 1) (.lf (.int .i64)) fun v2 =>
         cl PP 24 #[.pointer r3.1, .int .i64 v2] [.lf (.int .i64), .lf (.int .i64)] fun r8 =>
         nilc x1.a fun a3 =>
         ixn z1.2.1 x1.len <|
         ld (Addr.add (Addr.add a3 (z1.2.1.toNat * 2)) 1) (.lf (.int .i64)) fun v3 =>
         cl PP 19 #[.slice x0.a x0.len x0.cap, .int .i64 z1.1, .int .i64 v3] [.lf (.int .i64), .lf (.int .i64)] fun r9 =>
         ifB ((r8.1 : Int) != r9.1) (
          K (.bool false)) (
          ifB ((r8.2.1 : Int) != r9.2.1) (
           K (.bool false)) (
           ifB ((r9.2.1 : Int) == 0) (
            nilc x1.a fun a4 =>
            ixn z1.2.1 x1.len <|
            ld (Addr.add (Addr.add a4 (z1.2.1.toNat * 2)) 1) (.lf (.int .i64)) fun v4 =>
            j1 (IntKind.i64.wrap (z1.1 + v4), ())) (
            j1 (z1.1, ()))))))) (
      cl PP 15 #[] [.lf .bool] fun r11 =>
      K (.bool r11.1))))
theorem e9 (x0 : SlV) (x1 : SlV) (K : Value → HP) : flatFn PP h9 Try.f9 [.slice x0.a x0.len x0.cap, .slice x1.a x1.len x1.cap] K = t9 x0 x1 K := by kernel_rfl

/-- depot/depotlaw26.IndexNil -/
def h10 : Hints := ⟨[], [], [(3, [1, 0, 2, 3, 4, 5, 6, 7, 8, 9, 10, 11, 12, 13, 14, 15, 16, 17, 19, 18, 20, 21, 22, 23, 24, 25, 26, 28, 27, 29, 30, 31, 32, 33, 34, 35, 37, 39, 36, 38, 40, 41, 42, 43, 44, 45, 46, 48, 51, 52, 56, 47, 49, 53, 50, 54, 55, 57, 58, 59, 60, 61, 62, 63, 64])]⟩
def t10 (x0 : ShV (.agg [.int .i64, .int .u64, .int .i64, .int .i64, .int .i64, .int .i64, .int .i64, .int .i64])) (K : Value → HP) : HP :=
  nw (.cells #[.int .i64 x0.1, .int .u64 x0.2.1, .int .i64 x0.2.2.1, .int .i64 x0.2.2.2.1, .int .i64 x0.2.2.2.2.1, .int .i64 x0.2.2.2.2.2.1, .int .i64 x0.2.2.2.2.2.2.1, .int .i64 x0.2.2.2.2.2.2.2.1] 83) fun n1 =>
  ld (Addr.add ⟨n1, 0, none⟩ 1) (.lf (.int .u64)) fun v1 =>
  ld (Addr.add ⟨n1, 0, none⟩ 2) (.agg [.int .i64, .int .i64, .int .i64]) fun v2 =>
  cl PP 48 #[.pointer none, .int .u64 v1, .agg #[.int .i64 v2.1, .int .i64 v2.2.1, .int .i64 v2.2.2.1]] [.agg [.int .i64, .int .i64, .int .i64], .lf .bool] fun r1 =>
  nw (.cells #[.int .i64 0, .int .i64 0, .int .i64 0] 81) fun n2 =>
  st ⟨n2, 0, none⟩ [.int .i64 r1.1.1, .int .i64 r1.1.2.1, .int .i64 r1.1.2.2.1] <|
  ld ⟨n2, 0, none⟩ (.agg [.int .i64, .int .i64, .int .i64]) fun v3 =>
  smP PP (binOp .eql 81 (.agg #[.int .i64 v3.1, .int .i64 v3.2.1, .int .i64 v3.2.2.1]) (.agg #[.int .i64 0, .int .i64 0, .int .i64 0])) (.lf .bool) fun v4 =>
  ifB v4 (
   ifB (!r1.2.1) (
    ld (Addr.add ⟨n1, 0, none⟩ 1) (.lf (.int .u64)) fun v5 =>
    cl PP 49 #[.pointer none, .int .u64 v5] [.lf .sl] fun r2 =>
    ifB ((r2.1.len : Int) == 0) (
     ld (Addr.add ⟨n1, 0, none⟩ 1) (.lf (.int .u64)) fun v6 =>
     ld (Addr.add ⟨n1, 0, none⟩ 2) (.agg [.int .i64, .int .i64, .int .i64]) fun v7 =>
     cl PP 50 #[.pointer none, .int .u64 v6, .agg #[.int .i64 v7.1, .int .i64 v7.2.1, .int .i64 v7.2.2.1]] [.lf .bool] fun r3 =>
     ifB (!r3.1) (
      ld (Addr.add ⟨n1, 0, none⟩ 1) (.lf (.int .u64)) fun v8 =>
      ld (Addr.add ⟨n1, 0, none⟩ 2) (.agg [.int .i64, .int .i64, .int .i64]) fun v9 =>
      cl PP 51 #[.pointer none, .int .u64 v8, .agg #[.int .i64 v9.1, .int .i64 v9.2.1, .int .i64 v9.2.2.1]] [.lf .bool] fun r4 =>
      ifB (!r4.1) (
       ld (Addr.add ⟨n1, 0, none⟩ 1) (.lf (.int .u64)) fun v10 =>
       ld (Addr.add ⟨n1, 0, none⟩ 2) (.agg [.int .i64, .int .i64, .int .i64]) fun v11 =>
       ld (Addr.add ⟨n1, 0, none⟩ 5) (.agg [.int .i64, .int .i64, .int .i64]) fun v12 =>
       cl PP 52 #[.pointer none, .int .u64 v10, .agg #[.int .i64 v11.1, .int .i64 v11.2.1, .int .i64 v11.2.2.1], .agg #[.int .i64 v12.1, .int .i64 v12.2.1, .int .i64 v12.2.2.1]] [.lf .bool] fun r5 =>
       ifB (!r5.1) (
        ld (Addr.add ⟨n1, 0, none⟩ 1) (.lf (.int .u64)) fun v13 =>
        ld (Addr.add ⟨n1, 0, none⟩ 2) (.agg [.int .i64, .int .i64, .int .i64]) fun v14 =>
        ld (Addr.add ⟨n1, 0, none⟩ 1) (.lf (.int .u64)) fun v15 =>
        cl PP 53 #[.pointer none, .int .u64 v13, .agg #[.int .i64 v14.1, .int .i64 v14.2.1, .int .i64 v14.2.2.1]] [.lf (.int .i64)] fun r6 =>
        keep (LdAt (Addr.add ⟨n1, 0, none⟩ 1) [.int .u64 v15]) <|
        cl PP 54 #[.pointer none, .int .u64 v15] [.lf (.int .i64)] fun r7 =>
        cl PP 55 #[.pointer none] [.lf (.int .i64)] fun r8 =>
        ifB ((IntKind.i64.wrap ((IntKind.i64.wrap (r6.1 + r7.1)) + r8.1) : Int) == 0) (
         cl PP 56 #[] [.lf .bool] fun r9 =>
         K (.bool r9.1)) (
         K (.bool false))) (
        K (.bool false))) (
       K (.bool false))) (
      K (.bool false))) (
     K (.bool false))) (
    K (.bool false))) (
   K (.bool false))
theorem e10 (x0 : ShV (.agg [.int .i64, .int .u64, .int .i64, .int .i64, .int .i64, .int .i64, .int .i64, .int .i64])) (K : Value → HP) : flatFn PP h10 Try.f10 [.agg #[.int .i64 x0.1, .int .u64 x0.2.1, .int .i64 x0.2.2.1, .int .i64 x0.2.2.2.1, .int .i64 x0.2.2.2.2.1, .int .i64 x0.2.2.2.2.2.1, .int .i64 x0.2.2.2.2.2.2.1, .int .i64 x0.2.2.2.2.2.2.2.1]] K = t10 x0 K := by kernel_rfl

/-- depot/depotlaw26.IndexFinds -/
def h11 : Hints := ⟨[(0, [(15, .lf (.int .i64))]), (2, [(20, .lf (.int .i64))]), (4, [(21, .lf (.int .i64))])], [], [(27, [0, 1, 2, 3, 4, 5]), (22, [0, 1, 2, 3, 4, 6, 7, 8, 9, 5, 10, 11]), (15, [0, 1, 2, 3, 4, 5, 6, 7, 8, 9, 10, 11, 12, 13, 14, 15, 16, 17, 18, 19, 20, 21, 22, 23, 25, 24, 26, 27, 28, 29, 30, 31, 32, 33, 35, 36, 34, 37, 38, 39]), (10, [0, 1, 2, 3, 4, 7, 5, 6, 8, 9, 10, 12, 13, 14, 11, 15, 16, 17, 18, 19, 20, 21, 22, 24, 25, 26, 27, 23, 28, 29, 30, 31])]⟩
def t11 (x0 : Int) (x1 : Int) (x2 : SlV) (x3 : Int) (x4 : ShV (.agg [.int .i64, .int .i64, .int .i64])) (x5 : SlV) (K : Value → HP) : HP :=
  nw (.cells #[.int .i64 x4.1, .int .i64 x4.2.1, .int .i64 x4.2.2.1] 81) fun n1 =>
  cl PP 57 #[.int .i64 x0, .int .i64 x1] [.lf .ptr, .lf (.int .i64)] fun r1 =>
  ifB ((r1.2.1 : Int) != 0) (
   ifB (decide ((x0 : Int) < 1)) (
    cl PP 56 #[] [.lf .bool] fun r2 =>
    K (.bool r2.1)) (
    ifB (decide ((x0 : Int) > 64)) (
     cl PP 56 #[] [.lf .bool] fun r3 =>
     K (.bool r3.1)) (
     ifB (decide ((x1 : Int) < 1)) (
      cl PP 56 #[] [.lf .bool] fun r4 =>
      K (.bool r4.1)) (
      ifB (decide ((x1 : Int) > 8)) (
       cl PP 56 #[] [.lf .bool] fun r5 =>
       K (.bool r5.1)) (
       K (.bool false)))))) (
   ifB (decide ((x2.len : Int) > 300)) (
    cl PP 56 #[] [.lf .bool] fun r6 =>
    K (.bool r6.1)) (
    ifB (decide ((x5.len : Int) ≥ x1)) (
     cl PP 56 #[] [.lf .bool] fun r7 =>
     K (.bool r7.1)) (
     lp [.lf (.int .i64)] (0, ()) fun z1 go1 =>   -- i
      ifB (decide ((z1.1 : Int) < x2.len)) (
       nilc x2.a fun a1 =>
       ixn z1.1 x2.len <|
       ld (Addr.add a1 (z1.1.toNat * 8)) (.agg [.int .i64, .int .u64, .int .i64, .int .i64, .int .i64, .int .i64, .int .i64, .int .i64]) fun v1 =>
       cl PP 58 #[.pointer r1.1, .agg #[.int .i64 v1.1, .int .u64 v1.2.1, .int .i64 v1.2.2.1, .int .i64 v1.2.2.2.1, .int .i64 v1.2.2.2.2.1, .int .i64 v1.2.2.2.2.2.1, .int .i64 v1.2.2.2.2.2.2.1, .int .i64 v1.2.2.2.2.2.2.2.1]] [] fun r8 =>
       nilc x2.a fun a2 =>
       ixn z1.1 x2.len <|
       ld (Addr.add (Addr.add a2 (z1.1.toNat * 8)) 1) (.lf (.int .u64)) fun v2 =>
       cl PP 54 #[.pointer r1.1, .int .u64 v2] [.lf (.int .i64)] fun r9 =>
       ifB (decide ((r9.1 : Int) > x1)) (
        K (.bool false)) (
        cl PP 55 #[.pointer r1.1] [.lf (.int .i64)] fun r10 =>
        ifB (decide ((r10.1 : Int) > (IntKind.i64.wrap (x0 * x1)))) (
         K (.bool false)) (
         nilc x2.a fun a3 =>
         ixn z1.1 x2.len <|
         nilc x2.a fun a4 =>
         ixn z1.1 x2.len <|
         ld (Addr.add (Addr.add a3 (z1.1.toNat * 8)) 1) (.lf (.int .u64)) fun v3 =>
         ld (Addr.add (Addr.add a4 (z1.1.toNat * 8)) 2) (.agg [.int .i64, .int .i64, .int .i64]) fun v4 =>
         cl PP 53 #[.pointer r1.1, .int .u64 v3, .agg #[.int .i64 v4.1, .int .i64 v4.2.1, .int .i64 v4.2.2.1]] [.lf (.int .i64)] fun r11 =>
         ifB (decide ((r11.1 : Int) > 3)) (
          K (.bool false)) (
          go1 (IntKind.i64.wrap (z1.1 + 1), ()))))) (
       cl PP 55 #[.pointer r1.1] [.lf (.int .i64)] fun r12 =>
       ld ⟨n1, 0, none⟩ (.agg [.int .i64, .int .i64, .int .i64]) fun v5 =>
       cl PP 48 #[.pointer r1.1, .int .u64 x3, .agg #[.int .i64 v5.1, .int .i64 v5.2.1, .int .i64 v5.2.2.1]] [.agg [.int .i64, .int .i64, .int .i64], .lf .bool] fun r13 =>
       nw (.cells #[.int .i64 0, .int .i64 0, .int .i64 0] 81) fun n2 =>
       st ⟨n2, 0, none⟩ [.int .i64 r13.1.1, .int .i64 r13.1.2.1, .int .i64 r13.1.2.2.1] <|
       cl PP 49 #[.pointer r1.1, .int .u64 x3] [.lf .sl] fun r14 =>
       ifB ((r14.1.len : Int) == 0) (
        K (.bool false)) (
        nilc r14.1.a fun a5 =>
        ixn (IntKind.i64.wrap (r14.1.len - 1)) r14.1.len <|
        ld (Addr.add a5 ((IntKind.i64.wrap (r14.1.len - 1)).toNat * 3)) (.agg [.int .i64, .int .i64, .int .i64]) fun v6 =>
        ld ⟨n1, 0, none⟩ (.agg [.int .i64, .int .i64, .int .i64]) fun v7 =>
        smP PP (binOp .neq 81 (.agg #[.int .i64 v6.1, .int .i64 v6.2.1, .int .i64 v6.2.2.1]) (.agg #[.int .i64 v7.1, .int .i64 v7.2.1, .int .i64 v7.2.2.1])) (.lf .bool) fun v8 =>
        ifB v8 (
         K (.bool false)) (
         ld ⟨n1, 0, none⟩ (.agg [.int .i64, .int .i64, .int .i64]) fun v9 =>
         cl PP 53 #[.pointer r1.1, .int .u64 x3, .agg #[.int .i64 v9.1, .int .i64 v9.2.1, .int .i64 v9.2.2.1]] [.lf (.int .i64)] fun r15 =>
         ifB ((r15.1 : Int) != 0) (
          K (.bool false)) (
          ifB r13.2.1 (
           cl PP 55 #[.pointer r1.1] [.lf (.int .i64)] fun r16 =>
           ifB ((r16.1 : Int) != r12.1) (
            K (.bool false)) (
            ifB (!r13.2.1) (
             cl PP 55 #[.pointer r1.1] [.lf (.int .i64)] fun r17 =>
             ifB (decide ((r17.1 : Int) > (IntKind.i64.wrap (r12.1 + 1)))) (
              K (.bool false)) (
              lp [.lf (.int .i64)] (0, ()) fun z2 go2 =>   -- i
               ifB (decide ((z2.1 : Int) < x5.len)) (
                nilc x5.a fun a6 =>
                ixn z2.1 x5.len <|
                ld (Addr.add a6 (z2.1.toNat * 8)) (.lf (.int .i64)) fun v10 =>
                ifB ((v10 : Int) != 0) (
                 cl PP 56 #[] [.lf .bool] fun r18 =>
                 K (.bool r18.1)) (
                 nilc x5.a fun a7 =>
                 ixn z2.1 x5.len <|
                 nilc x5.a fun a8 =>
                 ixn z2.1 x5.len <|
                 ld (Addr.add (Addr.add a7 (z2.1.toNat * 8)) 1) (.lf (.int .u64)) fun v11 =>
                 ld (Addr.add (Addr.add a8 (z2.1.toNat * 8)) 2) (.agg [.int .i64, .int .i64, .int .i64]) fun v12 =>
                 cl PP 48 #[.pointer r1.1, .int .u64 v11, .agg #[.int .i64 v12.1, .int .i64 v12.2.1, .int .i64 v12.2.2.1]] [.agg [.int .i64, .int .i64, .int .i64], .lf .bool] fun r19 =>
                 go2 (IntKind.i64.wrap (z2.1 + 1), ()))) (
                cl PP 49 #[.pointer r1.1, .int .u64 x3] [.lf .sl] fun r20 =>
                lp [.lf (.int .i64)] (0, ()) fun z3 go3 =>   -- i
                 ifB (decide ((z3.1 : Int) < r20.1.len)) (
                  nilc r20.1.a fun a9 =>
                  ixn z3.1 r20.1.len <|
                  ld (Addr.add a9 (z3.1.toNat * 3)) (.agg [.int .i64, .int .i64, .int .i64]) fun v13 =>
                  ld ⟨n1, 0, none⟩ (.agg [.int .i64, .int .i64, .int .i64]) fun v14 =>
                  smP PP (binOp .eql 81 (.agg #[.int .i64 v13.1, .int .i64 v13.2.1, .int .i64 v13.2.2.1]) (.agg #[.int .i64 v14.1, .int .i64 v14.2.1, .int .i64 v14.2.2.1])) (.lf .bool) fun v15 =>
                  ifB v15 (
                   cl PP 56 #[] [.lf .bool] fun r21 =>
                   K (.bool r21.1)) (
                   go3 (IntKind.i64.wrap (z3.1 + 1), ()))) (
                  K (.bool false))))) (
             lp [.lf (.int .i64)] (0, ()) fun z4 go4 =>   -- i
              ifB (decide ((z4.1 : Int) < x5.len)) (
               nilc x5.a fun a10 =>
               ixn z4.1 x5.len <|
               ld (Addr.add a10 (z4.1.toNat * 8)) (.lf (.int .i64)) fun v16 =>
               ifB ((v16 : Int) != 0) (
                cl PP 56 #[] [.lf .bool] fun r22 =>
                K (.bool r22.1)) (
                nilc x5.a fun a11 =>
                ixn z4.1 x5.len <|
                nilc x5.a fun a12 =>
                ixn z4.1 x5.len <|
                ld (Addr.add (Addr.add a11 (z4.1.toNat * 8)) 1) (.lf (.int .u64)) fun v17 =>
                ld (Addr.add (Addr.add a12 (z4.1.toNat * 8)) 2) (.agg [.int .i64, .int .i64, .int .i64]) fun v18 =>
                cl PP 48 #[.pointer r1.1, .int .u64 v17, .agg #[.int .i64 v18.1, .int .i64 v18.2.1, .int .i64 v18.2.2.1]] [.agg [.int .i64, .int .i64, .int .i64], .lf .bool] fun r23 =>
                go4 (IntKind.i64.wrap (z4.1 + 1), ()))) (
               cl PP 49 #[.pointer r1.1, .int .u64 x3] [.lf .sl] fun r24 =>
               lp [.lf (.int .i64)] (0, ()) fun z5 go5 =>   -- i
                ifB (decide ((z5.1 : Int) < r24.1.len)) (
                 nilc r24.1.a fun a13 =>
                 ixn z5.1 r24.1.len <|
                 ld (Addr.add a13 (z5.1.toNat * 3)) (.agg [.int .i64, .int .i64, .int .i64]) fun v19 =>
                 ld ⟨n1, 0, none⟩ (.agg [.int .i64, .int .i64, .int .i64]) fun v20 =>
                 smP PP (binOp .eql 81 (.agg #[.int .i64 v19.1, .int .i64 v19.2.1, .int .i64 v19.2.2.1]) (.agg #[.int .i64 v20.1, .int .i64 v20.2.1, .int .i64 v20.2.2.1])) (.lf .bool) fun v21 =>
                 ifB v21 (
                  cl PP 56 #[] [.lf .bool] fun r25 =>
                  K (.bool r25.1)) (
                  go5 (IntKind.i64.wrap (z5.1 + 1), ()))) (
                 K (.bool false)))))) (
           ifB (!r13.2.1) (
            cl PP 55 #[.pointer r1.1] [.lf (.int .i64)] fun r26 =>
            ifB (decide ((r26.1 : Int) > (IntKind.i64.wrap (r12.1 + 1)))) (
             K (.bool false)) (
             lp [.lf (.int .i64)] (0, ()) fun z6 go6 =>   -- i
              ifB (decide ((z6.1 : Int) < x5.len)) (
               nilc x5.a fun a14 =>
               ixn z6.1 x5.len <|
               ld (Addr.add a14 (z6.1.toNat * 8)) (.lf (.int .i64)) fun v22 =>
               ifB ((v22 : Int) != 0) (
                cl PP 56 #[] [.lf .bool] fun r27 =>
                K (.bool r27.1)) (
                nilc x5.a fun a15 =>
                ixn z6.1 x5.len <|
                nilc x5.a fun a16 =>
                ixn z6.1 x5.len <|
                ld (Addr.add (Addr.add a15 (z6.1.toNat * 8)) 1) (.lf (.int .u64)) fun v23 =>
                ld (Addr.add (Addr.add a16 (z6.1.toNat * 8)) 2) (.agg [.int .i64, .int .i64, .int .i64]) fun v24 =>
                cl PP 48 #[.pointer r1.1, .int .u64 v23, .agg #[.int .i64 v24.1, .int .i64 v24.2.1, .int .i64 v24.2.2.1]] [.agg [.int .i64, .int .i64, .int .i64], .lf .bool] fun r28 =>
                go6 (IntKind.i64.wrap (z6.1 + 1), ()))) (
               cl PP 49 #[.pointer r1.1, .int .u64 x3] [.lf .sl] fun r29 =>
               lp [.lf (.int .i64)] (0, ()) fun z7 go7 =>   -- i
                ifB (decide ((z7.1 : Int) < r29.1.len)) (
                 nilc r29.1.a fun a17 =>
                 ixn z7.1 r29.1.len <|
                 ld (Addr.add a17 (z7.1.toNat * 3)) (.agg [.int .i64, .int .i64, .int .i64]) fun v25 =>
                 ld ⟨n1, 0, none⟩ (.agg [.int .i64, .int .i64, .int .i64]) fun v26 =>
                 smP PP (binOp .eql 81 (.agg #[.int .i64 v25.1, .int .i64 v25.2.1, .int .i64 v25.2.2.1]) (.agg #[.int .i64 v26.1, .int .i64 v26.2.1, .int .i64 v26.2.2.1])) (.lf .bool) fun v27 =>
                 ifB v27 (
                  cl PP 56 #[] [.lf .bool] fun r30 =>
                  K (.bool r30.1)) (
                  go7 (IntKind.i64.wrap (z7.1 + 1), ()))) (
                 K (.bool false))))) (
            lp [.lf (.int .i64)] (0, ()) fun z8 go8 =>   -- i
             ifB (decide ((z8.1 : Int) < x5.len)) (
              nilc x5.a fun a18 =>
              ixn z8.1 x5.len <|
              ld (Addr.add a18 (z8.1.toNat * 8)) (.lf (.int .i64)) fun v28 =>
              ifB ((v28 : Int) != 0) (
               cl PP 56 #[] [.lf .bool] fun r31 =>
               K (.bool r31.1)) (
               nilc x5.a fun a19 =>
               ixn z8.1 x5.len <|
               nilc x5.a fun a20 =>
               ixn z8.1 x5.len <|
               ld (Addr.add (Addr.add a19 (z8.1.toNat * 8)) 1) (.lf (.int .u64)) fun v29 =>
               ld (Addr.add (Addr.add a20 (z8.1.toNat * 8)) 2) (.agg [.int .i64, .int .i64, .int .i64]) fun v30 =>
               cl PP 48 #[.pointer r1.1, .int .u64 v29, .agg #[.int .i64 v30.1, .int .i64 v30.2.1, .int .i64 v30.2.2.1]] [.agg [.int .i64, .int .i64, .int .i64], .lf .bool] fun r32 =>
               go8 (IntKind.i64.wrap (z8.1 + 1), ()))) (
              cl PP 49 #[.pointer r1.1, .int .u64 x3] [.lf .sl] fun r33 =>
              lp [.lf (.int .i64)] (0, ()) fun z9 go9 =>   -- i
               ifB (decide ((z9.1 : Int) < r33.1.len)) (
                nilc r33.1.a fun a21 =>
                ixn z9.1 r33.1.len <|
                ld (Addr.add a21 (z9.1.toNat * 3)) (.agg [.int .i64, .int .i64, .int .i64]) fun v31 =>
                ld ⟨n1, 0, none⟩ (.agg [.int .i64, .int .i64, .int .i64]) fun v32 =>
                smP PP (binOp .eql 81 (.agg #[.int .i64 v31.1, .int .i64 v31.2.1, .int .i64 v31.2.2.1]) (.agg #[.int .i64 v32.1, .int .i64 v32.2.1, .int .i64 v32.2.2.1])) (.lf .bool) fun v33 =>
                ifB v33 (
                 cl PP 56 #[] [.lf .bool] fun r34 =>
                 K (.bool r34.1)) (
                 go9 (IntKind.i64.wrap (z9.1 + 1), ()))) (
                K (.bool false))))))))))))
theorem e11 (x0 : Int) (x1 : Int) (x2 : SlV) (x3 : Int) (x4 : ShV (.agg [.int .i64, .int .i64, .int .i64])) (x5 : SlV) (K : Value → HP) : flatFn PP h11 Try.f11 [.int .i64 x0, .int .i64 x1, .slice x2.a x2.len x2.cap, .int .u64 x3, .agg #[.int .i64 x4.1, .int .i64 x4.2.1, .int .i64 x4.2.2.1], .slice x5.a x5.len x5.cap] K = t11 x0 x1 x2 x3 x4 x5 K := by kernel_rfl

/-- depot/depotlaw29.BlocksDoes -/
def h12 : Hints := ⟨[(0, [(11, .lf (.int .i64))])], [(24, [(14, .lf .bool), (17, .lf .bool)]), (26, [])], [(21, [0, 1, 4, 5, 2, 6, 3, 7, 8, 9]), (23, [0, 1, 3, 6, 7, 9, 2, 4, 8, 10, 5, 11, 12, 13]), (19, [0, 1, 4, 5, 2, 6, 3, 7, 8, 9]), (14, [0, 1, 2, 3, 4, 5, 6, 7, 8, 9, 10, 11, 12, 13, 14, 15, 16, 17, 18, 19, 20, 21, 22, 23, 24, 26, 25, 27, 28, 29, 30, 31, 33, 34, 35, 36, 32, 37, 38, 39, 40, 41, 43, 42, 44, 45, 46])]⟩
def t12 (x0 : SlV) (x1 : SlV) (x2 : SlV) (K : Value → HP) : HP :=
  cl PP 60 #[.slice x0.a x0.len x0.cap] [.lf .sl] fun r1 =>
  cl PP 59 #[.slice r1.1.a r1.1.len r1.1.cap, .slice x1.a x1.len x1.cap] [.lf .ptr, .lf (.int .i64)] fun r2 =>
  cl PP 61 #[.slice x0.a x0.len x0.cap, .slice x1.a x1.len x1.cap] [.lf .ptr, .lf (.int .i64)] fun r3 =>
  ifB ((r2.2.1 : Int) != r3.2.1) (
   K (.bool false)) (
   ifB ((r2.2.1 : Int) != 0) (
    cl PP 62 #[] [.lf .bool] fun r4 =>
    K (.bool r4.1)) (
    ifB (decide ((x2.len : Int) > 300)) (
     cl PP 62 #[] [.lf .bool] fun r5 =>
     K (.bool r5.1)) (
     jn (fun y1 : RsV [] =>
      cl PP 62 #[] [.lf .bool] fun r22 =>
      K (.bool r22.1)) fun j1 =>
     lp [.lf (.int .i64)] (0, ()) fun z1 go1 =>   -- i
       ifB (decide ((z1.1 : Int) ≤ x2.len)) (
        cl PP 63 #[.pointer r2.1] [.lf (.int .i64), .lf .bool, .lf .bool] fun r6 =>
        cl PP 64 #[.pointer r3.1] [.lf (.int .i64), .lf .bool, .lf .bool] fun r7 =>
        cl PP 65 #[.pointer r2.1] [.lf (.int .i64), .lf .bool] fun r8 =>
        cl PP 66 #[.pointer r3.1] [.lf (.int .i64), .lf .bool] fun r9 =>
        ifB ((r6.1 : Int) != r7.1) (
         K (.bool false)) (
         ifB (!(r6.2.1 == r7.2.1)) (
          K (.bool false)) (
          ifB (!(r6.2.2.1 == r7.2.2.1)) (
           K (.bool false)) (
           ifB ((r8.1 : Int) != r9.1) (
            K (.bool false)) (
            ifB (!(r8.2.1 == r9.2.1)) (
             K (.bool false)) (
             cl PP 67 #[.pointer r2.1] [.lf (.int .i64)] fun r10 =>
             cl PP 68 #[.pointer r3.1] [.lf (.int .i64)] fun r11 =>
             ifB ((r10.1 : Int) != r11.1) (
              K (.bool false)) (
              nilc r3.1 fun a1 =>
              ld (Addr.add a1 1) (.lf .sl) fun v1 =>
              cl PP 70 #[.pointer r2.1] [.lf .sl] fun r12 =>
              keep (LdAt (Addr.add a1 1) [.slice v1.a v1.len v1.cap]) <|
              cl PP 69 #[.slice r12.1.a r12.1.len r12.1.cap, .slice v1.a v1.len v1.cap] [.lf .bool] fun r13 =>
              ifB (!r13.1) (
               K (.bool false)) (
               cl PP 71 #[.pointer r2.1] [.lf (.int .i64)] fun r14 =>
               cl PP 72 #[.pointer r3.1] [.lf (.int .i64)] fun r15 =>
               ifB ((r14.1 : Int) != r15.1) (
                K (.bool false)) (
                ifB ((z1.1 : Int) == x2.len) (
                 j1 (())) (
                 nilc x2.a fun a2 =>
                 ixn z1.1 x2.len <|
                 ld (Addr.add a2 (z1.1.toNat * 3)) (.agg [.int .i64, .int .i64, .bool]) fun v2 =>
                 nw (.cells #[.int .i64 0, .int .i64 0, .bool false] 118) fun n1 =>
                 st ⟨n1, 0, none⟩ [.int .i64 v2.1, .int .i64 v2.2.1, .bool v2.2.2.1] <|
                 jn (fun y2 : RsV [.lf .bool, .lf .bool] =>
                  ifB (!(y2.1 == y2.2.1)) (
                   K (.bool false)) (
                   go1 (IntKind.i64.wrap (z1.1 + 1), ()))) fun j2 =>
                 ld ⟨n1, 0, none⟩ (.lf (.int .i64)) fun v3 =>
                  ifB ((v3 : Int) == 0) (
                   ld (Addr.add ⟨n1, 0, none⟩ 1) (.lf (.int .i64)) fun v4 =>
                   ld (Addr.add ⟨n1, 0, none⟩ 1) (.lf (.int .i64)) fun v5 =>
                   cl PP 73 #[.pointer r2.1, .int .i64 v4] [.lf .bool] fun r16 =>
                   keep (LdAt (Addr.add ⟨n1, 0, none⟩ 1) [.int .i64 v5]) <|
                   cl PP 74 #[.pointer r3.1, .int .i64 v5] [.lf .bool] fun r17 =>
                   j2 (r16.1, r17.1, ())) (
                   ifB ((v3 : Int) == 1) (
                    ld (Addr.add ⟨n1, 0, none⟩ 1) (.lf (.int .i64)) fun v6 =>
                    ld (Addr.add ⟨n1, 0, none⟩ 2) (.lf .bool) fun v7 =>
                    ld (Addr.add ⟨n1, 0, none⟩ 1) (.lf (.int .i64)) fun v8 =>
                    ld (Addr.add ⟨n1, 0, none⟩ 2) (.lf .bool) fun v9 =>
                    cl PP 75 #[.pointer r2.1, .int .i64 v6, .bool v7] [.lf .bool] fun r18 =>
                    keep (LdAt (Addr.add ⟨n1, 0, none⟩ 2) [.bool v9]) <|
                    keep (LdAt (Addr.add ⟨n1, 0, none⟩ 1) [.int .i64 v8]) <|
                    cl PP 76 #[.pointer r3.1, .int .i64 v8, .bool v9] [.lf .bool] fun r19 =>
                    j2 (r18.1, r19.1, ())) (
                    ld (Addr.add ⟨n1, 0, none⟩ 1) (.lf (.int .i64)) fun v10 =>
                    ld (Addr.add ⟨n1, 0, none⟩ 1) (.lf (.int .i64)) fun v11 =>
                    cl PP 77 #[.pointer r2.1, .int .i64 v10] [.lf .bool] fun r20 =>
                    keep (LdAt (Addr.add ⟨n1, 0, none⟩ 1) [.int .i64 v11]) <|
                    cl PP 78 #[.pointer r3.1, .int .i64 v11] [.lf .bool] fun r21 =>
                    j2 (r20.1, r21.1, ()))))))))))))) (
        j1 (())))))
theorem e12 (x0 : SlV) (x1 : SlV) (x2 : SlV) (K : Value → HP) : flatFn PP h12 Try.f12 [.slice x0.a x0.len x0.cap, .slice x1.a x1.len x1.cap, .slice x2.a x2.len x2.cap] K = t12 x0 x1 x2 K := by kernel_rfl

/-- depot/depotlaw29.BlocksSpread -/
def h13 : Hints := ⟨[(0, [(7, .lf (.int .i64)), (8, .lf (.int .i64))])], [(16, [(12, .lf .bool)]), (30, [(7, .lf (.int .i64))])], []⟩
def t13 (x0 : Int) (x1 : SlV) (K : Value → HP) : HP :=
  ifB (decide ((x0 : Int) < 2)) (
   cl PP 62 #[] [.lf .bool] fun r1 =>
   K (.bool r1.1)) (
   ifB (decide ((x0 : Int) > 16)) (
    cl PP 62 #[] [.lf .bool] fun r2 =>
    K (.bool r2.1)) (
    ifB (decide ((x1.len : Int) > 400)) (
     cl PP 62 #[] [.lf .bool] fun r3 =>
     K (.bool r3.1)) (
     smA PP (Instr.makeSlice 104 (.int .i64 x0) (.int .i64 x0)) (.lf .sl) fun v1 =>
     cl PP 59 #[.slice v1.a v1.len v1.cap, .slice none 0 0] [.lf .ptr, .lf (.int .i64)] fun r4 =>
     ifB ((r4.2.1 : Int) != 0) (
      K (.bool false)) (
      lp [.lf (.int .i64), .lf (.int .i64)] (2, 0, ()) fun z1 go1 =>   -- most, i
       ifB (decide ((z1.2.1 : Int) < x1.len)) (
        nilc x1.a fun a1 =>
        ixn z1.2.1 x1.len <|
        ld (Addr.add a1 (z1.2.1.toNat * 3)) (.agg [.int .i64, .int .i64, .bool]) fun v2 =>
        nw (.cells #[.int .i64 0, .int .i64 0, .bool false] 118) fun n1 =>
        st ⟨n1, 0, none⟩ [.int .i64 v2.1, .int .i64 v2.2.1, .bool v2.2.2.1] <|
        cl PP 63 #[.pointer r4.1] [.lf (.int .i64), .lf .bool, .lf .bool] fun r5 =>
        cl PP 65 #[.pointer r4.1] [.lf (.int .i64), .lf .bool] fun r6 =>
        jn (fun y1 : RsV [.lf .bool] =>
         jn (fun y2 : RsV [.lf (.int .i64)] =>
          cl PP 71 #[.pointer r4.1] [.lf (.int .i64)] fun r13 =>
          ifB (decide ((r13.1 : Int) > y2.1)) (
           K (.bool false)) (
           cl PP 71 #[.pointer r4.1] [.lf (.int .i64)] fun r14 =>
           ifB (decide ((r14.1 : Int) < 0)) (
            K (.bool false)) (
            cl PP 70 #[.pointer r4.1] [.lf .sl] fun r15 =>
            cl PP 67 #[.pointer r4.1] [.lf (.int .i64)] fun r16 =>
            ifB (decide ((IntKind.i64.wrap (r15.1.len + r16.1) : Int) > x0)) (
             K (.bool false)) (
             go1 (y2.1, IntKind.i64.wrap (z1.2.1 + 1), ()))))) fun j2 =>
         ld ⟨n1, 0, none⟩ (.lf (.int .i64)) fun v9 =>
          ifB ((v9 : Int) == 0) (
           ifB y1.1 (
            cl PP 73 #[.pointer r4.1, .int .i64 r5.1] [.lf .bool] fun r9 =>
            ifB (!r9.1) (
             K (.bool false)) (
             j2 (z1.1, ()))) (
            j2 (z1.1, ()))) (
           ifB ((v9 : Int) == 1) (
            ifB r6.2.1 (
             ld (Addr.add ⟨n1, 0, none⟩ 2) (.lf .bool) fun v10 =>
             cl PP 75 #[.pointer r4.1, .int .i64 r6.1, .bool v10] [.lf .bool] fun r10 =>
             ifB (!r10.1) (
              K (.bool false)) (
              j2 (z1.1, ()))) (
             j2 (z1.1, ()))) (
            ifB ((v9 : Int) == 2) (
             ifB y1.1 (
              cl PP 77 #[.pointer r4.1, .int .i64 r5.1] [.lf .bool] fun r11 =>
              ifB (!r11.1) (
               K (.bool false)) (
               j2 (IntKind.i64.wrap (z1.1 + 1), ()))) (
              j2 (z1.1, ()))) (
             ifB r6.2.1 (
              cl PP 77 #[.pointer r4.1, .int .i64 r6.1] [.lf .bool] fun r12 =>
              ifB (!r12.1) (
               K (.bool false)) (
               j2 (z1.1, ()))) (
              j2 (z1.1, ())))))) fun j1 =>
        ifB r5.2.2.1 (
          ifB r5.2.1 (
           ld ⟨n1, 0, none⟩ (.lf (.int .i64)) fun v3 =>
           ifB ((v3 : Int) == 0) (
            ld (Addr.add ⟨n1, 0, none⟩ 2) (.lf .bool) fun v4 =>
            cl PP 75 #[.pointer r4.1, .int .i64 r5.1, .bool v4] [.lf .bool] fun r7 =>
            ld (Addr.add ⟨n1, 0, none⟩ 2) (.lf .bool) fun v5 =>
            j1 (!v5, ())) (
            ld ⟨n1, 0, none⟩ (.lf (.int .i64)) fun v6 =>
            ifB ((v6 : Int) == 2) (
             ld (Addr.add ⟨n1, 0, none⟩ 2) (.lf .bool) fun v7 =>
             cl PP 75 #[.pointer r4.1, .int .i64 r5.1, .bool v7] [.lf .bool] fun r8 =>
             ld (Addr.add ⟨n1, 0, none⟩ 2) (.lf .bool) fun v8 =>
             j1 (!v8, ())) (
             j1 (r5.2.2.1, ())))) (
           j1 (r5.2.2.1, ()))) (
          j1 (r5.2.2.1, ()))) (
        cl PP 62 #[] [.lf .bool] fun r17 =>
        K (.bool r17.1))))))
theorem e13 (x0 : Int) (x1 : SlV) (K : Value → HP) : flatFn PP h13 Try.f13 [.int .i64 x0, .slice x1.a x1.len x1.cap] K = t13 x0 x1 K := by kernel_rfl

/-- depot/depotlaw29.BlocksFree -/
def h14 : Hints := ⟨[(0, [(7, .lf (.int .i64)), (8, .lf (.int .i64))])], [(23, [(7, .lf (.int .i64)), (10, .lf .sl)])], []⟩
def t14 (x0 : Int) (x1 : SlV) (K : Value → HP) : HP :=
  ifB (decide ((x0 : Int) < 1)) (
   cl PP 62 #[] [.lf .bool] fun r1 =>
   K (.bool r1.1)) (
   ifB (decide ((x0 : Int) > 16)) (
    cl PP 62 #[] [.lf .bool] fun r2 =>
    K (.bool r2.1)) (
    ifB (decide ((x1.len : Int) > 300)) (
     cl PP 62 #[] [.lf .bool] fun r3 =>
     K (.bool r3.1)) (
     smA PP (Instr.makeSlice 104 (.int .i64 x0) (.int .i64 x0)) (.lf .sl) fun v1 =>
     cl PP 59 #[.slice v1.a v1.len v1.cap, .slice none 0 0] [.lf .ptr, .lf (.int .i64)] fun r4 =>
     ifB ((r4.2.1 : Int) != 0) (
      K (.bool false)) (
      lp [.lf (.int .i64), .lf (.int .i64)] (0, 0, ()) fun z1 go1 =>   -- bad, i
       ifB (decide ((z1.2.1 : Int) < x1.len)) (
        nilc x1.a fun a1 =>
        ixn z1.2.1 x1.len <|
        ld (Addr.add a1 (z1.2.1.toNat * 3)) (.agg [.int .i64, .int .i64, .bool]) fun v2 =>
        nw (.cells #[.int .i64 0, .int .i64 0, .bool false] 118) fun n1 =>
        st ⟨n1, 0, none⟩ [.int .i64 v2.1, .int .i64 v2.2.1, .bool v2.2.2.1] <|
        cl PP 70 #[.pointer r4.1] [.lf .sl] fun r5 =>
        jn (fun y1 : RsV [.lf (.int .i64), .lf .sl] =>
         cl PP 70 #[.pointer r4.1] [.lf .sl] fun r11 =>
         cl PP 69 #[.slice r11.1.a r11.1.len r11.1.cap, .slice y1.2.1.a y1.2.1.len y1.2.1.cap] [.lf .bool] fun r12 =>
         ifB (!r12.1) (
          K (.bool false)) (
          cl PP 67 #[.pointer r4.1] [.lf (.int .i64)] fun r13 =>
          ifB ((r13.1 : Int) != (IntKind.i64.wrap ((IntKind.i64.wrap (x0 - y1.1)) - y1.2.1.len))) (
           K (.bool false)) (
           go1 (y1.1, IntKind.i64.wrap (z1.2.1 + 1), ())))) fun j1 =>
        ld ⟨n1, 0, none⟩ (.lf (.int .i64)) fun v3 =>
         ifB ((v3 : Int) == 0) (
          ld (Addr.add ⟨n1, 0, none⟩ 1) (.lf (.int .i64)) fun v4 =>
          cl PP 73 #[.pointer r4.1, .int .i64 v4] [.lf .bool] fun r6 =>
          ifB r6.1 (
           ld (Addr.add ⟨n1, 0, none⟩ 1) (.lf (.int .i64)) fun v5 =>
           nw (.cells #[.int .i64 v5] 3) fun n2 =>
           smW PP (Builtin.append_ #[37, 37] 37 #[.slice r5.1.a r5.1.len r5.1.cap, .slice (some ⟨n2, 0, none⟩) 1 1]) [.lf .sl] fun v6 =>
           j1 (z1.1, ⟨v6.1.a, v6.1.len, v6.1.cap⟩, ())) (
           j1 (z1.1, ⟨r5.1.a, r5.1.len, r5.1.cap⟩, ()))) (
          ifB ((v3 : Int) == 1) (
           ld (Addr.add ⟨n1, 0, none⟩ 1) (.lf (.int .i64)) fun v7 =>
           ld (Addr.add ⟨n1, 0, none⟩ 2) (.lf .bool) fun v8 =>
           cl PP 75 #[.pointer r4.1, .int .i64 v7, .bool v8] [.lf .bool] fun r7 =>
           ifB r7.1 (
            ld (Addr.add ⟨n1, 0, none⟩ 1) (.lf (.int .i64)) fun v9 =>
            cl PP 79 #[.slice r5.1.a r5.1.len r5.1.cap, .int .i64 v9] [.lf .sl] fun r8 =>
            ld (Addr.add ⟨n1, 0, none⟩ 2) (.lf .bool) fun v10 =>
            ifB v10 (
             j1 (IntKind.i64.wrap (z1.1 + 1), ⟨r8.1.a, r8.1.len, r8.1.cap⟩, ())) (
             j1 (z1.1, ⟨r8.1.a, r8.1.len, r8.1.cap⟩, ()))) (
            j1 (z1.1, ⟨r5.1.a, r5.1.len, r5.1.cap⟩, ()))) (
           ld (Addr.add ⟨n1, 0, none⟩ 1) (.lf (.int .i64)) fun v11 =>
           cl PP 77 #[.pointer r4.1, .int .i64 v11] [.lf .bool] fun r9 =>
           ifB r9.1 (
            ld (Addr.add ⟨n1, 0, none⟩ 1) (.lf (.int .i64)) fun v12 =>
            cl PP 79 #[.slice r5.1.a r5.1.len r5.1.cap, .int .i64 v12] [.lf .sl] fun r10 =>
            j1 (z1.1, ⟨r10.1.a, r10.1.len, r10.1.cap⟩, ())) (
            j1 (z1.1, ⟨r5.1.a, r5.1.len, r5.1.cap⟩, ()))))) (
        cl PP 62 #[] [.lf .bool] fun r14 =>
        K (.bool r14.1))))))
theorem e14 (x0 : Int) (x1 : SlV) (K : Value → HP) : flatFn PP h14 Try.f14 [.int .i64 x0, .slice x1.a x1.len x1.cap] K = t14 x0 x1 K := by kernel_rfl

/-- depot/depotlaw03.carries -/
def h15 : Hints := ⟨[], [], []⟩
def t15 (K : Value → HP) : HP :=
  cl PP 16 #[.slice none 0 0, .int .i64 258, .int .i64 2] [.lf .sl, .lf (.int .i64)] fun r1 =>
  cl PP 18 #[.slice r1.1.a r1.1.len r1.1.cap, .int .i64 0, .int .i64 2] [.lf (.int .i64), .lf (.int .i64)] fun r2 =>
  cl PP 20 #[.slice none 0 0, .string ⟨#[97, 98]⟩] [.lf .sl, .lf (.int .i64)] fun r3 =>
  cl PP 16 #[.slice none 0 0, .int .i64 256, .int .i64 1] [.lf .sl, .lf (.int .i64)] fun r4 =>
  cl PP 23 #[.slice r3.1.a r3.1.len r3.1.cap] [.lf .ptr] fun r5 =>
  cl PP 25 #[.pointer r5.1] [.lf .str, .lf (.int .i64)] fun r6 =>
  cl PP 24 #[.pointer none, .int .i64 1] [.lf (.int .i64), .lf (.int .i64)] fun r7 =>
  nw (.cells #[.int .u8 2, .int .u8 1] 5) fun n1 =>
  cl PP 22 #[.slice r1.1.a r1.1.len r1.1.cap, .slice (some ⟨n1, 0, none⟩) 2 2] [.lf .bool] fun r8 =>
  ifB r8.1 (
   ifB ((r1.2.1 : Int) == 0) (
    ifB ((r2.1 : Int) == 258) (
     ifB ((r2.2.1 : Int) == 0) (
      nw (.cells #[.int .u8 2, .int .u8 0, .int .u8 0, .int .u8 0, .int .u8 97, .int .u8 98] 5) fun n2 =>
      cl PP 22 #[.slice r3.1.a r3.1.len r3.1.cap, .slice (some ⟨n2, 0, none⟩) 6 6] [.lf .bool] fun r9 =>
      ifB r9.1 (
       ifB ((r3.2.1 : Int) == 0) (
        ifB ((r4.2.1 : Int) == 3) (
         ifB (ByteArray.toList r6.1 == ByteArray.toList ⟨#[97, 98]⟩) (
          ifB ((r6.2.1 : Int) == 0) (
           cl PP 26 #[.pointer r5.1] [.lf (.int .i64)] fun r10 =>
           ifB ((r10.1 : Int) == 0) (
            ifB ((r7.2.1 : Int) == 1) (
             cl PP 26 #[.pointer none] [.lf (.int .i64)] fun r11 =>
             K (.bool ((r11.1 : Int) == 0))) (
             K (.bool false))) (
            K (.bool false))) (
           K (.bool false))) (
          K (.bool false))) (
         K (.bool false))) (
        K (.bool false))) (
       K (.bool false))) (
      K (.bool false))) (
     K (.bool false))) (
    K (.bool false))) (
   K (.bool false))
theorem e15 (K : Value → HP) : flatFn PP h15 Try.f15 [] K = t15 K := by kernel_rfl

/-- depot/wire.Put -/
def h16 : Hints := ⟨[], [], []⟩
def t16 (x0 : SlV) (x1 : Int) (x2 : Int) (K : Value → HP) : HP :=
  ifB (decide ((x2 : Int) < 1)) (
   K (.tuple #[.slice none 0 0, .int .i64 2])) (
   ifB (decide ((x2 : Int) > 7)) (
    K (.tuple #[.slice none 0 0, .int .i64 2])) (
    ifB (decide ((x1 : Int) < 0)) (
     K (.tuple #[.slice none 0 0, .int .i64 3])) (
     req ((0 : Int) ≤ (IntKind.i64.wrap (8 * x2))) <|
     ifB ((Int.fdiv x1 (2 ^ (min (IntKind.i64.wrap (8 * x2) : Int).toNat IntKind.i64.bits)) : Int) != 0) (
      K (.tuple #[.slice none 0 0, .int .i64 3])) (
      cl PP 80 #[.int .i64 x1] [.agg [.int .u8, .int .u8, .int .u8, .int .u8, .int .u8, .int .u8, .int .u8, .int .u8]] fun r1 =>
      nw (.cells #[.int .u8 0, .int .u8 0, .int .u8 0, .int .u8 0, .int .u8 0, .int .u8 0, .int .u8 0, .int .u8 0] 125) fun n1 =>
      st ⟨n1, 0, none⟩ [.int .u8 r1.1.1, .int .u8 r1.1.2.1, .int .u8 r1.1.2.2.1, .int .u8 r1.1.2.2.2.1, .int .u8 r1.1.2.2.2.2.1, .int .u8 r1.1.2.2.2.2.2.1, .int .u8 r1.1.2.2.2.2.2.2.1, .int .u8 r1.1.2.2.2.2.2.2.2.1] <|
      smA PP (Instr.makeSlice 22 (.int .i64 0) (.int .i64 (IntKind.i64.wrap (x0.len + x2)))) (.lf .sl) fun v1 =>
      smW PP (Builtin.append_ #[22, 22] 22 #[.slice v1.a v1.len v1.cap, .slice x0.a x0.len x0.cap]) [.lf .sl] fun v2 =>
      slc ⟨some ⟨n1, 0, none⟩, 8, 8⟩ 0 x2 8 1 fun s1 =>
      smW PP (Builtin.append_ #[22, 22] 22 #[.slice v2.1.a v2.1.len v2.1.cap, .slice s1.a s1.len s1.cap]) [.lf .sl] fun v3 =>
      K (.tuple #[.slice v3.1.a v3.1.len v3.1.cap, .int .i64 0])))))
theorem e16 (x0 : SlV) (x1 : Int) (x2 : Int) (K : Value → HP) : flatFn PP h16 Try.f16 [.slice x0.a x0.len x0.cap, .int .i64 x1, .int .i64 x2] K = t16 x0 x1 x2 K := by kernel_rfl

/-- depot/depotref03.Put -/
def h17 : Hints := ⟨[(0, [(8, .lf .sl), (9, .lf (.int .i64)), (10, .lf (.int .i64))])], [], []⟩
def t17 (x0 : SlV) (x1 : Int) (x2 : Int) (K : Value → HP) : HP :=
  ifB (decide ((x2 : Int) < 1)) (
   K (.tuple #[.slice none 0 0, .int .i64 2])) (
   ifB (decide ((x2 : Int) > 7)) (
    K (.tuple #[.slice none 0 0, .int .i64 2])) (
    nw (.cells #[] 5) fun n1 =>
    smW PP (Builtin.append_ #[22, 22] 22 #[.slice (some ⟨n1, 0, none⟩) 0 0, .slice x0.a x0.len x0.cap]) [.lf .sl] fun v1 =>
    lp [.lf .sl, .lf (.int .i64), .lf (.int .i64)] (⟨v1.1.a, v1.1.len, v1.1.cap⟩, x1, 0, ()) fun z1 go1 =>   -- out, left, i
     ifB (decide ((z1.2.2.1 : Int) < x2)) (
      req ((256 : Int) ≠ 0) <|
      nw (.cells #[.int .u8 (IntKind.u8.wrap (Int.tmod z1.2.1 256))] 5) fun n2 =>
      smW PP (Builtin.append_ #[22, 22] 22 #[.slice z1.1.a z1.1.len z1.1.cap, .slice (some ⟨n2, 0, none⟩) 1 1]) [.lf .sl] fun v2 =>
      req ((256 : Int) ≠ 0) <|
      go1 (⟨v2.1.a, v2.1.len, v2.1.cap⟩, IntKind.i64.wrap (Int.tdiv z1.2.1 256), IntKind.i64.wrap (z1.2.2.1 + 1), ())) (
      ifB (decide ((x1 : Int) < 0)) (
       K (.tuple #[.slice none 0 0, .int .i64 3])) (
       ifB (decide ((z1.2.1 : Int) > 0)) (
        K (.tuple #[.slice none 0 0, .int .i64 3])) (
        K (.tuple #[.slice z1.1.a z1.1.len z1.1.cap, .int .i64 0]))))))
theorem e17 (x0 : SlV) (x1 : Int) (x2 : Int) (K : Value → HP) : flatFn PP h17 Try.f17 [.slice x0.a x0.len x0.cap, .int .i64 x1, .int .i64 x2] K = t17 x0 x1 x2 K := by kernel_rfl

end Go.Proofs.Ytefllmfoneocaaa
