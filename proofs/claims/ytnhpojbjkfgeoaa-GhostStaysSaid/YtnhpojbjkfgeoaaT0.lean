/-
  It is proved that the functions of the program are the trees that are printed here. There are no further conditions.
-/
import Derived.Test.YtnhpojbjkfgeoaaHL12
import Derived.Test.YtnhpojbjkfgeoaaProg
import Derived.KernelRfl
set_option linter.unusedVariables false
set_option maxRecDepth 100000
namespace Go.Proofs.Ytnhpojbjkfgeoaa
open Go.HL
noncomputable abbrev PP : Program := Try.prog
theorem noNum : NoNum PP := by unfold NoNum; kernel_rfl
theorem mixed : PP.follows .mixedOrders = true := by kernel_rfl

/-- depot/depotlaw04.CrcJoins -/
def h3 : Hints := ⟨[], [], []⟩
def t3 (x0 : SlV) (x1 : SlV) (K : Value → HP) : HP :=
  ifB (decide ((x0.len : Int) > 1000)) (
   cl PP 15 #[] [.lf .bool] fun r1 =>
   K (.bool r1.1)) (
   ifB (decide ((x1.len : Int) > 1000)) (
    cl PP 15 #[] [.lf .bool] fun r2 =>
    K (.bool r2.1)) (
    nw (.cells #[] 5) fun n1 =>
    smW PP (Builtin.append_ #[22, 22] 22 #[.slice (some ⟨n1, 0, none⟩) 0 0, .slice x0.a x0.len x0.cap]) [.lf .sl] fun v1 =>
    smW PP (Builtin.append_ #[22, 22] 22 #[.slice v1.1.a v1.1.len v1.1.cap, .slice x1.a x1.len x1.cap]) [.lf .sl] fun v2 =>
    cl PP 16 #[.slice v2.1.a v2.1.len v2.1.cap] [.lf (.int .i64)] fun r3 =>
    cl PP 16 #[.slice x0.a x0.len x0.cap] [.lf (.int .i64)] fun r4 =>
    cl PP 17 #[.int .i64 r4.1, .slice x1.a x1.len x1.cap] [.lf (.int .i64)] fun r5 =>
    ifB ((r5.1 : Int) == r3.1) (
     ifB (decide ((r3.1 : Int) ≥ 0)) (
      ifB (decide ((r3.1 : Int) < 4294967296)) (
       cl PP 16 #[.slice x0.a x0.len x0.cap] [.lf (.int .i64)] fun r6 =>
       cl PP 16 #[.slice x0.a x0.len x0.cap] [.lf (.int .i64)] fun r7 =>
       cl PP 17 #[.int .i64 r7.1, .slice none 0 0] [.lf (.int .i64)] fun r8 =>
       ifB ((r6.1 : Int) == r8.1) (
        cl PP 15 #[] [.lf .bool] fun r9 =>
        K (.bool r9.1)) (
        K (.bool false))) (
       K (.bool false))) (
      K (.bool false))) (
     K (.bool false))))
theorem e3 (x0 : SlV) (x1 : SlV) (K : Value → HP) : flatFn PP h3 Try.f3 [.slice x0.a x0.len x0.cap, .slice x1.a x1.len x1.cap] K = t3 x0 x1 K := by kernel_rfl

/-- depot/depotlaw04.CrcThree -/
def h4 : Hints := ⟨[(0, [(8, .lf .sl), (9, .lf (.int .i64))])], [], [(9, [0, 2, 3, 4, 6, 7, 8, 11, 12, 13, 1, 5, 9, 10, 14, 15, 16, 17, 18, 19, 20]), (8, [0, 1, 2, 3, 5, 6, 7, 10, 11, 12, 4, 8, 9, 13, 14, 15, 16, 17])]⟩
def t4 (x0 : SlV) (x1 : SlV) (x2 : SlV) (K : Value → HP) : HP :=
  ifB (decide ((imin (imin x0.len x1.len) x2.len : Int) > 500)) (
   cl PP 15 #[] [.lf .bool] fun r1 =>
   K (.bool r1.1)) (
   lp [.lf .sl, .lf (.int .i64)] (⟨none, 0, 0⟩, 0, ()) fun z1 go1 =>   -- x, i
    ifB (decide ((z1.2.1 : Int) < (imin (imin x0.len x1.len) x2.len))) (
     nilc x0.a fun a1 =>
     ixn z1.2.1 x0.len <|
     nilc x1.a fun a2 =>
     ixn z1.2.1 x1.len <|
     nilc x2.a fun a3 =>
     ixn z1.2.1 x2.len <|
     ld (Addr.add a1 (z1.2.1.toNat * 1)) (.lf (.int .u8)) fun v1 =>
     ld (Addr.add a2 (z1.2.1.toNat * 1)) (.lf (.int .u8)) fun v2 =>
     ld (Addr.add a3 (z1.2.1.toNat * 1)) (.lf (.int .u8)) fun v3 =>
     nw (.cells #[.int .u8 (bitI .xor .u8 (bitI .xor .u8 v1 v2) v3)] 5) fun n1 =>
     smW PP (Builtin.append_ #[22, 22] 22 #[.slice z1.1.a z1.1.len z1.1.cap, .slice (some ⟨n1, 0, none⟩) 1 1]) [.lf .sl] fun v4 =>
     go1 (⟨v4.1.a, v4.1.len, v4.1.cap⟩, IntKind.i64.wrap (z1.2.1 + 1), ())) (
     slc ⟨x0.a, x0.len, x0.cap⟩ 0 (imin (imin x0.len x1.len) x2.len) x0.cap 1 fun s1 =>
     slc ⟨x1.a, x1.len, x1.cap⟩ 0 (imin (imin x0.len x1.len) x2.len) x1.cap 1 fun s2 =>
     slc ⟨x2.a, x2.len, x2.cap⟩ 0 (imin (imin x0.len x1.len) x2.len) x2.cap 1 fun s3 =>
     cl PP 16 #[.slice z1.1.a z1.1.len z1.1.cap] [.lf (.int .i64)] fun r2 =>
     cl PP 16 #[.slice s1.a s1.len s1.cap] [.lf (.int .i64)] fun r3 =>
     cl PP 16 #[.slice s2.a s2.len s2.cap] [.lf (.int .i64)] fun r4 =>
     cl PP 16 #[.slice s3.a s3.len s3.cap] [.lf (.int .i64)] fun r5 =>
     ifB ((r2.1 : Int) == (bitI .xor .i64 (bitI .xor .i64 r3.1 r4.1) r5.1)) (
      cl PP 15 #[] [.lf .bool] fun r6 =>
      K (.bool r6.1)) (
      K (.bool false))))
theorem e4 (x0 : SlV) (x1 : SlV) (x2 : SlV) (K : Value → HP) : flatFn PP h4 Try.f4 [.slice x0.a x0.len x0.cap, .slice x1.a x1.len x1.cap, .slice x2.a x2.len x2.cap] K = t4 x0 x1 x2 K := by kernel_rfl

/-- depot/depotlaw04.CrcBurst -/
def h5 : Hints := ⟨[(0, [(9, .lf .bool), (10, .lf (.int .i64))])], [], []⟩
def t5 (x0 : SlV) (x1 : Int) (x2 : Int) (K : Value → HP) : HP :=
  ifB ((x0.len : Int) == 0) (
   cl PP 15 #[] [.lf .bool] fun r1 =>
   K (.bool r1.1)) (
   ifB (decide ((x0.len : Int) > 200)) (
    cl PP 15 #[] [.lf .bool] fun r2 =>
    K (.bool r2.1)) (
    req ((IntKind.i64.wrap (8 * x0.len) : Int) ≠ 0) <|
    req ((IntKind.i64.wrap (8 * x0.len) : Int) ≠ 0) <|
    nw (.cells #[] 5) fun n1 =>
    smW PP (Builtin.append_ #[22, 22] 22 #[.slice (some ⟨n1, 0, none⟩) 0 0, .slice x0.a x0.len x0.cap]) [.lf .sl] fun v1 =>
    lp [.lf .bool, .lf (.int .i64)] (false, 0, ()) fun z1 go1 =>   -- turned, i
     ifB (decide ((z1.2.1 : Int) < 32)) (
      ifB (decide ((IntKind.i64.wrap ((Int.tmod (IntKind.i64.wrap ((Int.tmod x1 (IntKind.i64.wrap (8 * x0.len))) + (IntKind.i64.wrap (8 * x0.len)))) (IntKind.i64.wrap (8 * x0.len))) + z1.2.1) : Int) < (IntKind.i64.wrap (8 * x0.len)))) (
       req ((0 : Int) ≤ (IntKind.u64.wrap z1.2.1)) <|
       ifB ((bitI .and .u32 (Int.fdiv x2 (2 ^ (min (IntKind.u64.wrap z1.2.1 : Int).toNat IntKind.u32.bits))) 1 : Int) == 1) (
        req ((8 : Int) ≠ 0) <|
        req ((8 : Int) ≠ 0) <|
        nilc v1.1.a fun a1 =>
        ixn (IntKind.i64.wrap (Int.tdiv (IntKind.i64.wrap ((Int.tmod (IntKind.i64.wrap ((Int.tmod x1 (IntKind.i64.wrap (8 * x0.len))) + (IntKind.i64.wrap (8 * x0.len)))) (IntKind.i64.wrap (8 * x0.len))) + z1.2.1)) 8)) v1.1.len <|
        ld (Addr.add a1 ((IntKind.i64.wrap (Int.tdiv (IntKind.i64.wrap ((Int.tmod (IntKind.i64.wrap ((Int.tmod x1 (IntKind.i64.wrap (8 * x0.len))) + (IntKind.i64.wrap (8 * x0.len)))) (IntKind.i64.wrap (8 * x0.len))) + z1.2.1)) 8)).toNat * 1)) (.lf (.int .u8)) fun v2 =>
        req ((8 : Int) ≠ 0) <|
        req ((0 : Int) ≤ (IntKind.u64.wrap (Int.tmod (IntKind.i64.wrap ((Int.tmod (IntKind.i64.wrap ((Int.tmod x1 (IntKind.i64.wrap (8 * x0.len))) + (IntKind.i64.wrap (8 * x0.len)))) (IntKind.i64.wrap (8 * x0.len))) + z1.2.1)) 8))) <|
        nilc v1.1.a fun a2 =>
        ixn (IntKind.i64.wrap (Int.tdiv (IntKind.i64.wrap ((Int.tmod (IntKind.i64.wrap ((Int.tmod x1 (IntKind.i64.wrap (8 * x0.len))) + (IntKind.i64.wrap (8 * x0.len)))) (IntKind.i64.wrap (8 * x0.len))) + z1.2.1)) 8)) v1.1.len <|
        st (Addr.add a2 ((IntKind.i64.wrap (Int.tdiv (IntKind.i64.wrap ((Int.tmod (IntKind.i64.wrap ((Int.tmod x1 (IntKind.i64.wrap (8 * x0.len))) + (IntKind.i64.wrap (8 * x0.len)))) (IntKind.i64.wrap (8 * x0.len))) + z1.2.1)) 8)).toNat * 1)) [.int .u8 (bitI .xor .u8 v2 (IntKind.u8.wrap (1 * 2 ^ (min (IntKind.u64.wrap (Int.tmod (IntKind.i64.wrap ((Int.tmod (IntKind.i64.wrap ((Int.tmod x1 (IntKind.i64.wrap (8 * x0.len))) + (IntKind.i64.wrap (8 * x0.len)))) (IntKind.i64.wrap (8 * x0.len))) + z1.2.1)) 8) : Int).toNat IntKind.u8.bits))))] <|
        go1 (true, IntKind.i64.wrap (z1.2.1 + 1), ())) (
        go1 (z1.1, IntKind.i64.wrap (z1.2.1 + 1), ()))) (
       cl PP 16 #[.slice v1.1.a v1.1.len v1.1.cap] [.lf (.int .i64)] fun r3 =>
       cl PP 16 #[.slice x0.a x0.len x0.cap] [.lf (.int .i64)] fun r4 =>
       ifB (((r3.1 : Int) != r4.1) == z1.1) (
        cl PP 16 #[.slice x0.a x0.len x0.cap] [.lf (.int .i64)] fun r5 =>
        cl PP 18 #[.slice v1.1.a v1.1.len v1.1.cap, .int .i64 r5.1] [.lf .bool] fun r6 =>
        ifB (r6.1 == (!z1.1)) (
         cl PP 15 #[] [.lf .bool] fun r7 =>
         K (.bool r7.1)) (
         K (.bool false))) (
        K (.bool false)))) (
      cl PP 16 #[.slice v1.1.a v1.1.len v1.1.cap] [.lf (.int .i64)] fun r8 =>
      cl PP 16 #[.slice x0.a x0.len x0.cap] [.lf (.int .i64)] fun r9 =>
      ifB (((r8.1 : Int) != r9.1) == z1.1) (
       cl PP 16 #[.slice x0.a x0.len x0.cap] [.lf (.int .i64)] fun r10 =>
       cl PP 18 #[.slice v1.1.a v1.1.len v1.1.cap, .int .i64 r10.1] [.lf .bool] fun r11 =>
       ifB (r11.1 == (!z1.1)) (
        cl PP 15 #[] [.lf .bool] fun r12 =>
        K (.bool r12.1)) (
        K (.bool false))) (
       K (.bool false)))))
theorem e5 (x0 : SlV) (x1 : Int) (x2 : Int) (K : Value → HP) : flatFn PP h5 Try.f5 [.slice x0.a x0.len x0.cap, .int .i64 x1, .int .u32 x2] K = t5 x0 x1 x2 K := by kernel_rfl

/-- depot/depotlaw04.CrcSums -/
def h6 : Hints := ⟨[], [], []⟩
def t6 (x0 : Int) (x1 : Int) (x2 : SlV) (K : Value → HP) : HP :=
  ifB (decide ((x2.len : Int) > 2000)) (
   cl PP 15 #[] [.lf .bool] fun r1 =>
   K (.bool r1.1)) (
   cl PP 19 #[.slice x2.a x2.len x2.cap] [.lf (.int .i64)] fun r2 =>
   cl PP 20 #[.int .i64 x0, .int .u8 x1] [.lf (.int .i64)] fun r3 =>
   cl PP 21 #[.int .i64 x0, .int .u8 x1] [.lf (.int .i64)] fun r4 =>
   ifB ((r3.1 : Int) == r4.1) (
    cl PP 16 #[.slice x2.a x2.len x2.cap] [.lf (.int .i64)] fun r5 =>
    ifB ((r5.1 : Int) == r2.1) (
     cl PP 17 #[.int .i64 x0, .slice x2.a x2.len x2.cap] [.lf (.int .i64)] fun r6 =>
     cl PP 22 #[.int .i64 x0, .slice x2.a x2.len x2.cap] [.lf (.int .i64)] fun r7 =>
     ifB ((r6.1 : Int) == r7.1) (
      cl PP 18 #[.slice x2.a x2.len x2.cap, .int .i64 x0] [.lf .bool] fun r8 =>
      ifB (r8.1 == ((r2.1 : Int) == x0)) (
       cl PP 18 #[.slice x2.a x2.len x2.cap, .int .i64 r2.1] [.lf .bool] fun r9 =>
       ifB r9.1 (
        cl PP 15 #[] [.lf .bool] fun r10 =>
        K (.bool r10.1)) (
        K (.bool false))) (
       K (.bool false))) (
      K (.bool false))) (
     K (.bool false))) (
    K (.bool false)))
theorem e6 (x0 : Int) (x1 : Int) (x2 : SlV) (K : Value → HP) : flatFn PP h6 Try.f6 [.int .i64 x0, .int .u8 x1, .slice x2.a x2.len x2.cap] K = t6 x0 x1 x2 K := by kernel_rfl

/-- depot/depotlaw05.MixTells -/
def h7 : Hints := ⟨[], [], []⟩
def t7 (x0 : Int) (x1 : Int) (x2 : Int) (x3 : ByteArray) (x4 : Int) (K : Value → HP) : HP :=
  ifB (decide ((x3.size : Int) > 1000)) (
   cl PP 23 #[] [.lf .bool] fun r1 =>
   K (.bool r1.1)) (
   cl PP 24 #[.int .u64 x0, .int .u8 x1] [.lf (.int .u64)] fun r2 =>
   cl PP 25 #[.int .u64 x0, .int .u8 x1] [.lf (.int .u64)] fun r3 =>
   ifB ((r2.1 : Int) == r3.1) (
    cl PP 26 #[.int .u64 x0, .int .u8 x1] [.lf (.int .u64)] fun r4 =>
    cl PP 27 #[.int .u64 x0, .int .u8 x1] [.lf (.int .u64)] fun r5 =>
    ifB ((r4.1 : Int) == r5.1) (
     cl PP 28 #[.int .i64 x2, .string x3] [.lf (.int .u64)] fun r6 =>
     cl PP 29 #[.int .i64 x2, .string x3] [.lf (.int .u64)] fun r7 =>
     ifB ((r6.1 : Int) == r7.1) (
      cl PP 30 #[.int .u64 x0, .int .i64 x4] [.lf (.int .i64)] fun r8 =>
      cl PP 31 #[.int .u64 x0, .int .i64 x4] [.lf (.int .i64)] fun r9 =>
      ifB ((r8.1 : Int) == r9.1) (
       cl PP 32 #[.int .u64 x0] [.lf (.int .i64)] fun r10 =>
       cl PP 33 #[.int .u64 x0] [.lf (.int .i64)] fun r11 =>
       ifB ((r10.1 : Int) == r11.1) (
        cl PP 23 #[] [.lf .bool] fun r12 =>
        K (.bool r12.1)) (
        K (.bool false))) (
       K (.bool false))) (
      K (.bool false))) (
     K (.bool false))) (
    K (.bool false)))
theorem e7 (x0 : Int) (x1 : Int) (x2 : Int) (x3 : ByteArray) (x4 : Int) (K : Value → HP) : flatFn PP h7 Try.f7 [.int .u64 x0, .int .u8 x1, .int .i64 x2, .string x3, .int .i64 x4] K = t7 x0 x1 x2 x3 x4 K := by kernel_rfl

/-- depot/depotlaw05.MixBack -/
def h8 : Hints := ⟨[(0, [(5, .lf (.int .u64)), (6, .lf (.int .i64))]), (2, [(5, .lf (.int .u64)), (7, .lf (.int .i64))])], [], [(7, [0, 1, 2, 3, 5, 6, 7, 9, 4, 8, 10])]⟩
def t8 (x0 : Int) (x1 : ByteArray) (K : Value → HP) : HP :=
  ifB (decide ((x1.size : Int) > 300)) (
   cl PP 23 #[] [.lf .bool] fun r1 =>
   K (.bool r1.1)) (
   lp [.lf (.int .u64), .lf (.int .i64)] (x0, 0, ()) fun z1 go1 =>   -- x, i
    ifB (decide ((z1.2.1 : Int) < x1.size)) (
     ixn z1.2.1 x1.size <|
     ixn z1.2.1 x1.size <|
     cl PP 26 #[.int .u64 z1.1, .int .u8 (byteAt x1 z1.2.1)] [.lf (.int .u64)] fun r2 =>
     cl PP 24 #[.int .u64 r2.1, .int .u8 (byteAt x1 z1.2.1)] [.lf (.int .u64)] fun r3 =>
     ifB ((r3.1 : Int) != z1.1) (
      K (.bool false)) (
      ixn z1.2.1 x1.size <|
      cl PP 24 #[.int .u64 z1.1, .int .u8 (byteAt x1 z1.2.1)] [.lf (.int .u64)] fun r4 =>
      go1 (r4.1, IntKind.i64.wrap (z1.2.1 + 1), ()))) (
     lp [.lf (.int .u64), .lf (.int .i64)] (z1.1, IntKind.i64.wrap (x1.size - 1), ()) fun z2 go2 =>   -- x, i
      ifB (decide ((z2.2.1 : Int) ≥ 0)) (
       ixn z2.2.1 x1.size <|
       cl PP 26 #[.int .u64 z2.1, .int .u8 (byteAt x1 z2.2.1)] [.lf (.int .u64)] fun r5 =>
       go2 (r5.1, IntKind.i64.wrap (z2.2.1 - 1), ())) (
       ifB ((z2.1 : Int) == x0) (
        cl PP 23 #[] [.lf .bool] fun r6 =>
        K (.bool r6.1)) (
        K (.bool false)))))
theorem e8 (x0 : Int) (x1 : ByteArray) (K : Value → HP) : flatFn PP h8 Try.f8 [.int .u64 x0, .string x1] K = t8 x0 x1 K := by kernel_rfl

/-- depot/depotlaw05.MixSeeds -/
def h9 : Hints := ⟨[], [], []⟩
def t9 (x0 : Int) (x1 : Int) (x2 : ByteArray) (x3 : Int) (K : Value → HP) : HP :=
  ifB (decide ((x2.size : Int) > 300)) (
   cl PP 23 #[] [.lf .bool] fun r1 =>
   K (.bool r1.1)) (
   cl PP 28 #[.int .i64 x0, .string x2] [.lf (.int .u64)] fun r2 =>
   cl PP 30 #[.int .u64 r2.1, .int .i64 x3] [.lf (.int .i64)] fun r3 =>
   cl PP 32 #[.int .u64 r2.1] [.lf (.int .i64)] fun r4 =>
   cl PP 28 #[.int .i64 x1, .string x2] [.lf (.int .u64)] fun r5 =>
   ifB (((r2.1 : Int) == r5.1) == ((x0 : Int) == x1)) (
    ifB (decide ((r3.1 : Int) ≥ 0)) (
     ifB (decide ((r3.1 : Int) < x3)) (
      ifB (decide ((r4.1 : Int) ≥ 0)) (
       ifB (decide ((r4.1 : Int) < 65536)) (
        cl PP 23 #[] [.lf .bool] fun r6 =>
        K (.bool r6.1)) (
        K (.bool false))) (
       K (.bool false))) (
      ifB (decide ((x3 : Int) < 1)) (
       ifB ((r3.1 : Int) == 0) (
        ifB (decide ((r4.1 : Int) ≥ 0)) (
         ifB (decide ((r4.1 : Int) < 65536)) (
          cl PP 23 #[] [.lf .bool] fun r7 =>
          K (.bool r7.1)) (
          K (.bool false))) (
         K (.bool false))) (
        K (.bool false))) (
       K (.bool false)))) (
     K (.bool false))) (
    K (.bool false)))
theorem e9 (x0 : Int) (x1 : Int) (x2 : ByteArray) (x3 : Int) (K : Value → HP) : flatFn PP h9 Try.f9 [.int .i64 x0, .int .i64 x1, .string x2, .int .i64 x3] K = t9 x0 x1 x2 x3 K := by kernel_rfl

/-- depot/depotlaw22.BucketDoes -/
def h10 : Hints := ⟨[(0, [(13, .lf (.int .i64))])], [(14, [])], [(14, [0, 2, 3, 1, 4, 5, 6, 8, 9, 7, 10, 11]), (10, [0, 1, 2, 3, 4, 7, 8, 9, 10, 5, 11, 6, 12, 13]), (4, [0, 2, 3, 1, 4, 5, 6, 8, 9, 7, 10, 11])]⟩
def t10 (x0 : Int) (x1 : Int) (x2 : Int) (x3 : Int) (x4 : SlV) (K : Value → HP) : HP :=
  ifB (decide ((x4.len : Int) > 500)) (
   cl PP 34 #[] [.lf .bool] fun r1 =>
   K (.bool r1.1)) (
   cl PP 35 #[.int .i64 x0, .int .i64 x1, .int .i64 x2, .int .i64 x3] [.lf .ptr] fun r2 =>
   cl PP 36 #[.int .i64 x0, .int .i64 x1, .int .i64 x2, .int .i64 x3] [.agg [.int .i64, .int .i64, .int .i64, .int .i64]] fun r3 =>
   nw (.cells #[.int .i64 0, .int .i64 0, .int .i64 0, .int .i64 0] 46) fun n1 =>
   st ⟨n1, 0, none⟩ [.int .i64 r3.1.1, .int .i64 r3.1.2.1, .int .i64 r3.1.2.2.1, .int .i64 r3.1.2.2.2.1] <|
   ld (Addr.add ⟨n1, 0, none⟩ 3) (.lf (.int .i64)) fun v1 =>
   cl PP 37 #[.pointer r2.1] [.lf (.int .i64)] fun r4 =>
   keep (LdAt (Addr.add ⟨n1, 0, none⟩ 3) [.int .i64 v1]) <|
   ifB ((r4.1 : Int) != v1) (
    K (.bool false)) (
    ld (Addr.add ⟨n1, 0, none⟩ 2) (.lf (.int .i64)) fun v2 =>
    cl PP 38 #[.pointer r2.1] [.lf (.int .i64)] fun r5 =>
    keep (LdAt (Addr.add ⟨n1, 0, none⟩ 2) [.int .i64 v2]) <|
    ifB ((r5.1 : Int) != v2) (
     K (.bool false)) (
     lp [.lf (.int .i64)] (0, ()) fun z1 go1 =>   -- i
      ifB (decide ((z1.1 : Int) < x4.len)) (
       jn (fun y1 : RsV [] =>
        ld (Addr.add ⟨n1, 0, none⟩ 3) (.lf (.int .i64)) fun v8 =>
        cl PP 37 #[.pointer r2.1] [.lf (.int .i64)] fun r10 =>
        keep (LdAt (Addr.add ⟨n1, 0, none⟩ 3) [.int .i64 v8]) <|
        ifB ((r10.1 : Int) != v8) (
         K (.bool false)) (
         ld (Addr.add ⟨n1, 0, none⟩ 2) (.lf (.int .i64)) fun v9 =>
         cl PP 38 #[.pointer r2.1] [.lf (.int .i64)] fun r11 =>
         keep (LdAt (Addr.add ⟨n1, 0, none⟩ 2) [.int .i64 v9]) <|
         ifB ((r11.1 : Int) != v9) (
          K (.bool false)) (
          go1 (IntKind.i64.wrap (z1.1 + 1), ())))) fun j1 =>
       nilc x4.a fun a1 =>
        ixn z1.1 x4.len <|
        ld (Addr.add a1 (z1.1.toNat * 2)) (.lf .bool) fun v3 =>
        ifB v3 (
         nilc x4.a fun a2 =>
         ixn z1.1 x4.len <|
         nilc x4.a fun a3 =>
         ixn z1.1 x4.len <|
         ld (Addr.add (Addr.add a2 (z1.1.toNat * 2)) 1) (.lf (.int .i64)) fun v4 =>
         ld (Addr.add (Addr.add a3 (z1.1.toNat * 2)) 1) (.lf (.int .i64)) fun v5 =>
         cl PP 39 #[.pointer r2.1, .int .i64 v4] [.lf .bool] fun r6 =>
         keep (LdAt (Addr.add (Addr.add a3 (z1.1.toNat * 2)) 1) [.int .i64 v5]) <|
         cl PP 40 #[.pointer (some ⟨n1, 0, none⟩), .int .i64 v5] [.lf .bool] fun r7 =>
         ifB (!(r6.1 == r7.1)) (
          K (.bool false)) (
          j1 (()))) (
         nilc x4.a fun a4 =>
         ixn z1.1 x4.len <|
         ld (Addr.add (Addr.add a4 (z1.1.toNat * 2)) 1) (.lf (.int .i64)) fun v6 =>
         cl PP 41 #[.pointer r2.1, .int .i64 v6] [] fun r8 =>
         nilc x4.a fun a5 =>
         ixn z1.1 x4.len <|
         ld (Addr.add (Addr.add a5 (z1.1.toNat * 2)) 1) (.lf (.int .i64)) fun v7 =>
         cl PP 42 #[.pointer (some ⟨n1, 0, none⟩), .int .i64 v7] [] fun r9 =>
         j1 (()))) (
       cl PP 34 #[] [.lf .bool] fun r12 =>
       K (.bool r12.1)))))
theorem e10 (x0 : Int) (x1 : Int) (x2 : Int) (x3 : Int) (x4 : SlV) (K : Value → HP) : flatFn PP h10 Try.f10 [.int .i64 x0, .int .i64 x1, .int .i64 x2, .int .i64 x3, .slice x4.a x4.len x4.cap] K = t10 x0 x1 x2 x3 x4 K := by kernel_rfl

/-- depot/depotlaw22.BucketHolds -/
def h11 : Hints := ⟨[(0, [(8, .lf .sl), (9, .lf .sl), (10, .lf (.int .i64))]), (2, [(12, .lf (.int .i64))]), (4, [(13, .lf (.int .i64))])], [(13, [(11, .lf (.int .i64))])], [(21, [0, 1, 2, 4, 5, 6, 3, 7, 8, 9, 10, 11, 12, 14, 15, 16, 19, 20, 21, 22, 23, 25, 26, 27, 13, 17, 18, 24, 28, 29, 30, 31, 32, 33, 34, 35, 36, 37, 39, 40, 41, 38, 42, 43, 44])]⟩
def t11 (x0 : Int) (x1 : Int) (x2 : SlV) (K : Value → HP) : HP :=
  ifB (decide ((x0 : Int) < 0)) (
   cl PP 34 #[] [.lf .bool] fun r1 =>
   K (.bool r1.1)) (
   ifB (decide ((x0 : Int) > 1048576)) (
    cl PP 34 #[] [.lf .bool] fun r2 =>
    K (.bool r2.1)) (
    ifB (decide ((x1 : Int) < 0)) (
     cl PP 34 #[] [.lf .bool] fun r3 =>
     K (.bool r3.1)) (
     ifB (decide ((x1 : Int) > 1073741824)) (
      cl PP 34 #[] [.lf .bool] fun r4 =>
      K (.bool r4.1)) (
      ifB (decide ((x2.len : Int) > 100)) (
       cl PP 34 #[] [.lf .bool] fun r5 =>
       K (.bool r5.1)) (
       cl PP 35 #[.int .i64 x0, .int .i64 x1, .int .i64 0, .int .i64 x1] [.lf .ptr] fun r6 =>
       nw (.cells #[.int .i64 0] 3) fun n1 =>
       nw (.cells #[.int .i64 0] 3) fun n2 =>
       lp [.lf .sl, .lf .sl, .lf (.int .i64)] (⟨(some ⟨n1, 0, none⟩), 1, 1⟩, ⟨(some ⟨n2, 0, none⟩), 1, 1⟩, 0, ()) fun z1 go1 =>   -- at, taken, i
        ifB (decide ((z1.2.2.1 : Int) < x2.len)) (
         nilc z1.2.1.a fun a1 =>
         ixn z1.2.2.1 z1.2.1.len <|
         ld (Addr.add a1 (z1.2.2.1.toNat * 1)) (.lf (.int .i64)) fun v1 =>
         jn (fun y1 : RsV [.lf (.int .i64)] =>
          cl PP 38 #[.pointer r6.1] [.lf (.int .i64)] fun r9 =>
          nw (.cells #[.int .i64 r9.1] 3) fun n3 =>
          smW PP (Builtin.append_ #[54, 54] 54 #[.slice z1.1.a z1.1.len z1.1.cap, .slice (some ⟨n3, 0, none⟩) 1 1]) [.lf .sl] fun v6 =>
          nw (.cells #[.int .i64 y1.1] 3) fun n4 =>
          smW PP (Builtin.append_ #[54, 54] 54 #[.slice z1.2.1.a z1.2.1.len z1.2.1.cap, .slice (some ⟨n4, 0, none⟩) 1 1]) [.lf .sl] fun v7 =>
          go1 (⟨v6.1.a, v6.1.len, v6.1.cap⟩, ⟨v7.1.a, v7.1.len, v7.1.cap⟩, IntKind.i64.wrap (z1.2.2.1 + 1), ())) fun j1 =>
         nilc x2.a fun a2 =>
          ixn z1.2.2.1 x2.len <|
          ld (Addr.add a2 (z1.2.2.1.toNat * 2)) (.lf .bool) fun v2 =>
          ifB v2 (
           nilc x2.a fun a3 =>
           ixn z1.2.2.1 x2.len <|
           ld (Addr.add (Addr.add a3 (z1.2.2.1.toNat * 2)) 1) (.lf (.int .i64)) fun v3 =>
           cl PP 39 #[.pointer r6.1, .int .i64 v3] [.lf .bool] fun r7 =>
           ifB r7.1 (
            nilc x2.a fun a4 =>
            ixn z1.2.2.1 x2.len <|
            ld (Addr.add (Addr.add a4 (z1.2.2.1.toNat * 2)) 1) (.lf (.int .i64)) fun v4 =>
            j1 (IntKind.i64.wrap (v1 + v4), ())) (
            j1 (v1, ()))) (
           nilc x2.a fun a5 =>
           ixn z1.2.2.1 x2.len <|
           ld (Addr.add (Addr.add a5 (z1.2.2.1.toNat * 2)) 1) (.lf (.int .i64)) fun v5 =>
           cl PP 41 #[.pointer r6.1, .int .i64 v5] [] fun r8 =>
           j1 (v1, ()))) (
         lp [.lf (.int .i64)] (0, ()) fun z2 go2 =>   -- i
          ifB (decide ((z2.1 : Int) < z1.1.len)) (
           lp [.lf (.int .i64)] (z2.1, ()) fun z3 go3 =>   -- k
            ifB (decide ((z3.1 : Int) < z1.1.len)) (
             nilc z1.1.a fun a6 =>
             ixn z3.1 z1.1.len <|
             nilc z1.1.a fun a7 =>
             ixn z2.1 z1.1.len <|
             ld (Addr.add a6 (z3.1.toNat * 1)) (.lf (.int .i64)) fun v8 =>
             ld (Addr.add a7 (z2.1.toNat * 1)) (.lf (.int .i64)) fun v9 =>
             ifB (decide ((v8 : Int) < v9)) (
              K (.bool false)) (
              nilc z1.2.1.a fun a8 =>
              ixn z3.1 z1.2.1.len <|
              nilc z1.2.1.a fun a9 =>
              ixn z2.1 z1.2.1.len <|
              nilc z1.1.a fun a10 =>
              ixn z3.1 z1.1.len <|
              nilc z1.1.a fun a11 =>
              ixn z2.1 z1.1.len <|
              ld (Addr.add a8 (z3.1.toNat * 1)) (.lf (.int .i64)) fun v10 =>
              ld (Addr.add a9 (z2.1.toNat * 1)) (.lf (.int .i64)) fun v11 =>
              ld (Addr.add a10 (z3.1.toNat * 1)) (.lf (.int .i64)) fun v12 =>
              ld (Addr.add a11 (z2.1.toNat * 1)) (.lf (.int .i64)) fun v13 =>
              ifB (decide ((IntKind.i64.wrap (v10 - v11) : Int) > (IntKind.i64.wrap (x1 + (IntKind.i64.wrap (x0 * (IntKind.i64.wrap (v12 - v13)))))))) (
               K (.bool false)) (
               nilc z1.2.1.a fun a12 =>
               ixn z3.1 z1.2.1.len <|
               nilc z1.2.1.a fun a13 =>
               ixn z2.1 z1.2.1.len <|
               ld (Addr.add a12 (z3.1.toNat * 1)) (.lf (.int .i64)) fun v14 =>
               ld (Addr.add a13 (z2.1.toNat * 1)) (.lf (.int .i64)) fun v15 =>
               ifB (decide ((v14 : Int) < v15)) (
                K (.bool false)) (
                go3 (IntKind.i64.wrap (z3.1 + 1), ()))))) (
             go2 (IntKind.i64.wrap (z2.1 + 1), ()))) (
           cl PP 34 #[] [.lf .bool] fun r10 =>
           K (.bool r10.1))))))))
theorem e11 (x0 : Int) (x1 : Int) (x2 : SlV) (K : Value → HP) : flatFn PP h11 Try.f11 [.int .i64 x0, .int .i64 x1, .slice x2.a x2.len x2.cap] K = t11 x0 x1 x2 K := by kernel_rfl

/-- depot/depotlaw22.BucketTicks -/
def h12 : Hints := ⟨[(0, [(13, .lf (.int .i64)), (14, .lf (.int .i64))])], [], []⟩
def t12 (x0 : Int) (x1 : Int) (x2 : Int) (x3 : Int) (x4 : SlV) (K : Value → HP) : HP :=
  ifB (decide ((x4.len : Int) > 100)) (
   cl PP 34 #[] [.lf .bool] fun r1 =>
   K (.bool r1.1)) (
   cl PP 35 #[.int .i64 x0, .int .i64 x1, .int .i64 x2, .int .i64 x3] [.lf .ptr] fun r2 =>
   cl PP 35 #[.int .i64 x0, .int .i64 x1, .int .i64 x2, .int .i64 x3] [.lf .ptr] fun r3 =>
   lp [.lf (.int .i64), .lf (.int .i64)] (x2, 0, ()) fun z1 go1 =>   -- last, i
    ifB (decide ((z1.2.1 : Int) < x4.len)) (
     nilc x4.a fun a1 =>
     ixn z1.2.1 x4.len <|
     ld (Addr.add a1 (z1.2.1.toNat * 1)) (.lf (.int .i64)) fun v1 =>
     cl PP 41 #[.pointer r2.1, .int .i64 v1] [] fun r4 =>
     nilc x4.a fun a2 =>
     ixn z1.2.1 x4.len <|
     ld (Addr.add a2 (z1.2.1.toNat * 1)) (.lf (.int .i64)) fun v2 =>
     go1 (imax z1.1 v2, IntKind.i64.wrap (z1.2.1 + 1), ())) (
     cl PP 41 #[.pointer r3.1, .int .i64 z1.1] [] fun r5 =>
     cl PP 37 #[.pointer r2.1] [.lf (.int .i64)] fun r6 =>
     cl PP 37 #[.pointer r3.1] [.lf (.int .i64)] fun r7 =>
     ifB ((r6.1 : Int) == r7.1) (
      cl PP 38 #[.pointer r2.1] [.lf (.int .i64)] fun r8 =>
      cl PP 38 #[.pointer r3.1] [.lf (.int .i64)] fun r9 =>
      ifB ((r8.1 : Int) == r9.1) (
       ifB (decide ((r6.1 : Int) ≥ 0)) (
        cl PP 39 #[.pointer r2.1, .int .i64 (IntKind.i64.wrap (r6.1 + 1))] [.lf .bool] fun r10 =>
        ifB (!r10.1) (
         cl PP 39 #[.pointer r2.1, .int .i64 r6.1] [.lf .bool] fun r11 =>
         ifB r11.1 (
          cl PP 37 #[.pointer r2.1] [.lf (.int .i64)] fun r12 =>
          ifB ((r12.1 : Int) == 0) (
           cl PP 34 #[] [.lf .bool] fun r13 =>
           K (.bool r13.1)) (
           K (.bool false))) (
          K (.bool false))) (
         K (.bool false))) (
        K (.bool false))) (
       K (.bool false))) (
      K (.bool false))))
theorem e12 (x0 : Int) (x1 : Int) (x2 : Int) (x3 : Int) (x4 : SlV) (K : Value → HP) : flatFn PP h12 Try.f12 [.int .i64 x0, .int .i64 x1, .int .i64 x2, .int .i64 x3, .slice x4.a x4.len x4.cap] K = t12 x0 x1 x2 x3 x4 K := by kernel_rfl

/-- depot/depotlaw28.GhostDoes -/
def h13 : Hints := ⟨[(0, [(9, .lf (.int .i64))])], [(13, [])], [(13, [0, 2, 3, 4, 5, 6, 1, 7, 8, 9, 10, 12, 13, 11, 14, 15, 16, 17, 18, 19, 21, 22, 20, 23, 24, 25])]⟩
def t13 (x0 : Int) (x1 : SlV) (x2 : Int) (K : Value → HP) : HP :=
  ifB (decide ((x1.len : Int) > 500)) (
   cl PP 43 #[] [.lf .bool] fun r1 =>
   K (.bool r1.1)) (
   cl PP 44 #[.int .i64 x0] [.lf .ptr] fun r2 =>
   cl PP 45 #[.int .i64 x0] [.lf .ptr] fun r3 =>
   lp [.lf (.int .i64)] (0, ()) fun z1 go1 =>   -- i
    ifB (decide ((z1.1 : Int) < x1.len)) (
     nilc x1.a fun a1 =>
     ixn z1.1 x1.len <|
     ld (Addr.add (Addr.add a1 (z1.1.toNat * 2)) 1) (.lf (.int .u64)) fun v1 =>
     jn (fun y1 : RsV [] =>
      nilc r3.1 fun a3 =>
      ld (Addr.add a3 1) (.lf .sl) fun v3 =>
      cl PP 50 #[.pointer r2.1] [.lf (.int .i64)] fun r8 =>
      keep (LdAt (Addr.add a3 1) [.slice v3.a v3.len v3.cap]) <|
      ifB ((r8.1 : Int) != v3.len) (
       K (.bool false)) (
       cl PP 51 #[.pointer r2.1, .int .u64 v1] [.lf .bool] fun r9 =>
       cl PP 52 #[.pointer r3.1, .int .u64 v1] [.lf .bool] fun r10 =>
       ifB (!(r9.1 == r10.1)) (
        K (.bool false)) (
        cl PP 51 #[.pointer r2.1, .int .u64 x2] [.lf .bool] fun r11 =>
        cl PP 52 #[.pointer r3.1, .int .u64 x2] [.lf .bool] fun r12 =>
        ifB (!(r11.1 == r12.1)) (
         K (.bool false)) (
         go1 (IntKind.i64.wrap (z1.1 + 1), ()))))) fun j1 =>
     nilc x1.a fun a2 =>
      ixn z1.1 x1.len <|
      ld (Addr.add a2 (z1.1.toNat * 2)) (.lf .bool) fun v2 =>
      ifB v2 (
       cl PP 46 #[.pointer r2.1, .int .u64 v1] [.lf .bool] fun r4 =>
       cl PP 47 #[.pointer r3.1, .int .u64 v1] [.lf .bool] fun r5 =>
       ifB (!(r4.1 == r5.1)) (
        K (.bool false)) (
        j1 (()))) (
       cl PP 48 #[.pointer r2.1, .int .u64 v1] [] fun r6 =>
       cl PP 49 #[.pointer r3.1, .int .u64 v1] [] fun r7 =>
       j1 (()))) (
     cl PP 43 #[] [.lf .bool] fun r13 =>
     K (.bool r13.1)))
theorem e13 (x0 : Int) (x1 : SlV) (x2 : Int) (K : Value → HP) : flatFn PP h13 Try.f13 [.int .i64 x0, .slice x1.a x1.len x1.cap, .int .u64 x2] K = t13 x0 x1 x2 K := by kernel_rfl

/-- depot/depotlaw28.GhostStays -/
def h14 : Hints := ⟨[(0, [(10, .lf (.int .i64))]), (2, [(11, .lf (.int .i64))])], [(12, [])], []⟩
def t14 (x0 : Int) (x1 : SlV) (x2 : Int) (x3 : SlV) (K : Value → HP) : HP :=
  ifB (decide ((x0 : Int) < 1)) (
   cl PP 43 #[] [.lf .bool] fun r1 =>
   K (.bool r1.1)) (
   ifB (decide ((x0 : Int) > 64)) (
    cl PP 43 #[] [.lf .bool] fun r2 =>
    K (.bool r2.1)) (
    ifB (decide ((x1.len : Int) > 200)) (
     cl PP 43 #[] [.lf .bool] fun r3 =>
     K (.bool r3.1)) (
     ifB (decide ((x3.len : Int) > 200)) (
      cl PP 43 #[] [.lf .bool] fun r4 =>
      K (.bool r4.1)) (
      cl PP 44 #[.int .i64 x0] [.lf .ptr] fun r5 =>
      lp [.lf (.int .i64)] (0, ()) fun z1 go1 =>   -- i
       ifB (decide ((z1.1 : Int) < x1.len)) (
        jn (fun y1 : RsV [] =>
         cl PP 50 #[.pointer r5.1] [.lf (.int .i64)] fun r9 =>
         ifB (decide ((r9.1 : Int) > x0)) (
          K (.bool false)) (
          go1 (IntKind.i64.wrap (z1.1 + 1), ()))) fun j1 =>
        nilc x1.a fun a1 =>
         ixn z1.1 x1.len <|
         ld (Addr.add a1 (z1.1.toNat * 2)) (.lf .bool) fun v1 =>
         ifB v1 (
          nilc x1.a fun a2 =>
          ixn z1.1 x1.len <|
          ld (Addr.add (Addr.add a2 (z1.1.toNat * 2)) 1) (.lf (.int .u64)) fun v2 =>
          cl PP 46 #[.pointer r5.1, .int .u64 v2] [.lf .bool] fun r6 =>
          nilc x1.a fun a3 =>
          ixn z1.1 x1.len <|
          ld (Addr.add (Addr.add a3 (z1.1.toNat * 2)) 1) (.lf (.int .u64)) fun v3 =>
          cl PP 51 #[.pointer r5.1, .int .u64 v3] [.lf .bool] fun r7 =>
          ifB r7.1 (
           K (.bool false)) (
           j1 (()))) (
          nilc x1.a fun a4 =>
          ixn z1.1 x1.len <|
          ld (Addr.add (Addr.add a4 (z1.1.toNat * 2)) 1) (.lf (.int .u64)) fun v4 =>
          cl PP 48 #[.pointer r5.1, .int .u64 v4] [] fun r8 =>
          j1 (()))) (
        cl PP 48 #[.pointer r5.1, .int .u64 x2] [] fun r10 =>
        cl PP 51 #[.pointer r5.1, .int .u64 x2] [.lf .bool] fun r11 =>
        ifB (!r11.1) (
         K (.bool false)) (
         lp [.lf (.int .i64)] (0, ()) fun z2 go2 =>   -- i
          ifB (decide ((z2.1 : Int) < x3.len)) (
           ifB (decide ((z2.1 : Int) < (IntKind.i64.wrap (x0 - 1)))) (
            nilc x3.a fun a5 =>
            ixn z2.1 x3.len <|
            ld (Addr.add a5 (z2.1.toNat * 1)) (.lf (.int .u64)) fun v5 =>
            cl PP 48 #[.pointer r5.1, .int .u64 v5] [] fun r12 =>
            go2 (IntKind.i64.wrap (z2.1 + 1), ())) (
            cl PP 51 #[.pointer r5.1, .int .u64 x2] [.lf .bool] fun r13 =>
            ifB r13.1 (
             cl PP 50 #[.pointer r5.1] [.lf (.int .i64)] fun r14 =>
             ifB (decide ((r14.1 : Int) ≤ x0)) (
              cl PP 46 #[.pointer r5.1, .int .u64 x2] [.lf .bool] fun r15 =>
              ifB r15.1 (
               cl PP 51 #[.pointer r5.1, .int .u64 x2] [.lf .bool] fun r16 =>
               ifB (!r16.1) (
                cl PP 43 #[] [.lf .bool] fun r17 =>
                K (.bool r17.1)) (
                K (.bool false))) (
               K (.bool false))) (
              K (.bool false))) (
             K (.bool false)))) (
           cl PP 51 #[.pointer r5.1, .int .u64 x2] [.lf .bool] fun r18 =>
           ifB r18.1 (
            cl PP 50 #[.pointer r5.1] [.lf (.int .i64)] fun r19 =>
            ifB (decide ((r19.1 : Int) ≤ x0)) (
             cl PP 46 #[.pointer r5.1, .int .u64 x2] [.lf .bool] fun r20 =>
             ifB r20.1 (
              cl PP 51 #[.pointer r5.1, .int .u64 x2] [.lf .bool] fun r21 =>
              ifB (!r21.1) (
               cl PP 43 #[] [.lf .bool] fun r22 =>
               K (.bool r22.1)) (
               K (.bool false))) (
              K (.bool false))) (
             K (.bool false))) (
            K (.bool false)))))))))
theorem e14 (x0 : Int) (x1 : SlV) (x2 : Int) (x3 : SlV) (K : Value → HP) : flatFn PP h14 Try.f14 [.int .i64 x0, .slice x1.a x1.len x1.cap, .int .u64 x2, .slice x3.a x3.len x3.cap] K = t14 x0 x1 x2 x3 K := by kernel_rfl

/-- depot/depotlaw04.sums -/
def h15 : Hints := ⟨[], [], []⟩
def t15 (K : Value → HP) : HP :=
  nw (.cells #[.int .u8 49, .int .u8 50, .int .u8 51, .int .u8 52, .int .u8 53, .int .u8 54, .int .u8 55, .int .u8 56, .int .u8 57] 5) fun n1 =>
  smW PP (convert 22 22 (.slice (some ⟨n1, 0, none⟩) 9 9)) [.lf .sl] fun v1 =>
  cl PP 16 #[.slice v1.1.a v1.1.len v1.1.cap] [.lf (.int .i64)] fun r1 =>
  ifB ((r1.1 : Int) == 3808858755) (
   cl PP 16 #[.slice none 0 0] [.lf (.int .i64)] fun r2 =>
   ifB ((r2.1 : Int) == 0) (
    nw (.cells #[.int .u8 49, .int .u8 50, .int .u8 51, .int .u8 52] 5) fun n2 =>
    smW PP (convert 22 22 (.slice (some ⟨n2, 0, none⟩) 4 4)) [.lf .sl] fun v2 =>
    cl PP 16 #[.slice v2.1.a v2.1.len v2.1.cap] [.lf (.int .i64)] fun r3 =>
    nw (.cells #[.int .u8 53, .int .u8 54, .int .u8 55, .int .u8 56, .int .u8 57] 5) fun n3 =>
    smW PP (convert 22 22 (.slice (some ⟨n3, 0, none⟩) 5 5)) [.lf .sl] fun v3 =>
    cl PP 17 #[.int .i64 r3.1, .slice v3.1.a v3.1.len v3.1.cap] [.lf (.int .i64)] fun r4 =>
    ifB ((r4.1 : Int) == 3808858755) (
     nw (.cells #[.int .u8 49, .int .u8 50, .int .u8 51, .int .u8 52, .int .u8 53, .int .u8 54, .int .u8 55, .int .u8 56, .int .u8 57] 5) fun n4 =>
     smW PP (convert 22 22 (.slice (some ⟨n4, 0, none⟩) 9 9)) [.lf .sl] fun v4 =>
     cl PP 18 #[.slice v4.1.a v4.1.len v4.1.cap, .int .i64 3808858755] [.lf .bool] fun r5 =>
     ifB r5.1 (
      cl PP 18 #[.slice none 0 0, .int .i64 1] [.lf .bool] fun r6 =>
      K (.bool (!r6.1))) (
      K (.bool false))) (
     K (.bool false))) (
    K (.bool false))) (
   K (.bool false))
theorem e15 (K : Value → HP) : flatFn PP h15 Try.f15 [] K = t15 K := by kernel_rfl

/-- depot/crc.Sum -/
def h16 : Hints := ⟨[], [], []⟩
def t16 (x0 : SlV) (K : Value → HP) : HP :=
  cl PP 17 #[.int .i64 0, .slice x0.a x0.len x0.cap] [.lf (.int .i64)] fun r1 =>
  K (.int .i64 r1.1)
theorem e16 (x0 : SlV) (K : Value → HP) : flatFn PP h16 Try.f16 [.slice x0.a x0.len x0.cap] K = t16 x0 K := by kernel_rfl

/-- depot/crc.More -/
def h17 : Hints := ⟨[], [], []⟩
def t17 (x0 : Int) (x1 : SlV) (K : Value → HP) : HP :=
  cl PP 53 #[.int .u32 (bitI .xor .u32 IntKind.u32.max (IntKind.u32.wrap x0)), .slice x1.a x1.len x1.cap] [.lf (.int .u32)] fun r1 =>
  K (.int .i64 (IntKind.i64.wrap (bitI .xor .u32 IntKind.u32.max r1.1)))
theorem e17 (x0 : Int) (x1 : SlV) (K : Value → HP) : flatFn PP h17 Try.f17 [.int .i64 x0, .slice x1.a x1.len x1.cap] K = t17 x0 x1 K := by kernel_rfl

/-- depot/crc.Check -/
def h18 : Hints := ⟨[], [], []⟩
def t18 (x0 : SlV) (x1 : Int) (K : Value → HP) : HP :=
  cl PP 16 #[.slice x0.a x0.len x0.cap] [.lf (.int .i64)] fun r1 =>
  K (.bool ((r1.1 : Int) == x1))
theorem e18 (x0 : SlV) (x1 : Int) (K : Value → HP) : flatFn PP h18 Try.f18 [.slice x0.a x0.len x0.cap, .int .i64 x1] K = t18 x0 x1 K := by kernel_rfl

/-- depot/depotref04.Sum -/
def h19 : Hints := ⟨[], [], []⟩
def t19 (x0 : SlV) (K : Value → HP) : HP :=
  cl PP 22 #[.int .i64 0, .slice x0.a x0.len x0.cap] [.lf (.int .i64)] fun r1 =>
  K (.int .i64 r1.1)
theorem e19 (x0 : SlV) (K : Value → HP) : flatFn PP h19 Try.f19 [.slice x0.a x0.len x0.cap] K = t19 x0 K := by kernel_rfl

/-- depot/crc.Step -/
def h20 : Hints := ⟨[], [], []⟩
def t20 (x0 : Int) (x1 : Int) (K : Value → HP) : HP :=
  nw (.cells #[.int .u8 x1] 5) fun n1 =>
  cl PP 53 #[.int .u32 (IntKind.u32.wrap x0), .slice (some ⟨n1, 0, none⟩) 1 1] [.lf (.int .u32)] fun r1 =>
  K (.int .i64 (IntKind.i64.wrap r1.1))
theorem e20 (x0 : Int) (x1 : Int) (K : Value → HP) : flatFn PP h20 Try.f20 [.int .i64 x0, .int .u8 x1] K = t20 x0 x1 K := by kernel_rfl

/-- depot/depotref04.Step -/
def h21 : Hints := ⟨[(0, [(5, .lf (.int .u32)), (6, .lf (.int .i64))])], [], []⟩
def t21 (x0 : Int) (x1 : Int) (K : Value → HP) : HP :=
  cl PP 54 #[.int .i64 x0] [.lf (.int .u32)] fun r1 =>
  lp [.lf (.int .u32), .lf (.int .i64)] (bitI .xor .u32 r1.1 (IntKind.u32.wrap x1), 0, ()) fun z1 go1 =>   -- s, i
   ifB (decide ((z1.2.1 : Int) < 8)) (
    req ((2 : Int) ≠ 0) <|
    req ((2 : Int) ≠ 0) <|
    ifB ((Int.tmod z1.1 2 : Int) == 1) (
     go1 (bitI .xor .u32 (IntKind.u32.wrap (Int.tdiv z1.1 2)) 2197175160, IntKind.i64.wrap (z1.2.1 + 1), ())) (
     go1 (IntKind.u32.wrap (Int.tdiv z1.1 2), IntKind.i64.wrap (z1.2.1 + 1), ()))) (
    K (.int .i64 (IntKind.i64.wrap z1.1)))
theorem e21 (x0 : Int) (x1 : Int) (K : Value → HP) : flatFn PP h21 Try.f21 [.int .i64 x0, .int .u8 x1] K = t21 x0 x1 K := by kernel_rfl

/-- depot/depotref04.More -/
def h22 : Hints := ⟨[(0, [(5, .lf (.int .i64)), (6, .lf (.int .i64))])], [], []⟩
def t22 (x0 : Int) (x1 : SlV) (K : Value → HP) : HP :=
  cl PP 54 #[.int .i64 x0] [.lf (.int .u32)] fun r1 =>
  lp [.lf (.int .i64), .lf (.int .i64)] (IntKind.i64.wrap (bitI .xor .u32 IntKind.u32.max r1.1), 0, ()) fun z1 go1 =>   -- s, i
   ifB (decide ((z1.2.1 : Int) < x1.len)) (
    nilc x1.a fun a1 =>
    ixn z1.2.1 x1.len <|
    ld (Addr.add a1 (z1.2.1.toNat * 1)) (.lf (.int .u8)) fun v1 =>
    cl PP 21 #[.int .i64 z1.1, .int .u8 v1] [.lf (.int .i64)] fun r2 =>
    go1 (r2.1, IntKind.i64.wrap (z1.2.1 + 1), ())) (
    cl PP 54 #[.int .i64 z1.1] [.lf (.int .u32)] fun r3 =>
    K (.int .i64 (IntKind.i64.wrap (bitI .xor .u32 IntKind.u32.max r3.1))))
theorem e22 (x0 : Int) (x1 : SlV) (K : Value → HP) : flatFn PP h22 Try.f22 [.int .i64 x0, .slice x1.a x1.len x1.cap] K = t22 x0 x1 K := by kernel_rfl

/-- depot/depotlaw05.mixes -/
def h23 : Hints := ⟨[], [], []⟩
def t23 (K : Value → HP) : HP :=
  cl PP 24 #[.int .u64 0, .int .u8 1] [.lf (.int .u64)] fun r1 =>
  ifB ((r1.1 : Int) == 1099511630259) (
   cl PP 26 #[.int .u64 1099511630259, .int .u8 1] [.lf (.int .u64)] fun r2 =>
   ifB ((r2.1 : Int) == 0) (
    cl PP 30 #[.int .u64 7, .int .i64 4] [.lf (.int .i64)] fun r3 =>
    ifB ((r3.1 : Int) == 3) (
     cl PP 30 #[.int .u64 7, .int .i64 0] [.lf (.int .i64)] fun r4 =>
     ifB ((r4.1 : Int) == 0) (
      cl PP 32 #[.int .u64 281474976710656] [.lf (.int .i64)] fun r5 =>
      ifB ((r5.1 : Int) == 1) (
       cl PP 28 #[.int .i64 1, .string ⟨#[97]⟩] [.lf (.int .u64)] fun r6 =>
       cl PP 28 #[.int .i64 2, .string ⟨#[97]⟩] [.lf (.int .u64)] fun r7 =>
       K (.bool ((r6.1 : Int) != r7.1))) (
       K (.bool false))) (
      K (.bool false))) (
     K (.bool false))) (
    K (.bool false))) (
   K (.bool false))
theorem e23 (K : Value → HP) : flatFn PP h23 Try.f23 [] K = t23 K := by kernel_rfl

/-- depot/mix.Step -/
def h24 : Hints := ⟨[], [], []⟩
def t24 (x0 : Int) (x1 : Int) (K : Value → HP) : HP :=
  nw (.cells #[.int .u8 x1] 5) fun n1 =>
  cl PP 55 #[.int .u64 x0, .slice (some ⟨n1, 0, none⟩) 1 1] [.lf (.int .u64)] fun r1 =>
  K (.int .u64 r1.1)
theorem e24 (x0 : Int) (x1 : Int) (K : Value → HP) : flatFn PP h24 Try.f24 [.int .u64 x0, .int .u8 x1] K = t24 x0 x1 K := by kernel_rfl

/-- depot/depotref05.Step -/
def h25 : Hints := ⟨[], [], []⟩
def t25 (x0 : Int) (x1 : Int) (K : Value → HP) : HP :=
  cl PP 56 #[.int .u64 (IntKind.u64.wrap ((bitI .xor .u64 x0 (IntKind.u64.wrap x1)) * 1099511628211)), .int .u64 29] [.lf (.int .u64)] fun r1 =>
  K (.int .u64 r1.1)
theorem e25 (x0 : Int) (x1 : Int) (K : Value → HP) : flatFn PP h25 Try.f25 [.int .u64 x0, .int .u8 x1] K = t25 x0 x1 K := by kernel_rfl

/-- depot/mix.Undo -/
def h26 : Hints := ⟨[], [], []⟩
def t26 (x0 : Int) (x1 : Int) (K : Value → HP) : HP :=
  req ((0 : Int) ≤ 29) <|
  req ((0 : Int) ≤ 58) <|
  cl PP 57 #[] [.lf (.int .u64)] fun r1 =>
  K (.int .u64 (bitI .xor .u64 (IntKind.u64.wrap ((bitI .xor .u64 x0 (bitI .xor .u64 (Int.fdiv x0 (2 ^ (min (29 : Int).toNat IntKind.u64.bits))) (Int.fdiv x0 (2 ^ (min (58 : Int).toNat IntKind.u64.bits))))) * r1.1)) (IntKind.u64.wrap x1)))
theorem e26 (x0 : Int) (x1 : Int) (K : Value → HP) : flatFn PP h26 Try.f26 [.int .u64 x0, .int .u8 x1] K = t26 x0 x1 K := by kernel_rfl

/-- depot/depotref05.Undo -/
def h27 : Hints := ⟨[(0, [(5, .lf (.int .u64)), (6, .lf (.int .i64))]), (2, [(8, .lf (.int .u64)), (9, .lf (.int .u64)), (10, .lf (.int .i64))])], [(8, [(7, .lf (.int .u64))])], []⟩
def t27 (x0 : Int) (x1 : Int) (K : Value → HP) : HP :=
  lp [.lf (.int .u64), .lf (.int .i64)] (0, 63, ()) fun z1 go1 =>   -- x, b
   ifB (decide ((z1.2.1 : Int) ≥ 0)) (
    jn (fun y1 : RsV [.lf (.int .u64)] =>
     req ((0 : Int) ≤ (IntKind.u64.wrap z1.2.1)) <|
     req ((0 : Int) ≤ (IntKind.u64.wrap z1.2.1)) <|
     go1 (bitI .or .u64 z1.1 (IntKind.u64.wrap ((bitI .xor .u64 (bitI .and .u64 (Int.fdiv x0 (2 ^ (min (IntKind.u64.wrap z1.2.1 : Int).toNat IntKind.u64.bits))) 1) y1.1) * 2 ^ (min (IntKind.u64.wrap z1.2.1 : Int).toNat IntKind.u64.bits))), IntKind.i64.wrap (z1.2.1 - 1), ())) fun j1 =>
    ifB (decide ((IntKind.i64.wrap (z1.2.1 + 29) : Int) ≤ 63)) (
      req ((0 : Int) ≤ (IntKind.u64.wrap (IntKind.i64.wrap (z1.2.1 + 29)))) <|
      j1 (bitI .and .u64 (Int.fdiv z1.1 (2 ^ (min (IntKind.u64.wrap (IntKind.i64.wrap (z1.2.1 + 29)) : Int).toNat IntKind.u64.bits))) 1, ())) (
      j1 (0, ()))) (
    lp [.lf (.int .u64), .lf (.int .u64), .lf (.int .i64)] (1, 1099511628211, 0, ()) fun z2 go2 =>   -- inverse, power, b
     ifB (decide ((z2.2.2.1 : Int) < 62)) (
      go2 (IntKind.u64.wrap (z2.1 * z2.2.1), IntKind.u64.wrap (z2.2.1 * z2.2.1), IntKind.i64.wrap (z2.2.2.1 + 1), ())) (
      K (.int .u64 (bitI .xor .u64 (IntKind.u64.wrap (z1.1 * z2.1)) (IntKind.u64.wrap x1)))))
theorem e27 (x0 : Int) (x1 : Int) (K : Value → HP) : flatFn PP h27 Try.f27 [.int .u64 x0, .int .u8 x1] K = t27 x0 x1 K := by kernel_rfl

/-- depot/mix.Hash -/
def h28 : Hints := ⟨[], [], []⟩
def t28 (x0 : Int) (x1 : ByteArray) (K : Value → HP) : HP :=
  smA PP (Conv.stringToBytes 5 x1) (.lf .sl) fun v1 =>
  cl PP 55 #[.int .u64 (bitI .xor .u64 (IntKind.u64.wrap x0) 11400714819323198485), .slice v1.a v1.len v1.cap] [.lf (.int .u64)] fun r1 =>
  req ((0 : Int) ≤ 32) <|
  K (.int .u64 (bitI .xor .u64 (IntKind.u64.wrap ((bitI .xor .u64 r1.1 (IntKind.u64.wrap x1.size)) * 11400714819323198485)) (Int.fdiv (IntKind.u64.wrap ((bitI .xor .u64 r1.1 (IntKind.u64.wrap x1.size)) * 11400714819323198485)) (2 ^ (min (32 : Int).toNat IntKind.u64.bits)))))
theorem e28 (x0 : Int) (x1 : ByteArray) (K : Value → HP) : flatFn PP h28 Try.f28 [.int .i64 x0, .string x1] K = t28 x0 x1 K := by kernel_rfl

/-- depot/depotref05.Hash -/
def h29 : Hints := ⟨[(0, [(5, .lf (.int .u64)), (6, .lf (.int .i64))])], [], []⟩
def t29 (x0 : Int) (x1 : ByteArray) (K : Value → HP) : HP :=
  lp [.lf (.int .u64), .lf (.int .i64)] (bitI .xor .u64 (IntKind.u64.wrap x0) 11400714819323198485, 0, ()) fun z1 go1 =>   -- h, i
   ifB (decide ((z1.2.1 : Int) < x1.size)) (
    ixn z1.2.1 x1.size <|
    cl PP 25 #[.int .u64 z1.1, .int .u8 (byteAt x1 z1.2.1)] [.lf (.int .u64)] fun r1 =>
    go1 (r1.1, IntKind.i64.wrap (z1.2.1 + 1), ())) (
    cl PP 56 #[.int .u64 (IntKind.u64.wrap ((bitI .xor .u64 z1.1 (IntKind.u64.wrap x1.size)) * 11400714819323198485)), .int .u64 32] [.lf (.int .u64)] fun r2 =>
    K (.int .u64 r2.1))
theorem e29 (x0 : Int) (x1 : ByteArray) (K : Value → HP) : flatFn PP h29 Try.f29 [.int .i64 x0, .string x1] K = t29 x0 x1 K := by kernel_rfl

/-- depot/mix.Set -/
def h30 : Hints := ⟨[], [], []⟩
def t30 (x0 : Int) (x1 : Int) (K : Value → HP) : HP :=
  ifB (decide ((x1 : Int) < 1)) (
   K (.int .i64 0)) (
   req ((IntKind.u64.wrap x1 : Int) ≠ 0) <|
   K (.int .i64 (IntKind.i64.wrap (Int.tmod x0 (IntKind.u64.wrap x1)))))
theorem e30 (x0 : Int) (x1 : Int) (K : Value → HP) : flatFn PP h30 Try.f30 [.int .u64 x0, .int .i64 x1] K = t30 x0 x1 K := by kernel_rfl

/-- depot/depotref05.Set -/
def h31 : Hints := ⟨[], [], []⟩
def t31 (x0 : Int) (x1 : Int) (K : Value → HP) : HP :=
  ifB (decide ((x1 : Int) < 1)) (
   K (.int .i64 0)) (
   req ((IntKind.u64.wrap x1 : Int) ≠ 0) <|
   K (.int .i64 (IntKind.i64.wrap (Int.tmod x0 (IntKind.u64.wrap x1)))))
theorem e31 (x0 : Int) (x1 : Int) (K : Value → HP) : flatFn PP h31 Try.f31 [.int .u64 x0, .int .i64 x1] K = t31 x0 x1 K := by kernel_rfl

/-- depot/mix.Part -/
def h32 : Hints := ⟨[], [], []⟩
def t32 (x0 : Int) (K : Value → HP) : HP :=
  req ((0 : Int) ≤ 48) <|
  K (.int .i64 (IntKind.i64.wrap (Int.fdiv x0 (2 ^ (min (48 : Int).toNat IntKind.u64.bits)))))
theorem e32 (x0 : Int) (K : Value → HP) : flatFn PP h32 Try.f32 [.int .u64 x0] K = t32 x0 K := by kernel_rfl

/-- depot/depotref05.Part -/
def h33 : Hints := ⟨[], [], []⟩
def t33 (x0 : Int) (K : Value → HP) : HP :=
  req ((281474976710656 : Int) ≠ 0) <|
  K (.int .i64 (IntKind.i64.wrap (IntKind.u64.wrap (Int.tdiv x0 281474976710656))))
theorem e33 (x0 : Int) (K : Value → HP) : flatFn PP h33 Try.f33 [.int .u64 x0] K = t33 x0 K := by kernel_rfl

/-- depot/depotlaw22.holds -/
def h34 : Hints := ⟨[], [], []⟩
def t34 (K : Value → HP) : HP :=
  cl PP 35 #[.int .i64 10, .int .i64 100, .int .i64 0, .int .i64 0] [.lf .ptr] fun r1 =>
  cl PP 41 #[.pointer r1.1, .int .i64 5] [] fun r2 =>
  cl PP 37 #[.pointer r1.1] [.lf (.int .i64)] fun r3 =>
  cl PP 39 #[.pointer r1.1, .int .i64 60] [.lf .bool] fun r4 =>
  cl PP 41 #[.pointer r1.1, .int .i64 50] [] fun r5 =>
  cl PP 39 #[.pointer r1.1, .int .i64 30] [.lf .bool] fun r6 =>
  cl PP 41 #[.pointer none, .int .i64 5] [] fun r7 =>
  ifB ((r3.1 : Int) == 50) (
   ifB (!r4.1) (
    ifB r6.1 (
     cl PP 37 #[.pointer r1.1] [.lf (.int .i64)] fun r8 =>
     ifB ((r8.1 : Int) == 70) (
      cl PP 38 #[.pointer r1.1] [.lf (.int .i64)] fun r9 =>
      ifB ((r9.1 : Int) == 50) (
       cl PP 39 #[.pointer none, .int .i64 0] [.lf .bool] fun r10 =>
       ifB (!r10.1) (
        cl PP 37 #[.pointer none] [.lf (.int .i64)] fun r11 =>
        cl PP 38 #[.pointer none] [.lf (.int .i64)] fun r12 =>
        K (.bool ((IntKind.i64.wrap (r11.1 + r12.1) : Int) == 0))) (
        K (.bool false))) (
       K (.bool false))) (
      K (.bool false))) (
     K (.bool false))) (
    K (.bool false))) (
   K (.bool false))
theorem e34 (K : Value → HP) : flatFn PP h34 Try.f34 [] K = t34 K := by kernel_rfl

/-- depot/bucket.New -/
def h35 : Hints := ⟨[], [], []⟩
def t35 (x0 : Int) (x1 : Int) (x2 : Int) (x3 : Int) (K : Value → HP) : HP :=
  nw (.cells #[.int .i64 1048576] 3) fun n1 =>
  cl PP 58 #[.int .i64 x0, .slice (some ⟨n1, 0, none⟩) 1 1] [.lf (.int .i64)] fun r1 =>
  nw (.cells #[.int .i64 253402300799] 3) fun n2 =>
  cl PP 58 #[.int .i64 x2, .slice (some ⟨n2, 0, none⟩) 1 1] [.lf (.int .i64)] fun r2 =>
  nw (.cells #[.int .i64 1073741824] 3) fun n3 =>
  cl PP 58 #[.int .i64 x1, .slice (some ⟨n3, 0, none⟩) 1 1] [.lf (.int .i64)] fun r3 =>
  nw (.cells #[.int .i64 r1.1, .int .i64 r2.1, .int .i64 r3.1, .int .i64 0] 80) fun n4 =>
  ld (Addr.add ⟨n4, 0, none⟩ 2) (.lf (.int .i64)) fun v1 =>
  nw (.cells #[.int .i64 v1] 3) fun n5 =>
  cl PP 58 #[.int .i64 x3, .slice (some ⟨n5, 0, none⟩) 1 1] [.lf (.int .i64)] fun r4 =>
  st (Addr.add ⟨n4, 0, none⟩ 3) [.int .i64 r4.1] <|
  K (.pointer (some ⟨n4, 0, none⟩))
theorem e35 (x0 : Int) (x1 : Int) (x2 : Int) (x3 : Int) (K : Value → HP) : flatFn PP h35 Try.f35 [.int .i64 x0, .int .i64 x1, .int .i64 x2, .int .i64 x3] K = t35 x0 x1 x2 x3 K := by kernel_rfl

/-- depot/depotref22.New -/
def h36 : Hints := ⟨[], [], []⟩
def t36 (x0 : Int) (x1 : Int) (x2 : Int) (x3 : Int) (K : Value → HP) : HP :=
  nw (.cells #[.int .i64 0, .int .i64 0, .int .i64 0, .int .i64 0] 46) fun n1 =>
  cl PP 59 #[.int .i64 x0, .int .i64 1048576] [.lf (.int .i64)] fun r1 =>
  cl PP 59 #[.int .i64 x1, .int .i64 1073741824] [.lf (.int .i64)] fun r2 =>
  cl PP 59 #[.int .i64 x2, .int .i64 253402300799] [.lf (.int .i64)] fun r3 =>
  cl PP 59 #[.int .i64 x1, .int .i64 1073741824] [.lf (.int .i64)] fun r4 =>
  cl PP 59 #[.int .i64 x3, .int .i64 r4.1] [.lf (.int .i64)] fun r5 =>
  st ⟨n1, 0, none⟩ [.int .i64 r1.1, .int .i64 r2.1, .int .i64 r3.1, .int .i64 r5.1] <|
  ld ⟨n1, 0, none⟩ (.agg [.int .i64, .int .i64, .int .i64, .int .i64]) fun v1 =>
  K (.agg #[.int .i64 v1.1, .int .i64 v1.2.1, .int .i64 v1.2.2.1, .int .i64 v1.2.2.2.1])
theorem e36 (x0 : Int) (x1 : Int) (x2 : Int) (x3 : Int) (K : Value → HP) : flatFn PP h36 Try.f36 [.int .i64 x0, .int .i64 x1, .int .i64 x2, .int .i64 x3] K = t36 x0 x1 x2 x3 K := by kernel_rfl

/-- (*depot/bucket.Bucket).Tokens -/
def h37 : Hints := ⟨[], [], []⟩
def t37 (x0 : Option Addr) (K : Value → HP) : HP :=
  ifB (Option.isNone x0) (
   K (.int .i64 0)) (
   nilc x0 fun a1 =>
   ld (Addr.add a1 3) (.lf (.int .i64)) fun v1 =>
   K (.int .i64 v1))
theorem e37 (x0 : Option Addr) (K : Value → HP) : flatFn PP h37 Try.f37 [.pointer x0] K = t37 x0 K := by kernel_rfl

/-- (*depot/bucket.Bucket).Now -/
def h38 : Hints := ⟨[], [], []⟩
def t38 (x0 : Option Addr) (K : Value → HP) : HP :=
  ifB (Option.isNone x0) (
   K (.int .i64 0)) (
   nilc x0 fun a1 =>
   ld (Addr.add a1 1) (.lf (.int .i64)) fun v1 =>
   K (.int .i64 v1))
theorem e38 (x0 : Option Addr) (K : Value → HP) : flatFn PP h38 Try.f38 [.pointer x0] K = t38 x0 K := by kernel_rfl

/-- (*depot/bucket.Bucket).Take -/
def h39 : Hints := ⟨[], [], []⟩
def t39 (x0 : Option Addr) (x1 : Int) (K : Value → HP) : HP :=
  ifB (Option.isNone x0) (
   K (.bool false)) (
   ifB (decide ((x1 : Int) < 0)) (
    K (.bool false)) (
    nilc x0 fun a1 =>
    ld (Addr.add a1 3) (.lf (.int .i64)) fun v1 =>
    ifB (decide ((x1 : Int) > v1)) (
     K (.bool false)) (
     nilc x0 fun a2 =>
     ld (Addr.add a2 3) (.lf (.int .i64)) fun v2 =>
     nilc x0 fun a3 =>
     st (Addr.add a3 3) [.int .i64 (IntKind.i64.wrap (v2 - x1))] <|
     K (.bool true))))
theorem e39 (x0 : Option Addr) (x1 : Int) (K : Value → HP) : flatFn PP h39 Try.f39 [.pointer x0, .int .i64 x1] K = t39 x0 x1 K := by kernel_rfl

/-- (*depot/depotref22.Bucket).Take -/
def h40 : Hints := ⟨[], [], []⟩
def t40 (x0 : Option Addr) (x1 : Int) (K : Value → HP) : HP :=
  ifB (decide ((x1 : Int) < 0)) (
   K (.bool false)) (
   nilc x0 fun a1 =>
   ld (Addr.add a1 3) (.lf (.int .i64)) fun v1 =>
   ifB (decide ((x1 : Int) > v1)) (
    K (.bool false)) (
    nilc x0 fun a2 =>
    ld (Addr.add a2 3) (.lf (.int .i64)) fun v2 =>
    nilc x0 fun a3 =>
    st (Addr.add a3 3) [.int .i64 (IntKind.i64.wrap (v2 - x1))] <|
    K (.bool true)))
theorem e40 (x0 : Option Addr) (x1 : Int) (K : Value → HP) : flatFn PP h40 Try.f40 [.pointer x0, .int .i64 x1] K = t40 x0 x1 K := by kernel_rfl

/-- (*depot/bucket.Bucket).Tick -/
def h41 : Hints := ⟨[], [], [(2, [0, 1, 2, 3, 4, 6, 8, 9, 10, 5, 7, 11, 14, 12, 13, 15, 16, 17, 18, 19, 20]), (1, [0, 1, 2, 4, 3, 5, 6, 7, 8, 9, 10, 11, 12, 13])]⟩
def t41 (x0 : Option Addr) (x1 : Int) (K : Value → HP) : HP :=
  ifB (Option.isNone x0) (
   K (.tuple #[])) (
   nilc x0 fun a1 =>
   ld a1 (.agg [.int .i64, .int .i64]) fun v1 =>
   nw (.cells #[.int .i64 253402300799] 3) fun n1 =>
   cl PP 58 #[.int .i64 x1, .slice (some ⟨n1, 0, none⟩) 1 1] [.lf (.int .i64)] fun r1 =>
   keep (LdAt a1 [.int .i64 v1.1, .int .i64 v1.2.1]) <|
   cl PP 60 #[.agg #[.int .i64 v1.1, .int .i64 v1.2.1], .int .i64 r1.1] [.lf (.int .i64), .agg [.int .i64, .int .i64]] fun r2 =>
   nw (.cells #[.int .i64 0, .int .i64 0] 78) fun n2 =>
   st ⟨n2, 0, none⟩ [.int .i64 r2.2.1.1, .int .i64 r2.2.1.2.1] <|
   nilc x0 fun a2 =>
   nilc x0 fun a3 =>
   ld (Addr.add a2 3) (.lf (.int .i64)) fun v2 =>
   ld (Addr.add a3 2) (.lf (.int .i64)) fun v3 =>
   ld ⟨n2, 0, none⟩ (.agg [.int .i64, .int .i64]) fun v4 =>
   nw (.cells #[.int .i64 v3] 3) fun n3 =>
   cl PP 58 #[.int .i64 (IntKind.i64.wrap (v2 + r2.1)), .slice (some ⟨n3, 0, none⟩) 1 1] [.lf (.int .i64)] fun r3 =>
   keep (LdAt ⟨n2, 0, none⟩ [.int .i64 v4.1, .int .i64 v4.2.1]) <|
   nilc x0 fun a4 =>
   st (Addr.add a4 3) [.int .i64 r3.1] <|
   keep (LdAt ⟨n2, 0, none⟩ [.int .i64 v4.1, .int .i64 v4.2.1]) <|
   nilc x0 fun a5 =>
   st a5 [.int .i64 v4.1, .int .i64 v4.2.1] <|
   K (.tuple #[]))
theorem e41 (x0 : Option Addr) (x1 : Int) (K : Value → HP) : flatFn PP h41 Try.f41 [.pointer x0, .int .i64 x1] K = t41 x0 x1 K := by kernel_rfl

/-- (*depot/depotref22.Bucket).Tick -/
def h42 : Hints := ⟨[], [], [(2, [0, 1, 2, 3, 5, 6, 7, 9, 10, 11, 12, 17, 18, 19, 4, 8, 13, 14, 15, 16, 20, 21, 22, 23, 24])]⟩
def t42 (x0 : Option Addr) (x1 : Int) (K : Value → HP) : HP :=
  cl PP 59 #[.int .i64 x1, .int .i64 253402300799] [.lf (.int .i64)] fun r1 =>
  nilc x0 fun a1 =>
  ld (Addr.add a1 2) (.lf (.int .i64)) fun v1 =>
  ifB (decide ((r1.1 : Int) > v1)) (
   nilc x0 fun a2 =>
   nilc x0 fun a3 =>
   nilc x0 fun a4 =>
   nilc x0 fun a5 =>
   ld (Addr.add a2 3) (.lf (.int .i64)) fun v2 =>
   ld a3 (.lf (.int .i64)) fun v3 =>
   ld (Addr.add a4 2) (.lf (.int .i64)) fun v4 =>
   ld (Addr.add a5 1) (.lf (.int .i64)) fun v5 =>
   nilc x0 fun a6 =>
   st (Addr.add a6 3) [.int .i64 (imin (IntKind.i64.wrap (v2 + (IntKind.i64.wrap (v3 * (IntKind.i64.wrap (r1.1 - v4)))))) v5)] <|
   nilc x0 fun a7 =>
   st (Addr.add a7 2) [.int .i64 r1.1] <|
   K (.tuple #[])) (
   K (.tuple #[]))
theorem e42 (x0 : Option Addr) (x1 : Int) (K : Value → HP) : flatFn PP h42 Try.f42 [.pointer x0, .int .i64 x1] K = t42 x0 x1 K := by kernel_rfl

/-- depot/depotlaw28.ghosts -/
def h43 : Hints := ⟨[(0, [(3, .lf (.int .i64))])], [], []⟩
def t43 (K : Value → HP) : HP :=
  cl PP 44 #[.int .i64 2] [.lf .ptr] fun r1 =>
  nw (.cells #[.int .u64 1, .int .u64 2, .int .u64 1, .int .u64 3] 34) fun n1 =>
  lp [.lf (.int .i64)] (0, ()) fun z1 go1 =>   -- i
   ifB (decide ((z1.1 : Int) < 4)) (
    ixn z1.1 4 <|
    ld (Addr.add ⟨n1, 0, none⟩ (z1.1.toNat * 1)) (.lf (.int .u64)) fun v1 =>
    cl PP 48 #[.pointer r1.1, .int .u64 v1] [] fun r2 =>
    go1 (IntKind.i64.wrap (z1.1 + 1), ())) (
    cl PP 50 #[.pointer r1.1] [.lf (.int .i64)] fun r3 =>
    cl PP 51 #[.pointer r1.1, .int .u64 1] [.lf .bool] fun r4 =>
    cl PP 51 #[.pointer r1.1, .int .u64 2] [.lf .bool] fun r5 =>
    cl PP 51 #[.pointer r1.1, .int .u64 3] [.lf .bool] fun r6 =>
    cl PP 46 #[.pointer r1.1, .int .u64 1] [.lf .bool] fun r7 =>
    cl PP 48 #[.pointer none, .int .u64 1] [] fun r8 =>
    ifB ((r3.1 : Int) == 2) (
     ifB r4.1 (
      ifB (!r5.1) (
       ifB r6.1 (
        ifB r7.1 (
         cl PP 46 #[.pointer r1.1, .int .u64 1] [.lf .bool] fun r9 =>
         ifB (!r9.1) (
          cl PP 50 #[.pointer r1.1] [.lf (.int .i64)] fun r10 =>
          ifB ((r10.1 : Int) == 1) (
           cl PP 51 #[.pointer none, .int .u64 1] [.lf .bool] fun r11 =>
           ifB (!r11.1) (
            cl PP 46 #[.pointer none, .int .u64 1] [.lf .bool] fun r12 =>
            ifB (!r12.1) (
             cl PP 50 #[.pointer none] [.lf (.int .i64)] fun r13 =>
             K (.bool ((r13.1 : Int) == 0))) (
             K (.bool false))) (
            K (.bool false))) (
           K (.bool false))) (
          K (.bool false))) (
         K (.bool false))) (
        K (.bool false))) (
       K (.bool false))) (
      K (.bool false))) (
     K (.bool false)))
theorem e43 (K : Value → HP) : flatFn PP h43 Try.f43 [] K = t43 K := by kernel_rfl

/-- depot/ghost.New -/
def h44 : Hints := ⟨[], [], []⟩
def t44 (x0 : Int) (K : Value → HP) : HP :=
  nw (.cells #[.int .i64 (imin (imax x0 0) 64), .int .u64 0, .int .u64 0, .int .u64 0, .int .u64 0, .int .u64 0, .int .u64 0, .int .u64 0, .int .u64 0, .int .u64 0, .int .u64 0, .int .u64 0, .int .u64 0, .int .u64 0, .int .u64 0, .int .u64 0, .int .u64 0, .int .u64 0, .int .u64 0, .int .u64 0, .int .u64 0, .int .u64 0, .int .u64 0, .int .u64 0, .int .u64 0, .int .u64 0, .int .u64 0, .int .u64 0, .int .u64 0, .int .u64 0, .int .u64 0, .int .u64 0, .int .u64 0, .int .u64 0, .int .u64 0, .int .u64 0, .int .u64 0, .int .u64 0, .int .u64 0, .int .u64 0, .int .u64 0, .int .u64 0, .int .u64 0, .int .u64 0, .int .u64 0, .int .u64 0, .int .u64 0, .int .u64 0, .int .u64 0, .int .u64 0, .int .u64 0, .int .u64 0, .int .u64 0, .int .u64 0, .int .u64 0, .int .u64 0, .int .u64 0, .int .u64 0, .int .u64 0, .int .u64 0, .int .u64 0, .int .u64 0, .int .u64 0, .int .u64 0, .int .u64 0, .int .i64 0, .int .i64 0] 87) fun n1 =>
  K (.pointer (some ⟨n1, 0, none⟩))
theorem e44 (x0 : Int) (K : Value → HP) : flatFn PP h44 Try.f44 [.int .i64 x0] K = t44 x0 K := by kernel_rfl

/-- depot/depotref28.New -/
def h45 : Hints := ⟨[], [], []⟩
def t45 (x0 : Int) (K : Value → HP) : HP :=
  nw (.cells #[.int .i64 (imin (imax x0 0) 64), .slice none 0 0] 68) fun n1 =>
  K (.pointer (some ⟨n1, 0, none⟩))
theorem e45 (x0 : Int) (K : Value → HP) : flatFn PP h45 Try.f45 [.int .i64 x0] K = t45 x0 K := by kernel_rfl

/-- (*depot/ghost.Ghost).Drop -/
def h46 : Hints := ⟨[], [], []⟩
def t46 (x0 : Option Addr) (x1 : Int) (K : Value → HP) : HP :=
  ifB (Option.isNone x0) (
   K (.bool false)) (
   cl PP 61 #[.pointer x0] [.lf .sl] fun r1 =>
   cl PP 62 #[.slice r1.1.a r1.1.len r1.1.cap, .int .u64 x1] [.lf (.int .i64)] fun r2 =>
   ifB (decide ((r2.1 : Int) < 0)) (
    K (.bool false)) (
    cl PP 64 #[.slice r1.1.a r1.1.len r1.1.cap, .int .i64 r2.1, .int .i64 (IntKind.i64.wrap (r2.1 + 1))] [.lf .sl] fun r3 =>
    cl PP 63 #[.pointer x0, .slice r3.1.a r3.1.len r3.1.cap] [] fun r4 =>
    K (.bool true)))
theorem e46 (x0 : Option Addr) (x1 : Int) (K : Value → HP) : flatFn PP h46 Try.f46 [.pointer x0, .int .u64 x1] K = t46 x0 x1 K := by kernel_rfl

/-- (*depot/depotref28.Ghost).Drop -/
def h47 : Hints := ⟨[], [], [(4, [0, 2, 3, 4, 6, 9, 10, 11, 13, 14, 5, 7, 12, 15, 1, 8, 16, 17, 18, 19])]⟩
def t47 (x0 : Option Addr) (x1 : Int) (K : Value → HP) : HP :=
  cl PP 65 #[.pointer x0, .int .u64 x1] [.lf (.int .i64)] fun r1 =>
  ifB (decide ((r1.1 : Int) < 0)) (
   K (.bool false)) (
   nilc x0 fun a1 =>
   nilc x0 fun a2 =>
   ld (Addr.add a1 1) (.lf .sl) fun v1 =>
   slc ⟨v1.a, v1.len, v1.cap⟩ 0 r1.1 v1.cap 1 fun s1 =>
   ld (Addr.add a2 1) (.lf .sl) fun v2 =>
   slc ⟨v2.a, v2.len, v2.cap⟩ (IntKind.i64.wrap (r1.1 + 1)) v2.len v2.cap 1 fun s2 =>
   nw (.cells #[] 34) fun n1 =>
   smW PP (Builtin.append_ #[66, 66] 66 #[.slice (some ⟨n1, 0, none⟩) 0 0, .slice s1.a s1.len s1.cap]) [.lf .sl] fun v3 =>
   keep (LdAt (Addr.add a2 1) [.slice v2.a v2.len v2.cap]) <|
   smW PP (Builtin.append_ #[66, 66] 66 #[.slice v3.1.a v3.1.len v3.1.cap, .slice s2.a s2.len s2.cap]) [.lf .sl] fun v4 =>
   nilc x0 fun a3 =>
   st (Addr.add a3 1) [.slice v4.1.a v4.1.len v4.1.cap] <|
   K (.bool true))
theorem e47 (x0 : Option Addr) (x1 : Int) (K : Value → HP) : flatFn PP h47 Try.f47 [.pointer x0, .int .u64 x1] K = t47 x0 x1 K := by kernel_rfl

/-- (*depot/ghost.Ghost).Add -/
def h48 : Hints := ⟨[], [(5, [])], [(5, [0, 1, 2, 3, 5, 6, 7, 11, 12, 13, 4, 8, 9, 10, 14, 15]), (2, [0, 1, 2, 4, 5, 6, 3, 7, 8])]⟩
def t48 (x0 : Option Addr) (x1 : Int) (K : Value → HP) : HP :=
  ifB (Option.isNone x0) (
   K (.tuple #[])) (
   nilc x0 fun a1 =>
   ld a1 (.lf (.int .i64)) fun v1 =>
   ifB ((v1 : Int) == 0) (
    K (.tuple #[])) (
    cl PP 46 #[.pointer x0, .int .u64 x1] [.lf .bool] fun r1 =>
    jn (fun y1 : RsV [] =>
     nilc x0 fun a8 =>
     nilc x0 fun a9 =>
     nilc x0 fun a10 =>
     ld (Addr.add a8 65) (.lf (.int .i64)) fun v6 =>
     ld (Addr.add a9 66) (.lf (.int .i64)) fun v7 =>
     req ((64 : Int) ≠ 0) <|
     ixn (Int.tmod (IntKind.i64.wrap (v6 + v7)) 64) 64 <|
     st (Addr.add (Addr.add a10 1) ((Int.tmod (IntKind.i64.wrap (v6 + v7)) 64).toNat * 1)) [.int .u64 x1] <|
     nilc x0 fun a11 =>
     ld (Addr.add a11 66) (.lf (.int .i64)) fun v8 =>
     nilc x0 fun a12 =>
     st (Addr.add a12 66) [.int .i64 (IntKind.i64.wrap (v8 + 1))] <|
     K (.tuple #[])) fun j1 =>
    nilc x0 fun a2 =>
     nilc x0 fun a3 =>
     ld (Addr.add a2 66) (.lf (.int .i64)) fun v2 =>
     ld a3 (.lf (.int .i64)) fun v3 =>
     ifB ((v2 : Int) == v3) (
      nilc x0 fun a4 =>
      ld (Addr.add a4 65) (.lf (.int .i64)) fun v4 =>
      req ((64 : Int) ≠ 0) <|
      nilc x0 fun a5 =>
      st (Addr.add a5 65) [.int .i64 (Int.tmod (IntKind.i64.wrap (v4 + 1)) 64)] <|
      nilc x0 fun a6 =>
      ld (Addr.add a6 66) (.lf (.int .i64)) fun v5 =>
      nilc x0 fun a7 =>
      st (Addr.add a7 66) [.int .i64 (IntKind.i64.wrap (v5 - 1))] <|
      j1 (())) (
      j1 (()))))
theorem e48 (x0 : Option Addr) (x1 : Int) (K : Value → HP) : flatFn PP h48 Try.f48 [.pointer x0, .int .u64 x1] K = t48 x0 x1 K := by kernel_rfl

end Go.Proofs.Ytnhpojbjkfgeoaa
