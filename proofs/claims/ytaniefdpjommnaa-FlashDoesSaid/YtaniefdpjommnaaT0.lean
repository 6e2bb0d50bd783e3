/-
  It is proved that the functions of the program are the trees that are printed here. There are no further conditions.
-/
import Derived.Test.YtaniefdpjommnaaHL12
import Derived.Test.YtaniefdpjommnaaProg
import Derived.KernelRfl
set_option linter.unusedVariables false
set_option maxRecDepth 100000
namespace Go.Proofs.Ytaniefdpjommnaa
open Go.HL
noncomputable abbrev PP : Program := Try.prog
theorem noNum : NoNum PP := by unfold NoNum; kernel_rfl
theorem mixed : PP.follows .mixedOrders = true := by kernel_rfl

/-- depot/depotlaw23.PageImages -/
def h3 : Hints := ⟨[], [], []⟩
def t3 (x0 : ShV (.agg [.int .i64, .int .i64, .int .i64, .int .i64, .int .i64])) (x1 : SlV) (x2 : Int) (K : Value → HP) : HP :=
  nw (.cells #[.int .i64 x0.1, .int .i64 x0.2.1, .int .i64 x0.2.2.1, .int .i64 x0.2.2.2.1, .int .i64 x0.2.2.2.2.1] 23) fun n1 =>
  ifB (decide ((x1.len : Int) > 1000)) (
   cl PP 11 #[] [.lf .bool] fun r1 =>
   K (.bool r1.1)) (
   ld ⟨n1, 0, none⟩ (.agg [.int .i64, .int .i64, .int .i64, .int .i64, .int .i64]) fun v1 =>
   cl PP 12 #[.agg #[.int .i64 v1.1, .int .i64 v1.2.1, .int .i64 v1.2.2.1, .int .i64 v1.2.2.2.1, .int .i64 v1.2.2.2.2.1], .slice x1.a x1.len x1.cap, .int .i64 x2] [.lf .sl, .lf (.int .i64)] fun r2 =>
   ld ⟨n1, 0, none⟩ (.agg [.int .i64, .int .i64, .int .i64, .int .i64, .int .i64]) fun v2 =>
   cl PP 13 #[.agg #[.int .i64 v2.1, .int .i64 v2.2.1, .int .i64 v2.2.2.1, .int .i64 v2.2.2.2.1, .int .i64 v2.2.2.2.2.1], .slice x1.a x1.len x1.cap, .int .i64 x2] [.lf .sl, .lf (.int .i64)] fun r3 =>
   cl PP 14 #[.slice r2.1.a r2.1.len r2.1.cap, .slice r3.1.a r3.1.len r3.1.cap] [.lf .bool] fun r4 =>
   ifB r4.1 (
    ifB ((r2.2.1 : Int) == r3.2.1) (
     cl PP 15 #[.int .i64 x2] [.lf (.int .i64)] fun r5 =>
     cl PP 16 #[.int .i64 x2] [.lf (.int .i64)] fun r6 =>
     ifB ((r5.1 : Int) == r6.1) (
      cl PP 11 #[] [.lf .bool] fun r7 =>
      K (.bool r7.1)) (
      K (.bool false))) (
     K (.bool false))) (
    K (.bool false)))
theorem e3 (x0 : ShV (.agg [.int .i64, .int .i64, .int .i64, .int .i64, .int .i64])) (x1 : SlV) (x2 : Int) (K : Value → HP) : flatFn PP h3 Try.f3 [.agg #[.int .i64 x0.1, .int .i64 x0.2.1, .int .i64 x0.2.2.1, .int .i64 x0.2.2.2.1, .int .i64 x0.2.2.2.2.1], .slice x1.a x1.len x1.cap, .int .i64 x2] K = t3 x0 x1 x2 K := by kernel_rfl

/-- depot/depotlaw23.PageParses -/
def h4 : Hints := ⟨[], [], []⟩
def t4 (x0 : SlV) (K : Value → HP) : HP :=
  ifB (decide ((x0.len : Int) > 1000)) (
   cl PP 11 #[] [.lf .bool] fun r1 =>
   K (.bool r1.1)) (
   cl PP 17 #[.slice x0.a x0.len x0.cap] [.agg [.int .i64, .int .i64, .int .i64, .int .i64, .int .i64], .lf .sl, .lf (.int .i64)] fun r2 =>
   nw (.cells #[.int .i64 0, .int .i64 0, .int .i64 0, .int .i64 0, .int .i64 0] 23) fun n1 =>
   st ⟨n1, 0, none⟩ [.int .i64 r2.1.1, .int .i64 r2.1.2.1, .int .i64 r2.1.2.2.1, .int .i64 r2.1.2.2.2.1, .int .i64 r2.1.2.2.2.2.1] <|
   cl PP 18 #[.slice x0.a x0.len x0.cap] [.agg [.int .i64, .int .i64, .int .i64, .int .i64, .int .i64], .lf .sl, .lf (.int .i64)] fun r3 =>
   nw (.cells #[.int .i64 0, .int .i64 0, .int .i64 0, .int .i64 0, .int .i64 0] 23) fun n2 =>
   st ⟨n2, 0, none⟩ [.int .i64 r3.1.1, .int .i64 r3.1.2.1, .int .i64 r3.1.2.2.1, .int .i64 r3.1.2.2.2.1, .int .i64 r3.1.2.2.2.2.1] <|
   ld ⟨n1, 0, none⟩ (.agg [.int .i64, .int .i64, .int .i64, .int .i64, .int .i64]) fun v1 =>
   ld ⟨n2, 0, none⟩ (.agg [.int .i64, .int .i64, .int .i64, .int .i64, .int .i64]) fun v2 =>
   smP PP (binOp .eql 23 (.agg #[.int .i64 v1.1, .int .i64 v1.2.1, .int .i64 v1.2.2.1, .int .i64 v1.2.2.2.1, .int .i64 v1.2.2.2.2.1]) (.agg #[.int .i64 v2.1, .int .i64 v2.2.1, .int .i64 v2.2.2.1, .int .i64 v2.2.2.2.1, .int .i64 v2.2.2.2.2.1])) (.lf .bool) fun v3 =>
   ifB v3 (
    cl PP 14 #[.slice r2.2.1.a r2.2.1.len r2.2.1.cap, .slice r3.2.1.a r3.2.1.len r3.2.1.cap] [.lf .bool] fun r4 =>
    ifB r4.1 (
     ifB ((r2.2.2.1 : Int) == r3.2.2.1) (
      cl PP 19 #[.slice x0.a x0.len x0.cap] [.lf .bool] fun r5 =>
      cl PP 20 #[.slice x0.a x0.len x0.cap] [.lf .bool] fun r6 =>
      ifB (r5.1 == r6.1) (
       cl PP 11 #[] [.lf .bool] fun r7 =>
       K (.bool r7.1)) (
       K (.bool false))) (
      K (.bool false))) (
     K (.bool false))) (
    K (.bool false)))
theorem e4 (x0 : SlV) (K : Value → HP) : flatFn PP h4 Try.f4 [.slice x0.a x0.len x0.cap] K = t4 x0 K := by kernel_rfl

/-- depot/depotlaw23.PageBack -/
def h5 : Hints := ⟨[], [(8, [])], []⟩
def t5 (x0 : ShV (.agg [.int .i64, .int .i64, .int .i64, .int .i64, .int .i64])) (x1 : SlV) (x2 : Int) (x3 : SlV) (K : Value → HP) : HP :=
  nw (.cells #[.int .i64 x0.1, .int .i64 x0.2.1, .int .i64 x0.2.2.1, .int .i64 x0.2.2.2.1, .int .i64 x0.2.2.2.2.1] 23) fun n1 =>
  ifB (decide ((x1.len : Int) > 1000)) (
   cl PP 11 #[] [.lf .bool] fun r1 =>
   K (.bool r1.1)) (
   ifB (decide ((x3.len : Int) > 1000)) (
    cl PP 11 #[] [.lf .bool] fun r2 =>
    K (.bool r2.1)) (
    cl PP 17 #[.slice x3.a x3.len x3.cap] [.agg [.int .i64, .int .i64, .int .i64, .int .i64, .int .i64], .lf .sl, .lf (.int .i64)] fun r3 =>
    nw (.cells #[.int .i64 0, .int .i64 0, .int .i64 0, .int .i64 0, .int .i64 0] 23) fun n2 =>
    st ⟨n2, 0, none⟩ [.int .i64 r3.1.1, .int .i64 r3.1.2.1, .int .i64 r3.1.2.2.1, .int .i64 r3.1.2.2.2.1, .int .i64 r3.1.2.2.2.2.1] <|
    jn (fun y1 : RsV [] =>
     ld ⟨n1, 0, none⟩ (.agg [.int .i64, .int .i64, .int .i64, .int .i64, .int .i64]) fun v2 =>
     cl PP 12 #[.agg #[.int .i64 v2.1, .int .i64 v2.2.1, .int .i64 v2.2.2.1, .int .i64 v2.2.2.2.1, .int .i64 v2.2.2.2.2.1], .slice x1.a x1.len x1.cap, .int .i64 x2] [.lf .sl, .lf (.int .i64)] fun r7 =>
     ifB ((r7.2.1 : Int) != 0) (
      ifB ((r7.1.len : Int) == 0) (
       cl PP 11 #[] [.lf .bool] fun r8 =>
       K (.bool r8.1)) (
       K (.bool false))) (
      cl PP 17 #[.slice r7.1.a r7.1.len r7.1.cap] [.agg [.int .i64, .int .i64, .int .i64, .int .i64, .int .i64], .lf .sl, .lf (.int .i64)] fun r9 =>
      st ⟨n2, 0, none⟩ [.int .i64 r9.1.1, .int .i64 r9.1.2.1, .int .i64 r9.1.2.2.1, .int .i64 r9.1.2.2.2.1, .int .i64 r9.1.2.2.2.2.1] <|
      ld ⟨n2, 0, none⟩ (.agg [.int .i64, .int .i64, .int .i64, .int .i64, .int .i64]) fun v3 =>
      ld ⟨n1, 0, none⟩ (.agg [.int .i64, .int .i64, .int .i64, .int .i64, .int .i64]) fun v4 =>
      smP PP (binOp .eql 23 (.agg #[.int .i64 v3.1, .int .i64 v3.2.1, .int .i64 v3.2.2.1, .int .i64 v3.2.2.2.1, .int .i64 v3.2.2.2.2.1]) (.agg #[.int .i64 v4.1, .int .i64 v4.2.1, .int .i64 v4.2.2.1, .int .i64 v4.2.2.2.1, .int .i64 v4.2.2.2.2.1])) (.lf .bool) fun v5 =>
      ifB v5 (
       cl PP 14 #[.slice r9.2.1.a r9.2.1.len r9.2.1.cap, .slice x1.a x1.len x1.cap] [.lf .bool] fun r10 =>
       ifB r10.1 (
        ifB ((r9.2.2.1 : Int) == 0) (
         ifB ((r7.1.len : Int) == x2) (
          cl PP 15 #[.int .i64 x2] [.lf (.int .i64)] fun r11 =>
          ifB (decide ((x1.len : Int) ≤ r11.1)) (
           cl PP 11 #[] [.lf .bool] fun r12 =>
           K (.bool r12.1)) (
           K (.bool false))) (
          K (.bool false))) (
         K (.bool false))) (
        K (.bool false))) (
       K (.bool false)))) fun j1 =>
    ifB ((r3.2.2.1 : Int) == 0) (
      ld ⟨n2, 0, none⟩ (.agg [.int .i64, .int .i64, .int .i64, .int .i64, .int .i64]) fun v1 =>
      cl PP 12 #[.agg #[.int .i64 v1.1, .int .i64 v1.2.1, .int .i64 v1.2.2.1, .int .i64 v1.2.2.2.1, .int .i64 v1.2.2.2.2.1], .slice r3.2.1.a r3.2.1.len r3.2.1.cap, .int .i64 x3.len] [.lf .sl, .lf (.int .i64)] fun r4 =>
      ifB ((r4.2.1 : Int) != 0) (
       K (.bool false)) (
       cl PP 14 #[.slice x3.a x3.len x3.cap, .slice r4.1.a r4.1.len r4.1.cap] [.lf .bool] fun r5 =>
       ifB (!r5.1) (
        K (.bool false)) (
        cl PP 19 #[.slice x3.a x3.len x3.cap] [.lf .bool] fun r6 =>
        ifB r6.1 (
         K (.bool false)) (
         j1 (()))))) (
      j1 (()))))
theorem e5 (x0 : ShV (.agg [.int .i64, .int .i64, .int .i64, .int .i64, .int .i64])) (x1 : SlV) (x2 : Int) (x3 : SlV) (K : Value → HP) : flatFn PP h5 Try.f5 [.agg #[.int .i64 x0.1, .int .i64 x0.2.1, .int .i64 x0.2.2.1, .int .i64 x0.2.2.2.1, .int .i64 x0.2.2.2.2.1], .slice x1.a x1.len x1.cap, .int .i64 x2, .slice x3.a x3.len x3.cap] K = t5 x0 x1 x2 x3 K := by kernel_rfl

/-- depot/depotlaw23.PageBurst -/
def h6 : Hints := ⟨[(0, [(14, .lf .bool), (15, .lf (.int .i64))])], [], []⟩
def t6 (x0 : ShV (.agg [.int .i64, .int .i64, .int .i64, .int .i64, .int .i64])) (x1 : SlV) (x2 : Int) (x3 : Int) (x4 : Int) (K : Value → HP) : HP :=
  nw (.cells #[.int .i64 x0.1, .int .i64 x0.2.1, .int .i64 x0.2.2.1, .int .i64 x0.2.2.2.1, .int .i64 x0.2.2.2.2.1] 23) fun n1 =>
  ifB (decide ((x1.len : Int) > 500)) (
   cl PP 11 #[] [.lf .bool] fun r1 =>
   K (.bool r1.1)) (
   ld ⟨n1, 0, none⟩ (.agg [.int .i64, .int .i64, .int .i64, .int .i64, .int .i64]) fun v1 =>
   cl PP 12 #[.agg #[.int .i64 v1.1, .int .i64 v1.2.1, .int .i64 v1.2.2.1, .int .i64 v1.2.2.2.1, .int .i64 v1.2.2.2.2.1], .slice x1.a x1.len x1.cap, .int .i64 x2] [.lf .sl, .lf (.int .i64)] fun r2 =>
   ifB ((r2.2.1 : Int) != 0) (
    ifB ((r2.1.len : Int) == 0) (
     cl PP 11 #[] [.lf .bool] fun r3 =>
     K (.bool r3.1)) (
     K (.bool false))) (
    ifB (decide ((r2.1.len : Int) < 64)) (
     ifB ((r2.1.len : Int) == 0) (
      cl PP 11 #[] [.lf .bool] fun r4 =>
      K (.bool r4.1)) (
      K (.bool false))) (
     req ((IntKind.i64.wrap (8 * (IntKind.i64.wrap (r2.1.len - 4))) : Int) ≠ 0) <|
     req ((IntKind.i64.wrap (8 * (IntKind.i64.wrap (r2.1.len - 4))) : Int) ≠ 0) <|
     lp [.lf .bool, .lf (.int .i64)] (false, 0, ()) fun z1 go1 =>   -- turned, i
      ifB (decide ((z1.2.1 : Int) < 32)) (
       ifB (decide ((IntKind.i64.wrap ((Int.tmod (IntKind.i64.wrap ((Int.tmod x3 (IntKind.i64.wrap (8 * (IntKind.i64.wrap (r2.1.len - 4))))) + (IntKind.i64.wrap (8 * (IntKind.i64.wrap (r2.1.len - 4)))))) (IntKind.i64.wrap (8 * (IntKind.i64.wrap (r2.1.len - 4))))) + z1.2.1) : Int) < (IntKind.i64.wrap (8 * (IntKind.i64.wrap (r2.1.len - 4)))))) (
        req ((0 : Int) ≤ (IntKind.u64.wrap z1.2.1)) <|
        ifB ((bitI .and .u32 (Int.fdiv x4 (2 ^ (min (IntKind.u64.wrap z1.2.1 : Int).toNat IntKind.u32.bits))) 1 : Int) == 1) (
         req ((8 : Int) ≠ 0) <|
         req ((8 : Int) ≠ 0) <|
         nilc r2.1.a fun a1 =>
         ixn (IntKind.i64.wrap (Int.tdiv (IntKind.i64.wrap ((Int.tmod (IntKind.i64.wrap ((Int.tmod x3 (IntKind.i64.wrap (8 * (IntKind.i64.wrap (r2.1.len - 4))))) + (IntKind.i64.wrap (8 * (IntKind.i64.wrap (r2.1.len - 4)))))) (IntKind.i64.wrap (8 * (IntKind.i64.wrap (r2.1.len - 4))))) + z1.2.1)) 8)) r2.1.len <|
         ld (Addr.add a1 ((IntKind.i64.wrap (Int.tdiv (IntKind.i64.wrap ((Int.tmod (IntKind.i64.wrap ((Int.tmod x3 (IntKind.i64.wrap (8 * (IntKind.i64.wrap (r2.1.len - 4))))) + (IntKind.i64.wrap (8 * (IntKind.i64.wrap (r2.1.len - 4)))))) (IntKind.i64.wrap (8 * (IntKind.i64.wrap (r2.1.len - 4))))) + z1.2.1)) 8)).toNat * 1)) (.lf (.int .u8)) fun v2 =>
         req ((8 : Int) ≠ 0) <|
         req ((0 : Int) ≤ (IntKind.u64.wrap (Int.tmod (IntKind.i64.wrap ((Int.tmod (IntKind.i64.wrap ((Int.tmod x3 (IntKind.i64.wrap (8 * (IntKind.i64.wrap (r2.1.len - 4))))) + (IntKind.i64.wrap (8 * (IntKind.i64.wrap (r2.1.len - 4)))))) (IntKind.i64.wrap (8 * (IntKind.i64.wrap (r2.1.len - 4))))) + z1.2.1)) 8))) <|
         nilc r2.1.a fun a2 =>
         ixn (IntKind.i64.wrap (Int.tdiv (IntKind.i64.wrap ((Int.tmod (IntKind.i64.wrap ((Int.tmod x3 (IntKind.i64.wrap (8 * (IntKind.i64.wrap (r2.1.len - 4))))) + (IntKind.i64.wrap (8 * (IntKind.i64.wrap (r2.1.len - 4)))))) (IntKind.i64.wrap (8 * (IntKind.i64.wrap (r2.1.len - 4))))) + z1.2.1)) 8)) r2.1.len <|
         st (Addr.add a2 ((IntKind.i64.wrap (Int.tdiv (IntKind.i64.wrap ((Int.tmod (IntKind.i64.wrap ((Int.tmod x3 (IntKind.i64.wrap (8 * (IntKind.i64.wrap (r2.1.len - 4))))) + (IntKind.i64.wrap (8 * (IntKind.i64.wrap (r2.1.len - 4)))))) (IntKind.i64.wrap (8 * (IntKind.i64.wrap (r2.1.len - 4))))) + z1.2.1)) 8)).toNat * 1)) [.int .u8 (bitI .xor .u8 v2 (IntKind.u8.wrap (1 * 2 ^ (min (IntKind.u64.wrap (Int.tmod (IntKind.i64.wrap ((Int.tmod (IntKind.i64.wrap ((Int.tmod x3 (IntKind.i64.wrap (8 * (IntKind.i64.wrap (r2.1.len - 4))))) + (IntKind.i64.wrap (8 * (IntKind.i64.wrap (r2.1.len - 4)))))) (IntKind.i64.wrap (8 * (IntKind.i64.wrap (r2.1.len - 4))))) + z1.2.1)) 8) : Int).toNat IntKind.u8.bits))))] <|
         go1 (true, IntKind.i64.wrap (z1.2.1 + 1), ())) (
         go1 (z1.1, IntKind.i64.wrap (z1.2.1 + 1), ()))) (
        cl PP 17 #[.slice r2.1.a r2.1.len r2.1.cap] [.agg [.int .i64, .int .i64, .int .i64, .int .i64, .int .i64], .lf .sl, .lf (.int .i64)] fun r5 =>
        nw (.cells #[.int .i64 0, .int .i64 0, .int .i64 0, .int .i64 0, .int .i64 0] 23) fun n2 =>
        st ⟨n2, 0, none⟩ [.int .i64 r5.1.1, .int .i64 r5.1.2.1, .int .i64 r5.1.2.2.1, .int .i64 r5.1.2.2.2.1, .int .i64 r5.1.2.2.2.2.1] <|
        ifB ((r5.2.2.1 : Int) == 12) (
         ifB (true == z1.1) (
          ifB z1.1 (
           cl PP 11 #[] [.lf .bool] fun r6 =>
           K (.bool r6.1)) (
           ifB ((r5.2.2.1 : Int) == 0) (
            cl PP 11 #[] [.lf .bool] fun r7 =>
            K (.bool r7.1)) (
            K (.bool false)))) (
          K (.bool false))) (
         ifB (((r5.2.2.1 : Int) == 15) == z1.1) (
          ifB z1.1 (
           cl PP 11 #[] [.lf .bool] fun r8 =>
           K (.bool r8.1)) (
           ifB ((r5.2.2.1 : Int) == 0) (
            cl PP 11 #[] [.lf .bool] fun r9 =>
            K (.bool r9.1)) (
            K (.bool false)))) (
          K (.bool false))))) (
       cl PP 17 #[.slice r2.1.a r2.1.len r2.1.cap] [.agg [.int .i64, .int .i64, .int .i64, .int .i64, .int .i64], .lf .sl, .lf (.int .i64)] fun r10 =>
       nw (.cells #[.int .i64 0, .int .i64 0, .int .i64 0, .int .i64 0, .int .i64 0] 23) fun n3 =>
       st ⟨n3, 0, none⟩ [.int .i64 r10.1.1, .int .i64 r10.1.2.1, .int .i64 r10.1.2.2.1, .int .i64 r10.1.2.2.2.1, .int .i64 r10.1.2.2.2.2.1] <|
       ifB ((r10.2.2.1 : Int) == 12) (
        ifB (true == z1.1) (
         ifB z1.1 (
          cl PP 11 #[] [.lf .bool] fun r11 =>
          K (.bool r11.1)) (
          ifB ((r10.2.2.1 : Int) == 0) (
           cl PP 11 #[] [.lf .bool] fun r12 =>
           K (.bool r12.1)) (
           K (.bool false)))) (
         K (.bool false))) (
        ifB (((r10.2.2.1 : Int) == 15) == z1.1) (
         ifB z1.1 (
          cl PP 11 #[] [.lf .bool] fun r13 =>
          K (.bool r13.1)) (
          ifB ((r10.2.2.1 : Int) == 0) (
           cl PP 11 #[] [.lf .bool] fun r14 =>
           K (.bool r14.1)) (
           K (.bool false)))) (
         K (.bool false)))))))
theorem e6 (x0 : ShV (.agg [.int .i64, .int .i64, .int .i64, .int .i64, .int .i64])) (x1 : SlV) (x2 : Int) (x3 : Int) (x4 : Int) (K : Value → HP) : flatFn PP h6 Try.f6 [.agg #[.int .i64 x0.1, .int .i64 x0.2.1, .int .i64 x0.2.2.1, .int .i64 x0.2.2.2.1, .int .i64 x0.2.2.2.2.1], .slice x1.a x1.len x1.cap, .int .i64 x2, .int .i64 x3, .int .u32 x4] K = t6 x0 x1 x2 x3 x4 K := by kernel_rfl

/-- depot/depotlaw21.FlashDoes -/
def h7 : Hints := ⟨[(0, [(9, .lf (.int .i64))])], [], [(15, [0, 2, 3, 4, 5, 1, 6, 7, 8, 10, 9, 11, 12, 13, 14, 16, 17, 18, 15, 19, 20, 21, 22, 23, 24, 25, 26, 27, 28, 29, 30, 31]), (13, [0, 1, 2, 3, 4, 5, 6, 7, 8, 9, 10, 12, 13, 14, 16, 15, 17, 18, 11, 19, 20, 21, 22, 24, 25, 26, 28, 27, 29, 30, 23, 31, 32, 33, 34, 35, 37, 38, 39, 41, 40, 42, 43, 36, 44, 45, 46]), (10, [0, 1, 2, 3, 4, 5, 6, 7, 8, 9, 11, 12, 13, 14, 10, 15, 16, 17, 18, 20, 21, 22, 23, 19, 24, 25])]⟩
def t7 (x0 : ShV (.agg [.int .i64, .int .i64, .int .i64, .int .i64])) (x1 : SlV) (K : Value → HP) : HP :=
  nw (.cells #[.int .i64 x0.1, .int .i64 x0.2.1, .int .i64 x0.2.2.1, .int .i64 x0.2.2.2.1] 44) fun n1 =>
  ld ⟨n1, 0, none⟩ (.agg [.int .i64, .int .i64, .int .i64, .int .i64]) fun v1 =>
  cl PP 21 #[.agg #[.int .i64 v1.1, .int .i64 v1.2.1, .int .i64 v1.2.2.1, .int .i64 v1.2.2.2.1]] [.lf .ptr, .lf (.int .i64)] fun r1 =>
  ld ⟨n1, 0, none⟩ (.agg [.int .i64, .int .i64, .int .i64, .int .i64]) fun v2 =>
  cl PP 22 #[.agg #[.int .i64 v2.1, .int .i64 v2.2.1, .int .i64 v2.2.2.1, .int .i64 v2.2.2.2.1]] [.lf .ptr, .lf (.int .i64)] fun r2 =>
  ifB ((r1.2.1 : Int) != r2.2.1) (
   K (.bool false)) (
   cl PP 23 #[.slice x1.a x1.len x1.cap] [.lf .bool] fun r3 =>
   ifB (!r3.1) (
    cl PP 24 #[] [.lf .bool] fun r4 =>
    K (.bool r4.1)) (
    ifB ((r1.2.1 : Int) != 0) (
     cl PP 24 #[] [.lf .bool] fun r5 =>
     K (.bool r5.1)) (
     lp [.lf (.int .i64)] (0, ()) fun z1 go1 =>   -- i
      ifB (decide ((z1.1 : Int) < x1.len)) (
       nilc x1.a fun a1 =>
       ixn z1.1 x1.len <|
       ld (Addr.add a1 (z1.1.toNat * 6)) (.agg [.int .i64, .int .i64, .int .i64, .sl, .int .i64, .int .i64]) fun v3 =>
       cl PP 25 #[.pointer r1.1, .pointer r2.1, .agg #[.int .i64 v3.1, .int .i64 v3.2.1, .int .i64 v3.2.2.1, .slice v3.2.2.2.1.a v3.2.2.2.1.len v3.2.2.2.1.cap, .int .i64 v3.2.2.2.2.1, .int .i64 v3.2.2.2.2.2.1]] [.lf .bool] fun r6 =>
       ifB (!r6.1) (
        K (.bool false)) (
        nilc r2.1 fun a2 =>
        ld (Addr.add a2 8) (.lf (.int .i64)) fun v4 =>
        cl PP 26 #[.pointer r1.1] [.lf (.int .i64)] fun r7 =>
        keep (LdAt (Addr.add a2 8) [.int .i64 v4]) <|
        ifB ((r7.1 : Int) != v4) (
         K (.bool false)) (
         nilc r2.1 fun a3 =>
         ld (Addr.add a3 9) (.lf .bool) fun v5 =>
         cl PP 27 #[.pointer r1.1] [.lf .bool] fun r8 =>
         keep (LdAt (Addr.add a3 9) [.bool v5]) <|
         ifB (!(r8.1 == v5)) (
          K (.bool false)) (
          nilc x1.a fun a4 =>
          ixn z1.1 x1.len <|
          ld (Addr.add (Addr.add a4 (z1.1.toNat * 6)) 1) (.lf (.int .i64)) fun v6 =>
          ifB (decide ((v6 : Int) ≥ 0)) (
           ld ⟨n1, 0, none⟩ (.lf (.int .i64)) fun v7 =>
           ifB (decide ((v6 : Int) < v7)) (
            nilc r2.1 fun a5 =>
            ld (Addr.add a5 5) (.lf .sl) fun v8 =>
            nilc v8.a fun a6 =>
            ixn v6 v8.len <|
            ld (Addr.add a6 (v6.toNat * 1)) (.lf (.int .i64)) fun v9 =>
            cl PP 28 #[.pointer r1.1, .int .i64 v6] [.lf (.int .i64)] fun r9 =>
            keep (LdAt (Addr.add a6 (v6.toNat * 1)) [.int .i64 v9]) <|
            keep (LdAt (Addr.add a5 5) [.slice v8.a v8.len v8.cap]) <|
            ifB ((r9.1 : Int) != v9) (
             K (.bool false)) (
             nilc r2.1 fun a7 =>
             ld (Addr.add a7 6) (.lf .sl) fun v10 =>
             nilc v10.a fun a8 =>
             ixn v6 v10.len <|
             ld (Addr.add a8 (v6.toNat * 1)) (.lf (.int .i64)) fun v11 =>
             cl PP 29 #[.pointer r1.1, .int .i64 v6] [.lf (.int .i64)] fun r10 =>
             keep (LdAt (Addr.add a8 (v6.toNat * 1)) [.int .i64 v11]) <|
             keep (LdAt (Addr.add a7 6) [.slice v10.a v10.len v10.cap]) <|
             ifB ((r10.1 : Int) != v11) (
              K (.bool false)) (
              nilc r2.1 fun a9 =>
              ld (Addr.add a9 7) (.lf .sl) fun v12 =>
              nilc v12.a fun a10 =>
              ixn v6 v12.len <|
              ld (Addr.add a10 (v6.toNat * 1)) (.lf .bool) fun v13 =>
              cl PP 30 #[.pointer r1.1, .int .i64 v6] [.lf .bool] fun r11 =>
              keep (LdAt (Addr.add a10 (v6.toNat * 1)) [.bool v13]) <|
              keep (LdAt (Addr.add a9 7) [.slice v12.a v12.len v12.cap]) <|
              ifB (!(r11.1 == v13)) (
               K (.bool false)) (
               go1 (IntKind.i64.wrap (z1.1 + 1), ()))))) (
            go1 (IntKind.i64.wrap (z1.1 + 1), ()))) (
           go1 (IntKind.i64.wrap (z1.1 + 1), ())))))) (
       nilc r2.1 fun a11 =>
       ld (Addr.add a11 12) (.lf .sl) fun v14 =>
       cl PP 32 #[.pointer r1.1] [.lf .sl] fun r12 =>
       keep (LdAt (Addr.add a11 12) [.slice v14.a v14.len v14.cap]) <|
       cl PP 31 #[.slice r12.1.a r12.1.len r12.1.cap, .slice v14.a v14.len v14.cap] [.lf .bool] fun r13 =>
       ifB r13.1 (
        ld ⟨n1, 0, none⟩ (.agg [.int .i64, .int .i64, .int .i64, .int .i64]) fun v15 =>
        cl PP 33 #[.pointer r1.1] [.agg [.int .i64, .int .i64, .int .i64, .int .i64]] fun r14 =>
        keep (LdAt ⟨n1, 0, none⟩ [.int .i64 v15.1, .int .i64 v15.2.1, .int .i64 v15.2.2.1, .int .i64 v15.2.2.2.1]) <|
        smP PP (binOp .eql 44 (.agg #[.int .i64 r14.1.1, .int .i64 r14.1.2.1, .int .i64 r14.1.2.2.1, .int .i64 r14.1.2.2.2.1]) (.agg #[.int .i64 v15.1, .int .i64 v15.2.1, .int .i64 v15.2.2.1, .int .i64 v15.2.2.2.1])) (.lf .bool) fun v16 =>
        ifB v16 (
         ld ⟨n1, 0, none⟩ (.lf (.int .i64)) fun v17 =>
         cl PP 28 #[.pointer r1.1, .int .i64 (-1)] [.lf (.int .i64)] fun r15 =>
         keep (LdAt ⟨n1, 0, none⟩ [.int .i64 v17]) <|
         cl PP 29 #[.pointer r1.1, .int .i64 v17] [.lf (.int .i64)] fun r16 =>
         ifB ((IntKind.i64.wrap (r15.1 + r16.1) : Int) == 0) (
          cl PP 30 #[.pointer r1.1, .int .i64 (-1)] [.lf .bool] fun r17 =>
          ifB (!r17.1) (
           cl PP 24 #[] [.lf .bool] fun r18 =>
           K (.bool r18.1)) (
           K (.bool false))) (
          K (.bool false))) (
         K (.bool false))) (
        K (.bool false))))))
theorem e7 (x0 : ShV (.agg [.int .i64, .int .i64, .int .i64, .int .i64])) (x1 : SlV) (K : Value → HP) : flatFn PP h7 Try.f7 [.agg #[.int .i64 x0.1, .int .i64 x0.2.1, .int .i64 x0.2.2.1, .int .i64 x0.2.2.2.1], .slice x1.a x1.len x1.cap] K = t7 x0 x1 K := by kernel_rfl

/-- depot/depotlaw21.FlashNil -/
def h8 : Hints := ⟨[], [], [(5, [0, 1, 3, 5, 2, 4, 6, 7, 8, 9, 10, 11, 12, 13, 14, 15, 16, 17, 18, 19, 20, 21, 22, 25, 26, 30, 23, 27, 24, 28, 29, 31, 32, 33, 34, 35, 36, 37, 38, 39, 40, 41, 42, 43, 44, 45, 46, 47, 48, 49, 50, 51, 52, 53, 54, 56, 55, 57, 58, 59, 60, 61, 62])]⟩
def t8 (x0 : ShV (.agg [.int .i64, .int .i64, .int .i64, .sl, .int .i64, .int .i64])) (K : Value → HP) : HP :=
  nw (.cells #[.int .i64 x0.1, .int .i64 x0.2.1, .int .i64 x0.2.2.1, .slice x0.2.2.2.1.a x0.2.2.2.1.len x0.2.2.2.1.cap, .int .i64 x0.2.2.2.2.1, .int .i64 x0.2.2.2.2.2.1] 55) fun n1 =>
  ld (Addr.add ⟨n1, 0, none⟩ 4) (.lf (.int .i64)) fun v1 =>
  ld (Addr.add ⟨n1, 0, none⟩ 5) (.lf (.int .i64)) fun v2 =>
  cl PP 34 #[.pointer none, .int .i64 v1, .int .i64 v2] [] fun r1 =>
  cl PP 35 #[.pointer none] [] fun r2 =>
  ld (Addr.add ⟨n1, 0, none⟩ 1) (.lf (.int .i64)) fun v3 =>
  ld (Addr.add ⟨n1, 0, none⟩ 2) (.lf (.int .i64)) fun v4 =>
  cl PP 36 #[.pointer none, .int .i64 v3, .int .i64 v4] [.lf .sl, .lf (.int .i64)] fun r3 =>
  ld (Addr.add ⟨n1, 0, none⟩ 1) (.lf (.int .i64)) fun v5 =>
  ld (Addr.add ⟨n1, 0, none⟩ 2) (.lf (.int .i64)) fun v6 =>
  ld (Addr.add ⟨n1, 0, none⟩ 3) (.lf .sl) fun v7 =>
  cl PP 37 #[.pointer none, .int .i64 v5, .int .i64 v6, .slice v7.a v7.len v7.cap] [.lf (.int .i64)] fun r4 =>
  ifB ((r4.1 : Int) == 1) (
   ifB ((r3.2.1 : Int) == 1) (
    ld (Addr.add ⟨n1, 0, none⟩ 1) (.lf (.int .i64)) fun v8 =>
    cl PP 38 #[.pointer none, .int .i64 v8] [.lf (.int .i64)] fun r5 =>
    ifB ((r5.1 : Int) == 1) (
     ld (Addr.add ⟨n1, 0, none⟩ 1) (.lf (.int .i64)) fun v9 =>
     ld (Addr.add ⟨n1, 0, none⟩ 1) (.lf (.int .i64)) fun v10 =>
     cl PP 28 #[.pointer none, .int .i64 v9] [.lf (.int .i64)] fun r6 =>
     keep (LdAt (Addr.add ⟨n1, 0, none⟩ 1) [.int .i64 v10]) <|
     cl PP 29 #[.pointer none, .int .i64 v10] [.lf (.int .i64)] fun r7 =>
     cl PP 26 #[.pointer none] [.lf (.int .i64)] fun r8 =>
     ifB ((IntKind.i64.wrap ((IntKind.i64.wrap (r6.1 + r7.1)) + r8.1) : Int) == 0) (
      ld (Addr.add ⟨n1, 0, none⟩ 1) (.lf (.int .i64)) fun v11 =>
      cl PP 30 #[.pointer none, .int .i64 v11] [.lf .bool] fun r9 =>
      ifB (!r9.1) (
       cl PP 27 #[.pointer none] [.lf .bool] fun r10 =>
       ifB (!r10.1) (
        cl PP 32 #[.pointer none] [.lf .sl] fun r11 =>
        ifB ((r11.1.len : Int) == 0) (
         cl PP 33 #[.pointer none] [.agg [.int .i64, .int .i64, .int .i64, .int .i64]] fun r12 =>
         smP PP (binOp .eql 44 (.agg #[.int .i64 r12.1.1, .int .i64 r12.1.2.1, .int .i64 r12.1.2.2.1, .int .i64 r12.1.2.2.2.1]) (.agg #[.int .i64 0, .int .i64 0, .int .i64 0, .int .i64 0])) (.lf .bool) fun v12 =>
         ifB v12 (
          cl PP 24 #[] [.lf .bool] fun r13 =>
          K (.bool r13.1)) (
          K (.bool false))) (
         K (.bool false))) (
        K (.bool false))) (
       K (.bool false))) (
      K (.bool false))) (
     K (.bool false))) (
    K (.bool false))) (
   K (.bool false))
theorem e8 (x0 : ShV (.agg [.int .i64, .int .i64, .int .i64, .sl, .int .i64, .int .i64])) (K : Value → HP) : flatFn PP h8 Try.f8 [.agg #[.int .i64 x0.1, .int .i64 x0.2.1, .int .i64 x0.2.2.1, .slice x0.2.2.2.1.a x0.2.2.2.1.len x0.2.2.2.1.cap, .int .i64 x0.2.2.2.2.1, .int .i64 x0.2.2.2.2.2.1]] K = t8 x0 K := by kernel_rfl

/-- depot/depotlaw21.FlashKeeps -/
def h9 : Hints := ⟨[(0, [(9, .lf (.int .i64))]), (2, [(11, .lf (.int .i64))])], [], []⟩
def t9 (x0 : SlV) (x1 : SlV) (x2 : SlV) (K : Value → HP) : HP :=
  cl PP 21 #[.agg #[.int .i64 3, .int .i64 8, .int .i64 64, .int .i64 100]] [.lf .ptr, .lf (.int .i64)] fun r1 =>
  ifB ((r1.2.1 : Int) != 0) (
   K (.bool false)) (
   cl PP 23 #[.slice x0.a x0.len x0.cap] [.lf .bool] fun r2 =>
   ifB (!r2.1) (
    cl PP 24 #[] [.lf .bool] fun r3 =>
    K (.bool r3.1)) (
    cl PP 23 #[.slice x2.a x2.len x2.cap] [.lf .bool] fun r4 =>
    ifB (!r4.1) (
     cl PP 24 #[] [.lf .bool] fun r5 =>
     K (.bool r5.1)) (
     ifB (decide ((x1.len : Int) > 600)) (
      cl PP 24 #[] [.lf .bool] fun r6 =>
      K (.bool r6.1)) (
      lp [.lf (.int .i64)] (0, ()) fun z1 go1 =>   -- i
       ifB (decide ((z1.1 : Int) < x0.len)) (
        nilc x0.a fun a1 =>
        ixn z1.1 x0.len <|
        ld (Addr.add a1 (z1.1.toNat * 6)) (.agg [.int .i64, .int .i64, .int .i64, .sl, .int .i64, .int .i64]) fun v1 =>
        cl PP 39 #[.pointer r1.1, .agg #[.int .i64 v1.1, .int .i64 v1.2.1, .int .i64 v1.2.2.1, .slice v1.2.2.2.1.a v1.2.2.2.1.len v1.2.2.2.1.cap, .int .i64 v1.2.2.2.2.1, .int .i64 v1.2.2.2.2.2.1]] [] fun r7 =>
        go1 (IntKind.i64.wrap (z1.1 + 1), ())) (
        cl PP 35 #[.pointer r1.1] [] fun r8 =>
        cl PP 28 #[.pointer r1.1, .int .i64 1] [.lf (.int .i64)] fun r9 =>
        cl PP 37 #[.pointer r1.1, .int .i64 1, .int .i64 r9.1, .slice x1.a x1.len x1.cap] [.lf (.int .i64)] fun r10 =>
        ifB ((r10.1 : Int) != 0) (
         ifB ((r9.1 : Int) == 8) (
          cl PP 24 #[] [.lf .bool] fun r11 =>
          K (.bool r11.1)) (
          ifB ((x1.len : Int) != 64) (
           cl PP 24 #[] [.lf .bool] fun r12 =>
           K (.bool r12.1)) (
           cl PP 30 #[.pointer r1.1, .int .i64 1] [.lf .bool] fun r13 =>
           ifB r13.1 (
            cl PP 24 #[] [.lf .bool] fun r14 =>
            K (.bool r14.1)) (
            K (.bool false))))) (
         lp [.lf (.int .i64)] (0, ()) fun z2 go2 =>   -- i
          ifB (decide ((z2.1 : Int) < x2.len)) (
           nilc x2.a fun a2 =>
           ixn z2.1 x2.len <|
           ld (Addr.add a2 (z2.1.toNat * 6)) (.lf (.int .i64)) fun v2 =>
           ifB ((v2 : Int) == 2) (
            nilc x2.a fun a3 =>
            ixn z2.1 x2.len <|
            ld (Addr.add (Addr.add a3 (z2.1.toNat * 6)) 1) (.lf (.int .i64)) fun v3 =>
            ifB ((v3 : Int) == 1) (
             cl PP 24 #[] [.lf .bool] fun r15 =>
             K (.bool r15.1)) (
             nilc x2.a fun a4 =>
             ixn z2.1 x2.len <|
             ld (Addr.add a4 (z2.1.toNat * 6)) (.agg [.int .i64, .int .i64, .int .i64, .sl, .int .i64, .int .i64]) fun v4 =>
             cl PP 39 #[.pointer r1.1, .agg #[.int .i64 v4.1, .int .i64 v4.2.1, .int .i64 v4.2.2.1, .slice v4.2.2.2.1.a v4.2.2.2.1.len v4.2.2.2.1.cap, .int .i64 v4.2.2.2.2.1, .int .i64 v4.2.2.2.2.2.1]] [] fun r16 =>
             go2 (IntKind.i64.wrap (z2.1 + 1), ()))) (
            nilc x2.a fun a5 =>
            ixn z2.1 x2.len <|
            ld (Addr.add a5 (z2.1.toNat * 6)) (.agg [.int .i64, .int .i64, .int .i64, .sl, .int .i64, .int .i64]) fun v5 =>
            cl PP 39 #[.pointer r1.1, .agg #[.int .i64 v5.1, .int .i64 v5.2.1, .int .i64 v5.2.2.1, .slice v5.2.2.2.1.a v5.2.2.2.1.len v5.2.2.2.1.cap, .int .i64 v5.2.2.2.2.1, .int .i64 v5.2.2.2.2.2.1]] [] fun r17 =>
            go2 (IntKind.i64.wrap (z2.1 + 1), ()))) (
           cl PP 35 #[.pointer r1.1] [] fun r18 =>
           cl PP 36 #[.pointer r1.1, .int .i64 1, .int .i64 r9.1] [.lf .sl, .lf (.int .i64)] fun r19 =>
           cl PP 14 #[.slice r19.1.a r19.1.len r19.1.cap, .slice x1.a x1.len x1.cap] [.lf .bool] fun r20 =>
           ifB r20.1 (
            ifB ((r19.2.1 : Int) == 0) (
             cl PP 28 #[.pointer r1.1, .int .i64 1] [.lf (.int .i64)] fun r21 =>
             ifB (decide ((r21.1 : Int) > r9.1)) (
              cl PP 24 #[] [.lf .bool] fun r22 =>
              K (.bool r22.1)) (
              K (.bool false))) (
             K (.bool false))) (
            K (.bool false)))))))))
theorem e9 (x0 : SlV) (x1 : SlV) (x2 : SlV) (K : Value → HP) : flatFn PP h9 Try.f9 [.slice x0.a x0.len x0.cap, .slice x1.a x1.len x1.cap, .slice x2.a x2.len x2.cap] K = t9 x0 x1 x2 K := by kernel_rfl

/-- depot/depotlaw21.FlashTears -/
def h10 : Hints := ⟨[(0, [(5, .lf (.int .i64))]), (2, [(13, .lf (.int .i64))]), (4, [(14, .lf (.int .i64))]), (6, [(14, .lf (.int .i64))])], [], [(21, [0, 1, 2, 3, 4, 5, 6, 7, 8, 9, 10, 11, 12, 13, 14, 15, 16, 17, 18, 19, 20, 21, 22, 24, 27, 28, 29, 30, 32, 23, 25, 26, 31, 33, 34, 35, 36]), (14, [0, 1, 2, 4, 3, 5, 6, 7, 9, 12, 13, 14, 8, 10, 11, 15, 16, 17, 18, 20, 23, 19, 21, 22, 24, 25, 26, 27, 29, 30, 31, 28, 32, 33, 34, 35, 36, 37, 38, 39])]⟩
def t10 (x0 : SlV) (K : Value → HP) : HP :=
  cl PP 40 #[] [.agg [.int .i64, .int .i64, .int .i64, .int .i64]] fun r1 =>
  cl PP 21 #[.agg #[.int .i64 r1.1.1, .int .i64 r1.1.2.1, .int .i64 r1.1.2.2.1, .int .i64 r1.1.2.2.2.1]] [.lf .ptr, .lf (.int .i64)] fun r2 =>
  ifB ((r2.2.1 : Int) != 0) (
   K (.bool false)) (
   cl PP 23 #[.slice x0.a x0.len x0.cap] [.lf .bool] fun r3 =>
   ifB (!r3.1) (
    cl PP 24 #[] [.lf .bool] fun r4 =>
    K (.bool r4.1)) (
    lp [.lf (.int .i64)] (0, ()) fun z1 go1 =>   -- i
     ifB (decide ((z1.1 : Int) < x0.len)) (
      nilc x0.a fun a1 =>
      ixn z1.1 x0.len <|
      ld (Addr.add a1 (z1.1.toNat * 6)) (.agg [.int .i64, .int .i64, .int .i64, .sl, .int .i64, .int .i64]) fun v1 =>
      nw (.cells #[.int .i64 0, .int .i64 0, .int .i64 0, .slice none 0 0, .int .i64 0, .int .i64 0] 55) fun n1 =>
      st ⟨n1, 0, none⟩ [.int .i64 v1.1, .int .i64 v1.2.1, .int .i64 v1.2.2.1, .slice v1.2.2.2.1.a v1.2.2.2.1.len v1.2.2.2.1.cap, .int .i64 v1.2.2.2.2.1, .int .i64 v1.2.2.2.2.2.1] <|
      cl PP 27 #[.pointer r2.1] [.lf .bool] fun r5 =>
      cl PP 26 #[.pointer r2.1] [.lf (.int .i64)] fun r6 =>
      cl PP 29 #[.pointer r2.1, .int .i64 0] [.lf (.int .i64)] fun r7 =>
      cl PP 29 #[.pointer r2.1, .int .i64 1] [.lf (.int .i64)] fun r8 =>
      cl PP 28 #[.pointer r2.1, .int .i64 0] [.lf (.int .i64)] fun r9 =>
      cl PP 28 #[.pointer r2.1, .int .i64 1] [.lf (.int .i64)] fun r10 =>
      ld ⟨n1, 0, none⟩ (.agg [.int .i64, .int .i64, .int .i64, .sl, .int .i64, .int .i64]) fun v2 =>
      cl PP 39 #[.pointer r2.1, .agg #[.int .i64 v2.1, .int .i64 v2.2.1, .int .i64 v2.2.2.1, .slice v2.2.2.2.1.a v2.2.2.2.1.len v2.2.2.2.1.cap, .int .i64 v2.2.2.2.2.1, .int .i64 v2.2.2.2.2.2.1]] [] fun r11 =>
      cl PP 29 #[.pointer r2.1, .int .i64 0] [.lf (.int .i64)] fun r12 =>
      ifB (decide ((r12.1 : Int) < r7.1)) (
       K (.bool false)) (
       cl PP 29 #[.pointer r2.1, .int .i64 1] [.lf (.int .i64)] fun r13 =>
       ifB (decide ((r13.1 : Int) < r8.1)) (
        K (.bool false)) (
        cl PP 26 #[.pointer r2.1] [.lf (.int .i64)] fun r14 =>
        ifB (decide ((r14.1 : Int) < r6.1)) (
         K (.bool false)) (
         ld ⟨n1, 0, none⟩ (.lf (.int .i64)) fun v3 =>
         ifB ((v3 : Int) == 3) (
          cl PP 27 #[.pointer r2.1] [.lf .bool] fun r15 =>
          ifB (!(r15.1 == r5.1)) (
           K (.bool false)) (
           ifB r5.1 (
            cl PP 26 #[.pointer r2.1] [.lf (.int .i64)] fun r16 =>
            ifB ((r16.1 : Int) != r6.1) (
             K (.bool false)) (
             cl PP 29 #[.pointer r2.1, .int .i64 0] [.lf (.int .i64)] fun r17 =>
             cl PP 29 #[.pointer r2.1, .int .i64 1] [.lf (.int .i64)] fun r18 =>
             ifB ((IntKind.i64.wrap (r17.1 + r18.1) : Int) != (IntKind.i64.wrap (r7.1 + r8.1))) (
              K (.bool false)) (
              cl PP 28 #[.pointer r2.1, .int .i64 0] [.lf (.int .i64)] fun r19 =>
              cl PP 28 #[.pointer r2.1, .int .i64 1] [.lf (.int .i64)] fun r20 =>
              ifB ((IntKind.i64.wrap (r19.1 + r20.1) : Int) != (IntKind.i64.wrap (r9.1 + r10.1))) (
               K (.bool false)) (
               ld ⟨n1, 0, none⟩ (.lf (.int .i64)) fun v4 =>
               cl PP 27 #[.pointer r2.1] [.lf .bool] fun r21 =>
               keep (LdAt ⟨n1, 0, none⟩ [.int .i64 v4]) <|
               ifB (decide ((v4 : Int) < 0)) (
                ifB (r21.1 == true) (
                 K (.bool false)) (
                 go1 (IntKind.i64.wrap (z1.1 + 1), ()))) (
                ld ⟨n1, 0, none⟩ (.lf (.int .i64)) fun v5 =>
                ifB (r21.1 == (decide ((v5 : Int) > 3))) (
                 K (.bool false)) (
                 go1 (IntKind.i64.wrap (z1.1 + 1), ()))))))) (
            go1 (IntKind.i64.wrap (z1.1 + 1), ())))) (
          ifB r5.1 (
           cl PP 26 #[.pointer r2.1] [.lf (.int .i64)] fun r22 =>
           ifB ((r22.1 : Int) != r6.1) (
            K (.bool false)) (
            cl PP 29 #[.pointer r2.1, .int .i64 0] [.lf (.int .i64)] fun r23 =>
            cl PP 29 #[.pointer r2.1, .int .i64 1] [.lf (.int .i64)] fun r24 =>
            ifB ((IntKind.i64.wrap (r23.1 + r24.1) : Int) != (IntKind.i64.wrap (r7.1 + r8.1))) (
             K (.bool false)) (
             cl PP 28 #[.pointer r2.1, .int .i64 0] [.lf (.int .i64)] fun r25 =>
             cl PP 28 #[.pointer r2.1, .int .i64 1] [.lf (.int .i64)] fun r26 =>
             ifB ((IntKind.i64.wrap (r25.1 + r26.1) : Int) != (IntKind.i64.wrap (r9.1 + r10.1))) (
              K (.bool false)) (
              ld ⟨n1, 0, none⟩ (.lf (.int .i64)) fun v6 =>
              cl PP 27 #[.pointer r2.1] [.lf .bool] fun r27 =>
              keep (LdAt ⟨n1, 0, none⟩ [.int .i64 v6]) <|
              ifB (decide ((v6 : Int) < 0)) (
               ifB (r27.1 == true) (
                K (.bool false)) (
                go1 (IntKind.i64.wrap (z1.1 + 1), ()))) (
               ld ⟨n1, 0, none⟩ (.lf (.int .i64)) fun v7 =>
               ifB (r27.1 == (decide ((v7 : Int) > 3))) (
                K (.bool false)) (
                go1 (IntKind.i64.wrap (z1.1 + 1), ()))))))) (
           go1 (IntKind.i64.wrap (z1.1 + 1), ()))))))) (
      cl PP 32 #[.pointer r2.1] [.lf .sl] fun r28 =>
      lp [.lf (.int .i64)] (0, ()) fun z2 go2 =>   -- i
       ifB (decide ((z2.1 : Int) < r28.1.len)) (
        lp [.lf (.int .i64)] (0, ()) fun z3 go3 =>   -- k
         nilc r28.1.a fun a2 =>
         ixn z2.1 r28.1.len <|
         ld (Addr.add (Addr.add a2 (z2.1.toNat * 4)) 2) (.lf .sl) fun v8 =>
         ifB (decide ((z3.1 : Int) < v8.len)) (
          nilc r28.1.a fun a3 =>
          ixn z2.1 r28.1.len <|
          ld (Addr.add (Addr.add a3 (z2.1.toNat * 4)) 3) (.lf .sl) fun v9 =>
          ifB (decide ((z3.1 : Int) < v9.len)) (
           nilc r28.1.a fun a4 =>
           ixn z2.1 r28.1.len <|
           nilc r28.1.a fun a5 =>
           ixn z2.1 r28.1.len <|
           ld (Addr.add (Addr.add a4 (z2.1.toNat * 4)) 3) (.lf .sl) fun v10 =>
           nilc v10.a fun a6 =>
           ixn z3.1 v10.len <|
           ld (Addr.add a6 (z3.1.toNat * 1)) (.lf (.int .u8)) fun v11 =>
           ld (Addr.add (Addr.add a5 (z2.1.toNat * 4)) 2) (.lf .sl) fun v12 =>
           nilc v12.a fun a7 =>
           ixn z3.1 v12.len <|
           ld (Addr.add a7 (z3.1.toNat * 1)) (.lf (.int .u8)) fun v13 =>
           ifB ((v11 : Int) == v13) (
            go3 (IntKind.i64.wrap (z3.1 + 1), ())) (
            nilc r28.1.a fun a8 =>
            ixn z2.1 r28.1.len <|
            ld (Addr.add (Addr.add a8 (z2.1.toNat * 4)) 3) (.lf .sl) fun v14 =>
            ifB ((v14.len : Int) != 64) (
             K (.bool false)) (
             nilc r28.1.a fun a9 =>
             ixn z2.1 r28.1.len <|
             ld (Addr.add (Addr.add a9 (z2.1.toNat * 4)) 2) (.lf .sl) fun v15 =>
             ifB ((v15.len : Int) != 64) (
              K (.bool false)) (
              lp [.lf (.int .i64)] (z3.1, ()) fun z4 go4 =>   -- k
               ifB (decide ((z4.1 : Int) < 64)) (
                nilc r28.1.a fun a10 =>
                ixn z2.1 r28.1.len <|
                ld (Addr.add (Addr.add a10 (z2.1.toNat * 4)) 3) (.lf .sl) fun v16 =>
                nilc v16.a fun a11 =>
                ixn z4.1 v16.len <|
                ld (Addr.add a11 (z4.1.toNat * 1)) (.lf (.int .u8)) fun v17 =>
                ifB ((v17 : Int) != 255) (
                 K (.bool false)) (
                 go4 (IntKind.i64.wrap (z4.1 + 1), ()))) (
                go2 (IntKind.i64.wrap (z2.1 + 1), ())))))) (
           nilc r28.1.a fun a12 =>
           ixn z2.1 r28.1.len <|
           ld (Addr.add (Addr.add a12 (z2.1.toNat * 4)) 3) (.lf .sl) fun v18 =>
           ifB ((v18.len : Int) != 64) (
            K (.bool false)) (
            nilc r28.1.a fun a13 =>
            ixn z2.1 r28.1.len <|
            ld (Addr.add (Addr.add a13 (z2.1.toNat * 4)) 2) (.lf .sl) fun v19 =>
            ifB ((v19.len : Int) != 64) (
             K (.bool false)) (
             lp [.lf (.int .i64)] (z3.1, ()) fun z5 go5 =>   -- k
              ifB (decide ((z5.1 : Int) < 64)) (
               nilc r28.1.a fun a14 =>
               ixn z2.1 r28.1.len <|
               ld (Addr.add (Addr.add a14 (z2.1.toNat * 4)) 3) (.lf .sl) fun v20 =>
               nilc v20.a fun a15 =>
               ixn z5.1 v20.len <|
               ld (Addr.add a15 (z5.1.toNat * 1)) (.lf (.int .u8)) fun v21 =>
               ifB ((v21 : Int) != 255) (
                K (.bool false)) (
                go5 (IntKind.i64.wrap (z5.1 + 1), ()))) (
               go2 (IntKind.i64.wrap (z2.1 + 1), ())))))) (
          nilc r28.1.a fun a16 =>
          ixn z2.1 r28.1.len <|
          ld (Addr.add (Addr.add a16 (z2.1.toNat * 4)) 3) (.lf .sl) fun v22 =>
          ifB ((v22.len : Int) != 64) (
           K (.bool false)) (
           nilc r28.1.a fun a17 =>
           ixn z2.1 r28.1.len <|
           ld (Addr.add (Addr.add a17 (z2.1.toNat * 4)) 2) (.lf .sl) fun v23 =>
           ifB ((v23.len : Int) != 64) (
            K (.bool false)) (
            lp [.lf (.int .i64)] (z3.1, ()) fun z6 go6 =>   -- k
             ifB (decide ((z6.1 : Int) < 64)) (
              nilc r28.1.a fun a18 =>
              ixn z2.1 r28.1.len <|
              ld (Addr.add (Addr.add a18 (z2.1.toNat * 4)) 3) (.lf .sl) fun v24 =>
              nilc v24.a fun a19 =>
              ixn z6.1 v24.len <|
              ld (Addr.add a19 (z6.1.toNat * 1)) (.lf (.int .u8)) fun v25 =>
              ifB ((v25 : Int) != 255) (
               K (.bool false)) (
               go6 (IntKind.i64.wrap (z6.1 + 1), ()))) (
              go2 (IntKind.i64.wrap (z2.1 + 1), ())))))) (
        cl PP 24 #[] [.lf .bool] fun r29 =>
        K (.bool r29.1)))))
theorem e10 (x0 : SlV) (K : Value → HP) : flatFn PP h10 Try.f10 [.slice x0.a x0.len x0.cap] K = t10 x0 K := by kernel_rfl

/-- depot/depotlaw23.images -/
def h11 : Hints := ⟨[], [], []⟩
def t11 (K : Value → HP) : HP :=
  nw (.cells #[.int .i64 0, .int .i64 0, .int .i64 0, .int .i64 0, .int .i64 0] 23) fun n1 =>
  st ⟨n1, 0, none⟩ [.int .i64 2, .int .i64 0, .int .i64 1, .int .i64 5, .int .i64 3] <|
  ld ⟨n1, 0, none⟩ (.agg [.int .i64, .int .i64, .int .i64, .int .i64, .int .i64]) fun v1 =>
  nw (.cells #[.int .u8 97, .int .u8 98] 5) fun n2 =>
  smW PP (convert 24 24 (.slice (some ⟨n2, 0, none⟩) 2 2)) [.lf .sl] fun v2 =>
  cl PP 12 #[.agg #[.int .i64 v1.1, .int .i64 v1.2.1, .int .i64 v1.2.2.1, .int .i64 v1.2.2.2.1, .int .i64 v1.2.2.2.2.1], .slice v2.1.a v2.1.len v2.1.cap, .int .i64 64] [.lf .sl, .lf (.int .i64)] fun r1 =>
  cl PP 17 #[.slice r1.1.a r1.1.len r1.1.cap] [.agg [.int .i64, .int .i64, .int .i64, .int .i64, .int .i64], .lf .sl, .lf (.int .i64)] fun r2 =>
  nw (.cells #[.int .i64 0, .int .i64 0, .int .i64 0, .int .i64 0, .int .i64 0] 23) fun n3 =>
  st ⟨n3, 0, none⟩ [.int .i64 r2.1.1, .int .i64 r2.1.2.1, .int .i64 r2.1.2.2.1, .int .i64 r2.1.2.2.2.1, .int .i64 r2.1.2.2.2.2.1] <|
  cl PP 12 #[.agg #[.int .i64 0, .int .i64 0, .int .i64 0, .int .i64 0, .int .i64 0], .slice none 0 0, .int .i64 64] [.lf .sl, .lf (.int .i64)] fun r3 =>
  ifB ((r1.2.1 : Int) == 0) (
   ifB ((r1.1.len : Int) == 64) (
    slc ⟨r1.1.a, r1.1.len, r1.1.cap⟩ 0 14 r1.1.cap 1 fun s1 =>
    smR PP (Conv.bytesToString (.slice s1.a s1.len s1.cap)) [.lf .str] fun v3 =>
    ifB (ByteArray.toList v3.1 == ByteArray.toList ⟨#[2, 0, 1, 165, 5, 0, 0, 0, 3, 0, 2, 0, 97, 98]⟩) (
     ld ⟨n3, 0, none⟩ (.agg [.int .i64, .int .i64, .int .i64, .int .i64, .int .i64]) fun v4 =>
     ld ⟨n1, 0, none⟩ (.agg [.int .i64, .int .i64, .int .i64, .int .i64, .int .i64]) fun v5 =>
     smP PP (binOp .eql 23 (.agg #[.int .i64 v4.1, .int .i64 v4.2.1, .int .i64 v4.2.2.1, .int .i64 v4.2.2.2.1, .int .i64 v4.2.2.2.2.1]) (.agg #[.int .i64 v5.1, .int .i64 v5.2.1, .int .i64 v5.2.2.1, .int .i64 v5.2.2.2.1, .int .i64 v5.2.2.2.2.1])) (.lf .bool) fun v6 =>
     ifB v6 (
      smR PP (Conv.bytesToString (.slice r2.2.1.a r2.2.1.len r2.2.1.cap)) [.lf .str] fun v7 =>
      ifB (ByteArray.toList v7.1 == ByteArray.toList ⟨#[97, 98]⟩) (
       ifB ((r2.2.2.1 : Int) == 0) (
        ifB ((r3.2.1 : Int) == 16) (
         cl PP 15 #[.int .i64 64] [.lf (.int .i64)] fun r4 =>
         ifB ((r4.1 : Int) == 48) (
          cl PP 15 #[.int .i64 63] [.lf (.int .i64)] fun r5 =>
          ifB ((r5.1 : Int) == 0) (
           nw (.cells #[.int .u8 255] 5) fun n4 =>
           cl PP 19 #[.slice (some ⟨n4, 0, none⟩) 1 1] [.lf .bool] fun r6 =>
           ifB r6.1 (
            cl PP 19 #[.slice r1.1.a r1.1.len r1.1.cap] [.lf .bool] fun r7 =>
            ifB (!r7.1) (
             K (.bool true)) (
             K (.bool false))) (
            K (.bool false))) (
           K (.bool false))) (
          K (.bool false))) (
         K (.bool false))) (
        K (.bool false))) (
       K (.bool false))) (
      K (.bool false))) (
     K (.bool false))) (
    K (.bool false))) (
   K (.bool false))
theorem e11 (K : Value → HP) : flatFn PP h11 Try.f11 [] K = t11 K := by kernel_rfl

/-- depot/page.Image -/
def h12 : Hints := ⟨[], [], []⟩
def t12 (x0 : ShV (.agg [.int .i64, .int .i64, .int .i64, .int .i64, .int .i64])) (x1 : SlV) (x2 : Int) (K : Value → HP) : HP :=
  nw (.cells #[.int .i64 x0.1, .int .i64 x0.2.1, .int .i64 x0.2.2.1, .int .i64 x0.2.2.2.1, .int .i64 x0.2.2.2.2.1] 23) fun n1 =>
  cl PP 41 #[.int .i64 x2] [.lf .bool] fun r1 =>
  ifB (!r1.1) (
   K (.tuple #[.slice none 0 0, .int .i64 2])) (
   ld ⟨n1, 0, none⟩ (.agg [.int .i64, .int .i64, .int .i64, .int .i64, .int .i64]) fun v1 =>
   cl PP 42 #[.agg #[.int .i64 v1.1, .int .i64 v1.2.1, .int .i64 v1.2.2.1, .int .i64 v1.2.2.2.1, .int .i64 v1.2.2.2.2.1]] [.lf (.int .i64)] fun r2 =>
   ifB ((r2.1 : Int) != 0) (
    K (.tuple #[.slice none 0 0, .int .i64 r2.1])) (
    cl PP 15 #[.int .i64 x2] [.lf (.int .i64)] fun r3 =>
    ifB (decide ((x1.len : Int) > r3.1)) (
     K (.tuple #[.slice none 0 0, .int .i64 4])) (
     ld ⟨n1, 0, none⟩ (.lf (.int .i64)) fun v2 =>
     ld (Addr.add ⟨n1, 0, none⟩ 1) (.lf (.int .i64)) fun v3 =>
     ld (Addr.add ⟨n1, 0, none⟩ 2) (.lf (.int .i64)) fun v4 =>
     ld (Addr.add ⟨n1, 0, none⟩ 3) (.lf (.int .i64)) fun v5 =>
     ld (Addr.add ⟨n1, 0, none⟩ 4) (.lf (.int .i64)) fun v6 =>
     nw (.cells #[.int .i64 v2, .int .i64 1, .int .i64 v3, .int .i64 1, .int .i64 v4, .int .i64 1, .int .i64 165, .int .i64 1, .int .i64 v5, .int .i64 4, .int .i64 v6, .int .i64 1, .int .i64 0, .int .i64 1, .int .i64 x1.len, .int .i64 2] 80) fun n2 =>
     cl PP 43 #[.slice none 0 0, .slice (some ⟨n2, 0, none⟩) 8 8] [.lf .sl] fun r4 =>
     smA PP (Instr.makeSlice 24 (.int .i64 (IntKind.i64.wrap (x2 - 4))) (.int .i64 (IntKind.i64.wrap (x2 - 4)))) (.lf .sl) fun v7 =>
     smW PP (Builtin.copy_ #[24, 24] 3 #[.slice v7.a v7.len v7.cap, .slice r4.1.a r4.1.len r4.1.cap]) [.lf (.int .i64)] fun v8 =>
     slc ⟨v7.a, v7.len, v7.cap⟩ v8.1 v7.len v7.cap 1 fun s1 =>
     smW PP (Builtin.copy_ #[24, 24] 3 #[.slice s1.a s1.len s1.cap, .slice x1.a x1.len x1.cap]) [.lf (.int .i64)] fun v9 =>
     cl PP 44 #[.slice v7.a v7.len v7.cap] [.lf (.int .i64)] fun r5 =>
     nw (.cells #[.int .i64 r5.1, .int .i64 4] 80) fun n3 =>
     cl PP 43 #[.slice v7.a v7.len v7.cap, .slice (some ⟨n3, 0, none⟩) 1 1] [.lf .sl] fun r6 =>
     K (.tuple #[.slice r6.1.a r6.1.len r6.1.cap, .int .i64 0]))))
theorem e12 (x0 : ShV (.agg [.int .i64, .int .i64, .int .i64, .int .i64, .int .i64])) (x1 : SlV) (x2 : Int) (K : Value → HP) : flatFn PP h12 Try.f12 [.agg #[.int .i64 x0.1, .int .i64 x0.2.1, .int .i64 x0.2.2.1, .int .i64 x0.2.2.2.1, .int .i64 x0.2.2.2.2.1], .slice x1.a x1.len x1.cap, .int .i64 x2] K = t12 x0 x1 x2 K := by kernel_rfl

/-- depot/depotref23.Image -/
def h13 : Hints := ⟨[(0, [(9, .lf .sl)])], [], []⟩
def t13 (x0 : ShV (.agg [.int .i64, .int .i64, .int .i64, .int .i64, .int .i64])) (x1 : SlV) (x2 : Int) (K : Value → HP) : HP :=
  nw (.cells #[.int .i64 x0.1, .int .i64 x0.2.1, .int .i64 x0.2.2.1, .int .i64 x0.2.2.2.1, .int .i64 x0.2.2.2.2.1] 23) fun n1 =>
  cl PP 45 #[.int .i64 x2] [.lf .bool] fun r1 =>
  ifB (!r1.1) (
   K (.tuple #[.slice none 0 0, .int .i64 2])) (
   ld ⟨n1, 0, none⟩ (.agg [.int .i64, .int .i64, .int .i64, .int .i64, .int .i64]) fun v1 =>
   cl PP 46 #[.agg #[.int .i64 v1.1, .int .i64 v1.2.1, .int .i64 v1.2.2.1, .int .i64 v1.2.2.2.1, .int .i64 v1.2.2.2.2.1]] [.lf (.int .i64)] fun r2 =>
   ifB ((r2.1 : Int) != 0) (
    K (.tuple #[.slice none 0 0, .int .i64 r2.1])) (
    ifB (decide ((x1.len : Int) > (IntKind.i64.wrap (x2 - 16)))) (
     K (.tuple #[.slice none 0 0, .int .i64 4])) (
     ld ⟨n1, 0, none⟩ (.lf (.int .i64)) fun v2 =>
     ld (Addr.add ⟨n1, 0, none⟩ 1) (.lf (.int .i64)) fun v3 =>
     ld (Addr.add ⟨n1, 0, none⟩ 2) (.lf (.int .i64)) fun v4 =>
     nw (.cells #[.int .u8 (IntKind.u8.wrap v2), .int .u8 (IntKind.u8.wrap v3), .int .u8 (IntKind.u8.wrap v4), .int .u8 165] 5) fun n2 =>
     ld (Addr.add ⟨n1, 0, none⟩ 3) (.lf (.int .i64)) fun v5 =>
     cl PP 47 #[.slice (some ⟨n2, 0, none⟩) 4 4, .int .i64 v5, .int .i64 4] [.lf .sl, .lf (.int .i64)] fun r3 =>
     ld (Addr.add ⟨n1, 0, none⟩ 4) (.lf (.int .i64)) fun v6 =>
     nw (.cells #[.int .u8 (IntKind.u8.wrap v6), .int .u8 0] 5) fun n3 =>
     smW PP (Builtin.append_ #[24, 24] 24 #[.slice r3.1.a r3.1.len r3.1.cap, .slice (some ⟨n3, 0, none⟩) 2 2]) [.lf .sl] fun v7 =>
     cl PP 47 #[.slice v7.1.a v7.1.len v7.1.cap, .int .i64 x1.len, .int .i64 2] [.lf .sl, .lf (.int .i64)] fun r4 =>
     smW PP (Builtin.append_ #[24, 24] 24 #[.slice r4.1.a r4.1.len r4.1.cap, .slice x1.a x1.len x1.cap]) [.lf .sl] fun v8 =>
     lp [.lf .sl] (⟨v8.1.a, v8.1.len, v8.1.cap⟩, ()) fun z1 go1 =>   -- b
      ifB (decide ((z1.1.len : Int) < (IntKind.i64.wrap (x2 - 4)))) (
       nw (.cells #[.int .u8 0] 5) fun n4 =>
       smW PP (Builtin.append_ #[24, 24] 24 #[.slice z1.1.a z1.1.len z1.1.cap, .slice (some ⟨n4, 0, none⟩) 1 1]) [.lf .sl] fun v9 =>
       go1 (⟨v9.1.a, v9.1.len, v9.1.cap⟩, ())) (
       cl PP 48 #[.slice z1.1.a z1.1.len z1.1.cap] [.lf (.int .i64)] fun r5 =>
       cl PP 47 #[.slice z1.1.a z1.1.len z1.1.cap, .int .i64 r5.1, .int .i64 4] [.lf .sl, .lf (.int .i64)] fun r6 =>
       K (.tuple #[.slice r6.1.a r6.1.len r6.1.cap, .int .i64 0])))))
theorem e13 (x0 : ShV (.agg [.int .i64, .int .i64, .int .i64, .int .i64, .int .i64])) (x1 : SlV) (x2 : Int) (K : Value → HP) : flatFn PP h13 Try.f13 [.agg #[.int .i64 x0.1, .int .i64 x0.2.1, .int .i64 x0.2.2.1, .int .i64 x0.2.2.2.1, .int .i64 x0.2.2.2.2.1], .slice x1.a x1.len x1.cap, .int .i64 x2] K = t13 x0 x1 x2 K := by kernel_rfl

/-- depot/depotref03.Same -/
def h14 : Hints := ⟨[], [], []⟩
def t14 (x0 : SlV) (x1 : SlV) (K : Value → HP) : HP :=
  smR PP (Conv.bytesToString (.slice x0.a x0.len x0.cap)) [.lf .str] fun v1 =>
  smR PP (Conv.bytesToString (.slice x1.a x1.len x1.cap)) [.lf .str] fun v2 =>
  K (.bool (ByteArray.toList v1.1 == ByteArray.toList v2.1))
theorem e14 (x0 : SlV) (x1 : SlV) (K : Value → HP) : flatFn PP h14 Try.f14 [.slice x0.a x0.len x0.cap, .slice x1.a x1.len x1.cap] K = t14 x0 x1 K := by kernel_rfl

/-- depot/page.Room -/
def h15 : Hints := ⟨[], [], []⟩
def t15 (x0 : Int) (K : Value → HP) : HP :=
  cl PP 41 #[.int .i64 x0] [.lf .bool] fun r1 =>
  ifB (!r1.1) (
   K (.int .i64 0)) (
   K (.int .i64 (IntKind.i64.wrap (x0 - 16))))
theorem e15 (x0 : Int) (K : Value → HP) : flatFn PP h15 Try.f15 [.int .i64 x0] K = t15 x0 K := by kernel_rfl

/-- depot/depotref23.Room -/
def h16 : Hints := ⟨[], [], []⟩
def t16 (x0 : Int) (K : Value → HP) : HP :=
  cl PP 45 #[.int .i64 x0] [.lf .bool] fun r1 =>
  ifB (!r1.1) (
   K (.int .i64 0)) (
   K (.int .i64 (IntKind.i64.wrap (x0 - 16))))
theorem e16 (x0 : Int) (K : Value → HP) : flatFn PP h16 Try.f16 [.int .i64 x0] K = t16 x0 K := by kernel_rfl

/-- depot/page.Parse -/
def h17 : Hints := ⟨[(1, [(84, .lf (.int .i64))])], [], [(19, [2, 3, 4, 0, 1, 5, 6, 7, 8]), (8, [0, 1, 4, 5, 8, 9, 12, 14, 15, 2, 3, 6, 7, 10, 11, 16, 17, 13, 18, 19, 20]), (6, [0, 1, 2, 3, 4, 5, 6, 7])]⟩
def t17 (x0 : SlV) (K : Value → HP) : HP :=
  nw (.cells #[.int .i64 0, .int .i64 0, .int .i64 0, .int .i64 0, .int .i64 0] 23) fun n1 =>
  cl PP 41 #[.int .i64 x0.len] [.lf .bool] fun r1 =>
  ifB (!r1.1) (
   st ⟨n1, 0, none⟩ [.int .i64 0, .int .i64 0, .int .i64 0, .int .i64 0, .int .i64 0] <|
   ld ⟨n1, 0, none⟩ (.agg [.int .i64, .int .i64, .int .i64, .int .i64, .int .i64]) fun v1 =>
   K (.tuple #[.agg #[.int .i64 v1.1, .int .i64 v1.2.1, .int .i64 v1.2.2.1, .int .i64 v1.2.2.2.1, .int .i64 v1.2.2.2.2.1], .slice none 0 0, .int .i64 2])) (
   cl PP 19 #[.slice x0.a x0.len x0.cap] [.lf .bool] fun r2 =>
   ifB r2.1 (
    st ⟨n1, 0, none⟩ [.int .i64 0, .int .i64 0, .int .i64 0, .int .i64 0, .int .i64 0] <|
    ld ⟨n1, 0, none⟩ (.agg [.int .i64, .int .i64, .int .i64, .int .i64, .int .i64]) fun v2 =>
    K (.tuple #[.agg #[.int .i64 v2.1, .int .i64 v2.2.1, .int .i64 v2.2.2.1, .int .i64 v2.2.2.2.1, .int .i64 v2.2.2.2.2.1], .slice none 0 0, .int .i64 15])) (
    slc ⟨x0.a, x0.len, x0.cap⟩ 0 (IntKind.i64.wrap (x0.len - 4)) x0.cap 1 fun s1 =>
    cl PP 50 #[.slice x0.a x0.len x0.cap, .int .i64 (IntKind.i64.wrap (x0.len - 4)), .int .i64 4] [.lf (.int .i64)] fun r3 =>
    cl PP 49 #[.slice s1.a s1.len s1.cap, .int .i64 r3.1] [.lf .bool] fun r4 =>
    ifB (!r4.1) (
     st ⟨n1, 0, none⟩ [.int .i64 0, .int .i64 0, .int .i64 0, .int .i64 0, .int .i64 0] <|
     ld ⟨n1, 0, none⟩ (.agg [.int .i64, .int .i64, .int .i64, .int .i64, .int .i64]) fun v3 =>
     K (.tuple #[.agg #[.int .i64 v3.1, .int .i64 v3.2.1, .int .i64 v3.2.2.1, .int .i64 v3.2.2.2.1, .int .i64 v3.2.2.2.2.1], .slice none 0 0, .int .i64 12])) (
     nilc x0.a fun a1 =>
     ixn 0 x0.len <|
     nilc x0.a fun a2 =>
     ixn 1 x0.len <|
     nilc x0.a fun a3 =>
     ixn 2 x0.len <|
     nilc x0.a fun a4 =>
     ixn 8 x0.len <|
     ld (Addr.add a1 ((0 : Int).toNat * 1)) (.lf (.int .u8)) fun v4 =>
     ld (Addr.add a2 ((1 : Int).toNat * 1)) (.lf (.int .u8)) fun v5 =>
     ld (Addr.add a3 ((2 : Int).toNat * 1)) (.lf (.int .u8)) fun v6 =>
     ld (Addr.add a4 ((8 : Int).toNat * 1)) (.lf (.int .u8)) fun v7 =>
     cl PP 50 #[.slice x0.a x0.len x0.cap, .int .i64 4, .int .i64 4] [.lf (.int .i64)] fun r5 =>
     keep (LdAt (Addr.add a4 ((8 : Int).toNat * 1)) [.int .u8 v7]) <|
     keep (LdAt (Addr.add a3 ((2 : Int).toNat * 1)) [.int .u8 v6]) <|
     keep (LdAt (Addr.add a2 ((1 : Int).toNat * 1)) [.int .u8 v5]) <|
     keep (LdAt (Addr.add a1 ((0 : Int).toNat * 1)) [.int .u8 v4]) <|
     nw (.cells #[.int .i64 0, .int .i64 0, .int .i64 0, .int .i64 0, .int .i64 0] 23) fun n2 =>
     st ⟨n2, 0, none⟩ [.int .i64 (IntKind.i64.wrap v4), .int .i64 (IntKind.i64.wrap v5), .int .i64 (IntKind.i64.wrap v6), .int .i64 r5.1, .int .i64 (IntKind.i64.wrap v7)] <|
     cl PP 50 #[.slice x0.a x0.len x0.cap, .int .i64 10, .int .i64 2] [.lf (.int .i64)] fun r6 =>
     nilc x0.a fun a5 =>
     ixn 3 x0.len <|
     ld (Addr.add a5 ((3 : Int).toNat * 1)) (.lf (.int .u8)) fun v8 =>
     ifB ((v8 : Int) != 165) (
      st ⟨n1, 0, none⟩ [.int .i64 0, .int .i64 0, .int .i64 0, .int .i64 0, .int .i64 0] <|
      ld ⟨n1, 0, none⟩ (.agg [.int .i64, .int .i64, .int .i64, .int .i64, .int .i64]) fun v9 =>
      K (.tuple #[.agg #[.int .i64 v9.1, .int .i64 v9.2.1, .int .i64 v9.2.2.1, .int .i64 v9.2.2.2.1, .int .i64 v9.2.2.2.2.1], .slice none 0 0, .int .i64 5])) (
      nilc x0.a fun a6 =>
      ixn 9 x0.len <|
      ld (Addr.add a6 ((9 : Int).toNat * 1)) (.lf (.int .u8)) fun v10 =>
      ifB ((v10 : Int) != 0) (
       st ⟨n1, 0, none⟩ [.int .i64 0, .int .i64 0, .int .i64 0, .int .i64 0, .int .i64 0] <|
       ld ⟨n1, 0, none⟩ (.agg [.int .i64, .int .i64, .int .i64, .int .i64, .int .i64]) fun v11 =>
       K (.tuple #[.agg #[.int .i64 v11.1, .int .i64 v11.2.1, .int .i64 v11.2.2.1, .int .i64 v11.2.2.2.1, .int .i64 v11.2.2.2.2.1], .slice none 0 0, .int .i64 5])) (
       cl PP 15 #[.int .i64 x0.len] [.lf (.int .i64)] fun r7 =>
       ifB (decide ((r6.1 : Int) > r7.1)) (
        st ⟨n1, 0, none⟩ [.int .i64 0, .int .i64 0, .int .i64 0, .int .i64 0, .int .i64 0] <|
        ld ⟨n1, 0, none⟩ (.agg [.int .i64, .int .i64, .int .i64, .int .i64, .int .i64]) fun v12 =>
        K (.tuple #[.agg #[.int .i64 v12.1, .int .i64 v12.2.1, .int .i64 v12.2.2.1, .int .i64 v12.2.2.2.1, .int .i64 v12.2.2.2.2.1], .slice none 0 0, .int .i64 5])) (
        ld ⟨n2, 0, none⟩ (.agg [.int .i64, .int .i64, .int .i64, .int .i64, .int .i64]) fun v13 =>
        cl PP 42 #[.agg #[.int .i64 v13.1, .int .i64 v13.2.1, .int .i64 v13.2.2.1, .int .i64 v13.2.2.2.1, .int .i64 v13.2.2.2.2.1]] [.lf (.int .i64)] fun r8 =>
        ifB ((r8.1 : Int) != 0) (
         st ⟨n1, 0, none⟩ [.int .i64 0, .int .i64 0, .int .i64 0, .int .i64 0, .int .i64 0] <|
         ld ⟨n1, 0, none⟩ (.agg [.int .i64, .int .i64, .int .i64, .int .i64, .int .i64]) fun v14 =>
         K (.tuple #[.agg #[.int .i64 v14.1, .int .i64 v14.2.1, .int .i64 v14.2.2.1, .int .i64 v14.2.2.2.1, .int .i64 v14.2.2.2.2.1], .slice none 0 0, .int .i64 5])) (
         slc ⟨x0.a, x0.len, x0.cap⟩ (IntKind.i64.wrap (12 + r6.1)) (IntKind.i64.wrap (x0.len - 4)) x0.cap 1 fun s2 =>
         lp [.lf (.int .i64)] (0, ()) fun z1 go1 =>   -- 
          ifB (decide ((z1.1 : Int) < s2.len)) (
           nilc s2.a fun a7 =>
           ixn z1.1 s2.len <|
           ld (Addr.add a7 (z1.1.toNat * 1)) (.lf (.int .u8)) fun v15 =>
           ifB ((v15 : Int) != 0) (
            st ⟨n1, 0, none⟩ [.int .i64 0, .int .i64 0, .int .i64 0, .int .i64 0, .int .i64 0] <|
            ld ⟨n1, 0, none⟩ (.agg [.int .i64, .int .i64, .int .i64, .int .i64, .int .i64]) fun v16 =>
            K (.tuple #[.agg #[.int .i64 v16.1, .int .i64 v16.2.1, .int .i64 v16.2.2.1, .int .i64 v16.2.2.2.1, .int .i64 v16.2.2.2.2.1], .slice none 0 0, .int .i64 5])) (
            go1 (IntKind.i64.wrap (z1.1 + 1), ()))) (
           slc ⟨x0.a, x0.len, x0.cap⟩ 12 (IntKind.i64.wrap (12 + r6.1)) x0.cap 1 fun s3 =>
           ld ⟨n2, 0, none⟩ (.agg [.int .i64, .int .i64, .int .i64, .int .i64, .int .i64]) fun v17 =>
           nw (.cells #[] 5) fun n3 =>
           smW PP (Builtin.append_ #[24, 24] 24 #[.slice (some ⟨n3, 0, none⟩) 0 0, .slice s3.a s3.len s3.cap]) [.lf .sl] fun v18 =>
           keep (LdAt ⟨n2, 0, none⟩ [.int .i64 v17.1, .int .i64 v17.2.1, .int .i64 v17.2.2.1, .int .i64 v17.2.2.2.1, .int .i64 v17.2.2.2.2.1]) <|
           st ⟨n1, 0, none⟩ [.int .i64 v17.1, .int .i64 v17.2.1, .int .i64 v17.2.2.1, .int .i64 v17.2.2.2.1, .int .i64 v17.2.2.2.2.1] <|
           ld ⟨n1, 0, none⟩ (.agg [.int .i64, .int .i64, .int .i64, .int .i64, .int .i64]) fun v19 =>
           K (.tuple #[.agg #[.int .i64 v19.1, .int .i64 v19.2.1, .int .i64 v19.2.2.1, .int .i64 v19.2.2.2.1, .int .i64 v19.2.2.2.2.1], .slice v18.1.a v18.1.len v18.1.cap, .int .i64 0])))))))))
theorem e17 (x0 : SlV) (K : Value → HP) : flatFn PP h17 Try.f17 [.slice x0.a x0.len x0.cap] K = t17 x0 K := by kernel_rfl

end Go.Proofs.Ytaniefdpjommnaa
