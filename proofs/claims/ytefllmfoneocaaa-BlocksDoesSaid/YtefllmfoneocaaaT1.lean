/-
  It is proved that the functions of the program are the trees that are printed here. There are no further conditions.
-/
import Derived.Test.YtefllmfoneocaaaT0
set_option linter.unusedVariables false
set_option maxRecDepth 100000
namespace Go.Proofs.Ytefllmfoneocaaa
open Go.HL
/-- depot/wire.Get -/
def h18 : Hints := ⟨[(1, [(8, .lf (.int .i64)), (9, .lf (.int .i64)), (36, .lf (.int .i64))])], [], []⟩
def t18 (x0 : SlV) (x1 : Int) (x2 : Int) (K : Value → HP) : HP :=
  ifB (decide ((x2 : Int) < 1)) (
   K (.tuple #[.int .i64 0, .int .i64 2])) (
   ifB (decide ((x2 : Int) > 7)) (
    K (.tuple #[.int .i64 0, .int .i64 2])) (
    ifB (decide ((x1 : Int) < 0)) (
     K (.tuple #[.int .i64 0, .int .i64 6])) (
     ifB (decide ((x1 : Int) > x0.len)) (
      K (.tuple #[.int .i64 0, .int .i64 6])) (
      ifB (decide ((x2 : Int) > (IntKind.i64.wrap (x0.len - x1)))) (
       K (.tuple #[.int .i64 0, .int .i64 6])) (
       lp [.lf (.int .i64), .lf (.int .i64), .lf (.int .i64)] (0, 1, 0, ()) fun z1 go1 =>   -- n, unit, 
        ifB (decide ((z1.2.2.1 : Int) < x2)) (
         nilc x0.a fun a1 =>
         ixn (IntKind.i64.wrap (x1 + z1.2.2.1)) x0.len <|
         ld (Addr.add a1 ((IntKind.i64.wrap (x1 + z1.2.2.1)).toNat * 1)) (.lf (.int .u8)) fun v1 =>
         go1 (IntKind.i64.wrap (z1.1 + (IntKind.i64.wrap (z1.2.1 * (IntKind.i64.wrap v1)))), IntKind.i64.wrap (z1.2.1 * 256), IntKind.i64.wrap (z1.2.2.1 + 1), ())) (
         K (.tuple #[.int .i64 z1.1, .int .i64 0])))))))
theorem e18 (x0 : SlV) (x1 : Int) (x2 : Int) (K : Value → HP) : flatFn PP h18 Try.f18 [.slice x0.a x0.len x0.cap, .int .i64 x1, .int .i64 x2] K = t18 x0 x1 x2 K := by kernel_rfl

/-- depot/depotref03.Get -/
def h19 : Hints := ⟨[(0, [(8, .lf (.int .i64)), (9, .lf (.int .i64))])], [], []⟩
def t19 (x0 : SlV) (x1 : Int) (x2 : Int) (K : Value → HP) : HP :=
  ifB (decide ((x2 : Int) < 1)) (
   K (.tuple #[.int .i64 0, .int .i64 2])) (
   ifB (decide ((x2 : Int) > 7)) (
    K (.tuple #[.int .i64 0, .int .i64 2])) (
    ifB (decide ((x1 : Int) < 0)) (
     K (.tuple #[.int .i64 0, .int .i64 6])) (
     ifB (decide ((x1 : Int) > x0.len)) (
      K (.tuple #[.int .i64 0, .int .i64 6])) (
      ifB (decide ((IntKind.i64.wrap (x0.len - x1) : Int) < x2)) (
       K (.tuple #[.int .i64 0, .int .i64 6])) (
       lp [.lf (.int .i64), .lf (.int .i64)] (0, IntKind.i64.wrap (x2 - 1), ()) fun z1 go1 =>   -- n, i
        ifB (decide ((z1.2.1 : Int) ≥ 0)) (
         nilc x0.a fun a1 =>
         ixn (IntKind.i64.wrap (x1 + z1.2.1)) x0.len <|
         ld (Addr.add a1 ((IntKind.i64.wrap (x1 + z1.2.1)).toNat * 1)) (.lf (.int .u8)) fun v1 =>
         go1 (IntKind.i64.wrap ((IntKind.i64.wrap (256 * z1.1)) + (IntKind.i64.wrap v1)), IntKind.i64.wrap (z1.2.1 - 1), ())) (
         K (.tuple #[.int .i64 z1.1, .int .i64 0])))))))
theorem e19 (x0 : SlV) (x1 : Int) (x2 : Int) (K : Value → HP) : flatFn PP h19 Try.f19 [.slice x0.a x0.len x0.cap, .int .i64 x1, .int .i64 x2] K = t19 x0 x1 x2 K := by kernel_rfl

/-- depot/wire.PutText -/
def h20 : Hints := ⟨[], [], []⟩
def t20 (x0 : SlV) (x1 : ByteArray) (K : Value → HP) : HP :=
  ifB (decide ((x1.size : Int) > 65536)) (
   K (.tuple #[.slice none 0 0, .int .i64 4])) (
   cl PP 16 #[.slice x0.a x0.len x0.cap, .int .i64 x1.size, .int .i64 4] [.lf .sl, .lf (.int .i64)] fun r1 =>
   smW PP (Builtin.append_ #[22, 9] 22 #[.slice r1.1.a r1.1.len r1.1.cap, .string x1]) [.lf .sl] fun v1 =>
   K (.tuple #[.slice v1.1.a v1.1.len v1.1.cap, .int .i64 r1.2.1]))
theorem e20 (x0 : SlV) (x1 : ByteArray) (K : Value → HP) : flatFn PP h20 Try.f20 [.slice x0.a x0.len x0.cap, .string x1] K = t20 x0 x1 K := by kernel_rfl

/-- depot/depotref03.PutText -/
def h21 : Hints := ⟨[], [], []⟩
def t21 (x0 : SlV) (x1 : ByteArray) (K : Value → HP) : HP :=
  ifB (decide ((x1.size : Int) > 65536)) (
   K (.tuple #[.slice none 0 0, .int .i64 4])) (
   cl PP 17 #[.slice x0.a x0.len x0.cap, .int .i64 x1.size, .int .i64 4] [.lf .sl, .lf (.int .i64)] fun r1 =>
   smW PP (Builtin.append_ #[22, 9] 22 #[.slice r1.1.a r1.1.len r1.1.cap, .string x1]) [.lf .sl] fun v1 =>
   K (.tuple #[.slice v1.1.a v1.1.len v1.1.cap, .int .i64 0]))
theorem e21 (x0 : SlV) (x1 : ByteArray) (K : Value → HP) : flatFn PP h21 Try.f21 [.slice x0.a x0.len x0.cap, .string x1] K = t21 x0 x1 K := by kernel_rfl

/-- depot/depotref03.Same -/
def h22 : Hints := ⟨[], [], []⟩
def t22 (x0 : SlV) (x1 : SlV) (K : Value → HP) : HP :=
  smR PP (Conv.bytesToString (.slice x0.a x0.len x0.cap)) [.lf .str] fun v1 =>
  smR PP (Conv.bytesToString (.slice x1.a x1.len x1.cap)) [.lf .str] fun v2 =>
  K (.bool (ByteArray.toList v1.1 == ByteArray.toList v2.1))
theorem e22 (x0 : SlV) (x1 : SlV) (K : Value → HP) : flatFn PP h22 Try.f22 [.slice x0.a x0.len x0.cap, .slice x1.a x1.len x1.cap] K = t22 x0 x1 K := by kernel_rfl

/-- depot/wire.New -/
def h23 : Hints := ⟨[], [], []⟩
def t23 (x0 : SlV) (K : Value → HP) : HP :=
  nw (.cells #[] 5) fun n1 =>
  smW PP (Builtin.append_ #[22, 22] 22 #[.slice (some ⟨n1, 0, none⟩) 0 0, .slice x0.a x0.len x0.cap]) [.lf .sl] fun v1 =>
  nw (.cells #[.slice v1.1.a v1.1.len v1.1.cap, .int .i64 0] 128) fun n2 =>
  K (.pointer (some ⟨n2, 0, none⟩))
theorem e23 (x0 : SlV) (K : Value → HP) : flatFn PP h23 Try.f23 [.slice x0.a x0.len x0.cap] K = t23 x0 K := by kernel_rfl

/-- (*depot/wire.Reader).Num -/
def h24 : Hints := ⟨[], [], [(3, [0, 1, 2, 4, 5, 6, 8, 3, 7, 9, 10, 11, 12, 13, 14])]⟩
def t24 (x0 : Option Addr) (x1 : Int) (K : Value → HP) : HP :=
  ifB (Option.isNone x0) (
   K (.tuple #[.int .i64 0, .int .i64 1])) (
   nilc x0 fun a1 =>
   nilc x0 fun a2 =>
   ld a1 (.lf .sl) fun v1 =>
   ld (Addr.add a2 1) (.lf (.int .i64)) fun v2 =>
   cl PP 18 #[.slice v1.a v1.len v1.cap, .int .i64 v2, .int .i64 x1] [.lf (.int .i64), .lf (.int .i64)] fun r1 =>
   ifB ((r1.2.1 : Int) == 0) (
    nilc x0 fun a3 =>
    ld (Addr.add a3 1) (.lf (.int .i64)) fun v3 =>
    nilc x0 fun a4 =>
    st (Addr.add a4 1) [.int .i64 (IntKind.i64.wrap (v3 + x1))] <|
    K (.tuple #[.int .i64 r1.1, .int .i64 r1.2.1])) (
    K (.tuple #[.int .i64 r1.1, .int .i64 r1.2.1])))
theorem e24 (x0 : Option Addr) (x1 : Int) (K : Value → HP) : flatFn PP h24 Try.f24 [.pointer x0, .int .i64 x1] K = t24 x0 x1 K := by kernel_rfl

/-- (*depot/wire.Reader).Text -/
def h25 : Hints := ⟨[], [], [(12, [0, 1, 2, 4, 5, 6, 7, 3, 8, 9, 10, 11, 12]), (3, [0, 1, 2, 4, 5, 6, 3, 7, 8, 9, 10, 11, 12, 13])]⟩
def t25 (x0 : Option Addr) (K : Value → HP) : HP :=
  ifB (Option.isNone x0) (
   K (.tuple #[.string ⟨#[]⟩, .int .i64 1])) (
   nilc x0 fun a1 =>
   nilc x0 fun a2 =>
   ld a1 (.lf .sl) fun v1 =>
   ld (Addr.add a2 1) (.lf (.int .i64)) fun v2 =>
   cl PP 18 #[.slice v1.a v1.len v1.cap, .int .i64 v2, .int .i64 4] [.lf (.int .i64), .lf (.int .i64)] fun r1 =>
   ifB ((r1.2.1 : Int) != 0) (
    K (.tuple #[.string ⟨#[]⟩, .int .i64 r1.2.1])) (
    nilc x0 fun a3 =>
    ld (Addr.add a3 1) (.lf (.int .i64)) fun v3 =>
    ifB (decide ((r1.1 : Int) > 65536)) (
     K (.tuple #[.string ⟨#[]⟩, .int .i64 4])) (
     nilc x0 fun a4 =>
     ld a4 (.lf .sl) fun v4 =>
     ifB (decide ((r1.1 : Int) > (IntKind.i64.wrap (v4.len - (IntKind.i64.wrap (v3 + 4)))))) (
      K (.tuple #[.string ⟨#[]⟩, .int .i64 6])) (
      nilc x0 fun a5 =>
      st (Addr.add a5 1) [.int .i64 (IntKind.i64.wrap ((IntKind.i64.wrap (v3 + 4)) + r1.1))] <|
      nilc x0 fun a6 =>
      nilc x0 fun a7 =>
      ld a6 (.lf .sl) fun v5 =>
      ld (Addr.add a7 1) (.lf (.int .i64)) fun v6 =>
      slc ⟨v5.a, v5.len, v5.cap⟩ (IntKind.i64.wrap (v3 + 4)) v6 v5.cap 1 fun s1 =>
      smR PP (Conv.bytesToString (.slice s1.a s1.len s1.cap)) [.lf .str] fun v7 =>
      K (.tuple #[.string v7.1, .int .i64 0])))))
theorem e25 (x0 : Option Addr) (K : Value → HP) : flatFn PP h25 Try.f25 [.pointer x0] K = t25 x0 K := by kernel_rfl

/-- (*depot/wire.Reader).Left -/
def h26 : Hints := ⟨[], [], [(3, [0, 1, 2, 5, 6, 7, 3, 4, 8, 9, 10])]⟩
def t26 (x0 : Option Addr) (K : Value → HP) : HP :=
  ifB (Option.isNone x0) (
   K (.int .i64 0)) (
   nilc x0 fun a1 =>
   nilc x0 fun a2 =>
   ld a1 (.lf .sl) fun v1 =>
   ld (Addr.add a2 1) (.lf (.int .i64)) fun v2 =>
   K (.int .i64 (IntKind.i64.wrap (v1.len - v2))))
theorem e26 (x0 : Option Addr) (K : Value → HP) : flatFn PP h26 Try.f26 [.pointer x0] K = t26 x0 K := by kernel_rfl

/-- depot/depotref27.Few -/
def h27 : Hints := ⟨[(0, [(7, .lf (.int .i64))])], [], []⟩
def t27 (x0 : SlV) (x1 : Int) (x2 : Int) (K : Value → HP) : HP :=
  lp [.lf (.int .i64)] (0, ()) fun z1 go1 =>   -- i
   ifB (decide ((z1.1 : Int) < x0.len)) (
    ifB (decide ((z1.1 : Int) ≤ x1)) (
     nilc x0.a fun a1 =>
     ixn z1.1 x0.len <|
     ld (Addr.add (Addr.add a1 (z1.1.toNat * 3)) 1) (.lf .str) fun v1 =>
     ifB (decide ((v1.size : Int) > x2)) (
      K (.bool false)) (
      nilc x0.a fun a2 =>
      ixn z1.1 x0.len <|
      ld (Addr.add (Addr.add a2 (z1.1.toNat * 3)) 2) (.lf .sl) fun v2 =>
      ifB (decide ((v2.len : Int) > x2)) (
       K (.bool false)) (
       go1 (IntKind.i64.wrap (z1.1 + 1), ())))) (
     K (.bool (decide ((x0.len : Int) ≤ x1))))) (
    K (.bool (decide ((x0.len : Int) ≤ x1))))
theorem e27 (x0 : SlV) (x1 : Int) (x2 : Int) (K : Value → HP) : flatFn PP h27 Try.f27 [.slice x0.a x0.len x0.cap, .int .i64 x1, .int .i64 x2] K = t27 x0 x1 x2 K := by kernel_rfl

/-- depot/depotlaw27.queues -/
def h28 : Hints := ⟨[], [], []⟩
def t28 (K : Value → HP) : HP :=
  cl PP 29 #[.int .i64 5] [.lf .ptr] fun r1 =>
  nw (.cells #[.int .u8 120, .int .u8 121] 5) fun n1 =>
  smW PP (convert 22 22 (.slice (some ⟨n1, 0, none⟩) 2 2)) [.lf .sl] fun v1 =>
  cl PP 30 #[.pointer r1.1, .string ⟨#[97]⟩, .slice v1.1.a v1.1.len v1.1.cap] [] fun r2 =>
  nw (.cells #[.int .u8 122] 5) fun n2 =>
  smW PP (convert 22 22 (.slice (some ⟨n2, 0, none⟩) 1 1)) [.lf .sl] fun v2 =>
  cl PP 30 #[.pointer r1.1, .string ⟨#[98]⟩, .slice v2.1.a v2.1.len v2.1.cap] [] fun r3 =>
  cl PP 35 #[.pointer r1.1] [.lf .bool] fun r4 =>
  cl PP 33 #[.pointer r1.1] [.lf (.int .i64)] fun r5 =>
  cl PP 31 #[.pointer r1.1, .string ⟨#[97]⟩] [.lf .sl, .lf .bool] fun r6 =>
  cl PP 30 #[.pointer r1.1, .string ⟨#[99]⟩, .slice none 0 0] [] fun r7 =>
  cl PP 35 #[.pointer r1.1] [.lf .bool] fun r8 =>
  cl PP 32 #[.pointer r1.1] [.agg [.str, .sl, .int .i64], .lf .bool] fun r9 =>
  nw (.cells #[.string ByteArray.empty, .slice none 0 0, .int .i64 0] 56) fun n3 =>
  st ⟨n3, 0, none⟩ [.string r9.1.1, .slice r9.1.2.1.a r9.1.2.1.len r9.1.2.1.cap, .int .i64 r9.1.2.2.1] <|
  cl PP 30 #[.pointer none, .string ⟨#[97]⟩, .slice none 0 0] [] fun r10 =>
  ifB (!r4.1) (
   ifB ((r5.1 : Int) == 5) (
    smR PP (Conv.bytesToString (.slice r6.1.a r6.1.len r6.1.cap)) [.lf .str] fun v3 =>
    ifB (ByteArray.toList v3.1 == ByteArray.toList ⟨#[120, 121]⟩) (
     ifB r6.2.1 (
      ifB r8.1 (
       ld ⟨n3, 0, none⟩ (.lf .str) fun v4 =>
       ifB (ByteArray.toList v4 == ByteArray.toList ⟨#[97]⟩) (
        ld (Addr.add ⟨n3, 0, none⟩ 2) (.lf (.int .i64)) fun v5 =>
        ifB ((v5 : Int) == 1) (
         ifB r9.2.1 (
          cl PP 34 #[.pointer r1.1] [.lf (.int .i64)] fun r11 =>
          ifB ((r11.1 : Int) == 2) (
           cl PP 42 #[.pointer r1.1, .string ⟨#[99]⟩] [.lf .bool] fun r12 =>
           ifB r12.1 (
            cl PP 44 #[.pointer r1.1, .string ⟨#[97]⟩] [.lf .bool] fun r13 =>
            ifB (!r13.1) (
             cl PP 34 #[.pointer none] [.lf (.int .i64)] fun r14 =>
             cl PP 33 #[.pointer none] [.lf (.int .i64)] fun r15 =>
             ifB ((IntKind.i64.wrap (r14.1 + r15.1) : Int) == 0) (
              cl PP 35 #[.pointer none] [.lf .bool] fun r16 =>
              K (.bool (!r16.1))) (
              K (.bool false))) (
             K (.bool false))) (
            K (.bool false))) (
           K (.bool false))) (
          K (.bool false))) (
         K (.bool false))) (
        K (.bool false))) (
       K (.bool false))) (
      K (.bool false))) (
     K (.bool false))) (
    K (.bool false))) (
   K (.bool false))
theorem e28 (K : Value → HP) : flatFn PP h28 Try.f28 [] K = t28 K := by kernel_rfl

/-- depot/queue.New -/
def h29 : Hints := ⟨[], [], []⟩
def t29 (x0 : Int) (K : Value → HP) : HP :=
  nw (.map #[] 0) fun n1 =>
  nw (.cells #[.int .i64 (imax x0 0), .int .i64 0, .pointer none, .pointer none, .map (some n1)] 132) fun n2 =>
  K (.pointer (some ⟨n2, 0, none⟩))
theorem e29 (x0 : Int) (K : Value → HP) : flatFn PP h29 Try.f29 [.int .i64 x0] K = t29 x0 K := by kernel_rfl

/-- (*depot/queue.Queue).Put -/
def h30 : Hints := ⟨[], [(6, [])], [(7, [0, 1, 2, 4, 3, 5, 6, 7, 8, 9]), (2, [0, 2, 5, 6, 7, 8, 1, 3, 4, 9, 10, 11])]⟩
def t30 (x0 : Option Addr) (x1 : ByteArray) (x2 : SlV) (K : Value → HP) : HP :=
  ifB (Option.isNone x0) (
   K (.tuple #[])) (
   cl PP 44 #[.pointer x0, .string x1] [.lf .bool] fun r1 =>
   nilc x0 fun a1 =>
   ld (Addr.add a1 3) (.lf .ptr) fun v1 =>
   nw (.cells #[] 5) fun n1 =>
   smW PP (Builtin.append_ #[22, 22] 22 #[.slice (some ⟨n1, 0, none⟩) 0 0, .slice x2.a x2.len x2.cap]) [.lf .sl] fun v2 =>
   keep (LdAt (Addr.add a1 3) [.pointer v1]) <|
   nw (.cells #[.string x1, .slice v2.1.a v2.1.len v2.1.cap, .int .i64 0, .pointer v1, .pointer none] 134) fun n2 =>
   jn (fun y1 : RsV [] =>
    nilc x0 fun a6 =>
    st (Addr.add a6 3) [.pointer (some ⟨n2, 0, none⟩)] <|
    nilc x0 fun a7 =>
    ld (Addr.add a7 1) (.lf (.int .i64)) fun v5 =>
    cl PP 81 #[.pointer (some ⟨n2, 0, none⟩)] [.lf (.int .i64)] fun r2 =>
    keep (LdAt (Addr.add a7 1) [.int .i64 v5]) <|
    nilc x0 fun a8 =>
    st (Addr.add a8 1) [.int .i64 (IntKind.i64.wrap (v5 + r2.1))] <|
    nilc x0 fun a9 =>
    ld (Addr.add a9 4) (.lf .map) fun v6 =>
    smU PP (Instr.mapUpdate 129 (.map v6) (.string x1) (.pointer (some ⟨n2, 0, none⟩))) <|
    K (.tuple #[])) fun j1 =>
   nilc x0 fun a2 =>
    ld (Addr.add a2 3) (.lf .ptr) fun v3 =>
    ifB (!(Option.isNone v3)) (
     nilc x0 fun a3 =>
     ld (Addr.add a3 3) (.lf .ptr) fun v4 =>
     nilc v4 fun a4 =>
     st (Addr.add a4 4) [.pointer (some ⟨n2, 0, none⟩)] <|
     j1 (())) (
     nilc x0 fun a5 =>
     st (Addr.add a5 2) [.pointer (some ⟨n2, 0, none⟩)] <|
     j1 (())))
theorem e30 (x0 : Option Addr) (x1 : ByteArray) (x2 : SlV) (K : Value → HP) : flatFn PP h30 Try.f30 [.pointer x0, .string x1, .slice x2.a x2.len x2.cap] K = t30 x0 x1 x2 K := by kernel_rfl

/-- (*depot/queue.Queue).Get -/
def h31 : Hints := ⟨[], [], []⟩
def t31 (x0 : Option Addr) (x1 : ByteArray) (K : Value → HP) : HP :=
  cl PP 82 #[.pointer x0, .string x1] [.lf .ptr] fun r1 =>
  ifB (Option.isNone r1.1) (
   K (.tuple #[.slice none 0 0, .bool false])) (
   nilc r1.1 fun a1 =>
   ld (Addr.add a1 2) (.lf (.int .i64)) fun v1 =>
   nilc r1.1 fun a2 =>
   st (Addr.add a2 2) [.int .i64 (imin (IntKind.i64.wrap (v1 + 1)) 3)] <|
   nw (.cells #[] 5) fun n1 =>
   nilc r1.1 fun a3 =>
   ld (Addr.add a3 1) (.lf .sl) fun v2 =>
   smW PP (Builtin.append_ #[22, 22] 22 #[.slice (some ⟨n1, 0, none⟩) 0 0, .slice v2.a v2.len v2.cap]) [.lf .sl] fun v3 =>
   K (.tuple #[.slice v3.1.a v3.1.len v3.1.cap, .bool true]))
theorem e31 (x0 : Option Addr) (x1 : ByteArray) (K : Value → HP) : flatFn PP h31 Try.f31 [.pointer x0, .string x1] K = t31 x0 x1 K := by kernel_rfl

/-- (*depot/queue.Queue).Pop -/
def h32 : Hints := ⟨[], [], []⟩
def t32 (x0 : Option Addr) (K : Value → HP) : HP :=
  nw (.cells #[.string ByteArray.empty, .slice none 0 0, .int .i64 0] 56) fun n1 =>
  ifB (Option.isNone x0) (
   st ⟨n1, 0, none⟩ [.string ByteArray.empty, .slice none 0 0, .int .i64 0] <|
   ld ⟨n1, 0, none⟩ (.agg [.str, .sl, .int .i64]) fun v1 =>
   K (.tuple #[.agg #[.string v1.1, .slice v1.2.1.a v1.2.1.len v1.2.1.cap, .int .i64 v1.2.2.1], .bool false])) (
   nilc x0 fun a1 =>
   ld (Addr.add a1 2) (.lf .ptr) fun v2 =>
   ifB (Option.isNone v2) (
    st ⟨n1, 0, none⟩ [.string ByteArray.empty, .slice none 0 0, .int .i64 0] <|
    ld ⟨n1, 0, none⟩ (.agg [.str, .sl, .int .i64]) fun v3 =>
    K (.tuple #[.agg #[.string v3.1, .slice v3.2.1.a v3.2.1.len v3.2.1.cap, .int .i64 v3.2.2.1], .bool false])) (
    nilc x0 fun a2 =>
    ld (Addr.add a2 2) (.lf .ptr) fun v4 =>
    cl PP 83 #[.pointer x0, .pointer v4] [] fun r1 =>
    nilc v4 fun a3 =>
    ld a3 (.agg [.str, .sl, .int .i64]) fun v5 =>
    st ⟨n1, 0, none⟩ [.string v5.1, .slice v5.2.1.a v5.2.1.len v5.2.1.cap, .int .i64 v5.2.2.1] <|
    ld ⟨n1, 0, none⟩ (.agg [.str, .sl, .int .i64]) fun v6 =>
    K (.tuple #[.agg #[.string v6.1, .slice v6.2.1.a v6.2.1.len v6.2.1.cap, .int .i64 v6.2.2.1], .bool true])))
theorem e32 (x0 : Option Addr) (K : Value → HP) : flatFn PP h32 Try.f32 [.pointer x0] K = t32 x0 K := by kernel_rfl

/-- (*depot/queue.Queue).Bytes -/
def h33 : Hints := ⟨[], [], []⟩
def t33 (x0 : Option Addr) (K : Value → HP) : HP :=
  ifB (Option.isNone x0) (
   K (.int .i64 0)) (
   nilc x0 fun a1 =>
   ld (Addr.add a1 1) (.lf (.int .i64)) fun v1 =>
   K (.int .i64 v1))
theorem e33 (x0 : Option Addr) (K : Value → HP) : flatFn PP h33 Try.f33 [.pointer x0] K = t33 x0 K := by kernel_rfl

/-- (*depot/queue.Queue).Len -/
def h34 : Hints := ⟨[], [], []⟩
def t34 (x0 : Option Addr) (K : Value → HP) : HP :=
  ifB (Option.isNone x0) (
   K (.int .i64 0)) (
   nilc x0 fun a1 =>
   ld (Addr.add a1 4) (.lf .map) fun v1 =>
   smR PP (Builtin.len_ #[129] 3 #[.map v1]) [.lf (.int .i64)] fun v2 =>
   K (.int .i64 v2.1))
theorem e34 (x0 : Option Addr) (K : Value → HP) : flatFn PP h34 Try.f34 [.pointer x0] K = t34 x0 K := by kernel_rfl

/-- (*depot/queue.Queue).Over -/
def h35 : Hints := ⟨[], [], [(1, [0, 1, 2, 3, 4, 5, 7, 8, 9, 6, 10, 11, 12, 13])]⟩
def t35 (x0 : Option Addr) (K : Value → HP) : HP :=
  ifB (!(Option.isNone x0)) (
   nilc x0 fun a1 =>
   nilc x0 fun a2 =>
   ld (Addr.add a1 1) (.lf (.int .i64)) fun v1 =>
   ld a2 (.lf (.int .i64)) fun v2 =>
   K (.bool (decide ((v1 : Int) > v2)))) (
   K (.bool false))
theorem e35 (x0 : Option Addr) (K : Value → HP) : flatFn PP h35 Try.f35 [.pointer x0] K = t35 x0 K := by kernel_rfl

/-- depot/depotref27.New -/
def h36 : Hints := ⟨[], [], []⟩
def t36 (x0 : Int) (K : Value → HP) : HP :=
  nw (.cells #[.int .i64 (imax x0 0), .slice none 0 0] 65) fun n1 =>
  K (.pointer (some ⟨n1, 0, none⟩))
theorem e36 (x0 : Int) (K : Value → HP) : flatFn PP h36 Try.f36 [.int .i64 x0] K = t36 x0 K := by kernel_rfl

/-- (*depot/queue.Queue).Peek -/
def h37 : Hints := ⟨[], [], []⟩
def t37 (x0 : Option Addr) (x1 : ByteArray) (K : Value → HP) : HP :=
  cl PP 82 #[.pointer x0, .string x1] [.lf .ptr] fun r1 =>
  ifB (Option.isNone r1.1) (
   K (.tuple #[.slice none 0 0, .bool false])) (
   nw (.cells #[] 5) fun n1 =>
   nilc r1.1 fun a1 =>
   ld (Addr.add a1 1) (.lf .sl) fun v1 =>
   smW PP (Builtin.append_ #[22, 22] 22 #[.slice (some ⟨n1, 0, none⟩) 0 0, .slice v1.a v1.len v1.cap]) [.lf .sl] fun v2 =>
   K (.tuple #[.slice v2.1.a v2.1.len v2.1.cap, .bool true]))
theorem e37 (x0 : Option Addr) (x1 : ByteArray) (K : Value → HP) : flatFn PP h37 Try.f37 [.pointer x0, .string x1] K = t37 x0 x1 K := by kernel_rfl

/-- (*depot/depotref27.Queue).Peek -/
def h38 : Hints := ⟨[], [], []⟩
def t38 (x0 : Option Addr) (x1 : ByteArray) (K : Value → HP) : HP :=
  cl PP 84 #[.pointer x0, .string x1] [.lf (.int .i64)] fun r1 =>
  ifB (decide ((r1.1 : Int) < 0)) (
   K (.tuple #[.slice none 0 0, .bool false])) (
   nilc x0 fun a1 =>
   ld (Addr.add a1 1) (.lf .sl) fun v1 =>
   nilc v1.a fun a2 =>
   ixn r1.1 v1.len <|
   ld (Addr.add (Addr.add a2 (r1.1.toNat * 3)) 1) (.lf .sl) fun v2 =>
   K (.tuple #[.slice v2.a v2.len v2.cap, .bool true]))
theorem e38 (x0 : Option Addr) (x1 : ByteArray) (K : Value → HP) : flatFn PP h38 Try.f38 [.pointer x0, .string x1] K = t38 x0 x1 K := by kernel_rfl

/-- depot/depotlaw27.do -/
def h39 : Hints := ⟨[], [], [(13, [0, 1, 4, 5, 2, 6, 3, 7, 8, 9])]⟩
def t39 (x0 : Option Addr) (x1 : Option Addr) (x2 : ShV (.agg [.int .i64, .str, .sl])) (K : Value → HP) : HP :=
  nw (.cells #[.int .i64 x2.1, .string x2.2.1, .slice x2.2.2.1.a x2.2.2.1.len x2.2.2.1.cap] 51) fun n1 =>
  ld ⟨n1, 0, none⟩ (.lf (.int .i64)) fun v1 =>
  ifB ((v1 : Int) == 0) (
   ld (Addr.add ⟨n1, 0, none⟩ 1) (.lf .str) fun v2 =>
   ld (Addr.add ⟨n1, 0, none⟩ 2) (.lf .sl) fun v3 =>
   cl PP 30 #[.pointer x0, .string v2, .slice v3.a v3.len v3.cap] [] fun r1 =>
   ld (Addr.add ⟨n1, 0, none⟩ 1) (.lf .str) fun v4 =>
   ld (Addr.add ⟨n1, 0, none⟩ 2) (.lf .sl) fun v5 =>
   cl PP 85 #[.pointer x1, .string v4, .slice v5.a v5.len v5.cap] [] fun r2 =>
   K (.bool true)) (
   ifB ((v1 : Int) == 1) (
    ld (Addr.add ⟨n1, 0, none⟩ 1) (.lf .str) fun v6 =>
    cl PP 31 #[.pointer x0, .string v6] [.lf .sl, .lf .bool] fun r3 =>
    ld (Addr.add ⟨n1, 0, none⟩ 1) (.lf .str) fun v7 =>
    cl PP 86 #[.pointer x1, .string v7] [.lf .sl, .lf .bool] fun r4 =>
    cl PP 22 #[.slice r3.1.a r3.1.len r3.1.cap, .slice r4.1.a r4.1.len r4.1.cap] [.lf .bool] fun r5 =>
    ifB r5.1 (
     K (.bool (r3.2.1 == r4.2.1))) (
     K (.bool false))) (
    ifB ((v1 : Int) == 2) (
     ld (Addr.add ⟨n1, 0, none⟩ 1) (.lf .str) fun v8 =>
     ld (Addr.add ⟨n1, 0, none⟩ 1) (.lf .str) fun v9 =>
     cl PP 44 #[.pointer x0, .string v8] [.lf .bool] fun r6 =>
     keep (LdAt (Addr.add ⟨n1, 0, none⟩ 1) [.string v9]) <|
     cl PP 87 #[.pointer x1, .string v9] [.lf .bool] fun r7 =>
     K (.bool (r6.1 == r7.1))) (
     cl PP 32 #[.pointer x0] [.agg [.str, .sl, .int .i64], .lf .bool] fun r8 =>
     nw (.cells #[.string ByteArray.empty, .slice none 0 0, .int .i64 0] 56) fun n2 =>
     st ⟨n2, 0, none⟩ [.string r8.1.1, .slice r8.1.2.1.a r8.1.2.1.len r8.1.2.1.cap, .int .i64 r8.1.2.2.1] <|
     cl PP 88 #[.pointer x1] [.agg [.str, .sl, .int .i64], .lf .bool] fun r9 =>
     nw (.cells #[.string ByteArray.empty, .slice none 0 0, .int .i64 0] 138) fun n3 =>
     st ⟨n3, 0, none⟩ [.string r9.1.1, .slice r9.1.2.1.a r9.1.2.1.len r9.1.2.1.cap, .int .i64 r9.1.2.2.1] <|
     ld ⟨n2, 0, none⟩ (.lf .str) fun v10 =>
     ld ⟨n3, 0, none⟩ (.lf .str) fun v11 =>
     ifB (ByteArray.toList v10 == ByteArray.toList v11) (
      ld (Addr.add ⟨n2, 0, none⟩ 2) (.lf (.int .i64)) fun v12 =>
      ld (Addr.add ⟨n3, 0, none⟩ 2) (.lf (.int .i64)) fun v13 =>
      ifB ((v12 : Int) == v13) (
       ld (Addr.add ⟨n2, 0, none⟩ 1) (.lf .sl) fun v14 =>
       ld (Addr.add ⟨n3, 0, none⟩ 1) (.lf .sl) fun v15 =>
       cl PP 22 #[.slice v14.a v14.len v14.cap, .slice v15.a v15.len v15.cap] [.lf .bool] fun r10 =>
       ifB r10.1 (
        K (.bool (r8.2.1 == r9.2.1))) (
        K (.bool false))) (
       K (.bool false))) (
      K (.bool false)))))
theorem e39 (x0 : Option Addr) (x1 : Option Addr) (x2 : ShV (.agg [.int .i64, .str, .sl])) (K : Value → HP) : flatFn PP h39 Try.f39 [.pointer x0, .pointer x1, .agg #[.int .i64 x2.1, .string x2.2.1, .slice x2.2.2.1.a x2.2.2.1.len x2.2.2.1.cap]] K = t39 x0 x1 x2 K := by kernel_rfl

/-- (*depot/depotref27.Queue).Bytes -/
def h40 : Hints := ⟨[(0, [(3, .lf (.int .i64)), (4, .lf (.int .i64))])], [], [(5, [0, 1, 2, 3, 5, 11, 12, 13, 15, 4, 6, 7, 8, 9, 10, 14, 16, 17, 18, 19, 20, 21])]⟩
def t40 (x0 : Option Addr) (K : Value → HP) : HP :=
  lp [.lf (.int .i64), .lf (.int .i64)] (0, 0, ()) fun z1 go1 =>   -- n, i
   nilc x0 fun a1 =>
   ld (Addr.add a1 1) (.lf .sl) fun v1 =>
   ifB (decide ((z1.2.1 : Int) < v1.len)) (
    nilc x0 fun a2 =>
    nilc x0 fun a3 =>
    ld (Addr.add a2 1) (.lf .sl) fun v2 =>
    nilc v2.a fun a4 =>
    ixn z1.2.1 v2.len <|
    ld (Addr.add a4 (z1.2.1.toNat * 3)) (.lf .str) fun v3 =>
    ld (Addr.add a3 1) (.lf .sl) fun v4 =>
    nilc v4.a fun a5 =>
    ixn z1.2.1 v4.len <|
    ld (Addr.add (Addr.add a5 (z1.2.1.toNat * 3)) 1) (.lf .sl) fun v5 =>
    go1 (IntKind.i64.wrap ((IntKind.i64.wrap (z1.1 + v3.size)) + v5.len), IntKind.i64.wrap (z1.2.1 + 1), ())) (
    K (.int .i64 z1.1))
theorem e40 (x0 : Option Addr) (K : Value → HP) : flatFn PP h40 Try.f40 [.pointer x0] K = t40 x0 K := by kernel_rfl

/-- (*depot/depotref27.Queue).Over -/
def h41 : Hints := ⟨[], [], [(1, [0, 2, 3, 4, 5, 1, 6, 7])]⟩
def t41 (x0 : Option Addr) (K : Value → HP) : HP :=
  nilc x0 fun a1 =>
  ld a1 (.lf (.int .i64)) fun v1 =>
  cl PP 40 #[.pointer x0] [.lf (.int .i64)] fun r1 =>
  keep (LdAt a1 [.int .i64 v1]) <|
  K (.bool (decide ((r1.1 : Int) > v1)))
theorem e41 (x0 : Option Addr) (K : Value → HP) : flatFn PP h41 Try.f41 [.pointer x0] K = t41 x0 K := by kernel_rfl

/-- (*depot/queue.Queue).Has -/
def h42 : Hints := ⟨[], [], []⟩
def t42 (x0 : Option Addr) (x1 : ByteArray) (K : Value → HP) : HP :=
  cl PP 82 #[.pointer x0, .string x1] [.lf .ptr] fun r1 =>
  K (.bool (!(Option.isNone r1.1)))
theorem e42 (x0 : Option Addr) (x1 : ByteArray) (K : Value → HP) : flatFn PP h42 Try.f42 [.pointer x0, .string x1] K = t42 x0 x1 K := by kernel_rfl

/-- (*depot/depotref27.Queue).Has -/
def h43 : Hints := ⟨[], [], []⟩
def t43 (x0 : Option Addr) (x1 : ByteArray) (K : Value → HP) : HP :=
  cl PP 84 #[.pointer x0, .string x1] [.lf (.int .i64)] fun r1 =>
  K (.bool (decide ((r1.1 : Int) ≥ 0)))
theorem e43 (x0 : Option Addr) (x1 : ByteArray) (K : Value → HP) : flatFn PP h43 Try.f43 [.pointer x0, .string x1] K = t43 x0 x1 K := by kernel_rfl

/-- (*depot/queue.Queue).Drop -/
def h44 : Hints := ⟨[], [], []⟩
def t44 (x0 : Option Addr) (x1 : ByteArray) (K : Value → HP) : HP :=
  cl PP 82 #[.pointer x0, .string x1] [.lf .ptr] fun r1 =>
  ifB (Option.isNone r1.1) (
   K (.bool false)) (
   cl PP 83 #[.pointer x0, .pointer r1.1] [] fun r2 =>
   K (.bool true))
theorem e44 (x0 : Option Addr) (x1 : ByteArray) (K : Value → HP) : flatFn PP h44 Try.f44 [.pointer x0, .string x1] K = t44 x0 x1 K := by kernel_rfl

/-- depot/depotref03.Text -/
def h45 : Hints := ⟨[], [], []⟩
def t45 (x0 : SlV) (x1 : Int) (K : Value → HP) : HP :=
  cl PP 19 #[.slice x0.a x0.len x0.cap, .int .i64 x1, .int .i64 4] [.lf (.int .i64), .lf (.int .i64)] fun r1 =>
  ifB ((r1.2.1 : Int) != 0) (
   K (.tuple #[.string ⟨#[]⟩, .int .i64 x1, .int .i64 r1.2.1])) (
   ifB (decide ((r1.1 : Int) > 65536)) (
    K (.tuple #[.string ⟨#[]⟩, .int .i64 x1, .int .i64 4])) (
    ifB (decide ((IntKind.i64.wrap ((IntKind.i64.wrap (x0.len - x1)) - 4) : Int) < r1.1)) (
     K (.tuple #[.string ⟨#[]⟩, .int .i64 x1, .int .i64 6])) (
     slc ⟨x0.a, x0.len, x0.cap⟩ (IntKind.i64.wrap (x1 + 4)) (IntKind.i64.wrap ((IntKind.i64.wrap (x1 + 4)) + r1.1)) x0.cap 1 fun s1 =>
     smR PP (Conv.bytesToString (.slice s1.a s1.len s1.cap)) [.lf .str] fun v1 =>
     K (.tuple #[.string v1.1, .int .i64 (IntKind.i64.wrap ((IntKind.i64.wrap (x1 + 4)) + r1.1)), .int .i64 0]))))
theorem e45 (x0 : SlV) (x1 : Int) (K : Value → HP) : flatFn PP h45 Try.f45 [.slice x0.a x0.len x0.cap, .int .i64 x1] K = t45 x0 x1 K := by kernel_rfl

/-- (*depot/wire.Reader).Flag -/
def h46 : Hints := ⟨[], [], [(3, [0, 1, 2, 4, 5, 6, 3, 7, 8, 9, 10, 11, 12, 13])]⟩
def t46 (x0 : Option Addr) (K : Value → HP) : HP :=
  ifB (Option.isNone x0) (
   K (.tuple #[.bool false, .int .i64 1])) (
   nilc x0 fun a1 =>
   nilc x0 fun a2 =>
   ld a1 (.lf .sl) fun v1 =>
   ld (Addr.add a2 1) (.lf (.int .i64)) fun v2 =>
   cl PP 18 #[.slice v1.a v1.len v1.cap, .int .i64 v2, .int .i64 1] [.lf (.int .i64), .lf (.int .i64)] fun r1 =>
   ifB ((r1.2.1 : Int) != 0) (
    K (.tuple #[.bool false, .int .i64 r1.2.1])) (
    ifB (decide ((r1.1 : Int) > 1)) (
     K (.tuple #[.bool false, .int .i64 5])) (
     nilc x0 fun a3 =>
     ld (Addr.add a3 1) (.lf (.int .i64)) fun v3 =>
     nilc x0 fun a4 =>
     st (Addr.add a4 1) [.int .i64 (IntKind.i64.wrap (v3 + 1))] <|
     K (.tuple #[.bool ((r1.1 : Int) == 1), .int .i64 0]))))
theorem e46 (x0 : Option Addr) (K : Value → HP) : flatFn PP h46 Try.f46 [.pointer x0] K = t46 x0 K := by kernel_rfl

/-- depot/depotref03.Flag -/
def h47 : Hints := ⟨[], [], []⟩
def t47 (x0 : SlV) (x1 : Int) (K : Value → HP) : HP :=
  cl PP 19 #[.slice x0.a x0.len x0.cap, .int .i64 x1, .int .i64 1] [.lf (.int .i64), .lf (.int .i64)] fun r1 =>
  ifB ((r1.2.1 : Int) != 0) (
   K (.tuple #[.bool false, .int .i64 x1, .int .i64 r1.2.1])) (
   ifB (decide ((r1.1 : Int) > 1)) (
    K (.tuple #[.bool false, .int .i64 x1, .int .i64 5])) (
    K (.tuple #[.bool ((r1.1 : Int) == 1), .int .i64 (IntKind.i64.wrap (x1 + 1)), .int .i64 0])))
theorem e47 (x0 : SlV) (x1 : Int) (K : Value → HP) : flatFn PP h47 Try.f47 [.slice x0.a x0.len x0.cap, .int .i64 x1] K = t47 x0 x1 K := by kernel_rfl

/-- (*depot/index.Index).Put -/
def h48 : Hints := ⟨[], [(10, [])], [(6, [0, 1, 4, 5, 6, 2, 3, 7, 8, 9])]⟩
def t48 (x0 : Option Addr) (x1 : Int) (x2 : ShV (.agg [.int .i64, .int .i64, .int .i64])) (K : Value → HP) : HP :=
  nw (.cells #[.int .i64 x2.1, .int .i64 x2.2.1, .int .i64 x2.2.2.1] 81) fun n1 =>
  nw (.cells #[.int .i64 0, .int .i64 0, .int .i64 0] 81) fun n2 =>
  ifB (Option.isNone x0) (
   st ⟨n2, 0, none⟩ [.int .i64 0, .int .i64 0, .int .i64 0] <|
   ld ⟨n2, 0, none⟩ (.agg [.int .i64, .int .i64, .int .i64]) fun v1 =>
   K (.tuple #[.agg #[.int .i64 v1.1, .int .i64 v1.2.1, .int .i64 v1.2.2.1], .bool false])) (
   ld ⟨n1, 0, none⟩ (.agg [.int .i64, .int .i64, .int .i64]) fun v2 =>
   cl PP 89 #[.pointer x0, .int .u64 x1, .agg #[.int .i64 v2.1, .int .i64 v2.2.1, .int .i64 v2.2.2.1]] [.agg [.int .i64, .int .i64, .int .i64, .int .i64, .int .i64], .lf .bool] fun r1 =>
   cl PP 90 #[.pointer x0, .int .u64 x1] [.lf .ptr] fun r2 =>
   nw (.cells #[.int .i64 0, .int .i64 0, .int .i64 0, .int .i64 0, .int .i64 0] 144) fun n3 =>
   nilc r2.1 fun a1 =>
   nilc x0 fun a2 =>
   ld a1 (.lf .sl) fun v3 =>
   ld a2 (.lf (.int .i64)) fun v4 =>
   jn (fun y1 : RsV [] =>
    ld ⟨n1, 0, none⟩ (.agg [.int .i64, .int .i64, .int .i64]) fun v8 =>
    cl PP 93 #[.int .u64 x1, .agg #[.int .i64 v8.1, .int .i64 v8.2.1, .int .i64 v8.2.2.1]] [.agg [.int .i64, .int .i64, .int .i64, .int .i64]] fun r4 =>
    cl PP 92 #[.pointer x0, .int .u64 x1, .agg #[.int .i64 r4.1.1, .int .i64 r4.1.2.1, .int .i64 r4.1.2.2.1, .int .i64 r4.1.2.2.2.1, .int .i64 0]] [] fun r5 =>
    ld (Addr.add ⟨n3, 0, none⟩ 1) (.agg [.int .i64, .int .i64, .int .i64]) fun v9 =>
    st ⟨n2, 0, none⟩ [.int .i64 v9.1, .int .i64 v9.2.1, .int .i64 v9.2.2.1] <|
    ld ⟨n2, 0, none⟩ (.agg [.int .i64, .int .i64, .int .i64]) fun v10 =>
    K (.tuple #[.agg #[.int .i64 v10.1, .int .i64 v10.2.1, .int .i64 v10.2.2.1], .bool ((v3.len : Int) == v4)])) fun j1 =>
   ifB ((v3.len : Int) == v4) (
     nilc r2.1 fun a3 =>
     ld a3 (.lf .sl) fun v5 =>
     nilc v5.a fun a4 =>
     ixn 0 v5.len <|
     ld (Addr.add a4 ((0 : Int).toNat * 5)) (.agg [.int .i64, .int .i64, .int .i64, .int .i64, .int .i64]) fun v6 =>
     st ⟨n3, 0, none⟩ [.int .i64 v6.1, .int .i64 v6.2.1, .int .i64 v6.2.2.1, .int .i64 v6.2.2.2.1, .int .i64 v6.2.2.2.2.1] <|
     nilc r2.1 fun a5 =>
     ld a5 (.lf .sl) fun v7 =>
     cl PP 91 #[.slice v7.a v7.len v7.cap, .int .i64 0, .int .i64 1] [.lf .sl] fun r3 =>
     nilc r2.1 fun a6 =>
     st a6 [.slice r3.1.a r3.1.len r3.1.cap] <|
     j1 (())) (
     j1 (())))
theorem e48 (x0 : Option Addr) (x1 : Int) (x2 : ShV (.agg [.int .i64, .int .i64, .int .i64])) (K : Value → HP) : flatFn PP h48 Try.f48 [.pointer x0, .int .u64 x1, .agg #[.int .i64 x2.1, .int .i64 x2.2.1, .int .i64 x2.2.2.1]] K = t48 x0 x1 x2 K := by kernel_rfl

/-- (*depot/index.Index).Find -/
def h49 : Hints := ⟨[(0, [(5, .lf .sl), (16, .lf (.int .i64))])], [], [(7, [0, 1, 3, 2, 4, 5])]⟩
def t49 (x0 : Option Addr) (x1 : Int) (K : Value → HP) : HP :=
  ifB (Option.isNone x0) (
   K (.slice none 0 0)) (
   cl PP 90 #[.pointer x0, .int .u64 x1] [.lf .ptr] fun r1 =>
   nilc r1.1 fun a1 =>
   ld a1 (.lf .sl) fun v1 =>
   lp [.lf .sl, .lf (.int .i64)] (⟨none, 0, 0⟩, 0, ()) fun z1 go1 =>   -- l, 
    ifB (decide ((z1.2.1 : Int) < v1.len)) (
     nilc v1.a fun a2 =>
     ixn z1.2.1 v1.len <|
     ld (Addr.add a2 (z1.2.1.toNat * 5)) (.agg [.int .i64, .int .i64, .int .i64, .int .i64, .int .i64]) fun v2 =>
     nw (.cells #[.int .i64 0, .int .i64 0, .int .i64 0, .int .i64 0, .int .i64 0] 144) fun n1 =>
     st ⟨n1, 0, none⟩ [.int .i64 v2.1, .int .i64 v2.2.1, .int .i64 v2.2.2.1, .int .i64 v2.2.2.2.1, .int .i64 v2.2.2.2.2.1] <|
     ld ⟨n1, 0, none⟩ (.lf (.int .i64)) fun v3 =>
     cl PP 94 #[.int .u64 x1] [.lf (.int .i64)] fun r2 =>
     keep (LdAt ⟨n1, 0, none⟩ [.int .i64 v3]) <|
     ifB ((v3 : Int) == r2.1) (
      ld (Addr.add ⟨n1, 0, none⟩ 1) (.agg [.int .i64, .int .i64, .int .i64]) fun v4 =>
      nw (.cells #[.int .i64 v4.1, .int .i64 v4.2.1, .int .i64 v4.2.2.1] 81) fun n2 =>
      smW PP (Builtin.append_ #[87, 87] 87 #[.slice z1.1.a z1.1.len z1.1.cap, .slice (some ⟨n2, 0, none⟩) 1 1]) [.lf .sl] fun v5 =>
      go1 (⟨v5.1.a, v5.1.len, v5.1.cap⟩, IntKind.i64.wrap (z1.2.1 + 1), ())) (
      go1 (⟨z1.1.a, z1.1.len, z1.1.cap⟩, IntKind.i64.wrap (z1.2.1 + 1), ()))) (
     K (.slice z1.1.a z1.1.len z1.1.cap)))
theorem e49 (x0 : Option Addr) (x1 : Int) (K : Value → HP) : flatFn PP h49 Try.f49 [.pointer x0, .int .u64 x1] K = t49 x0 x1 K := by kernel_rfl

/-- (*depot/index.Index).Drop -/
def h50 : Hints := ⟨[], [], []⟩
def t50 (x0 : Option Addr) (x1 : Int) (x2 : ShV (.agg [.int .i64, .int .i64, .int .i64])) (K : Value → HP) : HP :=
  nw (.cells #[.int .i64 x2.1, .int .i64 x2.2.1, .int .i64 x2.2.2.1] 81) fun n1 =>
  ld ⟨n1, 0, none⟩ (.agg [.int .i64, .int .i64, .int .i64]) fun v1 =>
  cl PP 89 #[.pointer x0, .int .u64 x1, .agg #[.int .i64 v1.1, .int .i64 v1.2.1, .int .i64 v1.2.2.1]] [.agg [.int .i64, .int .i64, .int .i64, .int .i64, .int .i64], .lf .bool] fun r1 =>
  nw (.cells #[.int .i64 0, .int .i64 0, .int .i64 0, .int .i64 0, .int .i64 0] 144) fun n2 =>
  st ⟨n2, 0, none⟩ [.int .i64 r1.1.1, .int .i64 r1.1.2.1, .int .i64 r1.1.2.2.1, .int .i64 r1.1.2.2.2.1, .int .i64 r1.1.2.2.2.2.1] <|
  K (.bool r1.2.1)
theorem e50 (x0 : Option Addr) (x1 : Int) (x2 : ShV (.agg [.int .i64, .int .i64, .int .i64])) (K : Value → HP) : flatFn PP h50 Try.f50 [.pointer x0, .int .u64 x1, .agg #[.int .i64 x2.1, .int .i64 x2.2.1, .int .i64 x2.2.2.1]] K = t50 x0 x1 x2 K := by kernel_rfl

/-- (*depot/index.Index).Hit -/
def h51 : Hints := ⟨[], [], []⟩
def t51 (x0 : Option Addr) (x1 : Int) (x2 : ShV (.agg [.int .i64, .int .i64, .int .i64])) (K : Value → HP) : HP :=
  nw (.cells #[.int .i64 x2.1, .int .i64 x2.2.1, .int .i64 x2.2.2.1] 81) fun n1 =>
  ld ⟨n1, 0, none⟩ (.agg [.int .i64, .int .i64, .int .i64]) fun v1 =>
  cl PP 95 #[.pointer x0, .int .u64 x1, .agg #[.int .i64 v1.1, .int .i64 v1.2.1, .int .i64 v1.2.2.1], .func (.func 96) #[] #[]] [.lf .bool] fun r1 =>
  K (.bool r1.1)
theorem e51 (x0 : Option Addr) (x1 : Int) (x2 : ShV (.agg [.int .i64, .int .i64, .int .i64])) (K : Value → HP) : flatFn PP h51 Try.f51 [.pointer x0, .int .u64 x1, .agg #[.int .i64 x2.1, .int .i64 x2.2.1, .int .i64 x2.2.2.1]] K = t51 x0 x1 x2 K := by kernel_rfl

/-- (*depot/index.Index).Move -/
def h52 : Hints := ⟨[], [], [(4, [0, 1, 2, 5, 3, 6, 7, 8, 4, 9, 10])]⟩
def t52 (x0 : Option Addr) (x1 : Int) (x2 : ShV (.agg [.int .i64, .int .i64, .int .i64])) (x3 : ShV (.agg [.int .i64, .int .i64, .int .i64])) (K : Value → HP) : HP :=
  nw (.cells #[.int .i64 x2.1, .int .i64 x2.2.1, .int .i64 x2.2.2.1] 81) fun n1 =>
  nw (.cells #[.int .i64 x3.1, .int .i64 x3.2.1, .int .i64 x3.2.2.1] 81) fun n2 =>
  ld ⟨n1, 0, none⟩ (.agg [.int .i64, .int .i64, .int .i64]) fun v1 =>
  cl PP 89 #[.pointer x0, .int .u64 x1, .agg #[.int .i64 v1.1, .int .i64 v1.2.1, .int .i64 v1.2.2.1]] [.agg [.int .i64, .int .i64, .int .i64, .int .i64, .int .i64], .lf .bool] fun r1 =>
  nw (.cells #[.int .i64 0, .int .i64 0, .int .i64 0, .int .i64 0, .int .i64 0] 144) fun n3 =>
  st ⟨n3, 0, none⟩ [.int .i64 r1.1.1, .int .i64 r1.1.2.1, .int .i64 r1.1.2.2.1, .int .i64 r1.1.2.2.2.1, .int .i64 r1.1.2.2.2.2.1] <|
  ifB r1.2.1 (
   ld ⟨n2, 0, none⟩ (.agg [.int .i64, .int .i64, .int .i64]) fun v2 =>
   cl PP 89 #[.pointer x0, .int .u64 x1, .agg #[.int .i64 v2.1, .int .i64 v2.2.1, .int .i64 v2.2.2.1]] [.agg [.int .i64, .int .i64, .int .i64, .int .i64, .int .i64], .lf .bool] fun r2 =>
   ld ⟨n2, 0, none⟩ (.agg [.int .i64, .int .i64, .int .i64]) fun v3 =>
   ld (Addr.add ⟨n3, 0, none⟩ 4) (.lf (.int .i64)) fun v4 =>
   cl PP 93 #[.int .u64 x1, .agg #[.int .i64 v3.1, .int .i64 v3.2.1, .int .i64 v3.2.2.1]] [.agg [.int .i64, .int .i64, .int .i64, .int .i64]] fun r3 =>
   keep (LdAt (Addr.add ⟨n3, 0, none⟩ 4) [.int .i64 v4]) <|
   cl PP 92 #[.pointer x0, .int .u64 x1, .agg #[.int .i64 r3.1.1, .int .i64 r3.1.2.1, .int .i64 r3.1.2.2.1, .int .i64 r3.1.2.2.2.1, .int .i64 (imax (IntKind.i64.wrap (v4 - 1)) 0)]] [] fun r4 =>
   K (.bool r1.2.1)) (
   K (.bool r1.2.1))
theorem e52 (x0 : Option Addr) (x1 : Int) (x2 : ShV (.agg [.int .i64, .int .i64, .int .i64])) (x3 : ShV (.agg [.int .i64, .int .i64, .int .i64])) (K : Value → HP) : flatFn PP h52 Try.f52 [.pointer x0, .int .u64 x1, .agg #[.int .i64 x2.1, .int .i64 x2.2.1, .int .i64 x2.2.2.1], .agg #[.int .i64 x3.1, .int .i64 x3.2.1, .int .i64 x3.2.2.1]] K = t52 x0 x1 x2 x3 K := by kernel_rfl

/-- (*depot/index.Index).Freq -/
def h53 : Hints := ⟨[], [], []⟩
def t53 (x0 : Option Addr) (x1 : Int) (x2 : ShV (.agg [.int .i64, .int .i64, .int .i64])) (K : Value → HP) : HP :=
  nw (.cells #[.int .i64 x2.1, .int .i64 x2.2.1, .int .i64 x2.2.2.1] 81) fun n1 =>
  nw (.cells #[.int .i64 0] 3) fun n2 =>
  st ⟨n2, 0, none⟩ [.int .i64 0] <|
  ld ⟨n1, 0, none⟩ (.agg [.int .i64, .int .i64, .int .i64]) fun v1 =>
  cl PP 95 #[.pointer x0, .int .u64 x1, .agg #[.int .i64 v1.1, .int .i64 v1.2.1, .int .i64 v1.2.2.1], .func (.func 97) #[] #[.pointer (some ⟨n2, 0, none⟩)]] [.lf .bool] fun r1 =>
  ld ⟨n2, 0, none⟩ (.lf (.int .i64)) fun v2 =>
  K (.int .i64 v2)
theorem e53 (x0 : Option Addr) (x1 : Int) (x2 : ShV (.agg [.int .i64, .int .i64, .int .i64])) (K : Value → HP) : flatFn PP h53 Try.f53 [.pointer x0, .int .u64 x1, .agg #[.int .i64 x2.1, .int .i64 x2.2.1, .int .i64 x2.2.2.1]] K = t53 x0 x1 x2 K := by kernel_rfl

/-- (*depot/index.Index).Crowd -/
def h54 : Hints := ⟨[], [], []⟩
def t54 (x0 : Option Addr) (x1 : Int) (K : Value → HP) : HP :=
  ifB (Option.isNone x0) (
   K (.int .i64 0)) (
   cl PP 90 #[.pointer x0, .int .u64 x1] [.lf .ptr] fun r1 =>
   nilc r1.1 fun a1 =>
   ld a1 (.lf .sl) fun v1 =>
   K (.int .i64 v1.len))
theorem e54 (x0 : Option Addr) (x1 : Int) (K : Value → HP) : flatFn PP h54 Try.f54 [.pointer x0, .int .u64 x1] K = t54 x0 x1 K := by kernel_rfl

/-- (*depot/index.Index).Len -/
def h55 : Hints := ⟨[(0, [(3, .lf (.int .i64)), (13, .lf (.int .i64))])], [], []⟩
def t55 (x0 : Option Addr) (K : Value → HP) : HP :=
  ifB (!(Option.isNone x0)) (
   nilc x0 fun a1 =>
   ld (Addr.add a1 1) (.lf .sl) fun v1 =>
   lp [.lf (.int .i64), .lf (.int .i64)] (0, 0, ()) fun z1 go1 =>   -- n, 
    ifB (decide ((z1.2.1 : Int) < v1.len)) (
     nilc v1.a fun a2 =>
     ixn z1.2.1 v1.len <|
     ld (Addr.add a2 (z1.2.1.toNat * 1)) (.lf .sl) fun v2 =>
     go1 (IntKind.i64.wrap (z1.1 + v2.len), IntKind.i64.wrap (z1.2.1 + 1), ())) (
     K (.int .i64 z1.1))) (
   K (.int .i64 0))
theorem e55 (x0 : Option Addr) (K : Value → HP) : flatFn PP h55 Try.f55 [.pointer x0] K = t55 x0 K := by kernel_rfl

/-- depot/depotlaw26.indexes -/
def h56 : Hints := ⟨[], [], [(12, [0, 1, 2, 3, 4, 5, 6, 7, 8, 9, 10, 11, 12, 13, 14, 15, 16, 17, 18, 19, 20, 21, 22, 23, 24, 25, 26, 27, 28, 29, 30, 31, 32, 33, 34, 35, 36, 37, 38, 39, 40, 41, 42, 43, 44, 45, 46, 47, 48, 49, 50, 51, 52, 53, 54, 55, 56, 57, 58, 59, 60, 61, 62, 63, 64, 65, 66, 67])]⟩
def t56 (K : Value → HP) : HP :=
  cl PP 57 #[.int .i64 1, .int .i64 2] [.lf .ptr, .lf (.int .i64)] fun r1 =>
  cl PP 57 #[.int .i64 0, .int .i64 2] [.lf .ptr, .lf (.int .i64)] fun r2 =>
  ifB ((r1.2.1 : Int) != 0) (
   K (.bool false)) (
   ifB ((r2.2.1 : Int) != 30) (
    K (.bool false)) (
    cl PP 98 #[.int .i64 1] [.agg [.int .i64, .int .i64, .int .i64]] fun r3 =>
    cl PP 48 #[.pointer r1.1, .int .u64 5, .agg #[.int .i64 r3.1.1, .int .i64 r3.1.2.1, .int .i64 r3.1.2.2.1]] [.agg [.int .i64, .int .i64, .int .i64], .lf .bool] fun r4 =>
    nw (.cells #[.int .i64 0, .int .i64 0, .int .i64 0] 81) fun n1 =>
    st ⟨n1, 0, none⟩ [.int .i64 r4.1.1, .int .i64 r4.1.2.1, .int .i64 r4.1.2.2.1] <|
    cl PP 98 #[.int .i64 2] [.agg [.int .i64, .int .i64, .int .i64]] fun r5 =>
    cl PP 48 #[.pointer r1.1, .int .u64 5, .agg #[.int .i64 r5.1.1, .int .i64 r5.1.2.1, .int .i64 r5.1.2.2.1]] [.agg [.int .i64, .int .i64, .int .i64], .lf .bool] fun r6 =>
    nw (.cells #[.int .i64 0, .int .i64 0, .int .i64 0] 81) fun n2 =>
    st ⟨n2, 0, none⟩ [.int .i64 r6.1.1, .int .i64 r6.1.2.1, .int .i64 r6.1.2.2.1] <|
    cl PP 98 #[.int .i64 3] [.agg [.int .i64, .int .i64, .int .i64]] fun r7 =>
    cl PP 48 #[.pointer r1.1, .int .u64 5, .agg #[.int .i64 r7.1.1, .int .i64 r7.1.2.1, .int .i64 r7.1.2.2.1]] [.agg [.int .i64, .int .i64, .int .i64], .lf .bool] fun r8 =>
    nw (.cells #[.int .i64 0, .int .i64 0, .int .i64 0] 81) fun n3 =>
    st ⟨n3, 0, none⟩ [.int .i64 r8.1.1, .int .i64 r8.1.2.1, .int .i64 r8.1.2.2.1] <|
    cl PP 49 #[.pointer r1.1, .int .u64 5] [.lf .sl] fun r9 =>
    cl PP 98 #[.int .i64 2] [.agg [.int .i64, .int .i64, .int .i64]] fun r10 =>
    cl PP 51 #[.pointer r1.1, .int .u64 5, .agg #[.int .i64 r10.1.1, .int .i64 r10.1.2.1, .int .i64 r10.1.2.2.1]] [.lf .bool] fun r11 =>
    cl PP 98 #[.int .i64 2] [.agg [.int .i64, .int .i64, .int .i64]] fun r12 =>
    cl PP 98 #[.int .i64 4] [.agg [.int .i64, .int .i64, .int .i64]] fun r13 =>
    cl PP 52 #[.pointer r1.1, .int .u64 5, .agg #[.int .i64 r12.1.1, .int .i64 r12.1.2.1, .int .i64 r12.1.2.2.1], .agg #[.int .i64 r13.1.1, .int .i64 r13.1.2.1, .int .i64 r13.1.2.2.1]] [.lf .bool] fun r14 =>
    ifB (!r4.2.1) (
     ifB (!r6.2.1) (
      ld ⟨n3, 0, none⟩ (.agg [.int .i64, .int .i64, .int .i64]) fun v1 =>
      cl PP 98 #[.int .i64 1] [.agg [.int .i64, .int .i64, .int .i64]] fun r15 =>
      keep (LdAt ⟨n3, 0, none⟩ [.int .i64 v1.1, .int .i64 v1.2.1, .int .i64 v1.2.2.1]) <|
      smP PP (binOp .eql 81 (.agg #[.int .i64 v1.1, .int .i64 v1.2.1, .int .i64 v1.2.2.1]) (.agg #[.int .i64 r15.1.1, .int .i64 r15.1.2.1, .int .i64 r15.1.2.2.1])) (.lf .bool) fun v2 =>
      ifB v2 (
       ifB r8.2.1 (
        cl PP 98 #[.int .i64 2] [.agg [.int .i64, .int .i64, .int .i64]] fun r16 =>
        cl PP 98 #[.int .i64 3] [.agg [.int .i64, .int .i64, .int .i64]] fun r17 =>
        nw (.cells #[.int .i64 r16.1.1, .int .i64 r16.1.2.1, .int .i64 r16.1.2.2.1, .int .i64 r17.1.1, .int .i64 r17.1.2.1, .int .i64 r17.1.2.2.1] 81) fun n4 =>
        cl PP 99 #[.slice r9.1.a r9.1.len r9.1.cap, .slice (some ⟨n4, 0, none⟩) 2 2] [.lf .bool] fun r18 =>
        ifB r18.1 (
         ifB r11.1 (
          ifB r14.1 (
           cl PP 49 #[.pointer r1.1, .int .u64 5] [.lf .sl] fun r19 =>
           cl PP 98 #[.int .i64 3] [.agg [.int .i64, .int .i64, .int .i64]] fun r20 =>
           cl PP 98 #[.int .i64 4] [.agg [.int .i64, .int .i64, .int .i64]] fun r21 =>
           nw (.cells #[.int .i64 r20.1.1, .int .i64 r20.1.2.1, .int .i64 r20.1.2.2.1, .int .i64 r21.1.1, .int .i64 r21.1.2.1, .int .i64 r21.1.2.2.1] 81) fun n5 =>
           cl PP 99 #[.slice r19.1.a r19.1.len r19.1.cap, .slice (some ⟨n5, 0, none⟩) 2 2] [.lf .bool] fun r22 =>
           ifB r22.1 (
            cl PP 98 #[.int .i64 4] [.agg [.int .i64, .int .i64, .int .i64]] fun r23 =>
            cl PP 53 #[.pointer r1.1, .int .u64 5, .agg #[.int .i64 r23.1.1, .int .i64 r23.1.2.1, .int .i64 r23.1.2.2.1]] [.lf (.int .i64)] fun r24 =>
            ifB ((r24.1 : Int) == 0) (
             cl PP 55 #[.pointer r1.1] [.lf (.int .i64)] fun r25 =>
             ifB ((r25.1 : Int) == 2) (
              cl PP 54 #[.pointer r1.1, .int .u64 9] [.lf (.int .i64)] fun r26 =>
              ifB ((r26.1 : Int) == 2) (
               cl PP 98 #[.int .i64 3] [.agg [.int .i64, .int .i64, .int .i64]] fun r27 =>
               cl PP 50 #[.pointer r1.1, .int .u64 5, .agg #[.int .i64 r27.1.1, .int .i64 r27.1.2.1, .int .i64 r27.1.2.2.1]] [.lf .bool] fun r28 =>
               ifB r28.1 (
                cl PP 55 #[.pointer none] [.lf (.int .i64)] fun r29 =>
                ifB ((r29.1 : Int) == 0) (
                 cl PP 98 #[.int .i64 1] [.agg [.int .i64, .int .i64, .int .i64]] fun r30 =>
                 cl PP 51 #[.pointer none, .int .u64 5, .agg #[.int .i64 r30.1.1, .int .i64 r30.1.2.1, .int .i64 r30.1.2.2.1]] [.lf .bool] fun r31 =>
                 K (.bool (!r31.1))) (
                 K (.bool false))) (
                K (.bool false))) (
               K (.bool false))) (
              K (.bool false))) (
             K (.bool false))) (
            K (.bool false))) (
           K (.bool false))) (
          K (.bool false))) (
         K (.bool false))) (
        K (.bool false))) (
       K (.bool false))) (
      K (.bool false))) (
     K (.bool false))))
theorem e56 (K : Value → HP) : flatFn PP h56 Try.f56 [] K = t56 K := by kernel_rfl

/-- depot/index.New -/
def h57 : Hints := ⟨[], [], []⟩
def t57 (x0 : Int) (x1 : Int) (K : Value → HP) : HP :=
  ifB (decide ((x0 : Int) < 1)) (
   K (.tuple #[.pointer none, .int .i64 30])) (
   ifB (decide ((x0 : Int) > 64)) (
    K (.tuple #[.pointer none, .int .i64 30])) (
    ifB (decide ((x1 : Int) < 1)) (
     K (.tuple #[.pointer none, .int .i64 30])) (
     ifB (decide ((x1 : Int) > 8)) (
      K (.tuple #[.pointer none, .int .i64 30])) (
      smA PP (Instr.makeSlice 150 (.int .i64 x0) (.int .i64 x0)) (.lf .sl) fun v1 =>
      nw (.cells #[.int .i64 x1, .slice v1.a v1.len v1.cap] 152) fun n1 =>
      K (.tuple #[.pointer (some ⟨n1, 0, none⟩), .int .i64 0])))))
theorem e57 (x0 : Int) (x1 : Int) (K : Value → HP) : flatFn PP h57 Try.f57 [.int .i64 x0, .int .i64 x1] K = t57 x0 x1 K := by kernel_rfl

/-- depot/depotlaw26.do1 -/
def h58 : Hints := ⟨[], [], []⟩
def t58 (x0 : Option Addr) (x1 : ShV (.agg [.int .i64, .int .u64, .int .i64, .int .i64, .int .i64, .int .i64, .int .i64, .int .i64])) (K : Value → HP) : HP :=
  nw (.cells #[.int .i64 x1.1, .int .u64 x1.2.1, .int .i64 x1.2.2.1, .int .i64 x1.2.2.2.1, .int .i64 x1.2.2.2.2.1, .int .i64 x1.2.2.2.2.2.1, .int .i64 x1.2.2.2.2.2.2.1, .int .i64 x1.2.2.2.2.2.2.2.1] 83) fun n1 =>
  ld ⟨n1, 0, none⟩ (.lf (.int .i64)) fun v1 =>
  ifB ((v1 : Int) == 0) (
   ld (Addr.add ⟨n1, 0, none⟩ 1) (.lf (.int .u64)) fun v2 =>
   ld (Addr.add ⟨n1, 0, none⟩ 2) (.agg [.int .i64, .int .i64, .int .i64]) fun v3 =>
   cl PP 48 #[.pointer x0, .int .u64 v2, .agg #[.int .i64 v3.1, .int .i64 v3.2.1, .int .i64 v3.2.2.1]] [.agg [.int .i64, .int .i64, .int .i64], .lf .bool] fun r1 =>
   K (.tuple #[])) (
   ifB ((v1 : Int) == 1) (
    ld (Addr.add ⟨n1, 0, none⟩ 1) (.lf (.int .u64)) fun v4 =>
    cl PP 49 #[.pointer x0, .int .u64 v4] [.lf .sl] fun r2 =>
    K (.tuple #[])) (
    ifB ((v1 : Int) == 2) (
     ld (Addr.add ⟨n1, 0, none⟩ 1) (.lf (.int .u64)) fun v5 =>
     ld (Addr.add ⟨n1, 0, none⟩ 2) (.agg [.int .i64, .int .i64, .int .i64]) fun v6 =>
     cl PP 50 #[.pointer x0, .int .u64 v5, .agg #[.int .i64 v6.1, .int .i64 v6.2.1, .int .i64 v6.2.2.1]] [.lf .bool] fun r3 =>
     K (.tuple #[])) (
     ifB ((v1 : Int) == 3) (
      ld (Addr.add ⟨n1, 0, none⟩ 1) (.lf (.int .u64)) fun v7 =>
      ld (Addr.add ⟨n1, 0, none⟩ 2) (.agg [.int .i64, .int .i64, .int .i64]) fun v8 =>
      cl PP 51 #[.pointer x0, .int .u64 v7, .agg #[.int .i64 v8.1, .int .i64 v8.2.1, .int .i64 v8.2.2.1]] [.lf .bool] fun r4 =>
      K (.tuple #[])) (
      ld (Addr.add ⟨n1, 0, none⟩ 1) (.lf (.int .u64)) fun v9 =>
      ld (Addr.add ⟨n1, 0, none⟩ 2) (.agg [.int .i64, .int .i64, .int .i64]) fun v10 =>
      ld (Addr.add ⟨n1, 0, none⟩ 5) (.agg [.int .i64, .int .i64, .int .i64]) fun v11 =>
      cl PP 52 #[.pointer x0, .int .u64 v9, .agg #[.int .i64 v10.1, .int .i64 v10.2.1, .int .i64 v10.2.2.1], .agg #[.int .i64 v11.1, .int .i64 v11.2.1, .int .i64 v11.2.2.1]] [.lf .bool] fun r5 =>
      K (.tuple #[])))))
theorem e58 (x0 : Option Addr) (x1 : ShV (.agg [.int .i64, .int .u64, .int .i64, .int .i64, .int .i64, .int .i64, .int .i64, .int .i64])) (K : Value → HP) : flatFn PP h58 Try.f58 [.pointer x0, .agg #[.int .i64 x1.1, .int .u64 x1.2.1, .int .i64 x1.2.2.1, .int .i64 x1.2.2.2.1, .int .i64 x1.2.2.2.2.1, .int .i64 x1.2.2.2.2.2.1, .int .i64 x1.2.2.2.2.2.2.1, .int .i64 x1.2.2.2.2.2.2.2.1]] K = t58 x0 x1 K := by kernel_rfl

/-- depot/blocks.New -/
def h59 : Hints := ⟨[(0, [(25, .lf (.int .i64))]), (2, [(40, .lf (.int .i64))])], [], []⟩
def t59 (x0 : SlV) (x1 : SlV) (K : Value → HP) : HP :=
  ifB (decide ((x0.len : Int) < 1)) (
   K (.tuple #[.pointer none, .int .i64 2])) (
   ifB (decide ((x0.len : Int) > 16)) (
    K (.tuple #[.pointer none, .int .i64 2])) (
    cl PP 100 #[.slice x0.a x0.len x0.cap] [.lf .sl] fun r1 =>
    nw (.cells #[.slice r1.1.a r1.1.len r1.1.cap, .slice none 0 0] 165) fun n1 =>
    lp [.lf (.int .i64)] (0, ()) fun z1 go1 =>   -- 
     ifB (decide ((z1.1 : Int) < x0.len)) (
      nilc x0.a fun a1 =>
      ixn z1.1 x0.len <|
      ld (Addr.add a1 (z1.1.toNat * 3)) (.agg [.int .i64, .bool, .bool]) fun v1 =>
      nw (.cells #[.int .i64 0, .bool false, .bool false] 163) fun n2 =>
      st ⟨n2, 0, none⟩ [.int .i64 v1.1, .bool v1.2.1, .bool v1.2.2.1] <|
      ld ⟨n2, 0, none⟩ (.lf (.int .i64)) fun v2 =>
      ifB (decide ((v2 : Int) < 0)) (
       K (.tuple #[.pointer none, .int .i64 2])) (
       ld ⟨n2, 0, none⟩ (.lf (.int .i64)) fun v3 =>
       ifB (decide ((v3 : Int) > 1048576)) (
        K (.tuple #[.pointer none, .int .i64 2])) (
        go1 (IntKind.i64.wrap (z1.1 + 1), ())))) (
      lp [.lf (.int .i64)] (0, ()) fun z2 go2 =>   -- 
       ifB (decide ((z2.1 : Int) < x1.len)) (
        nilc x1.a fun a2 =>
        ixn z2.1 x1.len <|
        ld (Addr.add a2 (z2.1.toNat * 1)) (.lf (.int .i64)) fun v4 =>
        cl PP 101 #[.pointer (some ⟨n1, 0, none⟩), .int .i64 v4] [.lf .bool] fun r2 =>
        ifB (!r2.1) (
         K (.tuple #[.pointer none, .int .i64 2])) (
         ld ⟨n1, 0, none⟩ (.lf .sl) fun v5 =>
         nilc v5.a fun a3 =>
         ixn v4 v5.len <|
         st (Addr.add (Addr.add a3 (v4.toNat * 3)) 2) [.bool false] <|
         ld (Addr.add ⟨n1, 0, none⟩ 1) (.lf .sl) fun v6 =>
         nw (.cells #[.int .i64 v4] 3) fun n3 =>
         smW PP (Builtin.append_ #[37, 37] 37 #[.slice v6.a v6.len v6.cap, .slice (some ⟨n3, 0, none⟩) 1 1]) [.lf .sl] fun v7 =>
         st (Addr.add ⟨n1, 0, none⟩ 1) [.slice v7.1.a v7.1.len v7.1.cap] <|
         go2 (IntKind.i64.wrap (z2.1 + 1), ()))) (
        K (.tuple #[.pointer (some ⟨n1, 0, none⟩), .int .i64 0])))))
theorem e59 (x0 : SlV) (x1 : SlV) (K : Value → HP) : flatFn PP h59 Try.f59 [.slice x0.a x0.len x0.cap, .slice x1.a x1.len x1.cap] K = t59 x0 x1 K := by kernel_rfl

/-- depot/depotlaw29.Given -/
def h60 : Hints := ⟨[(0, [(3, .lf .sl), (4, .lf (.int .i64))])], [], []⟩
def t60 (x0 : SlV) (K : Value → HP) : HP :=
  lp [.lf .sl, .lf (.int .i64)] (⟨none, 0, 0⟩, 0, ()) fun z1 go1 =>   -- out, i
   ifB (decide ((z1.2.1 : Int) < x0.len)) (
    nilc x0.a fun a1 =>
    ixn z1.2.1 x0.len <|
    ld (Addr.add a1 (z1.2.1.toNat * 3)) (.agg [.int .i64, .bool, .bool]) fun v1 =>
    nw (.cells #[.int .i64 v1.1, .bool v1.2.1, .bool v1.2.2.1] 163) fun n1 =>
    smW PP (Builtin.append_ #[104, 104] 104 #[.slice z1.1.a z1.1.len z1.1.cap, .slice (some ⟨n1, 0, none⟩) 1 1]) [.lf .sl] fun v2 =>
    go1 (⟨v2.1.a, v2.1.len, v2.1.cap⟩, IntKind.i64.wrap (z1.2.1 + 1), ())) (
    K (.slice z1.1.a z1.1.len z1.1.cap))
theorem e60 (x0 : SlV) (K : Value → HP) : flatFn PP h60 Try.f60 [.slice x0.a x0.len x0.cap] K = t60 x0 K := by kernel_rfl

/-- depot/depotref29.New -/
def h61 : Hints := ⟨[(0, [(7, .lf (.int .i64))]), (2, [(8, .lf (.int .i64))])], [], []⟩
def t61 (x0 : SlV) (x1 : SlV) (K : Value → HP) : HP :=
  ifB (decide ((x0.len : Int) < 1)) (
   K (.tuple #[.pointer none, .int .i64 2])) (
   ifB (decide ((x0.len : Int) > 16)) (
    K (.tuple #[.pointer none, .int .i64 2])) (
    nw (.cells #[] 166) fun n1 =>
    smW PP (Builtin.append_ #[99, 99] 99 #[.slice (some ⟨n1, 0, none⟩) 0 0, .slice x0.a x0.len x0.cap]) [.lf .sl] fun v1 =>
    nw (.cells #[.slice v1.1.a v1.1.len v1.1.cap, .slice none 0 0] 116) fun n2 =>
    lp [.lf (.int .i64)] (0, ()) fun z1 go1 =>   -- i
     ifB (decide ((z1.1 : Int) < x0.len)) (
      nilc x0.a fun a1 =>
      ixn z1.1 x0.len <|
      ld (Addr.add a1 (z1.1.toNat * 3)) (.lf (.int .i64)) fun v2 =>
      ifB (decide ((v2 : Int) < 0)) (
       K (.tuple #[.pointer none, .int .i64 2])) (
       nilc x0.a fun a2 =>
       ixn z1.1 x0.len <|
       ld (Addr.add a2 (z1.1.toNat * 3)) (.lf (.int .i64)) fun v3 =>
       ifB (decide ((v3 : Int) > 1048576)) (
        K (.tuple #[.pointer none, .int .i64 2])) (
        go1 (IntKind.i64.wrap (z1.1 + 1), ())))) (
      lp [.lf (.int .i64)] (0, ()) fun z2 go2 =>   -- i
       ifB (decide ((z2.1 : Int) < x1.len)) (
        nilc x1.a fun a3 =>
        ixn z2.1 x1.len <|
        ld (Addr.add a3 (z2.1.toNat * 1)) (.lf (.int .i64)) fun v4 =>
        ifB (decide ((v4 : Int) < 0)) (
         K (.tuple #[.pointer none, .int .i64 2])) (
         ifB (decide ((v4 : Int) ≥ x0.len)) (
          K (.tuple #[.pointer none, .int .i64 2])) (
          nilc x0.a fun a4 =>
          ixn v4 x0.len <|
          ld (Addr.add (Addr.add a4 (v4.toNat * 3)) 1) (.lf .bool) fun v5 =>
          ifB v5 (
           K (.tuple #[.pointer none, .int .i64 2])) (
           ld (Addr.add ⟨n2, 0, none⟩ 1) (.lf .sl) fun v6 =>
           cl PP 102 #[.int .i64 v4, .slice v6.a v6.len v6.cap] [.lf .bool] fun r1 =>
           ifB r1.1 (
            K (.tuple #[.pointer none, .int .i64 2])) (
            ld (Addr.add ⟨n2, 0, none⟩ 1) (.lf .sl) fun v7 =>
            nw (.cells #[.int .i64 v4] 3) fun n3 =>
            smW PP (Builtin.append_ #[37, 37] 37 #[.slice v7.a v7.len v7.cap, .slice (some ⟨n3, 0, none⟩) 1 1]) [.lf .sl] fun v8 =>
            st (Addr.add ⟨n2, 0, none⟩ 1) [.slice v8.1.a v8.1.len v8.1.cap] <|
            ld ⟨n2, 0, none⟩ (.lf .sl) fun v9 =>
            nilc v9.a fun a5 =>
            ixn v4 v9.len <|
            st (Addr.add (Addr.add a5 (v4.toNat * 3)) 2) [.bool false] <|
            go2 (IntKind.i64.wrap (z2.1 + 1), ())))))) (
        K (.tuple #[.pointer (some ⟨n2, 0, none⟩), .int .i64 0])))))
theorem e61 (x0 : SlV) (x1 : SlV) (K : Value → HP) : flatFn PP h61 Try.f61 [.slice x0.a x0.len x0.cap, .slice x1.a x1.len x1.cap] K = t61 x0 x1 K := by kernel_rfl

/-- depot/depotlaw29.wears -/
def h62 : Hints := ⟨[], [], []⟩
def t62 (K : Value → HP) : HP :=
  nw (.cells #[.int .i64 2, .bool false, .bool false, .int .i64 1, .bool false, .bool true, .int .i64 2, .bool false, .bool false] 163) fun n1 =>
  cl PP 59 #[.slice (some ⟨n1, 0, none⟩) 3 3, .slice none 0 0] [.lf .ptr, .lf (.int .i64)] fun r1 =>
  cl PP 59 #[.slice none 0 0, .slice none 0 0] [.lf .ptr, .lf (.int .i64)] fun r2 =>
  ifB ((r1.2.1 : Int) != 0) (
   K (.bool false)) (
   ifB ((r2.2.1 : Int) != 2) (
    K (.bool false)) (
    cl PP 63 #[.pointer r1.1] [.lf (.int .i64), .lf .bool, .lf .bool] fun r3 =>
    cl PP 73 #[.pointer r1.1, .int .i64 0] [.lf .bool] fun r4 =>
    cl PP 70 #[.pointer r1.1] [.lf .sl] fun r5 =>
    cl PP 65 #[.pointer r1.1] [.lf (.int .i64), .lf .bool] fun r6 =>
    cl PP 75 #[.pointer r1.1, .int .i64 0, .bool false] [.lf .bool] fun r7 =>
    ifB ((r3.1 : Int) == 0) (
     ifB (!r3.2.1) (
      ifB r3.2.2.1 (
       ifB r4.1 (
        nw (.cells #[.int .i64 0] 3) fun n2 =>
        cl PP 69 #[.slice r5.1.a r5.1.len r5.1.cap, .slice (some ⟨n2, 0, none⟩) 1 1] [.lf .bool] fun r8 =>
        ifB r8.1 (
         ifB ((r6.1 : Int) == 0) (
          ifB r6.2.1 (
           ifB r7.1 (
            cl PP 71 #[.pointer r1.1] [.lf (.int .i64)] fun r9 =>
            ifB ((r9.1 : Int) == 2) (
             cl PP 67 #[.pointer r1.1] [.lf (.int .i64)] fun r10 =>
             ifB ((r10.1 : Int) == 3) (
              cl PP 73 #[.pointer r1.1, .int .i64 1] [.lf .bool] fun r11 =>
              ifB (!r11.1) (
               cl PP 67 #[.pointer none] [.lf (.int .i64)] fun r12 =>
               cl PP 71 #[.pointer none] [.lf (.int .i64)] fun r13 =>
               ifB ((IntKind.i64.wrap (r12.1 + r13.1) : Int) == 0) (
                cl PP 73 #[.pointer none, .int .i64 0] [.lf .bool] fun r14 =>
                K (.bool (!r14.1))) (
                K (.bool false))) (
               K (.bool false))) (
              K (.bool false))) (
             K (.bool false))) (
            K (.bool false))) (
           K (.bool false))) (
          K (.bool false))) (
         K (.bool false))) (
        K (.bool false))) (
       K (.bool false))) (
      K (.bool false))) (
     K (.bool false))))
theorem e62 (K : Value → HP) : flatFn PP h62 Try.f62 [] K = t62 K := by kernel_rfl

/-- (*depot/blocks.Blocks).Pick -/
def h63 : Hints := ⟨[], [], [(4, [1, 0, 4, 2, 5, 3, 6])]⟩
def t63 (x0 : Option Addr) (K : Value → HP) : HP :=
  nw (.cells #[.int .i64 0, .bool false, .bool false] 163) fun n1 =>
  nw (.cells #[.int .i64 0] 3) fun n2 =>
  nw (.cells #[.bool false] 4) fun n3 =>
  st ⟨n2, 0, none⟩ [.int .i64 0] <|
  st ⟨n3, 0, none⟩ [.bool false] <|
  cl PP 103 #[.pointer x0, .func (.func 101) #[.pointer x0] #[], .func (.func 104) #[] #[.pointer (some ⟨n3, 0, none⟩), .pointer (some ⟨n1, 0, none⟩), .pointer (some ⟨n2, 0, none⟩)]] [] fun r1 =>
  ld ⟨n2, 0, none⟩ (.lf (.int .i64)) fun v1 =>
  ld (Addr.add ⟨n1, 0, none⟩ 2) (.lf .bool) fun v2 =>
  ld ⟨n3, 0, none⟩ (.lf .bool) fun v3 =>
  K (.tuple #[.int .i64 v1, .bool v2, .bool v3])
theorem e63 (x0 : Option Addr) (K : Value → HP) : flatFn PP h63 Try.f63 [.pointer x0] K = t63 x0 K := by kernel_rfl

/-- (*depot/depotref29.Blocks).Pick -/
def h64 : Hints := ⟨[(0, [(5, .lf (.int .i64)), (6, .lf (.int .i64))])], [], [(9, [0, 1, 2, 3, 5, 9, 4, 6, 7, 8, 10, 11])]⟩
def t64 (x0 : Option Addr) (K : Value → HP) : HP :=
  lp [.lf (.int .i64), .lf (.int .i64)] (-1, 0, ()) fun z1 go1 =>   -- best, n
   nilc x0 fun a1 =>
   ld a1 (.lf .sl) fun v1 =>
   ifB (decide ((z1.2.1 : Int) < v1.len)) (
    cl PP 106 #[.pointer x0, .int .i64 z1.2.1] [.lf .bool] fun r1 =>
    ifB r1.1 (
     ifB (decide ((z1.1 : Int) < 0)) (
      go1 (z1.2.1, IntKind.i64.wrap (z1.2.1 + 1), ())) (
      cl PP 107 #[.pointer x0, .int .i64 z1.2.1] [.lf (.int .i64)] fun r2 =>
      cl PP 107 #[.pointer x0, .int .i64 z1.1] [.lf (.int .i64)] fun r3 =>
      ifB (decide ((r2.1 : Int) < r3.1)) (
       go1 (z1.2.1, IntKind.i64.wrap (z1.2.1 + 1), ())) (
       go1 (z1.1, IntKind.i64.wrap (z1.2.1 + 1), ())))) (
     go1 (z1.1, IntKind.i64.wrap (z1.2.1 + 1), ()))) (
    ifB (decide ((z1.1 : Int) < 0)) (
     K (.tuple #[.int .i64 0, .bool false, .bool false])) (
     nilc x0 fun a2 =>
     ld a2 (.lf .sl) fun v2 =>
     nilc v2.a fun a3 =>
     ixn z1.1 v2.len <|
     ld (Addr.add (Addr.add a3 (z1.1.toNat * 3)) 2) (.lf .bool) fun v3 =>
     K (.tuple #[.int .i64 z1.1, .bool v3, .bool true])))
theorem e64 (x0 : Option Addr) (K : Value → HP) : flatFn PP h64 Try.f64 [.pointer x0] K = t64 x0 K := by kernel_rfl

/-- (*depot/blocks.Blocks).Oldest -/
def h65 : Hints := ⟨[], [], []⟩
def t65 (x0 : Option Addr) (K : Value → HP) : HP :=
  ifB (Option.isNone x0) (
   K (.tuple #[.int .i64 0, .bool false])) (
   nilc x0 fun a1 =>
   ld (Addr.add a1 1) (.lf .sl) fun v1 =>
   ifB ((v1.len : Int) == 0) (
    K (.tuple #[.int .i64 0, .bool false])) (
    nilc x0 fun a2 =>
    ld (Addr.add a2 1) (.lf .sl) fun v2 =>
    nilc v2.a fun a3 =>
    ixn 0 v2.len <|
    ld (Addr.add a3 ((0 : Int).toNat * 1)) (.lf (.int .i64)) fun v3 =>
    K (.tuple #[.int .i64 v3, .bool true])))
theorem e65 (x0 : Option Addr) (K : Value → HP) : flatFn PP h65 Try.f65 [.pointer x0] K = t65 x0 K := by kernel_rfl

end Go.Proofs.Ytefllmfoneocaaa
