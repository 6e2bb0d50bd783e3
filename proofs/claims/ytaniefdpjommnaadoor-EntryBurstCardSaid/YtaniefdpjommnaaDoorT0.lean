/-
  It is proved that the functions of the program are the trees that are printed here. There are no further conditions.
-/
import Derived.Test.YtaniefdpjommnaaDoorHL12
import Derived.Test.YtaniefdpjommnaaDoorProg
import Derived.KernelRfl
set_option linter.unusedVariables false
set_option maxRecDepth 100000
namespace Go.Proofs.YtaniefdpjommnaaDoor
open Go.HL
noncomputable abbrev PP : Program := Tryd.prog
theorem noNum : NoNum PP := by unfold NoNum; kernel_rfl
theorem mixed : PP.follows .mixedOrders = true := by kernel_rfl

/-- depot/depotlaw24.EntryCuts -/
def h3 : Hints := ⟨[], [], [(5, [0, 1, 2, 3, 4, 5, 6, 7, 8, 9, 10, 12, 13, 11, 14, 15, 16, 17, 18, 19, 22, 23, 20, 24, 21, 25, 26, 27, 28, 29, 30, 31, 32, 35, 36, 37, 38, 33, 39, 34, 40, 41, 42, 43, 44, 45, 46])]⟩
def t3 (x0 : ByteArray) (x1 : SlV) (x2 : ShV (.agg [.int .i64, .int .i64, .int .i64, .int .i64])) (x3 : Int) (x4 : Int) (K : Value → HP) : HP :=
  nw (.cells #[.int .i64 x2.1, .int .i64 x2.2.1, .int .i64 x2.2.2.1, .int .i64 x2.2.2.2.1] 24) fun n1 =>
  ifB (decide ((x0.size : Int) > 1000)) (
   cl PP 7 #[] [.lf .bool] fun r1 =>
   K (.bool r1.1)) (
   ifB (decide ((x1.len : Int) > 1000)) (
    ifB (decide ((x1.len : Int) ≤ 65536)) (
     cl PP 7 #[] [.lf .bool] fun r2 =>
     K (.bool r2.1)) (
     ld ⟨n1, 0, none⟩ (.agg [.int .i64, .int .i64, .int .i64, .int .i64]) fun v1 =>
     cl PP 8 #[.string x0, .slice x1.a x1.len x1.cap, .agg #[.int .i64 v1.1, .int .i64 v1.2.1, .int .i64 v1.2.2.1, .int .i64 v1.2.2.2.1]] [.lf .sl, .lf (.int .i64)] fun r3 =>
     ld ⟨n1, 0, none⟩ (.agg [.int .i64, .int .i64, .int .i64, .int .i64]) fun v2 =>
     cl PP 9 #[.string x0, .slice x1.a x1.len x1.cap, .agg #[.int .i64 v2.1, .int .i64 v2.2.1, .int .i64 v2.2.2.1, .int .i64 v2.2.2.2.1]] [.lf .sl, .lf (.int .i64)] fun r4 =>
     cl PP 10 #[.slice r3.1.a r3.1.len r3.1.cap, .slice r4.1.a r4.1.len r4.1.cap] [.lf .bool] fun r5 =>
     ifB r5.1 (
      ifB ((r3.2.1 : Int) == r4.2.1) (
       cl PP 11 #[.int .i64 x3, .int .i64 x4] [.lf (.int .i64)] fun r6 =>
       cl PP 12 #[.int .i64 x3, .int .i64 x4] [.lf (.int .i64)] fun r7 =>
       ifB ((r6.1 : Int) == r7.1) (
        ld ⟨n1, 0, none⟩ (.agg [.int .i64, .int .i64, .int .i64, .int .i64]) fun v3 =>
        ld ⟨n1, 0, none⟩ (.agg [.int .i64, .int .i64, .int .i64, .int .i64]) fun v4 =>
        cl PP 13 #[.int .i64 x3, .int .i64 x4, .agg #[.int .i64 v3.1, .int .i64 v3.2.1, .int .i64 v3.2.2.1, .int .i64 v3.2.2.2.1]] [.lf (.int .i64)] fun r8 =>
        keep (LdAt ⟨n1, 0, none⟩ [.int .i64 v4.1, .int .i64 v4.2.1, .int .i64 v4.2.2.1, .int .i64 v4.2.2.2.1]) <|
        cl PP 14 #[.int .i64 x3, .int .i64 x4, .agg #[.int .i64 v4.1, .int .i64 v4.2.1, .int .i64 v4.2.2.1, .int .i64 v4.2.2.2.1]] [.lf (.int .i64)] fun r9 =>
        ifB ((r8.1 : Int) == r9.1) (
         ld ⟨n1, 0, none⟩ (.agg [.int .i64, .int .i64, .int .i64, .int .i64]) fun v5 =>
         ld ⟨n1, 0, none⟩ (.agg [.int .i64, .int .i64, .int .i64, .int .i64]) fun v6 =>
         cl PP 13 #[.int .i64 x0.size, .int .i64 x1.len, .agg #[.int .i64 v5.1, .int .i64 v5.2.1, .int .i64 v5.2.2.1, .int .i64 v5.2.2.2.1]] [.lf (.int .i64)] fun r10 =>
         keep (LdAt ⟨n1, 0, none⟩ [.int .i64 v6.1, .int .i64 v6.2.1, .int .i64 v6.2.2.1, .int .i64 v6.2.2.2.1]) <|
         cl PP 14 #[.int .i64 x0.size, .int .i64 x1.len, .agg #[.int .i64 v6.1, .int .i64 v6.2.1, .int .i64 v6.2.2.1, .int .i64 v6.2.2.2.1]] [.lf (.int .i64)] fun r11 =>
         ifB ((r10.1 : Int) == r11.1) (
          cl PP 7 #[] [.lf .bool] fun r12 =>
          K (.bool r12.1)) (
          K (.bool false))) (
         K (.bool false))) (
        K (.bool false))) (
       K (.bool false))) (
      K (.bool false)))) (
    ld ⟨n1, 0, none⟩ (.agg [.int .i64, .int .i64, .int .i64, .int .i64]) fun v7 =>
    cl PP 8 #[.string x0, .slice x1.a x1.len x1.cap, .agg #[.int .i64 v7.1, .int .i64 v7.2.1, .int .i64 v7.2.2.1, .int .i64 v7.2.2.2.1]] [.lf .sl, .lf (.int .i64)] fun r13 =>
    ld ⟨n1, 0, none⟩ (.agg [.int .i64, .int .i64, .int .i64, .int .i64]) fun v8 =>
    cl PP 9 #[.string x0, .slice x1.a x1.len x1.cap, .agg #[.int .i64 v8.1, .int .i64 v8.2.1, .int .i64 v8.2.2.1, .int .i64 v8.2.2.2.1]] [.lf .sl, .lf (.int .i64)] fun r14 =>
    cl PP 10 #[.slice r13.1.a r13.1.len r13.1.cap, .slice r14.1.a r14.1.len r14.1.cap] [.lf .bool] fun r15 =>
    ifB r15.1 (
     ifB ((r13.2.1 : Int) == r14.2.1) (
      cl PP 11 #[.int .i64 x3, .int .i64 x4] [.lf (.int .i64)] fun r16 =>
      cl PP 12 #[.int .i64 x3, .int .i64 x4] [.lf (.int .i64)] fun r17 =>
      ifB ((r16.1 : Int) == r17.1) (
       ld ⟨n1, 0, none⟩ (.agg [.int .i64, .int .i64, .int .i64, .int .i64]) fun v9 =>
       ld ⟨n1, 0, none⟩ (.agg [.int .i64, .int .i64, .int .i64, .int .i64]) fun v10 =>
       cl PP 13 #[.int .i64 x3, .int .i64 x4, .agg #[.int .i64 v9.1, .int .i64 v9.2.1, .int .i64 v9.2.2.1, .int .i64 v9.2.2.2.1]] [.lf (.int .i64)] fun r18 =>
       keep (LdAt ⟨n1, 0, none⟩ [.int .i64 v10.1, .int .i64 v10.2.1, .int .i64 v10.2.2.1, .int .i64 v10.2.2.2.1]) <|
       cl PP 14 #[.int .i64 x3, .int .i64 x4, .agg #[.int .i64 v10.1, .int .i64 v10.2.1, .int .i64 v10.2.2.1, .int .i64 v10.2.2.2.1]] [.lf (.int .i64)] fun r19 =>
       ifB ((r18.1 : Int) == r19.1) (
        ld ⟨n1, 0, none⟩ (.agg [.int .i64, .int .i64, .int .i64, .int .i64]) fun v11 =>
        ld ⟨n1, 0, none⟩ (.agg [.int .i64, .int .i64, .int .i64, .int .i64]) fun v12 =>
        cl PP 13 #[.int .i64 x0.size, .int .i64 x1.len, .agg #[.int .i64 v11.1, .int .i64 v11.2.1, .int .i64 v11.2.2.1, .int .i64 v11.2.2.2.1]] [.lf (.int .i64)] fun r20 =>
        keep (LdAt ⟨n1, 0, none⟩ [.int .i64 v12.1, .int .i64 v12.2.1, .int .i64 v12.2.2.1, .int .i64 v12.2.2.2.1]) <|
        cl PP 14 #[.int .i64 x0.size, .int .i64 x1.len, .agg #[.int .i64 v12.1, .int .i64 v12.2.1, .int .i64 v12.2.2.1, .int .i64 v12.2.2.2.1]] [.lf (.int .i64)] fun r21 =>
        ifB ((r20.1 : Int) == r21.1) (
         cl PP 7 #[] [.lf .bool] fun r22 =>
         K (.bool r22.1)) (
         K (.bool false))) (
        K (.bool false))) (
       K (.bool false))) (
      K (.bool false))) (
     K (.bool false))))
theorem e3 (x0 : ByteArray) (x1 : SlV) (x2 : ShV (.agg [.int .i64, .int .i64, .int .i64, .int .i64])) (x3 : Int) (x4 : Int) (K : Value → HP) : flatFn PP h3 Tryd.f3 [.string x0, .slice x1.a x1.len x1.cap, .agg #[.int .i64 x2.1, .int .i64 x2.2.1, .int .i64 x2.2.2.1, .int .i64 x2.2.2.2.1], .int .i64 x3, .int .i64 x4] K = t3 x0 x1 x2 x3 x4 K := by kernel_rfl

/-- depot/depotlaw24.EntryJoins -/
def h4 : Hints := ⟨[], [], []⟩
def t4 (x0 : SlV) (K : Value → HP) : HP :=
  cl PP 15 #[.slice x0.a x0.len x0.cap, .int .i64 40, .int .i64 600] [.lf .bool] fun r1 =>
  ifB (!r1.1) (
   cl PP 7 #[] [.lf .bool] fun r2 =>
   K (.bool r2.1)) (
   cl PP 16 #[.slice x0.a x0.len x0.cap] [.lf .str, .lf .sl, .lf (.int .i64)] fun r3 =>
   cl PP 17 #[.slice x0.a x0.len x0.cap] [.lf .str, .lf .sl, .lf (.int .i64)] fun r4 =>
   ifB (ByteArray.toList r3.1 == ByteArray.toList r4.1) (
    cl PP 18 #[.slice r3.2.1.a r3.2.1.len r3.2.1.cap, .slice r4.2.1.a r4.2.1.len r4.2.1.cap] [.lf .bool] fun r5 =>
    ifB r5.1 (
     ifB ((r3.2.2.1 : Int) == r4.2.2.1) (
      cl PP 7 #[] [.lf .bool] fun r6 =>
      K (.bool r6.1)) (
      K (.bool false))) (
     K (.bool false))) (
    K (.bool false)))
theorem e4 (x0 : SlV) (K : Value → HP) : flatFn PP h4 Tryd.f4 [.slice x0.a x0.len x0.cap] K = t4 x0 K := by kernel_rfl

/-- depot/depotlaw24.EntryBack -/
def h5 : Hints := ⟨[(0, [(12, .lf .sl), (13, .lf (.int .i64))])], [(16, [(14, .lf (.int .i64))]), (16, [(14, .lf (.int .i64))])], [(16, [0, 1, 2, 3, 5, 7, 8, 9, 11, 4, 6, 10, 12, 13, 14, 15]), (15, [0, 1, 2, 3, 7, 8, 9, 13, 14, 15, 4, 5, 6, 10, 11, 12, 16, 17, 18, 19]), (11, [0, 1, 2, 5, 3, 4, 6, 7, 8, 9, 10, 11, 12, 13, 14, 15, 16, 17, 18, 21, 22, 23, 24, 19, 20, 25, 26, 27, 28, 29])]⟩
def t5 (x0 : ByteArray) (x1 : SlV) (x2 : ShV (.agg [.int .i64, .int .i64, .int .i64, .int .i64])) (x3 : Int) (K : Value → HP) : HP :=
  nw (.cells #[.int .i64 x2.1, .int .i64 x2.2.1, .int .i64 x2.2.2.1, .int .i64 x2.2.2.2.1] 24) fun n1 =>
  ifB (decide ((x0.size : Int) > 1000)) (
   cl PP 7 #[] [.lf .bool] fun r1 =>
   K (.bool r1.1)) (
   ifB (decide ((x1.len : Int) > 1000)) (
    cl PP 7 #[] [.lf .bool] fun r2 =>
    K (.bool r2.1)) (
    ld ⟨n1, 0, none⟩ (.agg [.int .i64, .int .i64, .int .i64, .int .i64]) fun v1 =>
    cl PP 8 #[.string x0, .slice x1.a x1.len x1.cap, .agg #[.int .i64 v1.1, .int .i64 v1.2.1, .int .i64 v1.2.2.1, .int .i64 v1.2.2.2.1]] [.lf .sl, .lf (.int .i64)] fun r3 =>
    ld ⟨n1, 0, none⟩ (.agg [.int .i64, .int .i64, .int .i64, .int .i64]) fun v2 =>
    cl PP 13 #[.int .i64 x0.size, .int .i64 x1.len, .agg #[.int .i64 v2.1, .int .i64 v2.2.1, .int .i64 v2.2.2.1, .int .i64 v2.2.2.2.1]] [.lf (.int .i64)] fun r4 =>
    ifB ((r3.2.1 : Int) != 0) (
     ifB ((r3.1.len : Int) == 0) (
      ifB ((r4.1 : Int) == 0) (
       cl PP 7 #[] [.lf .bool] fun r5 =>
       K (.bool r5.1)) (
       K (.bool false))) (
      K (.bool false))) (
     lp [.lf .sl, .lf (.int .i64)] (⟨none, 0, 0⟩, 0, ()) fun z1 go1 =>   -- halves, i
      ifB (decide ((z1.2.1 : Int) < r3.1.len)) (
       nilc r3.1.a fun a1 =>
       ixn z1.2.1 r3.1.len <|
       ld (Addr.add a1 (z1.2.1.toNat * 1)) (.lf .sl) fun v3 =>
       ld (Addr.add ⟨n1, 0, none⟩ 2) (.lf (.int .i64)) fun v4 =>
       cl PP 19 #[.int .i64 v4] [.lf (.int .i64)] fun r6 =>
       keep (LdAt (Addr.add a1 (z1.2.1.toNat * 1)) [.slice v3.a v3.len v3.cap]) <|
       ifB (decide ((v3.len : Int) > r6.1)) (
        K (.bool false)) (
        ifB (decide ((IntKind.i64.wrap (z1.2.1 + 1) : Int) < r3.1.len)) (
         nilc r3.1.a fun a2 =>
         ixn z1.2.1 r3.1.len <|
         nilc r3.1.a fun a3 =>
         ixn (IntKind.i64.wrap (z1.2.1 + 1)) r3.1.len <|
         ld (Addr.add a2 (z1.2.1.toNat * 1)) (.lf .sl) fun v5 =>
         ld (Addr.add a3 ((IntKind.i64.wrap (z1.2.1 + 1)).toNat * 1)) (.lf .sl) fun v6 =>
         ifB (decide ((v5.len : Int) < v6.len)) (
          K (.bool false)) (
          jn (fun y1 : RsV [.lf (.int .i64)] =>
           nilc r3.1.a fun a8 =>
           ixn z1.2.1 r3.1.len <|
           nilc r3.1.a fun a9 =>
           ixn z1.2.1 r3.1.len <|
           ld (Addr.add a8 (z1.2.1.toNat * 1)) (.lf .sl) fun v11 =>
           slc ⟨v11.a, v11.len, v11.cap⟩ 0 y1.1 v11.cap 1 fun s1 =>
           ld (Addr.add a9 (z1.2.1.toNat * 1)) (.lf .sl) fun v12 =>
           slc ⟨v12.a, v12.len, v12.cap⟩ y1.1 v12.len v12.cap 1 fun s2 =>
           nw (.cells #[.slice s1.a s1.len s1.cap, .slice s2.a s2.len s2.cap] 22) fun n2 =>
           smW PP (Builtin.append_ #[26, 26] 26 #[.slice z1.1.a z1.1.len z1.1.cap, .slice (some ⟨n2, 0, none⟩) 2 2]) [.lf .sl] fun v13 =>
           go1 (⟨v13.1.a, v13.1.len, v13.1.cap⟩, IntKind.i64.wrap (z1.2.1 + 1), ())) fun j1 =>
          nilc r3.1.a fun a4 =>
           ixn z1.2.1 r3.1.len <|
           ld (Addr.add a4 (z1.2.1.toNat * 1)) (.lf .sl) fun v7 =>
           ifB (decide ((v7.len : Int) > 0)) (
            nilc r3.1.a fun a5 =>
            ixn z1.2.1 r3.1.len <|
            nilc r3.1.a fun a6 =>
            ixn z1.2.1 r3.1.len <|
            nilc r3.1.a fun a7 =>
            ixn z1.2.1 r3.1.len <|
            ld (Addr.add a5 (z1.2.1.toNat * 1)) (.lf .sl) fun v8 =>
            req ((v8.len : Int) ≠ 0) <|
            ld (Addr.add a6 (z1.2.1.toNat * 1)) (.lf .sl) fun v9 =>
            ld (Addr.add a7 (z1.2.1.toNat * 1)) (.lf .sl) fun v10 =>
            req ((v10.len : Int) ≠ 0) <|
            j1 (Int.tmod (IntKind.i64.wrap ((Int.tmod x3 v8.len) + v9.len)) v10.len, ())) (
            j1 (0, ())))) (
         jn (fun y2 : RsV [.lf (.int .i64)] =>
          nilc r3.1.a fun a14 =>
          ixn z1.2.1 r3.1.len <|
          nilc r3.1.a fun a15 =>
          ixn z1.2.1 r3.1.len <|
          ld (Addr.add a14 (z1.2.1.toNat * 1)) (.lf .sl) fun v18 =>
          slc ⟨v18.a, v18.len, v18.cap⟩ 0 y2.1 v18.cap 1 fun s3 =>
          ld (Addr.add a15 (z1.2.1.toNat * 1)) (.lf .sl) fun v19 =>
          slc ⟨v19.a, v19.len, v19.cap⟩ y2.1 v19.len v19.cap 1 fun s4 =>
          nw (.cells #[.slice s3.a s3.len s3.cap, .slice s4.a s4.len s4.cap] 22) fun n3 =>
          smW PP (Builtin.append_ #[26, 26] 26 #[.slice z1.1.a z1.1.len z1.1.cap, .slice (some ⟨n3, 0, none⟩) 2 2]) [.lf .sl] fun v20 =>
          go1 (⟨v20.1.a, v20.1.len, v20.1.cap⟩, IntKind.i64.wrap (z1.2.1 + 1), ())) fun j2 =>
         nilc r3.1.a fun a10 =>
          ixn z1.2.1 r3.1.len <|
          ld (Addr.add a10 (z1.2.1.toNat * 1)) (.lf .sl) fun v14 =>
          ifB (decide ((v14.len : Int) > 0)) (
           nilc r3.1.a fun a11 =>
           ixn z1.2.1 r3.1.len <|
           nilc r3.1.a fun a12 =>
           ixn z1.2.1 r3.1.len <|
           nilc r3.1.a fun a13 =>
           ixn z1.2.1 r3.1.len <|
           ld (Addr.add a11 (z1.2.1.toNat * 1)) (.lf .sl) fun v15 =>
           req ((v15.len : Int) ≠ 0) <|
           ld (Addr.add a12 (z1.2.1.toNat * 1)) (.lf .sl) fun v16 =>
           ld (Addr.add a13 (z1.2.1.toNat * 1)) (.lf .sl) fun v17 =>
           req ((v17.len : Int) ≠ 0) <|
           j2 (Int.tmod (IntKind.i64.wrap ((Int.tmod x3 v15.len) + v16.len)) v17.len, ())) (
           j2 (0, ()))))) (
       cl PP 16 #[.slice r3.1.a r3.1.len r3.1.cap] [.lf .str, .lf .sl, .lf (.int .i64)] fun r7 =>
       cl PP 16 #[.slice z1.1.a z1.1.len z1.1.cap] [.lf .str, .lf .sl, .lf (.int .i64)] fun r8 =>
       ifB ((r3.1.len : Int) == r4.1) (
        ifB (decide ((r4.1 : Int) > 0)) (
         ld (Addr.add ⟨n1, 0, none⟩ 1) (.lf (.int .i64)) fun v21 =>
         ifB (decide ((r4.1 : Int) ≤ (IntKind.i64.wrap (v21 - 2)))) (
          ld (Addr.add ⟨n1, 0, none⟩ 1) (.lf (.int .i64)) fun v22 =>
          cl PP 11 #[.int .i64 r4.1, .int .i64 v22] [.lf (.int .i64)] fun r9 =>
          ifB ((r9.1 : Int) == r4.1) (
           ifB (ByteArray.toList r7.1 == ByteArray.toList x0) (
            cl PP 18 #[.slice r7.2.1.a r7.2.1.len r7.2.1.cap, .slice x1.a x1.len x1.cap] [.lf .bool] fun r10 =>
            ifB r10.1 (
             ifB ((r7.2.2.1 : Int) == 0) (
              ifB (ByteArray.toList r8.1 == ByteArray.toList x0) (
               cl PP 18 #[.slice r8.2.1.a r8.2.1.len r8.2.1.cap, .slice x1.a x1.len x1.cap] [.lf .bool] fun r11 =>
               ifB r11.1 (
                ifB ((r8.2.2.1 : Int) == 0) (
                 cl PP 7 #[] [.lf .bool] fun r12 =>
                 K (.bool r12.1)) (
                 K (.bool false))) (
                K (.bool false))) (
               K (.bool false))) (
              K (.bool false))) (
             K (.bool false))) (
            K (.bool false))) (
           K (.bool false))) (
          K (.bool false))) (
         K (.bool false))) (
        K (.bool false))))))
theorem e5 (x0 : ByteArray) (x1 : SlV) (x2 : ShV (.agg [.int .i64, .int .i64, .int .i64, .int .i64])) (x3 : Int) (K : Value → HP) : flatFn PP h5 Tryd.f5 [.string x0, .slice x1.a x1.len x1.cap, .agg #[.int .i64 x2.1, .int .i64 x2.2.1, .int .i64 x2.2.2.1, .int .i64 x2.2.2.2.1], .int .i64 x3] K = t5 x0 x1 x2 x3 K := by kernel_rfl

/-- depot/depotlaw24.EntryBurst -/
def h6 : Hints := ⟨[(0, [(11, .lf .sl), (12, .lf (.int .i64))]), (2, [(14, .lf .bool), (15, .lf (.int .i64))])], [], []⟩
def t6 (x0 : ByteArray) (x1 : SlV) (x2 : Int) (x3 : Int) (K : Value → HP) : HP :=
  ifB (decide ((x0.size : Int) > 300)) (
   cl PP 7 #[] [.lf .bool] fun r1 =>
   K (.bool r1.1)) (
   ifB (decide ((x1.len : Int) > 300)) (
    cl PP 7 #[] [.lf .bool] fun r2 =>
    K (.bool r2.1)) (
    cl PP 8 #[.string x0, .slice x1.a x1.len x1.cap, .agg #[.int .i64 4, .int .i64 16, .int .i64 512, .int .i64 9]] [.lf .sl, .lf (.int .i64)] fun r3 =>
    ifB ((r3.2.1 : Int) != 0) (
     ifB (decide ((x0.size : Int) < 1)) (
      cl PP 7 #[] [.lf .bool] fun r4 =>
      K (.bool r4.1)) (
      ifB (decide ((x0.size : Int) > 255)) (
       cl PP 7 #[] [.lf .bool] fun r5 =>
       K (.bool r5.1)) (
       K (.bool false)))) (
     lp [.lf .sl, .lf (.int .i64)] (⟨none, 0, 0⟩, 0, ()) fun z1 go1 =>   -- b, i
      ifB (decide ((z1.2.1 : Int) < r3.1.len)) (
       nilc r3.1.a fun a1 =>
       ixn z1.2.1 r3.1.len <|
       ld (Addr.add a1 (z1.2.1.toNat * 1)) (.lf .sl) fun v1 =>
       smW PP (Builtin.append_ #[22, 22] 22 #[.slice z1.1.a z1.1.len z1.1.cap, .slice v1.a v1.len v1.cap]) [.lf .sl] fun v2 =>
       go1 (⟨v2.1.a, v2.1.len, v2.1.cap⟩, IntKind.i64.wrap (z1.2.1 + 1), ())) (
       ifB (decide ((IntKind.i64.wrap (8 * (IntKind.i64.wrap (z1.1.len - 4))) : Int) < 8)) (
        K (.bool false)) (
        req ((IntKind.i64.wrap (8 * (IntKind.i64.wrap (z1.1.len - 4))) : Int) ≠ 0) <|
        req ((IntKind.i64.wrap (8 * (IntKind.i64.wrap (z1.1.len - 4))) : Int) ≠ 0) <|
        lp [.lf .bool, .lf (.int .i64)] (false, 0, ()) fun z2 go2 =>   -- turned, i
         ifB (decide ((z2.2.1 : Int) < 32)) (
          ifB (decide ((IntKind.i64.wrap ((Int.tmod (IntKind.i64.wrap ((Int.tmod x2 (IntKind.i64.wrap (8 * (IntKind.i64.wrap (z1.1.len - 4))))) + (IntKind.i64.wrap (8 * (IntKind.i64.wrap (z1.1.len - 4)))))) (IntKind.i64.wrap (8 * (IntKind.i64.wrap (z1.1.len - 4))))) + z2.2.1) : Int) < (IntKind.i64.wrap (8 * (IntKind.i64.wrap (z1.1.len - 4)))))) (
           req ((0 : Int) ≤ (IntKind.u64.wrap z2.2.1)) <|
           ifB ((bitI .and .u32 (Int.fdiv x3 (2 ^ (min (IntKind.u64.wrap z2.2.1 : Int).toNat IntKind.u32.bits))) 1 : Int) == 1) (
            req ((8 : Int) ≠ 0) <|
            req ((8 : Int) ≠ 0) <|
            nilc z1.1.a fun a2 =>
            ixn (IntKind.i64.wrap (Int.tdiv (IntKind.i64.wrap ((Int.tmod (IntKind.i64.wrap ((Int.tmod x2 (IntKind.i64.wrap (8 * (IntKind.i64.wrap (z1.1.len - 4))))) + (IntKind.i64.wrap (8 * (IntKind.i64.wrap (z1.1.len - 4)))))) (IntKind.i64.wrap (8 * (IntKind.i64.wrap (z1.1.len - 4))))) + z2.2.1)) 8)) z1.1.len <|
            ld (Addr.add a2 ((IntKind.i64.wrap (Int.tdiv (IntKind.i64.wrap ((Int.tmod (IntKind.i64.wrap ((Int.tmod x2 (IntKind.i64.wrap (8 * (IntKind.i64.wrap (z1.1.len - 4))))) + (IntKind.i64.wrap (8 * (IntKind.i64.wrap (z1.1.len - 4)))))) (IntKind.i64.wrap (8 * (IntKind.i64.wrap (z1.1.len - 4))))) + z2.2.1)) 8)).toNat * 1)) (.lf (.int .u8)) fun v3 =>
            req ((8 : Int) ≠ 0) <|
            req ((0 : Int) ≤ (IntKind.u64.wrap (Int.tmod (IntKind.i64.wrap ((Int.tmod (IntKind.i64.wrap ((Int.tmod x2 (IntKind.i64.wrap (8 * (IntKind.i64.wrap (z1.1.len - 4))))) + (IntKind.i64.wrap (8 * (IntKind.i64.wrap (z1.1.len - 4)))))) (IntKind.i64.wrap (8 * (IntKind.i64.wrap (z1.1.len - 4))))) + z2.2.1)) 8))) <|
            nilc z1.1.a fun a3 =>
            ixn (IntKind.i64.wrap (Int.tdiv (IntKind.i64.wrap ((Int.tmod (IntKind.i64.wrap ((Int.tmod x2 (IntKind.i64.wrap (8 * (IntKind.i64.wrap (z1.1.len - 4))))) + (IntKind.i64.wrap (8 * (IntKind.i64.wrap (z1.1.len - 4)))))) (IntKind.i64.wrap (8 * (IntKind.i64.wrap (z1.1.len - 4))))) + z2.2.1)) 8)) z1.1.len <|
            st (Addr.add a3 ((IntKind.i64.wrap (Int.tdiv (IntKind.i64.wrap ((Int.tmod (IntKind.i64.wrap ((Int.tmod x2 (IntKind.i64.wrap (8 * (IntKind.i64.wrap (z1.1.len - 4))))) + (IntKind.i64.wrap (8 * (IntKind.i64.wrap (z1.1.len - 4)))))) (IntKind.i64.wrap (8 * (IntKind.i64.wrap (z1.1.len - 4))))) + z2.2.1)) 8)).toNat * 1)) [.int .u8 (bitI .xor .u8 v3 (IntKind.u8.wrap (1 * 2 ^ (min (IntKind.u64.wrap (Int.tmod (IntKind.i64.wrap ((Int.tmod (IntKind.i64.wrap ((Int.tmod x2 (IntKind.i64.wrap (8 * (IntKind.i64.wrap (z1.1.len - 4))))) + (IntKind.i64.wrap (8 * (IntKind.i64.wrap (z1.1.len - 4)))))) (IntKind.i64.wrap (8 * (IntKind.i64.wrap (z1.1.len - 4))))) + z2.2.1)) 8) : Int).toNat IntKind.u8.bits))))] <|
            go2 (true, IntKind.i64.wrap (z2.2.1 + 1), ())) (
            go2 (z2.1, IntKind.i64.wrap (z2.2.1 + 1), ()))) (
           nw (.cells #[.slice z1.1.a z1.1.len z1.1.cap] 22) fun n1 =>
           cl PP 16 #[.slice (some ⟨n1, 0, none⟩) 1 1] [.lf .str, .lf .sl, .lf (.int .i64)] fun r6 =>
           ifB (((r6.2.2.1 : Int) != 0) == z2.1) (
            cl PP 7 #[] [.lf .bool] fun r7 =>
            K (.bool r7.1)) (
            K (.bool false)))) (
          nw (.cells #[.slice z1.1.a z1.1.len z1.1.cap] 22) fun n2 =>
          cl PP 16 #[.slice (some ⟨n2, 0, none⟩) 1 1] [.lf .str, .lf .sl, .lf (.int .i64)] fun r8 =>
          ifB (((r8.2.2.1 : Int) != 0) == z2.1) (
           cl PP 7 #[] [.lf .bool] fun r9 =>
           K (.bool r9.1)) (
           K (.bool false))))))))
theorem e6 (x0 : ByteArray) (x1 : SlV) (x2 : Int) (x3 : Int) (K : Value → HP) : flatFn PP h6 Tryd.f6 [.string x0, .slice x1.a x1.len x1.cap, .int .i64 x2, .int .u32 x3] K = t6 x0 x1 x2 x3 K := by kernel_rfl

/-- depot/depotlaw24.entries -/
def h7 : Hints := ⟨[], [], []⟩
def t7 (K : Value → HP) : HP :=
  nw (.cells #[.int .u8 118, .int .u8 97, .int .u8 108, .int .u8 117, .int .u8 101] 5) fun n1 =>
  smW PP (convert 22 22 (.slice (some ⟨n1, 0, none⟩) 5 5)) [.lf .sl] fun v1 =>
  cl PP 20 #[] [.agg [.int .i64, .int .i64, .int .i64, .int .i64]] fun r1 =>
  cl PP 8 #[.string ⟨#[107]⟩, .slice v1.1.a v1.1.len v1.1.cap, .agg #[.int .i64 r1.1.1, .int .i64 r1.1.2.1, .int .i64 r1.1.2.2.1, .int .i64 r1.1.2.2.2.1]] [.lf .sl, .lf (.int .i64)] fun r2 =>
  cl PP 16 #[.slice r2.1.a r2.1.len r2.1.cap] [.lf .str, .lf .sl, .lf (.int .i64)] fun r3 =>
  cl PP 20 #[] [.agg [.int .i64, .int .i64, .int .i64, .int .i64]] fun r4 =>
  cl PP 8 #[.string ⟨#[]⟩, .slice none 0 0, .agg #[.int .i64 r4.1.1, .int .i64 r4.1.2.1, .int .i64 r4.1.2.2.1, .int .i64 r4.1.2.2.2.1]] [.lf .sl, .lf (.int .i64)] fun r5 =>
  cl PP 11 #[.int .i64 3, .int .i64 8] [.lf (.int .i64)] fun r6 =>
  ifB ((r6.1 : Int) == 4) (
   cl PP 11 #[.int .i64 8, .int .i64 8] [.lf (.int .i64)] fun r7 =>
   ifB ((r7.1 : Int) == 0) (
    cl PP 20 #[] [.agg [.int .i64, .int .i64, .int .i64, .int .i64]] fun r8 =>
    cl PP 13 #[.int .i64 1, .int .i64 35, .agg #[.int .i64 r8.1.1, .int .i64 r8.1.2.1, .int .i64 r8.1.2.2.1, .int .i64 r8.1.2.2.2.1]] [.lf (.int .i64)] fun r9 =>
    ifB ((r9.1 : Int) == 1) (
     cl PP 20 #[] [.agg [.int .i64, .int .i64, .int .i64, .int .i64]] fun r10 =>
     cl PP 13 #[.int .i64 1, .int .i64 36, .agg #[.int .i64 r10.1.1, .int .i64 r10.1.2.1, .int .i64 r10.1.2.2.1, .int .i64 r10.1.2.2.2.1]] [.lf (.int .i64)] fun r11 =>
     ifB ((r11.1 : Int) == 2) (
      ifB ((r2.2.1 : Int) == 0) (
       ifB ((r2.1.len : Int) == 1) (
        ifB (ByteArray.toList r3.1 == ByteArray.toList ⟨#[107]⟩) (
         smR PP (Conv.bytesToString (.slice r3.2.1.a r3.2.1.len r3.2.1.cap)) [.lf .str] fun v2 =>
         ifB (ByteArray.toList v2.1 == ByteArray.toList ⟨#[118, 97, 108, 117, 101]⟩) (
          ifB ((r3.2.2.1 : Int) == 0) (
           K (.bool ((r5.2.1 : Int) == 2))) (
           K (.bool false))) (
          K (.bool false))) (
         K (.bool false))) (
        K (.bool false))) (
       K (.bool false))) (
      K (.bool false))) (
     K (.bool false))) (
    K (.bool false))) (
   K (.bool false))
theorem e7 (K : Value → HP) : flatFn PP h7 Tryd.f7 [] K = t7 K := by kernel_rfl

/-- depot/entry.Cut -/
def h8 : Hints := ⟨[(1, [(13, .lf .sl), (14, .lf .sl), (56, .lf (.int .i64))])], [], []⟩
def t8 (x0 : ByteArray) (x1 : SlV) (x2 : ShV (.agg [.int .i64, .int .i64, .int .i64, .int .i64])) (K : Value → HP) : HP :=
  nw (.cells #[.int .i64 x2.1, .int .i64 x2.2.1, .int .i64 x2.2.2.1, .int .i64 x2.2.2.2.1] 24) fun n1 =>
  cl PP 21 #[.int .i64 x0.size] [.lf .bool] fun r1 =>
  ifB (!r1.1) (
   K (.tuple #[.slice none 0 0, .int .i64 2])) (
   ifB (decide ((x1.len : Int) > 65536)) (
    K (.tuple #[.slice none 0 0, .int .i64 4])) (
    ld ⟨n1, 0, none⟩ (.agg [.int .i64, .int .i64, .int .i64, .int .i64]) fun v1 =>
    cl PP 13 #[.int .i64 x0.size, .int .i64 x1.len, .agg #[.int .i64 v1.1, .int .i64 v1.2.1, .int .i64 v1.2.2.1, .int .i64 v1.2.2.2.1]] [.lf (.int .i64)] fun r2 =>
    ifB ((r2.1 : Int) == 0) (
     K (.tuple #[.slice none 0 0, .int .i64 14])) (
     cl PP 22 #[.slice none 0 0, .string x0] [.lf .sl, .lf (.int .i64)] fun r3 =>
     smR PP (Conv.bytesToString (.slice x1.a x1.len x1.cap)) [.lf .str] fun v2 =>
     cl PP 22 #[.slice none 0 0, .string v2.1] [.lf .sl, .lf (.int .i64)] fun r4 =>
     nw (.cells #[.slice r3.1.a r3.1.len r3.1.cap, .slice r4.1.a r4.1.len r4.1.cap] 22) fun n2 =>
     cl PP 23 #[.slice (some ⟨n2, 0, none⟩) 2 2] [.lf .sl] fun r5 =>
     cl PP 25 #[.slice r5.1.a r5.1.len r5.1.cap] [.lf (.int .i64)] fun r6 =>
     cl PP 24 #[.slice r5.1.a r5.1.len r5.1.cap, .int .i64 r6.1, .int .i64 4] [.lf .sl, .lf (.int .i64)] fun r7 =>
     lp [.lf .sl, .lf .sl, .lf (.int .i64)] (⟨r7.1.a, r7.1.len, r7.1.cap⟩, ⟨none, 0, 0⟩, 0, ()) fun z1 go1 =>   -- all, l, 
      ifB (decide ((z1.2.2.1 : Int) < r2.1)) (
       ld (Addr.add ⟨n1, 0, none⟩ 2) (.lf (.int .i64)) fun v3 =>
       cl PP 19 #[.int .i64 v3] [.lf (.int .i64)] fun r8 =>
       slc ⟨z1.1.a, z1.1.len, z1.1.cap⟩ 0 (imin z1.1.len r8.1) z1.1.cap 1 fun s1 =>
       nw (.cells #[.slice s1.a s1.len s1.cap] 22) fun n3 =>
       cl PP 23 #[.slice (some ⟨n3, 0, none⟩) 1 1] [.lf .sl] fun r9 =>
       nw (.cells #[.slice r9.1.a r9.1.len r9.1.cap] 22) fun n4 =>
       smW PP (Builtin.append_ #[26, 26] 26 #[.slice z1.2.1.a z1.2.1.len z1.2.1.cap, .slice (some ⟨n4, 0, none⟩) 1 1]) [.lf .sl] fun v4 =>
       slc ⟨z1.1.a, z1.1.len, z1.1.cap⟩ (imin z1.1.len r8.1) z1.1.len z1.1.cap 1 fun s2 =>
       go1 (⟨s2.a, s2.len, s2.cap⟩, ⟨v4.1.a, v4.1.len, v4.1.cap⟩, IntKind.i64.wrap (z1.2.2.1 + 1), ())) (
       K (.tuple #[.slice z1.2.1.a z1.2.1.len z1.2.1.cap, .int .i64 0])))))
theorem e8 (x0 : ByteArray) (x1 : SlV) (x2 : ShV (.agg [.int .i64, .int .i64, .int .i64, .int .i64])) (K : Value → HP) : flatFn PP h8 Tryd.f8 [.string x0, .slice x1.a x1.len x1.cap, .agg #[.int .i64 x2.1, .int .i64 x2.2.1, .int .i64 x2.2.2.1, .int .i64 x2.2.2.2.1]] K = t8 x0 x1 x2 K := by kernel_rfl

/-- depot/depotref24.Cut -/
def h9 : Hints := ⟨[(0, [(9, .lf .sl), (11, .lf .sl), (12, .lf (.int .i64))])], [], []⟩
def t9 (x0 : ByteArray) (x1 : SlV) (x2 : ShV (.agg [.int .i64, .int .i64, .int .i64, .int .i64])) (K : Value → HP) : HP :=
  nw (.cells #[.int .i64 x2.1, .int .i64 x2.2.1, .int .i64 x2.2.2.1, .int .i64 x2.2.2.2.1] 24) fun n1 =>
  ifB (decide ((x0.size : Int) < 1)) (
   K (.tuple #[.slice none 0 0, .int .i64 2])) (
   ifB (decide ((x0.size : Int) > 255)) (
    K (.tuple #[.slice none 0 0, .int .i64 2])) (
    ifB (decide ((x1.len : Int) > 65536)) (
     K (.tuple #[.slice none 0 0, .int .i64 4])) (
     ld ⟨n1, 0, none⟩ (.agg [.int .i64, .int .i64, .int .i64, .int .i64]) fun v1 =>
     cl PP 14 #[.int .i64 x0.size, .int .i64 x1.len, .agg #[.int .i64 v1.1, .int .i64 v1.2.1, .int .i64 v1.2.2.1, .int .i64 v1.2.2.2.1]] [.lf (.int .i64)] fun r1 =>
     ifB ((r1.1 : Int) == 0) (
      K (.tuple #[.slice none 0 0, .int .i64 14])) (
      cl PP 26 #[.slice none 0 0, .string x0] [.lf .sl, .lf (.int .i64)] fun r2 =>
      smR PP (Conv.bytesToString (.slice x1.a x1.len x1.cap)) [.lf .str] fun v2 =>
      cl PP 26 #[.slice r2.1.a r2.1.len r2.1.cap, .string v2.1] [.lf .sl, .lf (.int .i64)] fun r3 =>
      cl PP 28 #[.slice r3.1.a r3.1.len r3.1.cap] [.lf (.int .i64)] fun r4 =>
      cl PP 27 #[.slice r3.1.a r3.1.len r3.1.cap, .int .i64 r4.1, .int .i64 4] [.lf .sl, .lf (.int .i64)] fun r5 =>
      lp [.lf .sl, .lf .sl, .lf (.int .i64)] (⟨r5.1.a, r5.1.len, r5.1.cap⟩, ⟨none, 0, 0⟩, 0, ()) fun z1 go1 =>   -- b, out, i
       ifB (decide ((z1.2.2.1 : Int) < r1.1)) (
        ld (Addr.add ⟨n1, 0, none⟩ 2) (.lf (.int .i64)) fun v3 =>
        cl PP 29 #[.int .i64 v3] [.lf (.int .i64)] fun r6 =>
        nw (.cells #[] 5) fun n2 =>
        slc ⟨z1.1.a, z1.1.len, z1.1.cap⟩ 0 (imin z1.1.len r6.1) z1.1.cap 1 fun s1 =>
        smW PP (Builtin.append_ #[22, 22] 22 #[.slice (some ⟨n2, 0, none⟩) 0 0, .slice s1.a s1.len s1.cap]) [.lf .sl] fun v4 =>
        nw (.cells #[.slice v4.1.a v4.1.len v4.1.cap] 22) fun n3 =>
        smW PP (Builtin.append_ #[26, 26] 26 #[.slice z1.2.1.a z1.2.1.len z1.2.1.cap, .slice (some ⟨n3, 0, none⟩) 1 1]) [.lf .sl] fun v5 =>
        slc ⟨z1.1.a, z1.1.len, z1.1.cap⟩ (imin z1.1.len r6.1) z1.1.len z1.1.cap 1 fun s2 =>
        go1 (⟨s2.a, s2.len, s2.cap⟩, ⟨v5.1.a, v5.1.len, v5.1.cap⟩, IntKind.i64.wrap (z1.2.2.1 + 1), ())) (
        K (.tuple #[.slice z1.2.1.a z1.2.1.len z1.2.1.cap, .int .i64 0]))))))
theorem e9 (x0 : ByteArray) (x1 : SlV) (x2 : ShV (.agg [.int .i64, .int .i64, .int .i64, .int .i64])) (K : Value → HP) : flatFn PP h9 Tryd.f9 [.string x0, .slice x1.a x1.len x1.cap, .agg #[.int .i64 x2.1, .int .i64 x2.2.1, .int .i64 x2.2.2.1, .int .i64 x2.2.2.2.1]] K = t9 x0 x1 x2 K := by kernel_rfl

/-- depot/depotref24.Same -/
def h10 : Hints := ⟨[(0, [(5, .lf (.int .i64))])], [], [(6, [0, 1, 2, 5, 6, 7, 3, 4, 8, 9, 10])]⟩
def t10 (x0 : SlV) (x1 : SlV) (K : Value → HP) : HP :=
  ifB ((x0.len : Int) != x1.len) (
   K (.bool false)) (
   lp [.lf (.int .i64)] (0, ()) fun z1 go1 =>   -- i
    ifB (decide ((z1.1 : Int) < x0.len)) (
     nilc x0.a fun a1 =>
     ixn z1.1 x0.len <|
     nilc x1.a fun a2 =>
     ixn z1.1 x1.len <|
     ld (Addr.add a1 (z1.1.toNat * 1)) (.lf .sl) fun v1 =>
     smR PP (Conv.bytesToString (.slice v1.a v1.len v1.cap)) [.lf .str] fun v2 =>
     ld (Addr.add a2 (z1.1.toNat * 1)) (.lf .sl) fun v3 =>
     smR PP (Conv.bytesToString (.slice v3.a v3.len v3.cap)) [.lf .str] fun v4 =>
     ifB (!(ByteArray.toList v2.1 == ByteArray.toList v4.1)) (
      K (.bool false)) (
      go1 (IntKind.i64.wrap (z1.1 + 1), ()))) (
     K (.bool true)))
theorem e10 (x0 : SlV) (x1 : SlV) (K : Value → HP) : flatFn PP h10 Tryd.f10 [.slice x0.a x0.len x0.cap, .slice x1.a x1.len x1.cap] K = t10 x0 x1 K := by kernel_rfl

/-- depot/entry.Class -/
def h11 : Hints := ⟨[(0, [(14, .lf (.int .i64))])], [], []⟩
def t11 (x0 : Int) (x1 : Int) (K : Value → HP) : HP :=
  ifB (decide ((x0 : Int) < 1)) (
   K (.int .i64 0)) (
   ifB (decide ((x1 : Int) < 2)) (
    K (.int .i64 0)) (
    ld ⟨0, 0, none⟩ (.agg [.int .i64, .int .i64, .int .i64, .int .i64]) fun v1 =>
    lp [.lf (.int .i64)] (0, ()) fun z1 go1 =>   -- 
     ifB (decide ((z1.1 : Int) < 4)) (
      smP PP (Instr.index 58 (.agg #[.int .i64 v1.1, .int .i64 v1.2.1, .int .i64 v1.2.2.1, .int .i64 v1.2.2.2.1]) (.int .i64 z1.1)) (.lf (.int .i64)) fun v2 =>
      ifB (decide ((v2 : Int) ≥ x0)) (
       ifB (decide ((v2 : Int) ≤ (IntKind.i64.wrap (x1 - 2)))) (
        K (.int .i64 v2)) (
        go1 (IntKind.i64.wrap (z1.1 + 1), ()))) (
       go1 (IntKind.i64.wrap (z1.1 + 1), ()))) (
      K (.int .i64 0))))
theorem e11 (x0 : Int) (x1 : Int) (K : Value → HP) : flatFn PP h11 Tryd.f11 [.int .i64 x0, .int .i64 x1] K = t11 x0 x1 K := by kernel_rfl

/-- depot/depotref24.Class -/
def h12 : Hints := ⟨[(0, [(5, .lf (.int .i64))])], [], []⟩
def t12 (x0 : Int) (x1 : Int) (K : Value → HP) : HP :=
  ifB (decide ((x0 : Int) < 1)) (
   K (.int .i64 0)) (
   lp [.lf (.int .i64)] (1, ()) fun z1 go1 =>   -- k
    ifB (decide ((z1.1 : Int) ≤ 8)) (
     ifB (decide ((z1.1 : Int) ≥ x0)) (
      ifB (decide ((x1 : Int) ≥ 2)) (
       ifB (decide ((z1.1 : Int) ≤ (IntKind.i64.wrap (x1 - 2)))) (
        K (.int .i64 z1.1)) (
        go1 (IntKind.i64.wrap (2 * z1.1), ()))) (
       go1 (IntKind.i64.wrap (2 * z1.1), ()))) (
      go1 (IntKind.i64.wrap (2 * z1.1), ()))) (
     K (.int .i64 0)))
theorem e12 (x0 : Int) (x1 : Int) (K : Value → HP) : flatFn PP h12 Tryd.f12 [.int .i64 x0, .int .i64 x1] K = t12 x0 x1 K := by kernel_rfl

/-- depot/entry.Pages -/
def h13 : Hints := ⟨[], [], [(4, [0, 1, 2, 3, 4, 5, 6, 7, 8, 9, 10, 11, 12])]⟩
def t13 (x0 : Int) (x1 : Int) (x2 : ShV (.agg [.int .i64, .int .i64, .int .i64, .int .i64])) (K : Value → HP) : HP :=
  nw (.cells #[.int .i64 x2.1, .int .i64 x2.2.1, .int .i64 x2.2.2.1, .int .i64 x2.2.2.2.1] 24) fun n1 =>
  ld (Addr.add ⟨n1, 0, none⟩ 2) (.lf (.int .i64)) fun v1 =>
  cl PP 19 #[.int .i64 v1] [.lf (.int .i64)] fun r1 =>
  cl PP 21 #[.int .i64 x0] [.lf .bool] fun r2 =>
  ifB (!r2.1) (
   K (.int .i64 0)) (
   ifB (decide ((x1 : Int) < 0)) (
    K (.int .i64 0)) (
    ifB (decide ((x1 : Int) > 65536)) (
     K (.int .i64 0)) (
     ifB ((r1.1 : Int) == 0) (
      K (.int .i64 0)) (
      req ((r1.1 : Int) ≠ 0) <|
      ld (Addr.add ⟨n1, 0, none⟩ 1) (.lf (.int .i64)) fun v2 =>
      cl PP 11 #[.int .i64 (IntKind.i64.wrap (Int.tdiv (IntKind.i64.wrap ((IntKind.i64.wrap ((IntKind.i64.wrap ((IntKind.i64.wrap (x0 + x1)) + 12)) + r1.1)) - 1)) r1.1)), .int .i64 v2] [.lf (.int .i64)] fun r3 =>
      K (.int .i64 r3.1)))))
theorem e13 (x0 : Int) (x1 : Int) (x2 : ShV (.agg [.int .i64, .int .i64, .int .i64, .int .i64])) (K : Value → HP) : flatFn PP h13 Tryd.f13 [.int .i64 x0, .int .i64 x1, .agg #[.int .i64 x2.1, .int .i64 x2.2.1, .int .i64 x2.2.2.1, .int .i64 x2.2.2.2.1]] K = t13 x0 x1 x2 K := by kernel_rfl

/-- depot/depotref24.Pages -/
def h14 : Hints := ⟨[(0, [(8, .lf (.int .i64)), (9, .lf (.int .i64))])], [], []⟩
def t14 (x0 : Int) (x1 : Int) (x2 : ShV (.agg [.int .i64, .int .i64, .int .i64, .int .i64])) (K : Value → HP) : HP :=
  nw (.cells #[.int .i64 x2.1, .int .i64 x2.2.1, .int .i64 x2.2.2.1, .int .i64 x2.2.2.2.1] 24) fun n1 =>
  ld (Addr.add ⟨n1, 0, none⟩ 2) (.lf (.int .i64)) fun v1 =>
  cl PP 29 #[.int .i64 v1] [.lf (.int .i64)] fun r1 =>
  ifB (decide ((x0 : Int) < 1)) (
   K (.int .i64 0)) (
   ifB (decide ((x0 : Int) > 255)) (
    K (.int .i64 0)) (
    ifB (decide ((x1 : Int) < 0)) (
     K (.int .i64 0)) (
     ifB (decide ((x1 : Int) > 65536)) (
      K (.int .i64 0)) (
      ifB ((r1.1 : Int) == 0) (
       K (.int .i64 0)) (
       lp [.lf (.int .i64), .lf (.int .i64)] (0, IntKind.i64.wrap ((IntKind.i64.wrap (x0 + x1)) + 12), ()) fun z1 go1 =>   -- n, left
        ifB (decide ((z1.2.1 : Int) > 0)) (
         go1 (IntKind.i64.wrap (z1.1 + 1), IntKind.i64.wrap (z1.2.1 - r1.1), ())) (
         ld (Addr.add ⟨n1, 0, none⟩ 1) (.lf (.int .i64)) fun v2 =>
         cl PP 12 #[.int .i64 z1.1, .int .i64 v2] [.lf (.int .i64)] fun r2 =>
         K (.int .i64 r2.1)))))))
theorem e14 (x0 : Int) (x1 : Int) (x2 : ShV (.agg [.int .i64, .int .i64, .int .i64, .int .i64])) (K : Value → HP) : flatFn PP h14 Tryd.f14 [.int .i64 x0, .int .i64 x1, .agg #[.int .i64 x2.1, .int .i64 x2.2.1, .int .i64 x2.2.2.1, .int .i64 x2.2.2.2.1]] K = t14 x0 x1 x2 K := by kernel_rfl

/-- depot/depotref24.Few -/
def h15 : Hints := ⟨[(0, [(7, .lf (.int .i64))])], [], []⟩
def t15 (x0 : SlV) (x1 : Int) (x2 : Int) (K : Value → HP) : HP :=
  lp [.lf (.int .i64)] (0, ()) fun z1 go1 =>   -- i
   ifB (decide ((z1.1 : Int) < x0.len)) (
    ifB (decide ((z1.1 : Int) ≤ x1)) (
     nilc x0.a fun a1 =>
     ixn z1.1 x0.len <|
     ld (Addr.add a1 (z1.1.toNat * 1)) (.lf .sl) fun v1 =>
     ifB (decide ((v1.len : Int) > x2)) (
      K (.bool false)) (
      go1 (IntKind.i64.wrap (z1.1 + 1), ()))) (
     K (.bool (decide ((x0.len : Int) ≤ x1))))) (
    K (.bool (decide ((x0.len : Int) ≤ x1))))
theorem e15 (x0 : SlV) (x1 : Int) (x2 : Int) (K : Value → HP) : flatFn PP h15 Tryd.f15 [.slice x0.a x0.len x0.cap, .int .i64 x1, .int .i64 x2] K = t15 x0 x1 x2 K := by kernel_rfl

/-- depot/entry.Join -/
def h16 : Hints := ⟨[], [], []⟩
def t16 (x0 : SlV) (K : Value → HP) : HP :=
  cl PP 23 #[.slice x0.a x0.len x0.cap] [.lf .sl] fun r1 =>
  cl PP 30 #[.slice r1.1.a r1.1.len r1.1.cap] [.lf .ptr] fun r2 =>
  cl PP 31 #[.pointer r2.1] [.lf .str, .lf (.int .i64)] fun r3 =>
  ifB ((r3.2.1 : Int) != 0) (
   K (.tuple #[.string ⟨#[]⟩, .slice none 0 0, .int .i64 r3.2.1])) (
   cl PP 31 #[.pointer r2.1] [.lf .str, .lf (.int .i64)] fun r4 =>
   ifB ((r4.2.1 : Int) != 0) (
    K (.tuple #[.string ⟨#[]⟩, .slice none 0 0, .int .i64 r4.2.1])) (
    cl PP 32 #[.pointer r2.1] [.lf (.int .i64)] fun r5 =>
    cl PP 33 #[.pointer r2.1, .int .i64 4] [.lf (.int .i64), .lf (.int .i64)] fun r6 =>
    ifB ((r6.2.1 : Int) != 0) (
     K (.tuple #[.string ⟨#[]⟩, .slice none 0 0, .int .i64 r6.2.1])) (
     cl PP 32 #[.pointer r2.1] [.lf (.int .i64)] fun r7 =>
     ifB (decide ((r7.1 : Int) > 0)) (
      K (.tuple #[.string ⟨#[]⟩, .slice none 0 0, .int .i64 5])) (
      cl PP 21 #[.int .i64 r3.1.size] [.lf .bool] fun r8 =>
      ifB (!r8.1) (
       K (.tuple #[.string ⟨#[]⟩, .slice none 0 0, .int .i64 5])) (
       slc ⟨r1.1.a, r1.1.len, r1.1.cap⟩ 0 (IntKind.i64.wrap (r1.1.len - r5.1)) r1.1.cap 1 fun s1 =>
       cl PP 34 #[.slice s1.a s1.len s1.cap, .int .i64 r6.1] [.lf .bool] fun r9 =>
       ifB (!r9.1) (
        K (.tuple #[.string ⟨#[]⟩, .slice none 0 0, .int .i64 12])) (
        smA PP (Conv.stringToBytes 5 r4.1) (.lf .sl) fun v1 =>
        K (.tuple #[.string r3.1, .slice v1.a v1.len v1.cap, .int .i64 0])))))))
theorem e16 (x0 : SlV) (K : Value → HP) : flatFn PP h16 Tryd.f16 [.slice x0.a x0.len x0.cap] K = t16 x0 K := by kernel_rfl

/-- depot/depotref24.Join -/
def h17 : Hints := ⟨[(0, [(5, .lf .sl), (6, .lf (.int .i64))])], [], []⟩
def t17 (x0 : SlV) (K : Value → HP) : HP :=
  lp [.lf .sl, .lf (.int .i64)] (⟨none, 0, 0⟩, 0, ()) fun z1 go1 =>   -- b, i
   ifB (decide ((z1.2.1 : Int) < x0.len)) (
    nilc x0.a fun a1 =>
    ixn z1.2.1 x0.len <|
    ld (Addr.add a1 (z1.2.1.toNat * 1)) (.lf .sl) fun v1 =>
    smW PP (Builtin.append_ #[22, 22] 22 #[.slice z1.1.a z1.1.len z1.1.cap, .slice v1.a v1.len v1.cap]) [.lf .sl] fun v2 =>
    go1 (⟨v2.1.a, v2.1.len, v2.1.cap⟩, IntKind.i64.wrap (z1.2.1 + 1), ())) (
    cl PP 35 #[.slice z1.1.a z1.1.len z1.1.cap, .int .i64 0] [.lf .str, .lf (.int .i64), .lf (.int .i64)] fun r1 =>
    ifB ((r1.2.2.1 : Int) != 0) (
     K (.tuple #[.string ⟨#[]⟩, .slice none 0 0, .int .i64 r1.2.2.1])) (
     cl PP 35 #[.slice z1.1.a z1.1.len z1.1.cap, .int .i64 r1.2.1] [.lf .str, .lf (.int .i64), .lf (.int .i64)] fun r2 =>
     ifB ((r2.2.2.1 : Int) != 0) (
      K (.tuple #[.string ⟨#[]⟩, .slice none 0 0, .int .i64 r2.2.2.1])) (
      cl PP 36 #[.slice z1.1.a z1.1.len z1.1.cap, .int .i64 r2.2.1, .int .i64 4] [.lf (.int .i64), .lf (.int .i64)] fun r3 =>
      ifB ((r3.2.1 : Int) != 0) (
       K (.tuple #[.string ⟨#[]⟩, .slice none 0 0, .int .i64 r3.2.1])) (
       ifB (decide ((z1.1.len : Int) > (IntKind.i64.wrap (r2.2.1 + 4)))) (
        K (.tuple #[.string ⟨#[]⟩, .slice none 0 0, .int .i64 5])) (
        ifB (decide ((r1.1.size : Int) < 1)) (
         K (.tuple #[.string ⟨#[]⟩, .slice none 0 0, .int .i64 5])) (
         ifB (decide ((r1.1.size : Int) > 255)) (
          K (.tuple #[.string ⟨#[]⟩, .slice none 0 0, .int .i64 5])) (
          slc ⟨z1.1.a, z1.1.len, z1.1.cap⟩ 0 r2.2.1 z1.1.cap 1 fun s1 =>
          cl PP 28 #[.slice s1.a s1.len s1.cap] [.lf (.int .i64)] fun r4 =>
          ifB ((r3.1 : Int) != r4.1) (
           K (.tuple #[.string ⟨#[]⟩, .slice none 0 0, .int .i64 12])) (
           smA PP (Conv.stringToBytes 5 r2.1) (.lf .sl) fun v3 =>
           K (.tuple #[.string r1.1, .slice v3.a v3.len v3.cap, .int .i64 0])))))))))
theorem e17 (x0 : SlV) (K : Value → HP) : flatFn PP h17 Tryd.f17 [.slice x0.a x0.len x0.cap] K = t17 x0 K := by kernel_rfl

/-- depot/depotref03.Same -/
def h18 : Hints := ⟨[], [], []⟩
def t18 (x0 : SlV) (x1 : SlV) (K : Value → HP) : HP :=
  smR PP (Conv.bytesToString (.slice x0.a x0.len x0.cap)) [.lf .str] fun v1 =>
  smR PP (Conv.bytesToString (.slice x1.a x1.len x1.cap)) [.lf .str] fun v2 =>
  K (.bool (ByteArray.toList v1.1 == ByteArray.toList v2.1))
theorem e18 (x0 : SlV) (x1 : SlV) (K : Value → HP) : flatFn PP h18 Tryd.f18 [.slice x0.a x0.len x0.cap, .slice x1.a x1.len x1.cap] K = t18 x0 x1 K := by kernel_rfl

/-- depot/page.Room -/
def h19 : Hints := ⟨[], [], []⟩
def t19 (x0 : Int) (K : Value → HP) : HP :=
  cl PP 37 #[.int .i64 x0] [.lf .bool] fun r1 =>
  ifB (!r1.1) (
   K (.int .i64 0)) (
   K (.int .i64 (IntKind.i64.wrap (x0 - 16))))
theorem e19 (x0 : Int) (K : Value → HP) : flatFn PP h19 Tryd.f19 [.int .i64 x0] K = t19 x0 K := by kernel_rfl

/-- depot/depotlaw24.device -/
def h20 : Hints := ⟨[], [], []⟩
def t20 (K : Value → HP) : HP :=
  nw (.cells #[.int .i64 0, .int .i64 0, .int .i64 0, .int .i64 0] 24) fun n1 =>
  st ⟨n1, 0, none⟩ [.int .i64 4, .int .i64 8, .int .i64 64, .int .i64 9] <|
  ld ⟨n1, 0, none⟩ (.agg [.int .i64, .int .i64, .int .i64, .int .i64]) fun v1 =>
  K (.agg #[.int .i64 v1.1, .int .i64 v1.2.1, .int .i64 v1.2.2.1, .int .i64 v1.2.2.2.1])
theorem e20 (K : Value → HP) : flatFn PP h20 Tryd.f20 [] K = t20 K := by kernel_rfl

/-- depot/entry.keyed -/
def h21 : Hints := ⟨[], [], []⟩
def t21 (x0 : Int) (K : Value → HP) : HP :=
  ifB (decide ((x0 : Int) ≥ 1)) (
   K (.bool (decide ((x0 : Int) ≤ 255)))) (
   K (.bool false))
theorem e21 (x0 : Int) (K : Value → HP) : flatFn PP h21 Tryd.f21 [.int .i64 x0] K = t21 x0 K := by kernel_rfl

/-- depot/wire.PutText -/
def h22 : Hints := ⟨[], [], []⟩
def t22 (x0 : SlV) (x1 : ByteArray) (K : Value → HP) : HP :=
  ifB (decide ((x1.size : Int) > 65536)) (
   K (.tuple #[.slice none 0 0, .int .i64 4])) (
   cl PP 24 #[.slice x0.a x0.len x0.cap, .int .i64 x1.size, .int .i64 4] [.lf .sl, .lf (.int .i64)] fun r1 =>
   smW PP (Builtin.append_ #[22, 9] 22 #[.slice r1.1.a r1.1.len r1.1.cap, .string x1]) [.lf .sl] fun v1 =>
   K (.tuple #[.slice v1.1.a v1.1.len v1.1.cap, .int .i64 r1.2.1]))
theorem e22 (x0 : SlV) (x1 : ByteArray) (K : Value → HP) : flatFn PP h22 Tryd.f22 [.slice x0.a x0.len x0.cap, .string x1] K = t22 x0 x1 K := by kernel_rfl

/-- depot/entry.joined -/
def h23 : Hints := ⟨[], [], []⟩
def t23 (x0 : SlV) (K : Value → HP) : HP :=
  cl PP 38 #[.slice x0.a x0.len x0.cap] [.lf .sl] fun r1 =>
  K (.slice r1.1.a r1.1.len r1.1.cap)
theorem e23 (x0 : SlV) (K : Value → HP) : flatFn PP h23 Tryd.f23 [.slice x0.a x0.len x0.cap] K = t23 x0 K := by kernel_rfl

/-- depot/wire.Put -/
def h24 : Hints := ⟨[], [], []⟩
def t24 (x0 : SlV) (x1 : Int) (x2 : Int) (K : Value → HP) : HP :=
  ifB (decide ((x2 : Int) < 1)) (
   K (.tuple #[.slice none 0 0, .int .i64 2])) (
   ifB (decide ((x2 : Int) > 7)) (
    K (.tuple #[.slice none 0 0, .int .i64 2])) (
    ifB (decide ((x1 : Int) < 0)) (
     K (.tuple #[.slice none 0 0, .int .i64 3])) (
     req ((0 : Int) ≤ (IntKind.i64.wrap (8 * x2))) <|
     ifB ((Int.fdiv x1 (2 ^ (min (IntKind.i64.wrap (8 * x2) : Int).toNat IntKind.i64.bits)) : Int) != 0) (
      K (.tuple #[.slice none 0 0, .int .i64 3])) (
      cl PP 39 #[.int .i64 x1] [.agg [.int .u8, .int .u8, .int .u8, .int .u8, .int .u8, .int .u8, .int .u8, .int .u8]] fun r1 =>
      nw (.cells #[.int .u8 0, .int .u8 0, .int .u8 0, .int .u8 0, .int .u8 0, .int .u8 0, .int .u8 0, .int .u8 0] 72) fun n1 =>
      st ⟨n1, 0, none⟩ [.int .u8 r1.1.1, .int .u8 r1.1.2.1, .int .u8 r1.1.2.2.1, .int .u8 r1.1.2.2.2.1, .int .u8 r1.1.2.2.2.2.1, .int .u8 r1.1.2.2.2.2.2.1, .int .u8 r1.1.2.2.2.2.2.2.1, .int .u8 r1.1.2.2.2.2.2.2.2.1] <|
      smA PP (Instr.makeSlice 22 (.int .i64 0) (.int .i64 (IntKind.i64.wrap (x0.len + x2)))) (.lf .sl) fun v1 =>
      smW PP (Builtin.append_ #[22, 22] 22 #[.slice v1.a v1.len v1.cap, .slice x0.a x0.len x0.cap]) [.lf .sl] fun v2 =>
      slc ⟨some ⟨n1, 0, none⟩, 8, 8⟩ 0 x2 8 1 fun s1 =>
      smW PP (Builtin.append_ #[22, 22] 22 #[.slice v2.1.a v2.1.len v2.1.cap, .slice s1.a s1.len s1.cap]) [.lf .sl] fun v3 =>
      K (.tuple #[.slice v3.1.a v3.1.len v3.1.cap, .int .i64 0])))))
theorem e24 (x0 : SlV) (x1 : Int) (x2 : Int) (K : Value → HP) : flatFn PP h24 Tryd.f24 [.slice x0.a x0.len x0.cap, .int .i64 x1, .int .i64 x2] K = t24 x0 x1 x2 K := by kernel_rfl

/-- depot/crc.Sum -/
def h25 : Hints := ⟨[], [], []⟩
def t25 (x0 : SlV) (K : Value → HP) : HP :=
  cl PP 40 #[.int .i64 0, .slice x0.a x0.len x0.cap] [.lf (.int .i64)] fun r1 =>
  K (.int .i64 r1.1)
theorem e25 (x0 : SlV) (K : Value → HP) : flatFn PP h25 Tryd.f25 [.slice x0.a x0.len x0.cap] K = t25 x0 K := by kernel_rfl

/-- depot/depotref03.PutText -/
def h26 : Hints := ⟨[], [], []⟩
def t26 (x0 : SlV) (x1 : ByteArray) (K : Value → HP) : HP :=
  ifB (decide ((x1.size : Int) > 65536)) (
   K (.tuple #[.slice none 0 0, .int .i64 4])) (
   cl PP 27 #[.slice x0.a x0.len x0.cap, .int .i64 x1.size, .int .i64 4] [.lf .sl, .lf (.int .i64)] fun r1 =>
   smW PP (Builtin.append_ #[22, 9] 22 #[.slice r1.1.a r1.1.len r1.1.cap, .string x1]) [.lf .sl] fun v1 =>
   K (.tuple #[.slice v1.1.a v1.1.len v1.1.cap, .int .i64 0]))
theorem e26 (x0 : SlV) (x1 : ByteArray) (K : Value → HP) : flatFn PP h26 Tryd.f26 [.slice x0.a x0.len x0.cap, .string x1] K = t26 x0 x1 K := by kernel_rfl

/-- depot/depotref03.Put -/
def h27 : Hints := ⟨[(0, [(8, .lf .sl), (9, .lf (.int .i64)), (10, .lf (.int .i64))])], [], []⟩
def t27 (x0 : SlV) (x1 : Int) (x2 : Int) (K : Value → HP) : HP :=
  ifB (decide ((x2 : Int) < 1)) (
   K (.tuple #[.slice none 0 0, .int .i64 2])) (
   ifB (decide ((x2 : Int) > 7)) (
    K (.tuple #[.slice none 0 0, .int .i64 2])) (
    nw (.cells #[] 5) fun n1 =>
    smW PP (Builtin.append_ #[22, 22] 22 #[.slice (some ⟨n1, 0, none⟩) 0 0, .slice x0.a x0.len x0.cap]) [.lf .sl] fun v1 =>
    lp [.lf .sl, .lf (.int .i64), .lf (.int .i64)] (⟨v1.1.a, v1.1.len, v1.1.cap⟩, x1, 0, ()) fun z1 go1 =>   -- out, left, i
     ifB (decide ((z1.2.2.1 : Int) < x2)) (
      req ((256 : Int) ≠ 0) <|
      nw (.cells #[.int .u8 (IntKind.u8.wrap (Int.tmod z1.2.1 256))] 5) fun n2 =>
      smW PP (Builtin.append_ #[22, 22] 22 #[.slice z1.1.a z1.1.len z1.1.cap, .slice (some ⟨n2, 0, none⟩) 1 1]) [.lf .sl] fun v2 =>
      req ((256 : Int) ≠ 0) <|
      go1 (⟨v2.1.a, v2.1.len, v2.1.cap⟩, IntKind.i64.wrap (Int.tdiv z1.2.1 256), IntKind.i64.wrap (z1.2.2.1 + 1), ())) (
      ifB (decide ((x1 : Int) < 0)) (
       K (.tuple #[.slice none 0 0, .int .i64 3])) (
       ifB (decide ((z1.2.1 : Int) > 0)) (
        K (.tuple #[.slice none 0 0, .int .i64 3])) (
        K (.tuple #[.slice z1.1.a z1.1.len z1.1.cap, .int .i64 0]))))))
theorem e27 (x0 : SlV) (x1 : Int) (x2 : Int) (K : Value → HP) : flatFn PP h27 Tryd.f27 [.slice x0.a x0.len x0.cap, .int .i64 x1, .int .i64 x2] K = t27 x0 x1 x2 K := by kernel_rfl

/-- depot/depotref04.Sum -/
def h28 : Hints := ⟨[], [], []⟩
def t28 (x0 : SlV) (K : Value → HP) : HP :=
  cl PP 41 #[.int .i64 0, .slice x0.a x0.len x0.cap] [.lf (.int .i64)] fun r1 =>
  K (.int .i64 r1.1)
theorem e28 (x0 : SlV) (K : Value → HP) : flatFn PP h28 Tryd.f28 [.slice x0.a x0.len x0.cap] K = t28 x0 K := by kernel_rfl

/-- depot/depotref23.Room -/
def h29 : Hints := ⟨[], [], []⟩
def t29 (x0 : Int) (K : Value → HP) : HP :=
  cl PP 42 #[.int .i64 x0] [.lf .bool] fun r1 =>
  ifB (!r1.1) (
   K (.int .i64 0)) (
   K (.int .i64 (IntKind.i64.wrap (x0 - 16))))
theorem e29 (x0 : Int) (K : Value → HP) : flatFn PP h29 Tryd.f29 [.int .i64 x0] K = t29 x0 K := by kernel_rfl

/-- depot/wire.New -/
def h30 : Hints := ⟨[], [], []⟩
def t30 (x0 : SlV) (K : Value → HP) : HP :=
  nw (.cells #[] 5) fun n1 =>
  smW PP (Builtin.append_ #[22, 22] 22 #[.slice (some ⟨n1, 0, none⟩) 0 0, .slice x0.a x0.len x0.cap]) [.lf .sl] fun v1 =>
  nw (.cells #[.slice v1.1.a v1.1.len v1.1.cap, .int .i64 0] 76) fun n2 =>
  K (.pointer (some ⟨n2, 0, none⟩))
theorem e30 (x0 : SlV) (K : Value → HP) : flatFn PP h30 Tryd.f30 [.slice x0.a x0.len x0.cap] K = t30 x0 K := by kernel_rfl

/-- (*depot/wire.Reader).Text -/
def h31 : Hints := ⟨[], [], [(12, [0, 1, 2, 4, 5, 6, 7, 3, 8, 9, 10, 11, 12]), (3, [0, 1, 2, 4, 5, 6, 3, 7, 8, 9, 10, 11, 12, 13])]⟩
def t31 (x0 : Option Addr) (K : Value → HP) : HP :=
  ifB (Option.isNone x0) (
   K (.tuple #[.string ⟨#[]⟩, .int .i64 1])) (
   nilc x0 fun a1 =>
   nilc x0 fun a2 =>
   ld a1 (.lf .sl) fun v1 =>
   ld (Addr.add a2 1) (.lf (.int .i64)) fun v2 =>
   cl PP 43 #[.slice v1.a v1.len v1.cap, .int .i64 v2, .int .i64 4] [.lf (.int .i64), .lf (.int .i64)] fun r1 =>
   ifB ((r1.2.1 : Int) != 0) (
    K (.tuple #[.string ⟨#[]⟩, .int .i64 r1.2.1])) (
    nilc x0 fun a3 =>
    ld (Addr.add a3 1) (.lf (.int .i64)) fun v3 =>
    ifB (decide ((r1.1 : Int) > 65536)) (
     K (.tuple #[.string ⟨#[]⟩, .int .i64 4])) (
     nilc x0 fun a4 =>
     ld a4 (.lf .sl) fun v4 =>
     ifB (decide ((r1.1 : Int) > (IntKind.i64.wrap (v4.len - (IntKind.i64.wrap (v3 + 4)))))) (
      K (.tuple #[.string ⟨#[]⟩, .int .i64 6])) (
      nilc x0 fun a5 =>
      st (Addr.add a5 1) [.int .i64 (IntKind.i64.wrap ((IntKind.i64.wrap (v3 + 4)) + r1.1))] <|
      nilc x0 fun a6 =>
      nilc x0 fun a7 =>
      ld a6 (.lf .sl) fun v5 =>
      ld (Addr.add a7 1) (.lf (.int .i64)) fun v6 =>
      slc ⟨v5.a, v5.len, v5.cap⟩ (IntKind.i64.wrap (v3 + 4)) v6 v5.cap 1 fun s1 =>
      smR PP (Conv.bytesToString (.slice s1.a s1.len s1.cap)) [.lf .str] fun v7 =>
      K (.tuple #[.string v7.1, .int .i64 0])))))
theorem e31 (x0 : Option Addr) (K : Value → HP) : flatFn PP h31 Tryd.f31 [.pointer x0] K = t31 x0 K := by kernel_rfl

/-- (*depot/wire.Reader).Left -/
def h32 : Hints := ⟨[], [], [(3, [0, 1, 2, 5, 6, 7, 3, 4, 8, 9, 10])]⟩
def t32 (x0 : Option Addr) (K : Value → HP) : HP :=
  ifB (Option.isNone x0) (
   K (.int .i64 0)) (
   nilc x0 fun a1 =>
   nilc x0 fun a2 =>
   ld a1 (.lf .sl) fun v1 =>
   ld (Addr.add a2 1) (.lf (.int .i64)) fun v2 =>
   K (.int .i64 (IntKind.i64.wrap (v1.len - v2))))
theorem e32 (x0 : Option Addr) (K : Value → HP) : flatFn PP h32 Tryd.f32 [.pointer x0] K = t32 x0 K := by kernel_rfl

/-- (*depot/wire.Reader).Num -/
def h33 : Hints := ⟨[], [], [(3, [0, 1, 2, 4, 5, 6, 8, 3, 7, 9, 10, 11, 12, 13, 14])]⟩
def t33 (x0 : Option Addr) (x1 : Int) (K : Value → HP) : HP :=
  ifB (Option.isNone x0) (
   K (.tuple #[.int .i64 0, .int .i64 1])) (
   nilc x0 fun a1 =>
   nilc x0 fun a2 =>
   ld a1 (.lf .sl) fun v1 =>
   ld (Addr.add a2 1) (.lf (.int .i64)) fun v2 =>
   cl PP 43 #[.slice v1.a v1.len v1.cap, .int .i64 v2, .int .i64 x1] [.lf (.int .i64), .lf (.int .i64)] fun r1 =>
   ifB ((r1.2.1 : Int) == 0) (
    nilc x0 fun a3 =>
    ld (Addr.add a3 1) (.lf (.int .i64)) fun v3 =>
    nilc x0 fun a4 =>
    st (Addr.add a4 1) [.int .i64 (IntKind.i64.wrap (v3 + x1))] <|
    K (.tuple #[.int .i64 r1.1, .int .i64 r1.2.1])) (
    K (.tuple #[.int .i64 r1.1, .int .i64 r1.2.1])))
theorem e33 (x0 : Option Addr) (x1 : Int) (K : Value → HP) : flatFn PP h33 Tryd.f33 [.pointer x0, .int .i64 x1] K = t33 x0 x1 K := by kernel_rfl

/-- depot/crc.Check -/
def h34 : Hints := ⟨[], [], []⟩
def t34 (x0 : SlV) (x1 : Int) (K : Value → HP) : HP :=
  cl PP 25 #[.slice x0.a x0.len x0.cap] [.lf (.int .i64)] fun r1 =>
  K (.bool ((r1.1 : Int) == x1))
theorem e34 (x0 : SlV) (x1 : Int) (K : Value → HP) : flatFn PP h34 Tryd.f34 [.slice x0.a x0.len x0.cap, .int .i64 x1] K = t34 x0 x1 K := by kernel_rfl

/-- depot/depotref03.Text -/
def h35 : Hints := ⟨[], [], []⟩
def t35 (x0 : SlV) (x1 : Int) (K : Value → HP) : HP :=
  cl PP 36 #[.slice x0.a x0.len x0.cap, .int .i64 x1, .int .i64 4] [.lf (.int .i64), .lf (.int .i64)] fun r1 =>
  ifB ((r1.2.1 : Int) != 0) (
   K (.tuple #[.string ⟨#[]⟩, .int .i64 x1, .int .i64 r1.2.1])) (
   ifB (decide ((r1.1 : Int) > 65536)) (
    K (.tuple #[.string ⟨#[]⟩, .int .i64 x1, .int .i64 4])) (
    ifB (decide ((IntKind.i64.wrap ((IntKind.i64.wrap (x0.len - x1)) - 4) : Int) < r1.1)) (
     K (.tuple #[.string ⟨#[]⟩, .int .i64 x1, .int .i64 6])) (
     slc ⟨x0.a, x0.len, x0.cap⟩ (IntKind.i64.wrap (x1 + 4)) (IntKind.i64.wrap ((IntKind.i64.wrap (x1 + 4)) + r1.1)) x0.cap 1 fun s1 =>
     smR PP (Conv.bytesToString (.slice s1.a s1.len s1.cap)) [.lf .str] fun v1 =>
     K (.tuple #[.string v1.1, .int .i64 (IntKind.i64.wrap ((IntKind.i64.wrap (x1 + 4)) + r1.1)), .int .i64 0]))))
theorem e35 (x0 : SlV) (x1 : Int) (K : Value → HP) : flatFn PP h35 Tryd.f35 [.slice x0.a x0.len x0.cap, .int .i64 x1] K = t35 x0 x1 K := by kernel_rfl

/-- depot/depotref03.Get -/
def h36 : Hints := ⟨[(0, [(8, .lf (.int .i64)), (9, .lf (.int .i64))])], [], []⟩
def t36 (x0 : SlV) (x1 : Int) (x2 : Int) (K : Value → HP) : HP :=
  ifB (decide ((x2 : Int) < 1)) (
   K (.tuple #[.int .i64 0, .int .i64 2])) (
   ifB (decide ((x2 : Int) > 7)) (
    K (.tuple #[.int .i64 0, .int .i64 2])) (
    ifB (decide ((x1 : Int) < 0)) (
     K (.tuple #[.int .i64 0, .int .i64 6])) (
     ifB (decide ((x1 : Int) > x0.len)) (
      K (.tuple #[.int .i64 0, .int .i64 6])) (
      ifB (decide ((IntKind.i64.wrap (x0.len - x1) : Int) < x2)) (
       K (.tuple #[.int .i64 0, .int .i64 6])) (
       lp [.lf (.int .i64), .lf (.int .i64)] (0, IntKind.i64.wrap (x2 - 1), ()) fun z1 go1 =>   -- n, i
        ifB (decide ((z1.2.1 : Int) ≥ 0)) (
         nilc x0.a fun a1 =>
         ixn (IntKind.i64.wrap (x1 + z1.2.1)) x0.len <|
         ld (Addr.add a1 ((IntKind.i64.wrap (x1 + z1.2.1)).toNat * 1)) (.lf (.int .u8)) fun v1 =>
         go1 (IntKind.i64.wrap ((IntKind.i64.wrap (256 * z1.1)) + (IntKind.i64.wrap v1)), IntKind.i64.wrap (z1.2.1 - 1), ())) (
         K (.tuple #[.int .i64 z1.1, .int .i64 0])))))))
theorem e36 (x0 : SlV) (x1 : Int) (x2 : Int) (K : Value → HP) : flatFn PP h36 Tryd.f36 [.slice x0.a x0.len x0.cap, .int .i64 x1, .int .i64 x2] K = t36 x0 x1 x2 K := by kernel_rfl

/-- depot/page.sized -/
def h37 : Hints := ⟨[], [], []⟩
def t37 (x0 : Int) (K : Value → HP) : HP :=
  ifB (decide ((x0 : Int) ≥ 64)) (
   K (.bool (decide ((x0 : Int) ≤ 512)))) (
   K (.bool false))
theorem e37 (x0 : Int) (K : Value → HP) : flatFn PP h37 Tryd.f37 [.int .i64 x0] K = t37 x0 K := by kernel_rfl

/-- slices.Concat[[]byte,byte] -/
def h38 : Hints := ⟨[(0, [(3, .lf (.int .i64)), (11, .lf (.int .i64))]), (2, [(6, .lf .sl), (27, .lf (.int .i64))])], [], []⟩
def t38 (x0 : SlV) (K : Value → HP) : HP :=
  lp [.lf (.int .i64), .lf (.int .i64)] (0, 0, ()) fun z1 go1 =>   -- size, 
   ifB (decide ((z1.2.1 : Int) < x0.len)) (
    nilc x0.a fun a1 =>
    ixn z1.2.1 x0.len <|
    ld (Addr.add a1 (z1.2.1.toNat * 1)) (.lf .sl) fun v1 =>
    ifB (decide ((IntKind.i64.wrap (z1.1 + v1.len) : Int) < 0)) (
     ff) (
     go1 (IntKind.i64.wrap (z1.1 + v1.len), IntKind.i64.wrap (z1.2.1 + 1), ()))) (
    cl PP 44 #[.slice none 0 0, .int .i64 z1.1] [.lf .sl] fun r1 =>
    lp [.lf .sl, .lf (.int .i64)] (⟨r1.1.a, r1.1.len, r1.1.cap⟩, 0, ()) fun z2 go2 =>   -- newslice, 
     ifB (decide ((z2.2.1 : Int) < x0.len)) (
      nilc x0.a fun a2 =>
      ixn z2.2.1 x0.len <|
      ld (Addr.add a2 (z2.2.1.toNat * 1)) (.lf .sl) fun v2 =>
      smW PP (Builtin.append_ #[22, 22] 22 #[.slice z2.1.a z2.1.len z2.1.cap, .slice v2.a v2.len v2.cap]) [.lf .sl] fun v3 =>
      go2 (⟨v3.1.a, v3.1.len, v3.1.cap⟩, IntKind.i64.wrap (z2.2.1 + 1), ())) (
      K (.slice z2.1.a z2.1.len z2.1.cap)))
theorem e38 (x0 : SlV) (K : Value → HP) : flatFn PP h38 Tryd.f38 [.slice x0.a x0.len x0.cap] K = t38 x0 K := by kernel_rfl

/-- depot/wire.of -/
def h39 : Hints := ⟨[(0, [(5, .lf (.int .i64))])], [], []⟩
def t39 (x0 : Int) (K : Value → HP) : HP :=
  nw (.cells #[.int .u8 0, .int .u8 0, .int .u8 0, .int .u8 0, .int .u8 0, .int .u8 0, .int .u8 0, .int .u8 0] 72) fun n1 =>
  nw (.cells #[.int .u8 0, .int .u8 0, .int .u8 0, .int .u8 0, .int .u8 0, .int .u8 0, .int .u8 0, .int .u8 0] 72) fun n2 =>
  lp [.lf (.int .i64)] (0, ()) fun z1 go1 =>   -- 
   ifB (decide ((z1.1 : Int) < 8)) (
    req ((0 : Int) ≤ (IntKind.i64.wrap (8 * z1.1))) <|
    ixn z1.1 8 <|
    st (Addr.add ⟨n2, 0, none⟩ (z1.1.toNat * 1)) [.int .u8 (IntKind.u8.wrap (Int.fdiv x0 (2 ^ (min (IntKind.i64.wrap (8 * z1.1) : Int).toNat IntKind.i64.bits))))] <|
    go1 (IntKind.i64.wrap (z1.1 + 1), ())) (
    ld ⟨n2, 0, none⟩ (.agg [.int .u8, .int .u8, .int .u8, .int .u8, .int .u8, .int .u8, .int .u8, .int .u8]) fun v1 =>
    st ⟨n1, 0, none⟩ [.int .u8 v1.1, .int .u8 v1.2.1, .int .u8 v1.2.2.1, .int .u8 v1.2.2.2.1, .int .u8 v1.2.2.2.2.1, .int .u8 v1.2.2.2.2.2.1, .int .u8 v1.2.2.2.2.2.2.1, .int .u8 v1.2.2.2.2.2.2.2.1] <|
    ld ⟨n1, 0, none⟩ (.agg [.int .u8, .int .u8, .int .u8, .int .u8, .int .u8, .int .u8, .int .u8, .int .u8]) fun v2 =>
    K (.agg #[.int .u8 v2.1, .int .u8 v2.2.1, .int .u8 v2.2.2.1, .int .u8 v2.2.2.2.1, .int .u8 v2.2.2.2.2.1, .int .u8 v2.2.2.2.2.2.1, .int .u8 v2.2.2.2.2.2.2.1, .int .u8 v2.2.2.2.2.2.2.2.1]))
theorem e39 (x0 : Int) (K : Value → HP) : flatFn PP h39 Tryd.f39 [.int .i64 x0] K = t39 x0 K := by kernel_rfl

/-- depot/crc.More -/
def h40 : Hints := ⟨[], [], []⟩
def t40 (x0 : Int) (x1 : SlV) (K : Value → HP) : HP :=
  cl PP 45 #[.int .u32 (bitI .xor .u32 IntKind.u32.max (IntKind.u32.wrap x0)), .slice x1.a x1.len x1.cap] [.lf (.int .u32)] fun r1 =>
  K (.int .i64 (IntKind.i64.wrap (bitI .xor .u32 IntKind.u32.max r1.1)))
theorem e40 (x0 : Int) (x1 : SlV) (K : Value → HP) : flatFn PP h40 Tryd.f40 [.int .i64 x0, .slice x1.a x1.len x1.cap] K = t40 x0 x1 K := by kernel_rfl

/-- depot/depotref04.More -/
def h41 : Hints := ⟨[(0, [(5, .lf (.int .i64)), (6, .lf (.int .i64))])], [], []⟩
def t41 (x0 : Int) (x1 : SlV) (K : Value → HP) : HP :=
  cl PP 46 #[.int .i64 x0] [.lf (.int .u32)] fun r1 =>
  lp [.lf (.int .i64), .lf (.int .i64)] (IntKind.i64.wrap (bitI .xor .u32 IntKind.u32.max r1.1), 0, ()) fun z1 go1 =>   -- s, i
   ifB (decide ((z1.2.1 : Int) < x1.len)) (
    nilc x1.a fun a1 =>
    ixn z1.2.1 x1.len <|
    ld (Addr.add a1 (z1.2.1.toNat * 1)) (.lf (.int .u8)) fun v1 =>
    cl PP 47 #[.int .i64 z1.1, .int .u8 v1] [.lf (.int .i64)] fun r2 =>
    go1 (r2.1, IntKind.i64.wrap (z1.2.1 + 1), ())) (
    cl PP 46 #[.int .i64 z1.1] [.lf (.int .u32)] fun r3 =>
    K (.int .i64 (IntKind.i64.wrap (bitI .xor .u32 IntKind.u32.max r3.1))))
theorem e41 (x0 : Int) (x1 : SlV) (K : Value → HP) : flatFn PP h41 Tryd.f41 [.int .i64 x0, .slice x1.a x1.len x1.cap] K = t41 x0 x1 K := by kernel_rfl

/-- depot/depotref23.sized -/
def h42 : Hints := ⟨[], [], []⟩
def t42 (x0 : Int) (K : Value → HP) : HP :=
  ifB (decide ((x0 : Int) ≥ 64)) (
   K (.bool (decide ((x0 : Int) ≤ 512)))) (
   K (.bool false))
theorem e42 (x0 : Int) (K : Value → HP) : flatFn PP h42 Tryd.f42 [.int .i64 x0] K = t42 x0 K := by kernel_rfl

/-- depot/wire.Get -/
def h43 : Hints := ⟨[(1, [(8, .lf (.int .i64)), (9, .lf (.int .i64)), (36, .lf (.int .i64))])], [], []⟩
def t43 (x0 : SlV) (x1 : Int) (x2 : Int) (K : Value → HP) : HP :=
  ifB (decide ((x2 : Int) < 1)) (
   K (.tuple #[.int .i64 0, .int .i64 2])) (
   ifB (decide ((x2 : Int) > 7)) (
    K (.tuple #[.int .i64 0, .int .i64 2])) (
    ifB (decide ((x1 : Int) < 0)) (
     K (.tuple #[.int .i64 0, .int .i64 6])) (
     ifB (decide ((x1 : Int) > x0.len)) (
      K (.tuple #[.int .i64 0, .int .i64 6])) (
      ifB (decide ((x2 : Int) > (IntKind.i64.wrap (x0.len - x1)))) (
       K (.tuple #[.int .i64 0, .int .i64 6])) (
       lp [.lf (.int .i64), .lf (.int .i64), .lf (.int .i64)] (0, 1, 0, ()) fun z1 go1 =>   -- n, unit, 
        ifB (decide ((z1.2.2.1 : Int) < x2)) (
         nilc x0.a fun a1 =>
         ixn (IntKind.i64.wrap (x1 + z1.2.2.1)) x0.len <|
         ld (Addr.add a1 ((IntKind.i64.wrap (x1 + z1.2.2.1)).toNat * 1)) (.lf (.int .u8)) fun v1 =>
         go1 (IntKind.i64.wrap (z1.1 + (IntKind.i64.wrap (z1.2.1 * (IntKind.i64.wrap v1)))), IntKind.i64.wrap (z1.2.1 * 256), IntKind.i64.wrap (z1.2.2.1 + 1), ())) (
         K (.tuple #[.int .i64 z1.1, .int .i64 0])))))))
theorem e43 (x0 : SlV) (x1 : Int) (x2 : Int) (K : Value → HP) : flatFn PP h43 Tryd.f43 [.slice x0.a x0.len x0.cap, .int .i64 x1, .int .i64 x2] K = t43 x0 x1 x2 K := by kernel_rfl

/-- slices.Grow[[]byte,byte] -/
def h44 : Hints := ⟨[], [(3, [])], []⟩
def t44 (x0 : SlV) (x1 : Int) (K : Value → HP) : HP :=
  jn (fun y1 : RsV [] =>
   ifB (decide ((IntKind.i64.wrap (x1 - (IntKind.i64.wrap (x0.cap - x0.len))) : Int) > 0)) (
    slc ⟨x0.a, x0.len, x0.cap⟩ 0 x0.cap x0.cap 1 fun s1 =>
    smW PP (Builtin.append_ #[22, 3] 22 #[.slice s1.a s1.len s1.cap, .int .i64 (IntKind.i64.wrap (x1 - (IntKind.i64.wrap (x0.cap - x0.len))))]) [.lf .sl] fun v1 =>
    slc ⟨v1.1.a, v1.1.len, v1.1.cap⟩ 0 x0.len v1.1.cap 1 fun s2 =>
    K (.slice s2.a s2.len s2.cap)) (
    K (.slice x0.a x0.len x0.cap))) fun j1 =>
  ifB (decide ((x1 : Int) < 0)) (
    ff) (
    j1 (()))
theorem e44 (x0 : SlV) (x1 : Int) (K : Value → HP) : flatFn PP h44 Tryd.f44 [.slice x0.a x0.len x0.cap, .int .i64 x1] K = t44 x0 x1 K := by kernel_rfl

end Go.Proofs.YtaniefdpjommnaaDoor
