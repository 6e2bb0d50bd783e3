/-
  It is proved what the functions that the law RegionKills reaches compute, part 3. There are no further conditions than those that each theorem names.
-/
import Derived.Test.YtlabcgnegbdlfaaMRegionKills2
set_option linter.unusedVariables false
set_option maxRecDepth 100000
namespace Go.Proofs.Ytlabcgnegbdlfaa
open Go.HL
/-- depot/depotlaw25.RegionScans -/
def s3 (x0 : SlV) (x1 : ShV (.agg [.int .i64, .int .i64, .int .i64])) (K : Value → HP) : HP :=
  cl PP 8 #[.slice x0.a x0.len x0.cap, .int .i64 20, .int .i64 600] [.lf .bool] fun r1 =>
  ifB r1.1 (
   cl PP 10 #[.slice x0.a x0.len x0.cap] [.agg [.int .i64, .bool, .sl], .lf .bool] fun r3 =>
   cl PP 11 #[.slice x0.a x0.len x0.cap] [.agg [.int .i64, .bool, .sl], .lf .bool] fun r4 =>
   ifB (decide ((r3.1.1 : Int) = r4.1.1)) (
    ifB (r3.1.2.1 == r4.1.2.1) (
     cl PP 12 #[.slice r3.1.2.2.1.a r3.1.2.2.1.len r3.1.2.2.1.cap, .slice r4.1.2.2.1.a r4.1.2.2.1.len r4.1.2.2.1.cap] [.lf .bool] fun r5 =>
     ifB r5.1 (
      ifB (r3.2.1 == r4.2.1) (
       cl PP 14 #[.slice x0.a x0.len x0.cap, .agg #[.int .i64 x1.1, .int .i64 x1.2.1, .int .i64 x1.2.2.1]] [.lf .sl] fun r6 =>
       cl PP 15 #[.slice x0.a x0.len x0.cap, .agg #[.int .i64 x1.1, .int .i64 x1.2.1, .int .i64 x1.2.2.1]] [.lf .sl] fun r7 =>
       cl PP 13 #[.slice r6.1.a r6.1.len r6.1.cap, .slice r7.1.a r7.1.len r7.1.cap] [.lf .bool] fun r8 =>
       ifB r8.1 (
        cl PP 9 #[] [.lf .bool] fun r9 =>
        K (.bool r9.1)) (
        K (.bool false))) (
       K (.bool false))) (
      K (.bool false))) (
     K (.bool false))) (
    K (.bool false))) (
   cl PP 9 #[] [.lf .bool] fun r2 =>
   K (.bool r2.1))
theorem c3 (x0 : SlV) (x1 : ShV (.agg [.int .i64, .int .i64, .int .i64])) {K : Value → HP} {L : HList} (h : s3 x0 x1 (HL.Ends K) L) : CallF PP 3 #[.slice x0.a x0.len x0.cap, .agg #[.int .i64 x1.1, .int .i64 x1.2.1, .int .i64 x1.2.2.1]] L K := by
  refine CallF.of (args := [.slice x0.a x0.len x0.cap, .agg #[.int .i64 x1.1, .int .i64 x1.2.1, .int .i64 x1.2.2.1]]) noNum mixed Try.func3 (e3 x0 x1 _) (fr_run ?_ h)
  unfold s3 t3
  refine fr_nwL fun n1 => ?_
  refine fr_cl fun r1 => ?_
  refine fr_ifNot ?_ ?_
  · refine fr_cl fun r2 => ?_
    exact fr_end
  · refine fr_cl fun r3 => ?_
    refine fr_nwL fun n2 => ?_
    refine fr_stI 0 0 rfl rfl rfl rfl ?_
    refine fr_cl fun r4 => ?_
    refine fr_nwL fun n3 => ?_
    refine fr_stI 0 0 rfl rfl rfl rfl ?_
    refine fr_ldI 1 0 rfl rfl rfl ?_
    refine fr_ldI 0 0 rfl rfl rfl ?_
    refine fr_ifEq ?_ ?_
    · refine fr_ldI 1 1 rfl rfl rfl ?_
      refine fr_ldI 0 1 rfl rfl rfl ?_
      refine fr_ifB ?_ ?_
      · refine fr_ldI 1 2 rfl rfl rfl ?_
        refine fr_ldI 0 2 rfl rfl rfl ?_
        refine fr_cl fun r5 => ?_
        refine fr_ifB ?_ ?_
        · refine fr_ifB ?_ ?_
          · refine fr_ldI 2 0 rfl rfl rfl ?_
            refine fr_ldI 2 0 rfl rfl rfl ?_
            refine fr_cl fun r6 => ?_
            refine fr_keepI 2 0 rfl rfl rfl ?_
            refine fr_cl fun r7 => ?_
            refine fr_cl fun r8 => ?_
            refine fr_ifB ?_ ?_
            · refine fr_cl fun r9 => ?_
              exact fr_end
            · exact fr_end
          · exact fr_end
        · exact fr_end
      · exact fr_end
    · exact fr_end

/-- depot/depotlaw25.RegionKills -/
def s4 (x0 : SlV) (x1 : SlV) (K : Value → HP) : HP :=
  ifB (decide ((x0.len : Int) > 200)) (
   cl PP 9 #[] [.lf .bool] fun r1 =>
   K (.bool r1.1)) (
   ifB (decide ((x1.len : Int) > 1000)) (
    cl PP 9 #[] [.lf .bool] fun r2 =>
    K (.bool r2.1)) (
    cl PP 16 #[.slice x0.a x0.len x0.cap] [.lf .sl, .lf (.int .i64)] fun r3 =>
    cl PP 17 #[.slice x0.a x0.len x0.cap] [.lf .sl, .lf (.int .i64)] fun r4 =>
    cl PP 18 #[.slice x1.a x1.len x1.cap] [.lf .sl, .lf (.int .i64)] fun r5 =>
    cl PP 19 #[.slice x1.a x1.len x1.cap] [.lf .sl, .lf (.int .i64)] fun r6 =>
    jn (fun y1 : RsV [] =>
     cl PP 21 #[.slice r3.1.a r3.1.len r3.1.cap, .slice r4.1.a r4.1.len r4.1.cap] [.lf .bool] fun r9 =>
     ifB r9.1 (
      ifB (decide ((r3.2.1 : Int) = r4.2.1)) (
       cl PP 20 #[.slice r5.1.a r5.1.len r5.1.cap, .slice r6.1.a r6.1.len r6.1.cap] [.lf .bool] fun r10 =>
       ifB r10.1 (
        ifB (decide ((r5.2.1 : Int) = r6.2.1)) (
         cl PP 9 #[] [.lf .bool] fun r11 =>
         K (.bool r11.1)) (
         K (.bool false))) (
        K (.bool false))) (
       K (.bool false))) (
      K (.bool false))) fun j1 =>
    ifB (decide ((r3.2.1 : Int) = 0)) (
      cl PP 18 #[.slice r3.1.a r3.1.len r3.1.cap] [.lf .sl, .lf (.int .i64)] fun r7 =>
      ifB (decide ((r7.2.1 : Int) = 0)) (
       cl PP 20 #[.slice r7.1.a r7.1.len r7.1.cap, .slice x0.a x0.len x0.cap] [.lf .bool] fun r8 =>
       ifB r8.1 (
        j1 (())) (
        K (.bool false))) (
       K (.bool false))) (
      j1 (()))))
theorem c4 (x0 : SlV) (x1 : SlV) {K : Value → HP} {L : HList} (h : s4 x0 x1 (HL.Ends K) L) : CallF PP 4 #[.slice x0.a x0.len x0.cap, .slice x1.a x1.len x1.cap] L K := by
  refine CallF.of (args := [.slice x0.a x0.len x0.cap, .slice x1.a x1.len x1.cap]) noNum mixed Try.func4 (e4 x0 x1 _) (fr_run ?_ h)
  unfold s4 t4
  refine fr_ifB ?_ ?_
  · refine fr_cl fun r1 => ?_
    exact fr_end
  · refine fr_ifB ?_ ?_
    · refine fr_cl fun r2 => ?_
      exact fr_end
    · refine fr_cl fun r3 => ?_
      refine fr_cl fun r4 => ?_
      refine fr_cl fun r5 => ?_
      refine fr_cl fun r6 => ?_
      refine fr_jn0 (fun y1 => ?_) fun j1' j1 hj1 => ?_
      · refine fr_cl fun r9 => ?_
        refine fr_ifB ?_ ?_
        · refine fr_ifEq ?_ ?_
          · refine fr_cl fun r10 => ?_
            refine fr_ifB ?_ ?_
            · refine fr_ifEq ?_ ?_
              · refine fr_cl fun r11 => ?_
                exact fr_end
              · exact fr_end
            · exact fr_end
          · exact fr_end
        · exact fr_end
      · refine fr_ifEq ?_ ?_
        · refine fr_cl fun r7 => ?_
          refine fr_ifNe ?_ ?_
          · exact fr_end
          · refine fr_cl fun r8 => ?_
            refine fr_ifNot ?_ ?_
            · exact fr_end
            · exact fr_wk (hj1 _) rfl
        · exact fr_wk (hj1 _) rfl

/-- depot/depotlaw32.PlainDoes -/
def s5 (x0 : SlV) (K : Value → HP) : HP :=
  cl PP 22 #[.slice x0.a x0.len x0.cap, .int .i64 300, .int .i64 300] [.lf .bool] fun r1 =>
  ifB r1.1 (
   cl PP 24 #[] [.lf .ptr] fun r3 =>
   nw (.cells #[.slice none 0 0] 60) fun n1 =>
   lp [.lf (.int .i64)] (0, ()) fun z1 go1 =>   -- i
    ifB (decide ((z1.1 : Int) < x0.len)) (
     elp x0.a x0.len z1.1 4 fun a1 =>
     ld a1 (.agg [.int .i64, .str, .str, .bool]) fun v1 =>
     jn (fun y1 : RsV [.lf .bool, .lf .bool] =>
      ifB (!(y1.1 == y1.2.1)) (
       K (.bool false)) (
       cl PP 36 #[.pointer r3.1] [.lf .sl] fun r14 =>
       cl PP 37 #[.pointer (some ⟨n1, 0, none⟩)] [.lf .sl] fun r15 =>
       cl PP 35 #[.slice r14.1.a r14.1.len r14.1.cap, .slice r15.1.a r15.1.len r15.1.cap] [.lf .bool] fun r16 =>
       ifB r16.1 (
        w64 (z1.1 + 1) fun i1 =>
        go1 (i1, ())) (
        K (.bool false)))) fun j1 =>
     ifB (decide ((v1.1 : Int) = 0)) (
       cl PP 25 #[.pointer r3.1, .string v1.2.1, .string v1.2.2.1] [] fun r4 =>
       cl PP 26 #[.pointer (some ⟨n1, 0, none⟩), .string v1.2.1, .string v1.2.2.1] [] fun r5 =>
       j1 (true, true, ())) (
       ifB (decide ((v1.1 : Int) = 1)) (
        cl PP 27 #[.pointer r3.1, .string v1.2.1] [] fun r6 =>
        cl PP 28 #[.pointer (some ⟨n1, 0, none⟩), .string v1.2.1] [] fun r7 =>
        j1 (true, true, ())) (
        ifB (decide ((v1.1 : Int) = 2)) (
         cl PP 29 #[.pointer r3.1] [] fun r8 =>
         cl PP 30 #[.pointer (some ⟨n1, 0, none⟩)] [] fun r9 =>
         j1 (true, true, ())) (
         ifB (decide ((v1.1 : Int) = 3)) (
          cl PP 31 #[.pointer r3.1, .string v1.2.1, .string v1.2.2.1, .bool v1.2.2.2.1] [.lf .bool] fun r10 =>
          cl PP 32 #[.pointer (some ⟨n1, 0, none⟩), .string v1.2.1, .string v1.2.2.1, .bool v1.2.2.2.1] [.lf .bool] fun r11 =>
          j1 (r10.1, r11.1, ())) (
          cl PP 33 #[.pointer r3.1, .string v1.2.1, .string v1.2.2.1, .bool v1.2.2.2.1] [.lf .bool] fun r12 =>
          cl PP 34 #[.pointer (some ⟨n1, 0, none⟩), .string v1.2.1, .string v1.2.2.1, .bool v1.2.2.2.1] [.lf .bool] fun r13 =>
          j1 (r12.1, r13.1, ())))))) (
     cl PP 23 #[] [.lf .bool] fun r17 =>
     K (.bool r17.1))) (
   cl PP 23 #[] [.lf .bool] fun r2 =>
   K (.bool r2.1))
theorem c5 (x0 : SlV) {K : Value → HP} {L : HList} (h : s5 x0 (HL.Ends K) L) : CallF PP 5 #[.slice x0.a x0.len x0.cap] L K := by
  refine CallF.of (args := [.slice x0.a x0.len x0.cap]) noNum mixed Try.func5 (e5 x0 _) (fr_run ?_ h)
  unfold s5 t5
  refine fr_cl fun r1 => ?_
  refine fr_ifNot ?_ ?_
  · refine fr_cl fun r2 => ?_
    exact fr_end
  · refine fr_cl fun r3 => ?_
    refine fr_nw fun n1 => ?_
    refine fr_lp0 fun go1' go1 hgo1 z1 => ?_
    refine fr_ifB ?_ ?_
    · refine fr_elpK fun a1 ha1 => ?_
      refine fr_ld fun v1 => ?_
      refine fr_nwL fun n2 => ?_
      refine fr_stI 0 0 rfl rfl rfl rfl ?_
      refine fr_jn0 (fun y1 => ?_) fun j1' j1 hj1 => ?_
      · refine fr_ifB ?_ ?_
        · exact fr_end
        · refine fr_cl fun r14 => ?_
          refine fr_cl fun r15 => ?_
          refine fr_cl fun r16 => ?_
          refine fr_ifNot ?_ ?_
          · exact fr_end
          · refine fr_w64 ?_
            exact fr_wk (hgo1 _) rfl
      · refine fr_ldI 0 0 rfl rfl rfl ?_
        refine fr_ifEq ?_ ?_
        · refine fr_ldI 0 1 rfl rfl rfl ?_
          refine fr_ldI 0 2 rfl rfl rfl ?_
          refine fr_cl fun r4 => ?_
          refine fr_ldI 0 1 rfl rfl rfl ?_
          refine fr_ldI 0 2 rfl rfl rfl ?_
          refine fr_cl fun r5 => ?_
          exact fr_wk (hj1 _) rfl
        · refine fr_ifEq ?_ ?_
          · refine fr_ldI 0 1 rfl rfl rfl ?_
            refine fr_cl fun r6 => ?_
            refine fr_ldI 0 1 rfl rfl rfl ?_
            refine fr_cl fun r7 => ?_
            exact fr_wk (hj1 _) rfl
          · refine fr_ifEq ?_ ?_
            · refine fr_cl fun r8 => ?_
              refine fr_cl fun r9 => ?_
              exact fr_wk (hj1 _) rfl
            · refine fr_ifEq ?_ ?_
              · refine fr_ldI 0 1 rfl rfl rfl ?_
                refine fr_ldI 0 2 rfl rfl rfl ?_
                refine fr_ldI 0 3 rfl rfl rfl ?_
                refine fr_ldI 0 1 rfl rfl rfl ?_
                refine fr_ldI 0 2 rfl rfl rfl ?_
                refine fr_ldI 0 3 rfl rfl rfl ?_
                refine fr_cl fun r10 => ?_
                refine fr_keepI 0 3 rfl rfl rfl ?_
                refine fr_keepI 0 2 rfl rfl rfl ?_
                refine fr_keepI 0 1 rfl rfl rfl ?_
                refine fr_cl fun r11 => ?_
                exact fr_wk (hj1 _) rfl
              · refine fr_ldI 0 1 rfl rfl rfl ?_
                refine fr_ldI 0 2 rfl rfl rfl ?_
                refine fr_ldI 0 3 rfl rfl rfl ?_
                refine fr_ldI 0 1 rfl rfl rfl ?_
                refine fr_ldI 0 2 rfl rfl rfl ?_
                refine fr_ldI 0 3 rfl rfl rfl ?_
                refine fr_cl fun r12 => ?_
                refine fr_keepI 0 3 rfl rfl rfl ?_
                refine fr_keepI 0 2 rfl rfl rfl ?_
                refine fr_keepI 0 1 rfl rfl rfl ?_
                refine fr_cl fun r13 => ?_
                exact fr_wk (hj1 _) rfl
    · refine fr_cl fun r17 => ?_
      exact fr_end

/-- depot/depotlaw25.RegionTorn -/
def s6 (x0 : SlV) (x1 : Bool) (x2 : Int) (x3 : Int) (K : Value → HP) : HP :=
  cl PP 38 #[.agg #[.int .i64 2, .int .i64 16, .int .i64 64, .int .i64 9]] [.lf .ptr, .lf (.int .i64)] fun r1 =>
  ifB (decide ((r1.2.1 : Int) = 0)) (
   ifB (decide ((x0.len : Int) > 20)) (
    cl PP 9 #[] [.lf .bool] fun r2 =>
    K (.bool r2.1)) (
    lp [.lf (.int .i64)] (0, ()) fun z1 go1 =>   -- i
     ifB (decide ((z1.1 : Int) < x0.len)) (
      elp x0.a x0.len z1.1 1 fun a1 =>
      ld a1 (.lf .sl) fun v1 =>
      cl PP 8 #[.slice v1.a v1.len v1.cap, .int .i64 8, .int .i64 48] [.lf .bool] fun r3 =>
      ifB r3.1 (
       ld a1 (.lf .sl) fun v2 =>
       ifB (decide ((v2.len : Int) = 0)) (
        cl PP 9 #[] [.lf .bool] fun r5 =>
        K (.bool r5.1)) (
        w64 (z1.1 + 1) fun i1 =>
        go1 (i1, ()))) (
       cl PP 9 #[] [.lf .bool] fun r4 =>
       K (.bool r4.1))) (
      cl PP 39 #[.pointer r1.1, .int .i64 x2, .int .i64 x3] [] fun r6 =>
      cl PP 40 #[.pointer r1.1, .int .i64 1, .int .i64 9] [.lf (.int .i64)] fun r7 =>
      jn (fun y1 : RsV [.lf (.int .i64), .lf (.int .i64), .lf .sl] =>
       jn (fun y2 : RsV [.lf (.int .i64), .lf .bool] =>
        ifB (decide ((y2.1 : Int) = 0)) (
         cl PP 44 #[.pointer r1.1] [] fun r45 =>
         cl PP 42 #[.pointer r1.1] [.lf .sl] fun r46 =>
         ifB (decide ((r46.1.len : Int) > 1)) (
          K (.bool false)) (
          ifB (!(((r46.1.len : Int) == 1) == ((y2.1 : Int) == 11))) (
           K (.bool false)) (
           ifB (decide ((r46.1.len : Int) = 1)) (
            elp r46.1.a r46.1.len 0 4 fun a6 =>
            ld (Addr.add a6 3) (.lf .sl) fun v16 =>
            smR PP (Conv.bytesToString (.slice v16.a v16.len v16.cap)) [.lf .str] fun v17 =>
            ld (Addr.add a6 2) (.lf .sl) fun v18 =>
            smR PP (Conv.bytesToString (.slice v18.a v18.len v18.cap)) [.lf .str] fun v19 =>
            ifB (decide ((r46.1.len : Int) = 1)) (
             ifB (ByteArray.toList v17.1 == ByteArray.toList v19.1) (
              cl PP 46 #[.pointer r1.1, .int .i64 1] [.lf .sl, .lf (.int .i64)] fun r55 =>
              cl PP 10 #[.slice r55.1.a r55.1.len r55.1.cap] [.agg [.int .i64, .bool, .sl], .lf .bool] fun r56 =>
              ifB ((r7.1 : Int) == 0) (
               ifB (decide ((r55.2.1 : Int) = 0)) (
                ifB r56.2.1 (
                 ifB (decide ((r56.1.1 : Int) = 9)) (
                  cl PP 12 #[.slice r56.1.2.2.1.a r56.1.2.2.1.len r56.1.2.2.1.cap, .slice y1.2.2.1.a y1.2.2.1.len y1.2.2.1.cap] [.lf .bool] fun r58 =>
                  ifB r58.1 (
                   ifB (r56.1.2.1 == y2.2.1) (
                    cl PP 9 #[] [.lf .bool] fun r59 =>
                    K (.bool r59.1)) (
                    ifB (decide (v17.1 = v19.1)) (
                     ifB (r56.1.2.1 == x1) (
                      cl PP 9 #[] [.lf .bool] fun r60 =>
                      K (.bool r60.1)) (
                      K (.bool false))) (
                     K (.bool false)))) (
                   K (.bool false))) (
                  K (.bool false))) (
                 K (.bool false))) (
                K (.bool false))) (
               ifB (decide ((r55.2.1 : Int) = 0)) (
                ifB (r56.2.1 == (ByteArray.toList v17.1 == ByteArray.toList v19.1)) (
                 ifB (decide ((r56.1.2.2.1.len : Int) = 0)) (
                  cl PP 9 #[] [.lf .bool] fun r57 =>
                  K (.bool r57.1)) (
                  K (.bool false))) (
                 K (.bool false))) (
                K (.bool false)))) (
              ld (Addr.add a6 3) (.lf .sl) fun v20 =>
              cl PP 45 #[.slice v20.a v20.len v20.cap] [.lf .bool] fun r47 =>
              ifB r47.1 (
               cl PP 9 #[] [.lf .bool] fun r48 =>
               K (.bool r48.1)) (
               cl PP 46 #[.pointer r1.1, .int .i64 1] [.lf .sl, .lf (.int .i64)] fun r49 =>
               cl PP 10 #[.slice r49.1.a r49.1.len r49.1.cap] [.agg [.int .i64, .bool, .sl], .lf .bool] fun r50 =>
               ifB ((r7.1 : Int) == 0) (
                ifB (decide ((r49.2.1 : Int) = 0)) (
                 ifB r50.2.1 (
                  ifB (decide ((r50.1.1 : Int) = 9)) (
                   cl PP 12 #[.slice r50.1.2.2.1.a r50.1.2.2.1.len r50.1.2.2.1.cap, .slice y1.2.2.1.a y1.2.2.1.len y1.2.2.1.cap] [.lf .bool] fun r52 =>
                   ifB r52.1 (
                    ifB (r50.1.2.1 == y2.2.1) (
                     cl PP 9 #[] [.lf .bool] fun r53 =>
                     K (.bool r53.1)) (
                     ifB (decide (v17.1 = v19.1)) (
                      ifB (r50.1.2.1 == x1) (
                       cl PP 9 #[] [.lf .bool] fun r54 =>
                       K (.bool r54.1)) (
                       K (.bool false))) (
                      K (.bool false)))) (
                    K (.bool false))) (
                   K (.bool false))) (
                  K (.bool false))) (
                 K (.bool false))) (
                ifB (decide ((r49.2.1 : Int) = 0)) (
                 ifB (r50.2.1 == (ByteArray.toList v17.1 == ByteArray.toList v19.1)) (
                  ifB (decide ((r50.1.2.2.1.len : Int) = 0)) (
                   cl PP 9 #[] [.lf .bool] fun r51 =>
                   K (.bool r51.1)) (
                   K (.bool false))) (
                  K (.bool false))) (
                 K (.bool false)))))) (
             cl PP 46 #[.pointer r1.1, .int .i64 1] [.lf .sl, .lf (.int .i64)] fun r61 =>
             cl PP 10 #[.slice r61.1.a r61.1.len r61.1.cap] [.agg [.int .i64, .bool, .sl], .lf .bool] fun r62 =>
             ifB ((r7.1 : Int) == 0) (
              ifB (decide ((r61.2.1 : Int) = 0)) (
               ifB r62.2.1 (
                ifB (decide ((r62.1.1 : Int) = 9)) (
                 cl PP 12 #[.slice r62.1.2.2.1.a r62.1.2.2.1.len r62.1.2.2.1.cap, .slice y1.2.2.1.a y1.2.2.1.len y1.2.2.1.cap] [.lf .bool] fun r64 =>
                 ifB r64.1 (
                  ifB (r62.1.2.1 == y2.2.1) (
                   cl PP 9 #[] [.lf .bool] fun r65 =>
                   K (.bool r65.1)) (
                   ifB (decide (v17.1 = v19.1)) (
                    ifB (r62.1.2.1 == x1) (
                     cl PP 9 #[] [.lf .bool] fun r66 =>
                     K (.bool r66.1)) (
                     K (.bool false))) (
                    K (.bool false)))) (
                  K (.bool false))) (
                 K (.bool false))) (
                K (.bool false))) (
               K (.bool false))) (
              ifB (decide ((r61.2.1 : Int) = 0)) (
               ifB (r62.2.1 == (ByteArray.toList v17.1 == ByteArray.toList v19.1)) (
                ifB (decide ((r62.1.2.2.1.len : Int) = 0)) (
                 cl PP 9 #[] [.lf .bool] fun r63 =>
                 K (.bool r63.1)) (
                 K (.bool false))) (
                K (.bool false))) (
               K (.bool false))))) (
            ifB (decide ((r46.1.len : Int) = 1)) (
             elp r46.1.a r46.1.len 0 4 fun a7 =>
             ld (Addr.add a7 3) (.lf .sl) fun v21 =>
             cl PP 45 #[.slice v21.a v21.len v21.cap] [.lf .bool] fun r67 =>
             ifB r67.1 (
              cl PP 9 #[] [.lf .bool] fun r68 =>
              K (.bool r68.1)) (
              cl PP 46 #[.pointer r1.1, .int .i64 1] [.lf .sl, .lf (.int .i64)] fun r69 =>
              cl PP 10 #[.slice r69.1.a r69.1.len r69.1.cap] [.agg [.int .i64, .bool, .sl], .lf .bool] fun r70 =>
              ifB ((r7.1 : Int) == 0) (
               ifB (decide ((r69.2.1 : Int) = 0)) (
                ifB r70.2.1 (
                 ifB (decide ((r70.1.1 : Int) = 9)) (
                  cl PP 12 #[.slice r70.1.2.2.1.a r70.1.2.2.1.len r70.1.2.2.1.cap, .slice y1.2.2.1.a y1.2.2.1.len y1.2.2.1.cap] [.lf .bool] fun r72 =>
                  ifB r72.1 (
                   ifB (r70.1.2.1 == y2.2.1) (
                    cl PP 9 #[] [.lf .bool] fun r73 =>
                    K (.bool r73.1)) (
                    K (.bool false))) (
                   K (.bool false))) (
                  K (.bool false))) (
                 K (.bool false))) (
                K (.bool false))) (
               ifB (decide ((r69.2.1 : Int) = 0)) (
                ifB (r70.2.1 == false) (
                 ifB (decide ((r70.1.2.2.1.len : Int) = 0)) (
                  cl PP 9 #[] [.lf .bool] fun r71 =>
                  K (.bool r71.1)) (
                  K (.bool false))) (
                 K (.bool false))) (
                K (.bool false))))) (
             cl PP 46 #[.pointer r1.1, .int .i64 1] [.lf .sl, .lf (.int .i64)] fun r74 =>
             cl PP 10 #[.slice r74.1.a r74.1.len r74.1.cap] [.agg [.int .i64, .bool, .sl], .lf .bool] fun r75 =>
             ifB ((r7.1 : Int) == 0) (
              ifB (decide ((r74.2.1 : Int) = 0)) (
               ifB r75.2.1 (
                ifB (decide ((r75.1.1 : Int) = 9)) (
                 cl PP 12 #[.slice r75.1.2.2.1.a r75.1.2.2.1.len r75.1.2.2.1.cap, .slice y1.2.2.1.a y1.2.2.1.len y1.2.2.1.cap] [.lf .bool] fun r77 =>
                 ifB r77.1 (
                  ifB (r75.1.2.1 == y2.2.1) (
                   cl PP 9 #[] [.lf .bool] fun r78 =>
                   K (.bool r78.1)) (
                   K (.bool false))) (
                  K (.bool false))) (
                 K (.bool false))) (
                K (.bool false))) (
               K (.bool false))) (
              ifB (decide ((r74.2.1 : Int) = 0)) (
               ifB (r75.2.1 == false) (
                ifB (decide ((r75.1.2.2.1.len : Int) = 0)) (
                 cl PP 9 #[] [.lf .bool] fun r76 =>
                 K (.bool r76.1)) (
                 K (.bool false))) (
                K (.bool false))) (
               K (.bool false)))))))) (
         ifB (decide ((y2.1 : Int) = 11)) (
          cl PP 44 #[.pointer r1.1] [] fun r11 =>
          cl PP 42 #[.pointer r1.1] [.lf .sl] fun r12 =>
          ifB (decide ((r12.1.len : Int) > 1)) (
           K (.bool false)) (
           ifB (!(((r12.1.len : Int) == 1) == ((y2.1 : Int) == 11))) (
            K (.bool false)) (
            ifB (decide ((r12.1.len : Int) = 1)) (
             elp r12.1.a r12.1.len 0 4 fun a4 =>
             ld (Addr.add a4 3) (.lf .sl) fun v10 =>
             smR PP (Conv.bytesToString (.slice v10.a v10.len v10.cap)) [.lf .str] fun v11 =>
             ld (Addr.add a4 2) (.lf .sl) fun v12 =>
             smR PP (Conv.bytesToString (.slice v12.a v12.len v12.cap)) [.lf .str] fun v13 =>
             ifB (decide ((r12.1.len : Int) = 1)) (
              ifB (ByteArray.toList v11.1 == ByteArray.toList v13.1) (
               cl PP 46 #[.pointer r1.1, .int .i64 1] [.lf .sl, .lf (.int .i64)] fun r21 =>
               cl PP 10 #[.slice r21.1.a r21.1.len r21.1.cap] [.agg [.int .i64, .bool, .sl], .lf .bool] fun r22 =>
               ifB ((r7.1 : Int) == 0) (
                ifB (decide ((r21.2.1 : Int) = 0)) (
                 ifB r22.2.1 (
                  ifB (decide ((r22.1.1 : Int) = 9)) (
                   cl PP 12 #[.slice r22.1.2.2.1.a r22.1.2.2.1.len r22.1.2.2.1.cap, .slice y1.2.2.1.a y1.2.2.1.len y1.2.2.1.cap] [.lf .bool] fun r24 =>
                   ifB r24.1 (
                    ifB (r22.1.2.1 == y2.2.1) (
                     cl PP 9 #[] [.lf .bool] fun r25 =>
                     K (.bool r25.1)) (
                     ifB (decide (v11.1 = v13.1)) (
                      ifB (r22.1.2.1 == x1) (
                       cl PP 9 #[] [.lf .bool] fun r26 =>
                       K (.bool r26.1)) (
                       K (.bool false))) (
                      K (.bool false)))) (
                    K (.bool false))) (
                   K (.bool false))) (
                  K (.bool false))) (
                 K (.bool false))) (
                ifB (decide ((r21.2.1 : Int) = 0)) (
                 ifB (r22.2.1 == (ByteArray.toList v11.1 == ByteArray.toList v13.1)) (
                  ifB (decide ((r22.1.2.2.1.len : Int) = 0)) (
                   cl PP 9 #[] [.lf .bool] fun r23 =>
                   K (.bool r23.1)) (
                   K (.bool false))) (
                  K (.bool false))) (
                 K (.bool false)))) (
               ld (Addr.add a4 3) (.lf .sl) fun v14 =>
               cl PP 45 #[.slice v14.a v14.len v14.cap] [.lf .bool] fun r13 =>
               ifB r13.1 (
                cl PP 9 #[] [.lf .bool] fun r14 =>
                K (.bool r14.1)) (
                cl PP 46 #[.pointer r1.1, .int .i64 1] [.lf .sl, .lf (.int .i64)] fun r15 =>
                cl PP 10 #[.slice r15.1.a r15.1.len r15.1.cap] [.agg [.int .i64, .bool, .sl], .lf .bool] fun r16 =>
                ifB ((r7.1 : Int) == 0) (
                 ifB (decide ((r15.2.1 : Int) = 0)) (
                  ifB r16.2.1 (
                   ifB (decide ((r16.1.1 : Int) = 9)) (
                    cl PP 12 #[.slice r16.1.2.2.1.a r16.1.2.2.1.len r16.1.2.2.1.cap, .slice y1.2.2.1.a y1.2.2.1.len y1.2.2.1.cap] [.lf .bool] fun r18 =>
                    ifB r18.1 (
                     ifB (r16.1.2.1 == y2.2.1) (
                      cl PP 9 #[] [.lf .bool] fun r19 =>
                      K (.bool r19.1)) (
                      ifB (decide (v11.1 = v13.1)) (
                       ifB (r16.1.2.1 == x1) (
                        cl PP 9 #[] [.lf .bool] fun r20 =>
                        K (.bool r20.1)) (
                        K (.bool false))) (
                       K (.bool false)))) (
                     K (.bool false))) (
                    K (.bool false))) (
                   K (.bool false))) (
                  K (.bool false))) (
                 ifB (decide ((r15.2.1 : Int) = 0)) (
                  ifB (r16.2.1 == (ByteArray.toList v11.1 == ByteArray.toList v13.1)) (
                   ifB (decide ((r16.1.2.2.1.len : Int) = 0)) (
                    cl PP 9 #[] [.lf .bool] fun r17 =>
                    K (.bool r17.1)) (
                    K (.bool false))) (
                   K (.bool false))) (
                  K (.bool false)))))) (
              cl PP 46 #[.pointer r1.1, .int .i64 1] [.lf .sl, .lf (.int .i64)] fun r27 =>
              cl PP 10 #[.slice r27.1.a r27.1.len r27.1.cap] [.agg [.int .i64, .bool, .sl], .lf .bool] fun r28 =>
              ifB ((r7.1 : Int) == 0) (
               ifB (decide ((r27.2.1 : Int) = 0)) (
                ifB r28.2.1 (
                 ifB (decide ((r28.1.1 : Int) = 9)) (
                  cl PP 12 #[.slice r28.1.2.2.1.a r28.1.2.2.1.len r28.1.2.2.1.cap, .slice y1.2.2.1.a y1.2.2.1.len y1.2.2.1.cap] [.lf .bool] fun r30 =>
                  ifB r30.1 (
                   ifB (r28.1.2.1 == y2.2.1) (
                    cl PP 9 #[] [.lf .bool] fun r31 =>
                    K (.bool r31.1)) (
                    ifB (decide (v11.1 = v13.1)) (
                     ifB (r28.1.2.1 == x1) (
                      cl PP 9 #[] [.lf .bool] fun r32 =>
                      K (.bool r32.1)) (
                      K (.bool false))) (
                     K (.bool false)))) (
                   K (.bool false))) (
                  K (.bool false))) (
                 K (.bool false))) (
                K (.bool false))) (
               ifB (decide ((r27.2.1 : Int) = 0)) (
                ifB (r28.2.1 == (ByteArray.toList v11.1 == ByteArray.toList v13.1)) (
                 ifB (decide ((r28.1.2.2.1.len : Int) = 0)) (
                  cl PP 9 #[] [.lf .bool] fun r29 =>
                  K (.bool r29.1)) (
                  K (.bool false))) (
                 K (.bool false))) (
                K (.bool false))))) (
             ifB (decide ((r12.1.len : Int) = 1)) (
              elp r12.1.a r12.1.len 0 4 fun a5 =>
              ld (Addr.add a5 3) (.lf .sl) fun v15 =>
              cl PP 45 #[.slice v15.a v15.len v15.cap] [.lf .bool] fun r33 =>
              ifB r33.1 (
               cl PP 9 #[] [.lf .bool] fun r34 =>
               K (.bool r34.1)) (
               cl PP 46 #[.pointer r1.1, .int .i64 1] [.lf .sl, .lf (.int .i64)] fun r35 =>
               cl PP 10 #[.slice r35.1.a r35.1.len r35.1.cap] [.agg [.int .i64, .bool, .sl], .lf .bool] fun r36 =>
               ifB ((r7.1 : Int) == 0) (
                ifB (decide ((r35.2.1 : Int) = 0)) (
                 ifB r36.2.1 (
                  ifB (decide ((r36.1.1 : Int) = 9)) (
                   cl PP 12 #[.slice r36.1.2.2.1.a r36.1.2.2.1.len r36.1.2.2.1.cap, .slice y1.2.2.1.a y1.2.2.1.len y1.2.2.1.cap] [.lf .bool] fun r38 =>
                   ifB r38.1 (
                    ifB (r36.1.2.1 == y2.2.1) (
                     cl PP 9 #[] [.lf .bool] fun r39 =>
                     K (.bool r39.1)) (
                     K (.bool false))) (
                    K (.bool false))) (
                   K (.bool false))) (
                  K (.bool false))) (
                 K (.bool false))) (
                ifB (decide ((r35.2.1 : Int) = 0)) (
                 ifB (r36.2.1 == false) (
                  ifB (decide ((r36.1.2.2.1.len : Int) = 0)) (
                   cl PP 9 #[] [.lf .bool] fun r37 =>
                   K (.bool r37.1)) (
                   K (.bool false))) (
                  K (.bool false))) (
                 K (.bool false))))) (
              cl PP 46 #[.pointer r1.1, .int .i64 1] [.lf .sl, .lf (.int .i64)] fun r40 =>
              cl PP 10 #[.slice r40.1.a r40.1.len r40.1.cap] [.agg [.int .i64, .bool, .sl], .lf .bool] fun r41 =>
              ifB ((r7.1 : Int) == 0) (
               ifB (decide ((r40.2.1 : Int) = 0)) (
                ifB r41.2.1 (
                 ifB (decide ((r41.1.1 : Int) = 9)) (
                  cl PP 12 #[.slice r41.1.2.2.1.a r41.1.2.2.1.len r41.1.2.2.1.cap, .slice y1.2.2.1.a y1.2.2.1.len y1.2.2.1.cap] [.lf .bool] fun r43 =>
                  ifB r43.1 (
                   ifB (r41.1.2.1 == y2.2.1) (
                    cl PP 9 #[] [.lf .bool] fun r44 =>
                    K (.bool r44.1)) (
                    K (.bool false))) (
                   K (.bool false))) (
                  K (.bool false))) (
                 K (.bool false))) (
                K (.bool false))) (
               ifB (decide ((r40.2.1 : Int) = 0)) (
                ifB (r41.2.1 == false) (
                 ifB (decide ((r41.1.2.2.1.len : Int) = 0)) (
                  cl PP 9 #[] [.lf .bool] fun r42 =>
                  K (.bool r42.1)) (
                  K (.bool false))) (
                 K (.bool false))) (
                K (.bool false)))))))) (
          K (.bool false)))) fun j2 =>
       ifB (decide ((y1.1 : Int) = 0)) (
         ifB x1 (
          cl PP 43 #[.pointer r1.1, .int .i64 1, .int .i64 9, .int .i64 y1.2.1, .slice y1.2.2.1.a y1.2.2.1.len y1.2.2.1.cap] [.lf (.int .i64)] fun r10 =>
          j2 (r10.1, (r10.1 : Int) == 0, ())) (
          j2 (y1.1, false, ()))) (
         j2 (y1.1, false, ()))) fun j1 =>
      lp [.lf (.int .i64), .lf (.int .i64), .lf .sl, .lf (.int .i64)] (r7.1, 1, ⟨none, 0, 0⟩, 0, ()) fun z2 go2 =>   -- a, at, want, i
        ifB (decide ((z2.2.2.2.1 : Int) < x0.len)) (
         ifB (decide ((z2.1 : Int) = 0)) (
          elp x0.a x0.len z2.2.2.2.1 1 fun a2 =>
          ld a2 (.lf .sl) fun v3 =>
          w64 (z2.2.1 + v3.len) fun i2 =>
          ifB (decide ((i2 : Int) > 15)) (
           j1 (z2.1, z2.2.1, z2.2.2.1, ())) (
           ld a2 (.lf .sl) fun v4 =>
           cl PP 41 #[.pointer r1.1, .int .i64 1, .int .i64 9, .int .i64 z2.2.1, .int .i64 2, .slice v4.a v4.len v4.cap] [.lf (.int .i64)] fun r8 =>
           cl PP 42 #[.pointer r1.1] [.lf .sl] fun r9 =>
           ifB (decide ((r8.1 : Int) = 0)) (
            apv PP 27 27 27 24 z2.2.2.1 1 [.int .i64 2, .int .i64 z2.2.1, .int .i64 v3.len] fun s1 =>
            w64 (z2.2.1 + v3.len) fun i3 =>
            w64 (z2.2.2.2.1 + 1) fun i4 =>
            go2 (r8.1, i3, s1, i4, ())) (
            ifB (decide ((r9.1.len : Int) = 1)) (
             elp r9.1.a r9.1.len 0 4 fun a3 =>
             w64 (z2.2.1 + v3.len) fun i5 =>
             w64 (i5 - 1) fun i6 =>
             ld (Addr.add a3 1) (.lf (.int .i64)) fun v5 =>
             ifB (decide ((v5 : Int) = i6)) (
              ld (Addr.add a3 3) (.lf .sl) fun v6 =>
              smR PP (Conv.bytesToString (.slice v6.a v6.len v6.cap)) [.lf .str] fun v7 =>
              ld (Addr.add a3 2) (.lf .sl) fun v8 =>
              smR PP (Conv.bytesToString (.slice v8.a v8.len v8.cap)) [.lf .str] fun v9 =>
              ifB (decide (v7.1 = v9.1)) (
               apv PP 27 27 27 24 z2.2.2.1 1 [.int .i64 2, .int .i64 z2.2.1, .int .i64 v3.len] fun s2 =>
               w64 (z2.2.1 + v3.len) fun i7 =>
               w64 (z2.2.2.2.1 + 1) fun i8 =>
               go2 (r8.1, i7, s2, i8, ())) (
               w64 (z2.2.1 + v3.len) fun i9 =>
               w64 (z2.2.2.2.1 + 1) fun i10 =>
               go2 (r8.1, i9, z2.2.2.1, i10, ()))) (
              w64 (z2.2.1 + v3.len) fun i11 =>
              w64 (z2.2.2.2.1 + 1) fun i12 =>
              go2 (r8.1, i11, z2.2.2.1, i12, ()))) (
             w64 (z2.2.1 + v3.len) fun i13 =>
             w64 (z2.2.2.2.1 + 1) fun i14 =>
             go2 (r8.1, i13, z2.2.2.1, i14, ()))))) (
          j1 (z2.1, z2.2.1, z2.2.2.1, ()))) (
         j1 (z2.1, z2.2.1, z2.2.2.1, ()))))) (
   K (.bool false))
theorem c6 (x0 : SlV) (x1 : Bool) (x2 : Int) (x3 : Int) {K : Value → HP} {L : HList} (h : s6 x0 x1 x2 x3 (HL.Ends K) L) : CallF PP 6 #[.slice x0.a x0.len x0.cap, .bool x1, .int .i64 x2, .int .i64 x3] L K := by
  refine CallF.of (args := [.slice x0.a x0.len x0.cap, .bool x1, .int .i64 x2, .int .i64 x3]) noNum mixed Try.func6 (e6 x0 x1 x2 x3 _) (fr_run ?_ h)
  unfold s6 t6
  refine fr_cl fun r1 => ?_
  refine fr_ifNe ?_ ?_
  · exact fr_end
  · refine fr_ifB ?_ ?_
    · refine fr_cl fun r2 => ?_
      exact fr_end
    · refine fr_lp0 fun go1' go1 hgo1 z1 => ?_
      refine fr_ifB ?_ ?_
      · refine fr_elpK fun a1 ha1 => ?_
        refine fr_ld fun v1 => ?_
        refine fr_cl fun r3 => ?_
        refine fr_ifNot ?_ ?_
        · refine fr_cl fun r4 => ?_
          exact fr_end
        · refine fr_elpE ha1 ?_
          refine fr_ld fun v2 => ?_
          refine fr_ifEq ?_ ?_
          · refine fr_cl fun r5 => ?_
            exact fr_end
          · refine fr_w64 ?_
            exact fr_wk (hgo1 _) rfl
      · refine fr_cl fun r6 => ?_
        refine fr_cl fun r7 => ?_
        refine fr_jn0 (fun y1 => ?_) fun j1' j1 hj1 => ?_
        · refine fr_jn0 (fun y2 => ?_) fun j2' j2 hj2 => ?_
          · refine fr_ifNe ?_ ?_
            · refine fr_ifNe ?_ ?_
              · exact fr_end
              · refine fr_cl fun r11 => ?_
                refine fr_cl fun r12 => ?_
                refine fr_ifB ?_ ?_
                · exact fr_end
                · refine fr_ifB ?_ ?_
                  · exact fr_end
                  · refine fr_ifEq ?_ ?_
                    · refine fr_elpK fun a4 ha4 => ?_
                      refine fr_elpE ha4 ?_
                      refine fr_ld fun v10 => ?_
                      refine fr_smR fun v11 => ?_
                      refine fr_ld fun v12 => ?_
                      refine fr_smR fun v13 => ?_
                      refine fr_ifEq ?_ ?_
                      · refine fr_ifNot ?_ ?_
                        · refine fr_elpE ha4 ?_
                          refine fr_ld fun v14 => ?_
                          refine fr_cl fun r13 => ?_
                          refine fr_ifB ?_ ?_
                          · refine fr_cl fun r14 => ?_
                            exact fr_end
                          · refine fr_cl fun r15 => ?_
                            refine fr_cl fun r16 => ?_
                            refine fr_nwL fun n4 => ?_
                            refine fr_stI 0 0 rfl rfl rfl rfl ?_
                            refine fr_ifNot ?_ ?_
                            · refine fr_ifEq ?_ ?_
                              · refine fr_ifB ?_ ?_
                                · refine fr_ldI 0 2 rfl rfl rfl ?_
                                  refine fr_ifEq ?_ ?_
                                  · refine fr_cl fun r17 => ?_
                                    exact fr_end
                                  · exact fr_end
                                · exact fr_end
                              · exact fr_end
                            · refine fr_ifEq ?_ ?_
                              · refine fr_ifB ?_ ?_
                                · refine fr_ldI 0 0 rfl rfl rfl ?_
                                  refine fr_ifEq ?_ ?_
                                  · refine fr_ldI 0 2 rfl rfl rfl ?_
                                    refine fr_cl fun r18 => ?_
                                    refine fr_ifB ?_ ?_
                                    · refine fr_ldI 0 1 rfl rfl rfl ?_
                                      refine fr_ifB ?_ ?_
                                      · refine fr_cl fun r19 => ?_
                                        exact fr_end
                                      · refine fr_ifS ?_ ?_
                                        · refine fr_ldI 0 1 rfl rfl rfl ?_
                                          refine fr_ifB ?_ ?_
                                          · refine fr_cl fun r20 => ?_
                                            exact fr_end
                                          · exact fr_end
                                        · exact fr_end
                                    · exact fr_end
                                  · exact fr_end
                                · exact fr_end
                              · exact fr_end
                        · refine fr_cl fun r21 => ?_
                          refine fr_cl fun r22 => ?_
                          refine fr_nwL fun n5 => ?_
                          refine fr_stI 0 0 rfl rfl rfl rfl ?_
                          refine fr_ifNot ?_ ?_
                          · refine fr_ifEq ?_ ?_
                            · refine fr_ifB ?_ ?_
                              · refine fr_ldI 0 2 rfl rfl rfl ?_
                                refine fr_ifEq ?_ ?_
                                · refine fr_cl fun r23 => ?_
                                  exact fr_end
                                · exact fr_end
                              · exact fr_end
                            · exact fr_end
                          · refine fr_ifEq ?_ ?_
                            · refine fr_ifB ?_ ?_
                              · refine fr_ldI 0 0 rfl rfl rfl ?_
                                refine fr_ifEq ?_ ?_
                                · refine fr_ldI 0 2 rfl rfl rfl ?_
                                  refine fr_cl fun r24 => ?_
                                  refine fr_ifB ?_ ?_
                                  · refine fr_ldI 0 1 rfl rfl rfl ?_
                                    refine fr_ifB ?_ ?_
                                    · refine fr_cl fun r25 => ?_
                                      exact fr_end
                                    · refine fr_ifS ?_ ?_
                                      · refine fr_ldI 0 1 rfl rfl rfl ?_
                                        refine fr_ifB ?_ ?_
                                        · refine fr_cl fun r26 => ?_
                                          exact fr_end
                                        · exact fr_end
                                      · exact fr_end
                                  · exact fr_end
                                · exact fr_end
                              · exact fr_end
                            · exact fr_end
                      · refine fr_cl fun r27 => ?_
                        refine fr_cl fun r28 => ?_
                        refine fr_nwL fun n6 => ?_
                        refine fr_stI 0 0 rfl rfl rfl rfl ?_
                        refine fr_ifNot ?_ ?_
                        · refine fr_ifEq ?_ ?_
                          · refine fr_ifB ?_ ?_
                            · refine fr_ldI 0 2 rfl rfl rfl ?_
                              refine fr_ifEq ?_ ?_
                              · refine fr_cl fun r29 => ?_
                                exact fr_end
                              · exact fr_end
                            · exact fr_end
                          · exact fr_end
                        · refine fr_ifEq ?_ ?_
                          · refine fr_ifB ?_ ?_
                            · refine fr_ldI 0 0 rfl rfl rfl ?_
                              refine fr_ifEq ?_ ?_
                              · refine fr_ldI 0 2 rfl rfl rfl ?_
                                refine fr_cl fun r30 => ?_
                                refine fr_ifB ?_ ?_
                                · refine fr_ldI 0 1 rfl rfl rfl ?_
                                  refine fr_ifB ?_ ?_
                                  · refine fr_cl fun r31 => ?_
                                    exact fr_end
                                  · refine fr_ifS ?_ ?_
                                    · refine fr_ldI 0 1 rfl rfl rfl ?_
                                      refine fr_ifB ?_ ?_
                                      · refine fr_cl fun r32 => ?_
                                        exact fr_end
                                      · exact fr_end
                                    · exact fr_end
                                · exact fr_end
                              · exact fr_end
                            · exact fr_end
                          · exact fr_end
                    · refine fr_ifEq ?_ ?_
                      · refine fr_elpK fun a5 ha5 => ?_
                        refine fr_ld fun v15 => ?_
                        refine fr_cl fun r33 => ?_
                        refine fr_ifB ?_ ?_
                        · refine fr_cl fun r34 => ?_
                          exact fr_end
                        · refine fr_cl fun r35 => ?_
                          refine fr_cl fun r36 => ?_
                          refine fr_nwL fun n7 => ?_
                          refine fr_stI 0 0 rfl rfl rfl rfl ?_
                          refine fr_ifNot ?_ ?_
                          · refine fr_ifEq ?_ ?_
                            · refine fr_ifB ?_ ?_
                              · refine fr_ldI 0 2 rfl rfl rfl ?_
                                refine fr_ifEq ?_ ?_
                                · refine fr_cl fun r37 => ?_
                                  exact fr_end
                                · exact fr_end
                              · exact fr_end
                            · exact fr_end
                          · refine fr_ifEq ?_ ?_
                            · refine fr_ifB ?_ ?_
                              · refine fr_ldI 0 0 rfl rfl rfl ?_
                                refine fr_ifEq ?_ ?_
                                · refine fr_ldI 0 2 rfl rfl rfl ?_
                                  refine fr_cl fun r38 => ?_
                                  refine fr_ifB ?_ ?_
                                  · refine fr_ldI 0 1 rfl rfl rfl ?_
                                    refine fr_ifB ?_ ?_
                                    · refine fr_cl fun r39 => ?_
                                      exact fr_end
                                    · exact fr_end
                                  · exact fr_end
                                · exact fr_end
                              · exact fr_end
                            · exact fr_end
                      · refine fr_cl fun r40 => ?_
                        refine fr_cl fun r41 => ?_
                        refine fr_nwL fun n8 => ?_
                        refine fr_stI 0 0 rfl rfl rfl rfl ?_
                        refine fr_ifNot ?_ ?_
                        · refine fr_ifEq ?_ ?_
                          · refine fr_ifB ?_ ?_
                            · refine fr_ldI 0 2 rfl rfl rfl ?_
                              refine fr_ifEq ?_ ?_
                              · refine fr_cl fun r42 => ?_
                                exact fr_end
                              · exact fr_end
                            · exact fr_end
                          · exact fr_end
                        · refine fr_ifEq ?_ ?_
                          · refine fr_ifB ?_ ?_
                            · refine fr_ldI 0 0 rfl rfl rfl ?_
                              refine fr_ifEq ?_ ?_
                              · refine fr_ldI 0 2 rfl rfl rfl ?_
                                refine fr_cl fun r43 => ?_
                                refine fr_ifB ?_ ?_
                                · refine fr_ldI 0 1 rfl rfl rfl ?_
                                  refine fr_ifB ?_ ?_
                                  · refine fr_cl fun r44 => ?_
                                    exact fr_end
                                  · exact fr_end
                                · exact fr_end
                              · exact fr_end
                            · exact fr_end
                          · exact fr_end
            · refine fr_cl fun r45 => ?_
              refine fr_cl fun r46 => ?_
              refine fr_ifB ?_ ?_
              · exact fr_end
              · refine fr_ifB ?_ ?_
                · exact fr_end
                · refine fr_ifEq ?_ ?_
                  · refine fr_elpK fun a6 ha6 => ?_
                    refine fr_elpE ha6 ?_
                    refine fr_ld fun v16 => ?_
                    refine fr_smR fun v17 => ?_
                    refine fr_ld fun v18 => ?_
                    refine fr_smR fun v19 => ?_
                    refine fr_ifEq ?_ ?_
                    · refine fr_ifNot ?_ ?_
                      · refine fr_elpE ha6 ?_
                        refine fr_ld fun v20 => ?_
                        refine fr_cl fun r47 => ?_
                        refine fr_ifB ?_ ?_
                        · refine fr_cl fun r48 => ?_
                          exact fr_end
                        · refine fr_cl fun r49 => ?_
                          refine fr_cl fun r50 => ?_
                          refine fr_nwL fun n9 => ?_
                          refine fr_stI 0 0 rfl rfl rfl rfl ?_
                          refine fr_ifNot ?_ ?_
                          · refine fr_ifEq ?_ ?_
                            · refine fr_ifB ?_ ?_
                              · refine fr_ldI 0 2 rfl rfl rfl ?_
                                refine fr_ifEq ?_ ?_
                                · refine fr_cl fun r51 => ?_
                                  exact fr_end
                                · exact fr_end
                              · exact fr_end
                            · exact fr_end
                          · refine fr_ifEq ?_ ?_
                            · refine fr_ifB ?_ ?_
                              · refine fr_ldI 0 0 rfl rfl rfl ?_
                                refine fr_ifEq ?_ ?_
                                · refine fr_ldI 0 2 rfl rfl rfl ?_
                                  refine fr_cl fun r52 => ?_
                                  refine fr_ifB ?_ ?_
                                  · refine fr_ldI 0 1 rfl rfl rfl ?_
                                    refine fr_ifB ?_ ?_
                                    · refine fr_cl fun r53 => ?_
                                      exact fr_end
                                    · refine fr_ifS ?_ ?_
                                      · refine fr_ldI 0 1 rfl rfl rfl ?_
                                        refine fr_ifB ?_ ?_
                                        · refine fr_cl fun r54 => ?_
                                          exact fr_end
                                        · exact fr_end
                                      · exact fr_end
                                  · exact fr_end
                                · exact fr_end
                              · exact fr_end
                            · exact fr_end
                      · refine fr_cl fun r55 => ?_
                        refine fr_cl fun r56 => ?_
                        refine fr_nwL fun n10 => ?_
                        refine fr_stI 0 0 rfl rfl rfl rfl ?_
                        refine fr_ifNot ?_ ?_
                        · refine fr_ifEq ?_ ?_
                          · refine fr_ifB ?_ ?_
                            · refine fr_ldI 0 2 rfl rfl rfl ?_
                              refine fr_ifEq ?_ ?_
                              · refine fr_cl fun r57 => ?_
                                exact fr_end
                              · exact fr_end
                            · exact fr_end
                          · exact fr_end
                        · refine fr_ifEq ?_ ?_
                          · refine fr_ifB ?_ ?_
                            · refine fr_ldI 0 0 rfl rfl rfl ?_
                              refine fr_ifEq ?_ ?_
                              · refine fr_ldI 0 2 rfl rfl rfl ?_
                                refine fr_cl fun r58 => ?_
                                refine fr_ifB ?_ ?_
                                · refine fr_ldI 0 1 rfl rfl rfl ?_
                                  refine fr_ifB ?_ ?_
                                  · refine fr_cl fun r59 => ?_
                                    exact fr_end
                                  · refine fr_ifS ?_ ?_
                                    · refine fr_ldI 0 1 rfl rfl rfl ?_
                                      refine fr_ifB ?_ ?_
                                      · refine fr_cl fun r60 => ?_
                                        exact fr_end
                                      · exact fr_end
                                    · exact fr_end
                                · exact fr_end
                              · exact fr_end
                            · exact fr_end
                          · exact fr_end
                    · refine fr_cl fun r61 => ?_
                      refine fr_cl fun r62 => ?_
                      refine fr_nwL fun n11 => ?_
                      refine fr_stI 0 0 rfl rfl rfl rfl ?_
                      refine fr_ifNot ?_ ?_
                      · refine fr_ifEq ?_ ?_
                        · refine fr_ifB ?_ ?_
                          · refine fr_ldI 0 2 rfl rfl rfl ?_
                            refine fr_ifEq ?_ ?_
                            · refine fr_cl fun r63 => ?_
                              exact fr_end
                            · exact fr_end
                          · exact fr_end
                        · exact fr_end
                      · refine fr_ifEq ?_ ?_
                        · refine fr_ifB ?_ ?_
                          · refine fr_ldI 0 0 rfl rfl rfl ?_
                            refine fr_ifEq ?_ ?_
                            · refine fr_ldI 0 2 rfl rfl rfl ?_
                              refine fr_cl fun r64 => ?_
                              refine fr_ifB ?_ ?_
                              · refine fr_ldI 0 1 rfl rfl rfl ?_
                                refine fr_ifB ?_ ?_
                                · refine fr_cl fun r65 => ?_
                                  exact fr_end
                                · refine fr_ifS ?_ ?_
                                  · refine fr_ldI 0 1 rfl rfl rfl ?_
                                    refine fr_ifB ?_ ?_
                                    · refine fr_cl fun r66 => ?_
                                      exact fr_end
                                    · exact fr_end
                                  · exact fr_end
                              · exact fr_end
                            · exact fr_end
                          · exact fr_end
                        · exact fr_end
                  · refine fr_ifEq ?_ ?_
                    · refine fr_elpK fun a7 ha7 => ?_
                      refine fr_ld fun v21 => ?_
                      refine fr_cl fun r67 => ?_
                      refine fr_ifB ?_ ?_
                      · refine fr_cl fun r68 => ?_
                        exact fr_end
                      · refine fr_cl fun r69 => ?_
                        refine fr_cl fun r70 => ?_
                        refine fr_nwL fun n12 => ?_
                        refine fr_stI 0 0 rfl rfl rfl rfl ?_
                        refine fr_ifNot ?_ ?_
                        · refine fr_ifEq ?_ ?_
                          · refine fr_ifB ?_ ?_
                            · refine fr_ldI 0 2 rfl rfl rfl ?_
                              refine fr_ifEq ?_ ?_
                              · refine fr_cl fun r71 => ?_
                                exact fr_end
                              · exact fr_end
                            · exact fr_end
                          · exact fr_end
                        · refine fr_ifEq ?_ ?_
                          · refine fr_ifB ?_ ?_
                            · refine fr_ldI 0 0 rfl rfl rfl ?_
                              refine fr_ifEq ?_ ?_
                              · refine fr_ldI 0 2 rfl rfl rfl ?_
                                refine fr_cl fun r72 => ?_
                                refine fr_ifB ?_ ?_
                                · refine fr_ldI 0 1 rfl rfl rfl ?_
                                  refine fr_ifB ?_ ?_
                                  · refine fr_cl fun r73 => ?_
                                    exact fr_end
                                  · exact fr_end
                                · exact fr_end
                              · exact fr_end
                            · exact fr_end
                          · exact fr_end
                    · refine fr_cl fun r74 => ?_
                      refine fr_cl fun r75 => ?_
                      refine fr_nwL fun n13 => ?_
                      refine fr_stI 0 0 rfl rfl rfl rfl ?_
                      refine fr_ifNot ?_ ?_
                      · refine fr_ifEq ?_ ?_
                        · refine fr_ifB ?_ ?_
                          · refine fr_ldI 0 2 rfl rfl rfl ?_
                            refine fr_ifEq ?_ ?_
                            · refine fr_cl fun r76 => ?_
                              exact fr_end
                            · exact fr_end
                          · exact fr_end
                        · exact fr_end
                      · refine fr_ifEq ?_ ?_
                        · refine fr_ifB ?_ ?_
                          · refine fr_ldI 0 0 rfl rfl rfl ?_
                            refine fr_ifEq ?_ ?_
                            · refine fr_ldI 0 2 rfl rfl rfl ?_
                              refine fr_cl fun r77 => ?_
                              refine fr_ifB ?_ ?_
                              · refine fr_ldI 0 1 rfl rfl rfl ?_
                                refine fr_ifB ?_ ?_
                                · refine fr_cl fun r78 => ?_
                                  exact fr_end
                                · exact fr_end
                              · exact fr_end
                            · exact fr_end
                          · exact fr_end
                        · exact fr_end
          · refine fr_ifEq ?_ ?_
            · refine fr_ifB ?_ ?_
              · refine fr_cl fun r10 => ?_
                exact fr_wk (hj2 _) rfl
              · exact fr_wk (hj2 _) rfl
            · exact fr_wk (hj2 _) rfl
        · refine fr_lp0 fun go2' go2 hgo2 z2 => ?_
          refine fr_ifB ?_ ?_
          · refine fr_ifEq ?_ ?_
            · refine fr_elpK fun a2 ha2 => ?_
              refine fr_ld fun v3 => ?_
              refine fr_w64 ?_
              refine fr_ifB ?_ ?_
              · exact fr_wk (hj1 _) rfl
              · refine fr_elpE ha2 ?_
                refine fr_ld fun v4 => ?_
                refine fr_cl fun r8 => ?_
                refine fr_nwL fun n1 => ?_
                refine fr_stI 0 0 rfl rfl rfl rfl ?_
                refine fr_cl fun r9 => ?_
                refine fr_ifEq ?_ ?_
                · refine fr_ldI 0 0 rfl rfl rfl ?_
                  refine fr_nwL fun n2 => ?_
                  refine fr_apv (v := _) 0 rfl fun s1 => ?_
                  refine fr_w64 ?_
                  refine fr_w64 ?_
                  exact fr_wk (hgo2 _) rfl
                · refine fr_ifEq ?_ ?_
                  · refine fr_elpK fun a3 ha3 => ?_
                    refine fr_w64 ?_
                    refine fr_w64 ?_
                    refine fr_ld fun v5 => ?_
                    refine fr_ifEq ?_ ?_
                    · refine fr_elpE ha3 ?_
                      refine fr_elpE ha3 ?_
                      refine fr_ld fun v6 => ?_
                      refine fr_smR fun v7 => ?_
                      refine fr_ld fun v8 => ?_
                      refine fr_smR fun v9 => ?_
                      refine fr_ifS ?_ ?_
                      · refine fr_ldI 0 0 rfl rfl rfl ?_
                        refine fr_nwL fun n3 => ?_
                        refine fr_apv (v := _) 0 rfl fun s2 => ?_
                        refine fr_w64 ?_
                        refine fr_w64 ?_
                        exact fr_wk (hgo2 _) rfl
                      · refine fr_w64 ?_
                        refine fr_w64 ?_
                        exact fr_wk (hgo2 _) rfl
                    · refine fr_w64 ?_
                      refine fr_w64 ?_
                      exact fr_wk (hgo2 _) rfl
                  · refine fr_w64 ?_
                    refine fr_w64 ?_
                    exact fr_wk (hgo2 _) rfl
            · exact fr_wk (hj1 _) rfl
          · exact fr_wk (hj1 _) rfl

end Go.Proofs.Ytlabcgnegbdlfaa
set_option linter.unusedVariables false
set_option maxRecDepth 100000
namespace Go.Proofs.Ytlabcgnegbdlfaa
open Go.HL
/-- depot/depotlaw25.RegionWrites -/
def s7 (x0 : SlV) (K : Value → HP) : HP :=
  cl PP 47 #[] [.agg [.int .i64, .int .i64, .int .i64, .int .i64]] fun r1 =>
  cl PP 38 #[.agg #[.int .i64 r1.1.1, .int .i64 r1.1.2.1, .int .i64 r1.1.2.2.1, .int .i64 r1.1.2.2.2.1]] [.lf .ptr, .lf (.int .i64)] fun r2 =>
  cl PP 47 #[] [.agg [.int .i64, .int .i64, .int .i64, .int .i64]] fun r3 =>
  cl PP 48 #[.agg #[.int .i64 r3.1.1, .int .i64 r3.1.2.1, .int .i64 r3.1.2.2.1, .int .i64 r3.1.2.2.2.1]] [.lf .ptr, .lf (.int .i64)] fun r4 =>
  ifB (decide ((r2.2.1 : Int) = 0)) (
   ifB (decide ((x0.len : Int) > 60)) (
    cl PP 9 #[] [.lf .bool] fun r5 =>
    K (.bool r5.1)) (
    lp [.lf (.int .i64)] (0, ()) fun z1 go1 =>   -- i
     ifB (decide ((z1.1 : Int) < x0.len)) (
      elp x0.a x0.len z1.1 9 fun a1 =>
      ld a1 (.agg [.int .i64, .int .i64, .int .i64, .int .i64, .int .i64, .sl, .sl, .int .i64, .int .i64]) fun v1 =>
      cl PP 8 #[.slice v1.2.2.2.2.2.1.a v1.2.2.2.2.2.1.len v1.2.2.2.2.2.1.cap, .int .i64 20, .int .i64 600] [.lf .bool] fun r6 =>
      ifB r6.1 (
       ifB (decide ((v1.2.2.2.2.2.2.1.len : Int) > 300)) (
        cl PP 9 #[] [.lf .bool] fun r8 =>
        K (.bool r8.1)) (
        jn (fun y1 : RsV [.lf (.int .i64), .lf (.int .i64)] =>
         cl PP 46 #[.pointer r2.1, .int .i64 v1.2.1] [.lf .sl, .lf (.int .i64)] fun r21 =>
         cl PP 56 #[.pointer r4.1, .int .i64 v1.2.1] [.lf .sl, .lf (.int .i64)] fun r22 =>
         ifB (decide ((y1.1 : Int) = y1.2.1)) (
          cl PP 13 #[.slice r21.1.a r21.1.len r21.1.cap, .slice r22.1.a r22.1.len r22.1.cap] [.lf .bool] fun r23 =>
          ifB r23.1 (
           ifB (decide ((r21.2.1 : Int) = r22.2.1)) (
            w64 (z1.1 + 1) fun i1 =>
            go1 (i1, ())) (
            K (.bool false))) (
           K (.bool false))) (
          K (.bool false))) fun j1 =>
        ifB (decide ((v1.1 : Int) = 0)) (
          cl PP 40 #[.pointer r2.1, .int .i64 v1.2.1, .int .i64 v1.2.2.1] [.lf (.int .i64)] fun r9 =>
          cl PP 49 #[.pointer r4.1, .int .i64 v1.2.1, .int .i64 v1.2.2.1] [.lf (.int .i64)] fun r10 =>
          j1 (r9.1, r10.1, ())) (
          ifB (decide ((v1.1 : Int) = 1)) (
           cl PP 41 #[.pointer r2.1, .int .i64 v1.2.1, .int .i64 v1.2.2.1, .int .i64 v1.2.2.2.1, .int .i64 v1.2.2.2.2.1, .slice v1.2.2.2.2.2.1.a v1.2.2.2.2.2.1.len v1.2.2.2.2.2.1.cap] [.lf (.int .i64)] fun r11 =>
           cl PP 50 #[.pointer r4.1, .int .i64 v1.2.1, .int .i64 v1.2.2.1, .int .i64 v1.2.2.2.1, .int .i64 v1.2.2.2.2.1, .slice v1.2.2.2.2.2.1.a v1.2.2.2.2.2.1.len v1.2.2.2.2.2.1.cap] [.lf (.int .i64)] fun r12 =>
           j1 (r11.1, r12.1, ())) (
           ifB (decide ((v1.1 : Int) = 2)) (
            cl PP 43 #[.pointer r2.1, .int .i64 v1.2.1, .int .i64 v1.2.2.1, .int .i64 v1.2.2.2.1, .slice v1.2.2.2.2.2.2.1.a v1.2.2.2.2.2.2.1.len v1.2.2.2.2.2.2.1.cap] [.lf (.int .i64)] fun r13 =>
            cl PP 51 #[.pointer r4.1, .int .i64 v1.2.1, .int .i64 v1.2.2.1, .int .i64 v1.2.2.2.1, .slice v1.2.2.2.2.2.2.1.a v1.2.2.2.2.2.2.1.len v1.2.2.2.2.2.2.1.cap] [.lf (.int .i64)] fun r14 =>
            j1 (r13.1, r14.1, ())) (
            ifB (decide ((v1.1 : Int) = 3)) (
             cl PP 39 #[.pointer r2.1, .int .i64 v1.2.2.2.2.2.2.2.1, .int .i64 v1.2.2.2.2.2.2.2.2.1] [] fun r15 =>
             cl PP 52 #[.pointer r4.1, .int .i64 v1.2.2.2.2.2.2.2.1, .int .i64 v1.2.2.2.2.2.2.2.2.1] [] fun r16 =>
             j1 (0, 0, ())) (
             ifB (decide ((v1.1 : Int) = 4)) (
              cl PP 44 #[.pointer r2.1] [] fun r17 =>
              cl PP 53 #[.pointer r4.1] [] fun r18 =>
              j1 (0, 0, ())) (
              cl PP 54 #[.pointer r2.1, .int .i64 v1.2.1] [.lf (.int .i64)] fun r19 =>
              cl PP 55 #[.pointer r4.1, .int .i64 v1.2.1] [.lf (.int .i64)] fun r20 =>
              j1 (r19.1, r20.1, ())))))))) (
       cl PP 9 #[] [.lf .bool] fun r7 =>
       K (.bool r7.1))) (
      cl PP 9 #[] [.lf .bool] fun r24 =>
      K (.bool r24.1)))) (
   K (.bool false))
theorem c7 (x0 : SlV) {K : Value → HP} {L : HList} (h : s7 x0 (HL.Ends K) L) : CallF PP 7 #[.slice x0.a x0.len x0.cap] L K := by
  refine CallF.of (args := [.slice x0.a x0.len x0.cap]) noNum mixed Try.func7 (e7 x0 _) (fr_run ?_ h)
  unfold s7 t7
  refine fr_cl fun r1 => ?_
  refine fr_cl fun r2 => ?_
  refine fr_cl fun r3 => ?_
  refine fr_cl fun r4 => ?_
  refine fr_ifNe ?_ ?_
  · exact fr_end
  · refine fr_ifB ?_ ?_
    · refine fr_cl fun r5 => ?_
      exact fr_end
    · refine fr_lp0 fun go1' go1 hgo1 z1 => ?_
      refine fr_ifB ?_ ?_
      · refine fr_elpK fun a1 ha1 => ?_
        refine fr_ld fun v1 => ?_
        refine fr_nwL fun n1 => ?_
        refine fr_stI 0 0 rfl rfl rfl rfl ?_
        refine fr_ldI 0 5 rfl rfl rfl ?_
        refine fr_cl fun r6 => ?_
        refine fr_ifNot ?_ ?_
        · refine fr_cl fun r7 => ?_
          exact fr_end
        · refine fr_ldI 0 6 rfl rfl rfl ?_
          refine fr_ifB ?_ ?_
          · refine fr_cl fun r8 => ?_
            exact fr_end
          · refine fr_jn0 (fun y1 => ?_) fun j1' j1 hj1 => ?_
            · refine fr_ldI 0 1 rfl rfl rfl ?_
              refine fr_cl fun r21 => ?_
              refine fr_ldI 0 1 rfl rfl rfl ?_
              refine fr_cl fun r22 => ?_
              refine fr_ifNe ?_ ?_
              · exact fr_end
              · refine fr_cl fun r23 => ?_
                refine fr_ifNot ?_ ?_
                · exact fr_end
                · refine fr_ifNe ?_ ?_
                  · exact fr_end
                  · refine fr_w64 ?_
                    exact fr_wk (hgo1 _) rfl
            · refine fr_ldI 0 0 rfl rfl rfl ?_
              refine fr_ifEq ?_ ?_
              · refine fr_ldI 0 1 rfl rfl rfl ?_
                refine fr_ldI 0 2 rfl rfl rfl ?_
                refine fr_ldI 0 1 rfl rfl rfl ?_
                refine fr_ldI 0 2 rfl rfl rfl ?_
                refine fr_cl fun r9 => ?_
                refine fr_keepI 0 2 rfl rfl rfl ?_
                refine fr_keepI 0 1 rfl rfl rfl ?_
                refine fr_cl fun r10 => ?_
                exact fr_wk (hj1 _) rfl
              · refine fr_ifEq ?_ ?_
                · refine fr_ldI 0 1 rfl rfl rfl ?_
                  refine fr_ldI 0 2 rfl rfl rfl ?_
                  refine fr_ldI 0 3 rfl rfl rfl ?_
                  refine fr_ldI 0 4 rfl rfl rfl ?_
                  refine fr_ldI 0 5 rfl rfl rfl ?_
                  refine fr_ldI 0 1 rfl rfl rfl ?_
                  refine fr_ldI 0 2 rfl rfl rfl ?_
                  refine fr_ldI 0 3 rfl rfl rfl ?_
                  refine fr_ldI 0 4 rfl rfl rfl ?_
                  refine fr_ldI 0 5 rfl rfl rfl ?_
                  refine fr_cl fun r11 => ?_
                  refine fr_keepI 0 5 rfl rfl rfl ?_
                  refine fr_keepI 0 4 rfl rfl rfl ?_
                  refine fr_keepI 0 3 rfl rfl rfl ?_
                  refine fr_keepI 0 2 rfl rfl rfl ?_
                  refine fr_keepI 0 1 rfl rfl rfl ?_
                  refine fr_cl fun r12 => ?_
                  exact fr_wk (hj1 _) rfl
                · refine fr_ifEq ?_ ?_
                  · refine fr_ldI 0 1 rfl rfl rfl ?_
                    refine fr_ldI 0 2 rfl rfl rfl ?_
                    refine fr_ldI 0 3 rfl rfl rfl ?_
                    refine fr_ldI 0 6 rfl rfl rfl ?_
                    refine fr_ldI 0 1 rfl rfl rfl ?_
                    refine fr_ldI 0 2 rfl rfl rfl ?_
                    refine fr_ldI 0 3 rfl rfl rfl ?_
                    refine fr_ldI 0 6 rfl rfl rfl ?_
                    refine fr_cl fun r13 => ?_
                    refine fr_keepI 0 6 rfl rfl rfl ?_
                    refine fr_keepI 0 3 rfl rfl rfl ?_
                    refine fr_keepI 0 2 rfl rfl rfl ?_
                    refine fr_keepI 0 1 rfl rfl rfl ?_
                    refine fr_cl fun r14 => ?_
                    exact fr_wk (hj1 _) rfl
                  · refine fr_ifEq ?_ ?_
                    · refine fr_ldI 0 7 rfl rfl rfl ?_
                      refine fr_ldI 0 8 rfl rfl rfl ?_
                      refine fr_cl fun r15 => ?_
                      refine fr_ldI 0 7 rfl rfl rfl ?_
                      refine fr_ldI 0 8 rfl rfl rfl ?_
                      refine fr_cl fun r16 => ?_
                      exact fr_wk (hj1 _) rfl
                    · refine fr_ifEq ?_ ?_
                      · refine fr_cl fun r17 => ?_
                        refine fr_cl fun r18 => ?_
                        exact fr_wk (hj1 _) rfl
                      · refine fr_ldI 0 1 rfl rfl rfl ?_
                        refine fr_ldI 0 1 rfl rfl rfl ?_
                        refine fr_cl fun r19 => ?_
                        refine fr_keepI 0 1 rfl rfl rfl ?_
                        refine fr_cl fun r20 => ?_
                        exact fr_wk (hj1 _) rfl
      · refine fr_cl fun r24 => ?_
        exact fr_end

/-- depot/depotref24.Few -/
def s8 (x0 : SlV) (x1 : Int) (x2 : Int) (K : Value → HP) : HP :=
  lp [.lf (.int .i64)] (0, ()) fun z1 go1 =>   -- i
   ifB (decide ((z1.1 : Int) < x0.len)) (
    ifB (decide ((z1.1 : Int) ≤ x1)) (
     elp x0.a x0.len z1.1 1 fun a1 =>
     ld a1 (.lf .sl) fun v1 =>
     ifB (decide ((v1.len : Int) > x2)) (
      K (.bool false)) (
      w64 (z1.1 + 1) fun i1 =>
      go1 (i1, ()))) (
     K (.bool (decide ((x0.len : Int) ≤ x1))))) (
    K (.bool (decide ((x0.len : Int) ≤ x1))))
theorem c8 (x0 : SlV) (x1 : Int) (x2 : Int) {K : Value → HP} {L : HList} (h : s8 x0 x1 x2 (HL.Ends K) L) : CallF PP 8 #[.slice x0.a x0.len x0.cap, .int .i64 x1, .int .i64 x2] L K := by
  refine CallF.of (args := [.slice x0.a x0.len x0.cap, .int .i64 x1, .int .i64 x2]) noNum mixed Try.func8 (e8 x0 x1 x2 _) (fr_run ?_ h)
  unfold s8 t8
  refine fr_lp0 fun go1' go1 hgo1 z1 => ?_
  refine fr_ifB ?_ ?_
  · refine fr_ifB ?_ ?_
    · refine fr_elpK fun a1 ha1 => ?_
      refine fr_ld fun v1 => ?_
      refine fr_ifB ?_ ?_
      · exact fr_end
      · refine fr_w64 ?_
        exact fr_wk (hgo1 _) rfl
    · exact fr_end
  · exact fr_end

/-- depot/depotlaw25.regions -/
def s9 (K : Value → HP) : HP :=
  cl PP 47 #[] [.agg [.int .i64, .int .i64, .int .i64, .int .i64]] fun r1 =>
  cl PP 38 #[.agg #[.int .i64 r1.1.1, .int .i64 r1.1.2.1, .int .i64 r1.1.2.2.1, .int .i64 r1.1.2.2.2.1]] [.lf .ptr, .lf (.int .i64)] fun r2 =>
  ifB (decide ((r2.2.1 : Int) = 0)) (
   cl PP 40 #[.pointer r2.1, .int .i64 0, .int .i64 7] [.lf (.int .i64)] fun r3 =>
   nw (.cells #[.int .u8 5] 5) fun n1 =>
   nw (.cells #[.slice (some ⟨n1, 0, none⟩) 1 1] 40) fun n2 =>
   cl PP 41 #[.pointer r2.1, .int .i64 0, .int .i64 7, .int .i64 1, .int .i64 2, .slice (some ⟨n2, 0, none⟩) 1 1] [.lf (.int .i64)] fun r4 =>
   nw (.cells #[.int .u8 6] 5) fun n3 =>
   nw (.cells #[.int .u8 7] 5) fun n4 =>
   nw (.cells #[.slice (some ⟨n3, 0, none⟩) 1 1, .slice (some ⟨n4, 0, none⟩) 1 1] 40) fun n5 =>
   cl PP 41 #[.pointer r2.1, .int .i64 0, .int .i64 7, .int .i64 2, .int .i64 2, .slice (some ⟨n5, 0, none⟩) 2 2] [.lf (.int .i64)] fun r5 =>
   cl PP 46 #[.pointer r2.1, .int .i64 0] [.lf .sl, .lf (.int .i64)] fun r6 =>
   cl PP 10 #[.slice r6.1.a r6.1.len r6.1.cap] [.agg [.int .i64, .bool, .sl], .lf .bool] fun r7 =>
   cl PP 43 #[.pointer r2.1, .int .i64 0, .int .i64 7, .int .i64 4, .slice r7.1.2.2.1.a r7.1.2.2.1.len r7.1.2.2.1.cap] [.lf (.int .i64)] fun r8 =>
   cl PP 46 #[.pointer r2.1, .int .i64 0] [.lf .sl, .lf (.int .i64)] fun r9 =>
   cl PP 10 #[.slice r9.1.a r9.1.len r9.1.cap] [.agg [.int .i64, .bool, .sl], .lf .bool] fun r10 =>
   cl PP 14 #[.slice r9.1.a r9.1.len r9.1.cap, .agg #[.int .i64 2, .int .i64 2, .int .i64 2]] [.lf .sl] fun r11 =>
   nw (.cells #[.int .i64 1, .int .i64 2, .int .i64 3] 104) fun n8 =>
   cl PP 16 #[.slice (some ⟨n8, 0, none⟩) 1 1] [.lf .sl, .lf (.int .i64)] fun r12 =>
   cl PP 18 #[.slice r12.1.a r12.1.len r12.1.cap] [.lf .sl, .lf (.int .i64)] fun r13 =>
   ifB (decide ((r3.1 : Int) = 0)) (
    ifB (decide ((r4.1 : Int) = 0)) (
     ifB (decide ((r5.1 : Int) = 0)) (
      ifB (decide ((r8.1 : Int) = 0)) (
       ifB (decide ((r6.2.1 : Int) = 0)) (
        ifB (decide ((r9.2.1 : Int) = 0)) (
         ifB r7.2.1 (
          ifB r7.1.2.1 (
           K (.bool false)) (
           ifB r10.2.1 (
            ifB r10.1.2.1 (
             ifB (decide ((r10.1.1 : Int) = 7)) (
              ifB (decide ((r10.1.2.2.1.len : Int) = 2)) (
               cl PP 12 #[.slice r7.1.2.2.1.a r7.1.2.2.1.len r7.1.2.2.1.cap, .slice r10.1.2.2.1.a r10.1.2.2.1.len r10.1.2.2.1.cap] [.lf .bool] fun r14 =>
               ifB r14.1 (
                ifB (decide ((r11.1.len : Int) = 2)) (
                 elp r11.1.a r11.1.len 1 1 fun a1 =>
                 ld a1 (.lf .sl) fun v1 =>
                 ifB (decide ((v1.len : Int) = 1)) (
                  ld a1 (.lf .sl) fun v2 =>
                  elp v2.a v2.len 0 1 fun a2 =>
                  ld a2 (.lf (.int .u8)) fun v3 =>
                  ifB (decide ((v3 : Int) = 7)) (
                   ifB (decide ((r12.2.1 : Int) = 0)) (
                    ifB (decide ((r12.1.len : Int) = 6)) (
                     ifB (decide ((r13.2.1 : Int) = 0)) (
                      ifB (decide ((r13.1.len : Int) = 1)) (
                       elp r13.1.a r13.1.len 0 3 fun a3 =>
                       ld (Addr.add a3 2) (.lf (.int .i64)) fun v4 =>
                       K (.bool ((v4 : Int) == 3))) (
                       K (.bool false))) (
                      K (.bool false))) (
                     K (.bool false))) (
                    K (.bool false))) (
                   K (.bool false))) (
                  K (.bool false))) (
                 K (.bool false))) (
                K (.bool false))) (
               K (.bool false))) (
              K (.bool false))) (
             K (.bool false))) (
            K (.bool false)))) (
          K (.bool false))) (
         K (.bool false))) (
        K (.bool false))) (
       K (.bool false))) (
      K (.bool false))) (
     K (.bool false))) (
    K (.bool false))) (
   K (.bool false))
theorem c9 {K : Value → HP} {L : HList} (h : s9 (HL.Ends K) L) : CallF PP 9 #[] L K := by
  refine CallF.of (args := []) noNum mixed Try.func9 (e9 _) (fr_run ?_ h)
  unfold s9 t9
  refine fr_cl fun r1 => ?_
  refine fr_cl fun r2 => ?_
  refine fr_ifNe ?_ ?_
  · exact fr_end
  · refine fr_cl fun r3 => ?_
    refine fr_nw fun n1 => ?_
    refine fr_nw fun n2 => ?_
    refine fr_cl fun r4 => ?_
    refine fr_nw fun n3 => ?_
    refine fr_nw fun n4 => ?_
    refine fr_nw fun n5 => ?_
    refine fr_cl fun r5 => ?_
    refine fr_cl fun r6 => ?_
    refine fr_cl fun r7 => ?_
    refine fr_nwL fun n6 => ?_
    refine fr_stI 0 0 rfl rfl rfl rfl ?_
    refine fr_ldI 0 2 rfl rfl rfl ?_
    refine fr_cl fun r8 => ?_
    refine fr_cl fun r9 => ?_
    refine fr_cl fun r10 => ?_
    refine fr_nwL fun n7 => ?_
    refine fr_stI 0 0 rfl rfl rfl rfl ?_
    refine fr_cl fun r11 => ?_
    refine fr_nw fun n8 => ?_
    refine fr_cl fun r12 => ?_
    refine fr_cl fun r13 => ?_
    refine fr_ifEq ?_ ?_
    · refine fr_ifEq ?_ ?_
      · refine fr_ifEq ?_ ?_
        · refine fr_ifEq ?_ ?_
          · refine fr_ifEq ?_ ?_
            · refine fr_ifEq ?_ ?_
              · refine fr_ifB ?_ ?_
                · refine fr_ldI 1 1 rfl rfl rfl ?_
                  refine fr_ifNot ?_ ?_
                  · refine fr_ifB ?_ ?_
                    · refine fr_ldI 0 1 rfl rfl rfl ?_
                      refine fr_ifB ?_ ?_
                      · refine fr_ldI 0 0 rfl rfl rfl ?_
                        refine fr_ifEq ?_ ?_
                        · refine fr_ldI 0 2 rfl rfl rfl ?_
                          refine fr_ifEq ?_ ?_
                          · refine fr_ldI 1 2 rfl rfl rfl ?_
                            refine fr_ldI 0 2 rfl rfl rfl ?_
                            refine fr_cl fun r14 => ?_
                            refine fr_ifB ?_ ?_
                            · refine fr_ifEq ?_ ?_
                              · refine fr_elpK fun a1 ha1 => ?_
                                refine fr_ld fun v1 => ?_
                                refine fr_ifEq ?_ ?_
                                · refine fr_elpE ha1 ?_
                                  refine fr_ld fun v2 => ?_
                                  refine fr_elpK fun a2 ha2 => ?_
                                  refine fr_ld fun v3 => ?_
                                  refine fr_ifEq ?_ ?_
                                  · refine fr_ifEq ?_ ?_
                                    · refine fr_ifEq ?_ ?_
                                      · refine fr_ifEq ?_ ?_
                                        · refine fr_ifEq ?_ ?_
                                          · refine fr_elpK fun a3 ha3 => ?_
                                            refine fr_ld fun v4 => ?_
                                            exact fr_end
                                          · exact fr_end
                                        · exact fr_end
                                      · exact fr_end
                                    · exact fr_end
                                  · exact fr_end
                                · exact fr_end
                              · exact fr_end
                            · exact fr_end
                          · exact fr_end
                        · exact fr_end
                      · exact fr_end
                    · exact fr_end
                  · exact fr_end
                · exact fr_end
              · exact fr_end
            · exact fr_end
          · exact fr_end
        · exact fr_end
      · exact fr_end
    · exact fr_end

/-- depot/region.Scan -/
def s10 (x0 : SlV) (K : Value → HP) : HP :=
  cl PP 57 #[.slice x0.a x0.len x0.cap] [.lf .ptr] fun r1 =>
  nilc r1.1 fun a1 =>
  ld a1 (.lf .sl) fun v1 =>
  ifB (decide ((v1.len : Int) = 0)) (
   K (.tuple #[.agg #[.int .i64 0, .bool false, .slice none 0 0], .bool false])) (
   ld a1 (.lf .sl) fun v2 =>
   elp v2.a v2.len 0 7 fun a2 =>
   ld (Addr.add a2 3) (.lf (.int .i64)) fun v3 =>
   st (Addr.add a1 1) [.int .i64 v3] <|
   cl PP 58 #[.pointer r1.1, .int .i64 0, .agg #[.int .i64 1, .int .i64 0, .int .i64 1, .int .i64 0, .int .i64 0]] [.lf .sl, .lf .bool] fun r2 =>
   ifB r2.2.1 (
    ifB (decide ((r2.1.len : Int) > 0)) (
     K (.tuple #[.agg #[.int .i64 0, .bool false, .slice none 0 0], .bool false])) (
     jn (fun y1 : RsV [] =>
      ld (Addr.add a1 1) (.lf (.int .i64)) fun v6 =>
      cl PP 60 #[.pointer r1.1, .func (.func 61) #[.pointer r1.1] #[]] [.lf .sl] fun r4 =>
      keep (LdAt (Addr.add a1 1) [.int .i64 v6]) <|
      K (.tuple #[.agg #[.int .i64 v6, .bool false, .slice r4.1.a r4.1.len r4.1.cap], .bool true])) fun j1 =>
     ld (Addr.add a1 2) (.lf (.int .i64)) fun v4 =>
      ifB (decide ((v4 : Int) > 0)) (
       cl PP 59 #[.pointer r1.1] [.lf .sl, .lf .bool] fun r3 =>
       ifB r3.2.1 (
        ld (Addr.add a1 1) (.lf (.int .i64)) fun v5 =>
        K (.tuple #[.agg #[.int .i64 v5, .bool true, .slice r3.1.a r3.1.len r3.1.cap], .bool true])) (
        j1 (()))) (
       j1 (())))) (
    K (.tuple #[.agg #[.int .i64 0, .bool false, .slice none 0 0], .bool false])))
theorem c10 (x0 : SlV) {K : Value → HP} {L : HList} (h : s10 x0 (HL.Ends K) L) : CallF PP 10 #[.slice x0.a x0.len x0.cap] L K := by
  refine CallF.of (args := [.slice x0.a x0.len x0.cap]) noNum mixed Try.func10 (e10 x0 _) (fr_run ?_ h)
  unfold s10 t10
  refine fr_nwL fun n1 => ?_
  refine fr_cl fun r1 => ?_
  refine fr_nilcK fun a1 ha1 => ?_
  refine fr_ld fun v1 => ?_
  refine fr_ifEq ?_ ?_
  · refine fr_stI 0 0 rfl rfl rfl rfl ?_
    refine fr_ldI 0 0 rfl rfl rfl ?_
    exact fr_end
  · refine fr_nilcE ha1 ?_
    refine fr_ld fun v2 => ?_
    refine fr_elpK fun a2 ha2 => ?_
    refine fr_ld fun v3 => ?_
    refine fr_nilcE ha1 ?_
    refine fr_st ?_
    refine fr_cl fun r2 => ?_
    refine fr_ifNot ?_ ?_
    · refine fr_stI 0 0 rfl rfl rfl rfl ?_
      refine fr_ldI 0 0 rfl rfl rfl ?_
      exact fr_end
    · refine fr_ifB ?_ ?_
      · refine fr_stI 0 0 rfl rfl rfl rfl ?_
        refine fr_ldI 0 0 rfl rfl rfl ?_
        exact fr_end
      · refine fr_jn0 (fun y1 => ?_) fun j1' j1 hj1 => ?_
        · refine fr_nilcE ha1 ?_
          refine fr_ld fun v6 => ?_
          refine fr_cl fun r4 => ?_
          refine fr_keepL ?_
          refine fr_stI 0 0 rfl rfl rfl rfl ?_
          refine fr_ldI 0 0 rfl rfl rfl ?_
          exact fr_end
        · refine fr_nilcE ha1 ?_
          refine fr_ld fun v4 => ?_
          refine fr_ifB ?_ ?_
          · refine fr_cl fun r3 => ?_
            refine fr_ifB ?_ ?_
            · refine fr_nilcE ha1 ?_
              refine fr_ld fun v5 => ?_
              refine fr_stI 0 0 rfl rfl rfl rfl ?_
              refine fr_ldI 0 0 rfl rfl rfl ?_
              exact fr_end
            · exact fr_wk (hj1 _) rfl
          · exact fr_wk (hj1 _) rfl

/-- depot/depotref25.Scan -/
def s11 (x0 : SlV) (K : Value → HP) : HP :=
  ifB (decide ((x0.len : Int) = 0)) (
   K (.tuple #[.agg #[.int .i64 0, .bool false, .slice none 0 0], .bool false])) (
   elp x0.a x0.len 0 1 fun a1 =>
   ld a1 (.lf .sl) fun v1 =>
   cl PP 62 #[.slice v1.a v1.len v1.cap] [.agg [.int .i64, .int .i64, .int .i64, .int .i64, .int .i64], .lf .sl, .lf (.int .i64)] fun r1 =>
   cl PP 63 #[.slice x0.a x0.len x0.cap, .int .i64 0, .agg #[.int .i64 1, .int .i64 0, .int .i64 1, .int .i64 r1.1.2.2.2.1, .int .i64 0]] [.lf .sl, .lf .bool] fun r2 =>
   ifB r2.2.1 (
    ifB (decide ((r2.1.len : Int) > 0)) (
     K (.tuple #[.agg #[.int .i64 0, .bool false, .slice none 0 0], .bool false])) (
     w64 ((imin x0.len 16) - 1) fun i1 =>
     lp [.lf (.int .i64)] (i1, ()) fun z1 go1 =>   -- last
      ifB (decide ((z1.1 : Int) > 0)) (
       elp x0.a x0.len z1.1 1 fun a2 =>
       ld a2 (.lf .sl) fun v2 =>
       cl PP 64 #[.slice v2.a v2.len v2.cap] [.lf .bool] fun r3 =>
       ifB r3.1 (
        w64 (z1.1 - 1) fun i2 =>
        go1 (i2, ())) (
        jn (fun y1 : RsV [] =>
         lp [.lf (.int .i64), .lf (.int .i64), .lf .sl] (1, r1.1.2.2.2.1, ⟨none, 0, 0⟩, ()) fun z2 go2 =>   -- at, n3.0, n3.2
          ifB (decide ((z2.1 : Int) ≤ z1.1)) (
           cl PP 66 #[.slice x0.a x0.len x0.cap, .int .i64 z2.1, .int .i64 r1.1.2.2.2.1] [.agg [.int .i64, .int .i64, .int .i64], .lf .bool] fun r6 =>
           ifB r6.2.1 (
            apv PP 27 27 27 24 z2.2.2.1 1 [.int .i64 r6.1.1, .int .i64 r6.1.2.1, .int .i64 r6.1.2.2.1] fun s1 =>
            w64 (z2.1 + r6.1.2.2.1) fun i3 =>
            go2 (i3, z2.2.1, s1, ())) (
            w64 (z2.1 + 1) fun i4 =>
            go2 (i4, z2.2.1, z2.2.2.1, ()))) (
           K (.tuple #[.agg #[.int .i64 z2.2.1, .bool false, .slice z2.2.2.1.a z2.2.2.1.len z2.2.2.1.cap], .bool true]))) fun j1 =>
        ifB (decide ((z1.1 : Int) > 0)) (
          cl PP 63 #[.slice x0.a x0.len x0.cap, .int .i64 z1.1, .agg #[.int .i64 4, .int .i64 0, .int .i64 1, .int .i64 r1.1.2.2.2.1, .int .i64 z1.1]] [.lf .sl, .lf .bool] fun r4 =>
          ifB r4.2.1 (
           cl PP 65 #[.slice r4.1.a r4.1.len r4.1.cap, .int .i64 z1.1] [.lf .sl, .lf .bool] fun r5 =>
           ifB r5.2.1 (
            K (.tuple #[.agg #[.int .i64 r1.1.2.2.2.1, .bool true, .slice r5.1.a r5.1.len r5.1.cap], .bool true])) (
            j1 (()))) (
           j1 (()))) (
          j1 (())))) (
       jn (fun y2 : RsV [] =>
        lp [.lf (.int .i64), .lf (.int .i64), .lf .sl] (1, r1.1.2.2.2.1, ⟨none, 0, 0⟩, ()) fun z3 go3 =>   -- at, n3.0, n3.2
         ifB (decide ((z3.1 : Int) ≤ z1.1)) (
          cl PP 66 #[.slice x0.a x0.len x0.cap, .int .i64 z3.1, .int .i64 r1.1.2.2.2.1] [.agg [.int .i64, .int .i64, .int .i64], .lf .bool] fun r9 =>
          ifB r9.2.1 (
           apv PP 27 27 27 24 z3.2.2.1 1 [.int .i64 r9.1.1, .int .i64 r9.1.2.1, .int .i64 r9.1.2.2.1] fun s2 =>
           w64 (z3.1 + r9.1.2.2.1) fun i5 =>
           go3 (i5, z3.2.1, s2, ())) (
           w64 (z3.1 + 1) fun i6 =>
           go3 (i6, z3.2.1, z3.2.2.1, ()))) (
          K (.tuple #[.agg #[.int .i64 z3.2.1, .bool false, .slice z3.2.2.1.a z3.2.2.1.len z3.2.2.1.cap], .bool true]))) fun j2 =>
       ifB (decide ((z1.1 : Int) > 0)) (
         cl PP 63 #[.slice x0.a x0.len x0.cap, .int .i64 z1.1, .agg #[.int .i64 4, .int .i64 0, .int .i64 1, .int .i64 r1.1.2.2.2.1, .int .i64 z1.1]] [.lf .sl, .lf .bool] fun r7 =>
         ifB r7.2.1 (
          cl PP 65 #[.slice r7.1.a r7.1.len r7.1.cap, .int .i64 z1.1] [.lf .sl, .lf .bool] fun r8 =>
          ifB r8.2.1 (
           K (.tuple #[.agg #[.int .i64 r1.1.2.2.2.1, .bool true, .slice r8.1.a r8.1.len r8.1.cap], .bool true])) (
           j2 (()))) (
          j2 (()))) (
         j2 (()))))) (
    K (.tuple #[.agg #[.int .i64 0, .bool false, .slice none 0 0], .bool false])))
theorem c11 (x0 : SlV) {K : Value → HP} {L : HList} (h : s11 x0 (HL.Ends K) L) : CallF PP 11 #[.slice x0.a x0.len x0.cap] L K := by
  refine CallF.of (args := [.slice x0.a x0.len x0.cap]) noNum mixed Try.func11 (e11 x0 _) (fr_run ?_ h)
  unfold s11 t11
  refine fr_nwL fun n1 => ?_
  refine fr_ifEq ?_ ?_
  · refine fr_stI 0 0 rfl rfl rfl rfl ?_
    refine fr_ldI 0 0 rfl rfl rfl ?_
    exact fr_end
  · refine fr_elpK fun a1 ha1 => ?_
    refine fr_ld fun v1 => ?_
    refine fr_cl fun r1 => ?_
    refine fr_nwL fun n2 => ?_
    refine fr_stI 0 0 rfl rfl rfl rfl ?_
    refine fr_ldI 0 3 rfl rfl rfl ?_
    refine fr_cl fun r2 => ?_
    refine fr_ifNot ?_ ?_
    · refine fr_stI 1 0 rfl rfl rfl rfl ?_
      refine fr_ldI 1 0 rfl rfl rfl ?_
      exact fr_end
    · refine fr_ifB ?_ ?_
      · refine fr_stI 1 0 rfl rfl rfl rfl ?_
        refine fr_ldI 1 0 rfl rfl rfl ?_
        exact fr_end
      · refine fr_ldI 0 3 rfl rfl rfl ?_
        refine fr_nwL fun n3 => ?_
        refine fr_stI 0 0 rfl rfl rfl rfl ?_
        refine fr_w64 ?_
        refine fr_lp0 fun go1' go1 hgo1 z1 => ?_
        refine fr_ifB ?_ ?_
        · refine fr_elpK fun a2 ha2 => ?_
          refine fr_ld fun v2 => ?_
          refine fr_cl fun r3 => ?_
          refine fr_ifB ?_ ?_
          · refine fr_w64 ?_
            exact fr_wk (hgo1 _) rfl
          · refine fr_jn0 (fun y1 => ?_) fun j1' j1 hj1 => ?_
            · refine fr_lp (fun z2 => [(n3, .cells #[.int .i64 z2.2.1, .bool false, .slice z2.2.2.1.a z2.2.2.1.len z2.2.2.1.cap] 32 (0, 0))]) (fun z2 => (z2.1, ())) rfl rfl fun go2' go2 hgo2 z2 => ?_
              refine fr_ifB ?_ ?_
              · refine fr_ldI 1 3 rfl rfl rfl ?_
                refine fr_cl fun r6 => ?_
                refine fr_nwL fun n4 => ?_
                refine fr_stI 0 0 rfl rfl rfl rfl ?_
                refine fr_ifB ?_ ?_
                · refine fr_ldI 1 2 rfl rfl rfl ?_
                  refine fr_ldI 0 0 rfl rfl rfl ?_
                  refine fr_nwL fun n5 => ?_
                  refine fr_apv (v := _) 0 rfl fun s1 => ?_
                  refine fr_stI 2 2 rfl rfl rfl rfl ?_
                  refine fr_ldI 1 2 rfl rfl rfl ?_
                  refine fr_w64 ?_
                  refine fr_front 4 rfl rfl ?_
                  refine fr_front 4 rfl rfl ?_
                  refine fr_front 4 rfl rfl ?_
                  exact fr_wk (hgo2 _) rfl
                · refine fr_w64 ?_
                  refine fr_front 3 rfl rfl ?_
                  refine fr_front 3 rfl rfl ?_
                  refine fr_front 3 rfl rfl ?_
                  exact fr_wk (hgo2 _) rfl
              · refine fr_ldI 0 0 rfl rfl rfl ?_
                refine fr_stI 2 0 rfl rfl rfl rfl ?_
                refine fr_ldI 2 0 rfl rfl rfl ?_
                exact fr_end
            · refine fr_ifB ?_ ?_
              · refine fr_ldI 1 3 rfl rfl rfl ?_
                refine fr_cl fun r4 => ?_
                refine fr_ifB ?_ ?_
                · refine fr_cl fun r5 => ?_
                  refine fr_ifB ?_ ?_
                  · refine fr_stI 0 1 rfl rfl rfl rfl ?_
                    refine fr_stI 0 2 rfl rfl rfl rfl ?_
                    refine fr_ldI 0 0 rfl rfl rfl ?_
                    refine fr_stI 2 0 rfl rfl rfl rfl ?_
                    refine fr_ldI 2 0 rfl rfl rfl ?_
                    exact fr_end
                  · exact fr_wk (hj1 _) rfl
                · exact fr_wk (hj1 _) rfl
              · exact fr_wk (hj1 _) rfl
        · refine fr_jn0 (fun y2 => ?_) fun j2' j2 hj2 => ?_
          · refine fr_lp (fun z3 => [(n3, .cells #[.int .i64 z3.2.1, .bool false, .slice z3.2.2.1.a z3.2.2.1.len z3.2.2.1.cap] 32 (0, 0))]) (fun z3 => (z3.1, ())) rfl rfl fun go3' go3 hgo3 z3 => ?_
            refine fr_ifB ?_ ?_
            · refine fr_ldI 1 3 rfl rfl rfl ?_
              refine fr_cl fun r9 => ?_
              refine fr_nwL fun n6 => ?_
              refine fr_stI 0 0 rfl rfl rfl rfl ?_
              refine fr_ifB ?_ ?_
              · refine fr_ldI 1 2 rfl rfl rfl ?_
                refine fr_ldI 0 0 rfl rfl rfl ?_
                refine fr_nwL fun n7 => ?_
                refine fr_apv (v := _) 0 rfl fun s2 => ?_
                refine fr_stI 2 2 rfl rfl rfl rfl ?_
                refine fr_ldI 1 2 rfl rfl rfl ?_
                refine fr_w64 ?_
                refine fr_front 4 rfl rfl ?_
                refine fr_front 4 rfl rfl ?_
                refine fr_front 4 rfl rfl ?_
                exact fr_wk (hgo3 _) rfl
              · refine fr_w64 ?_
                refine fr_front 3 rfl rfl ?_
                refine fr_front 3 rfl rfl ?_
                refine fr_front 3 rfl rfl ?_
                exact fr_wk (hgo3 _) rfl
            · refine fr_ldI 0 0 rfl rfl rfl ?_
              refine fr_stI 2 0 rfl rfl rfl rfl ?_
              refine fr_ldI 2 0 rfl rfl rfl ?_
              exact fr_end
          · refine fr_ifB ?_ ?_
            · refine fr_ldI 1 3 rfl rfl rfl ?_
              refine fr_cl fun r7 => ?_
              refine fr_ifB ?_ ?_
              · refine fr_cl fun r8 => ?_
                refine fr_ifB ?_ ?_
                · refine fr_stI 0 1 rfl rfl rfl rfl ?_
                  refine fr_stI 0 2 rfl rfl rfl rfl ?_
                  refine fr_ldI 0 0 rfl rfl rfl ?_
                  refine fr_stI 2 0 rfl rfl rfl rfl ?_
                  refine fr_ldI 2 0 rfl rfl rfl ?_
                  exact fr_end
                · exact fr_wk (hj2 _) rfl
              · exact fr_wk (hj2 _) rfl
            · exact fr_wk (hj2 _) rfl

/-- depot/region.Parts -/
def s14 (x0 : SlV) (x1 : ShV (.agg [.int .i64, .int .i64, .int .i64])) (K : Value → HP) : HP :=
  lp [.lf .sl, .lf (.int .i64)] (⟨none, 0, 0⟩, 0, ()) fun z1 go1 =>   -- l, i
   ifB (decide ((z1.2.1 : Int) < x1.2.2.1)) (
    ifB (decide ((x1.2.1 : Int) < 0)) (
     K (.slice none 0 0)) (
     w64 (x0.len - z1.2.1) fun i1 =>
     ifB (decide ((x1.2.1 : Int) ≥ i1)) (
      K (.slice none 0 0)) (
      w64 (x1.2.1 + z1.2.1) fun i2 =>
      elp x0.a x0.len i2 1 fun a1 =>
      ld a1 (.lf .sl) fun v1 =>
      cl PP 67 #[.slice v1.a v1.len v1.cap] [.agg [.int .i64, .int .i64, .int .i64, .int .i64, .int .i64], .lf .sl, .lf (.int .i64)] fun r1 =>
      ifB (decide ((r1.2.2.1 : Int) = 0)) (
       apv PP 22 22 22 40 z1.1 1 [.slice r1.2.1.a r1.2.1.len r1.2.1.cap] fun s1 =>
       w64 (z1.2.1 + 1) fun i3 =>
       go1 (s1, i3, ())) (
       K (.slice none 0 0))))) (
    K (.slice z1.1.a z1.1.len z1.1.cap))
theorem c14 (x0 : SlV) (x1 : ShV (.agg [.int .i64, .int .i64, .int .i64])) {K : Value → HP} {L : HList} (h : s14 x0 x1 (HL.Ends K) L) : CallF PP 14 #[.slice x0.a x0.len x0.cap, .agg #[.int .i64 x1.1, .int .i64 x1.2.1, .int .i64 x1.2.2.1]] L K := by
  refine CallF.of (args := [.slice x0.a x0.len x0.cap, .agg #[.int .i64 x1.1, .int .i64 x1.2.1, .int .i64 x1.2.2.1]]) noNum mixed Try.func14 (e14 x0 x1 _) (fr_run ?_ h)
  unfold s14 t14
  refine fr_nwL fun n1 => ?_
  refine fr_lp0 fun go1' go1 hgo1 z1 => ?_
  refine fr_ldI 0 2 rfl rfl rfl ?_
  refine fr_ifB ?_ ?_
  · refine fr_ldI 0 1 rfl rfl rfl ?_
    refine fr_ifB ?_ ?_
    · exact fr_end
    · refine fr_ldI 0 1 rfl rfl rfl ?_
      refine fr_w64 ?_
      refine fr_ifB ?_ ?_
      · exact fr_end
      · refine fr_ldI 0 1 rfl rfl rfl ?_
        refine fr_w64 ?_
        refine fr_elpK fun a1 ha1 => ?_
        refine fr_ld fun v1 => ?_
        refine fr_cl fun r1 => ?_
        refine fr_nwL fun n2 => ?_
        refine fr_stI 0 0 rfl rfl rfl rfl ?_
        refine fr_ifNe ?_ ?_
        · exact fr_end
        · refine fr_nwL fun n3 => ?_
          refine fr_apv (v := _) 0 rfl fun s1 => ?_
          refine fr_w64 ?_
          refine fr_front 2 rfl rfl ?_
          exact fr_wk (hgo1 _) rfl
  · exact fr_end

/-- depot/depotref25.Parts -/
def s15 (x0 : SlV) (x1 : ShV (.agg [.int .i64, .int .i64, .int .i64])) (K : Value → HP) : HP :=
  lp [.lf .sl, .lf (.int .i64)] (⟨none, 0, 0⟩, 0, ()) fun z1 go1 =>   -- out, i
   ifB (decide ((z1.2.1 : Int) < x1.2.2.1)) (
    ifB (decide ((x1.2.1 : Int) < 0)) (
     K (.slice none 0 0)) (
     ifB (decide ((x1.2.1 : Int) ≥ x0.len)) (
      K (.slice none 0 0)) (
      w64 (x1.2.1 + z1.2.1) fun i1 =>
      ifB (decide ((i1 : Int) ≥ x0.len)) (
       K (.slice none 0 0)) (
       w64 (x1.2.1 + z1.2.1) fun i2 =>
       elp x0.a x0.len i2 1 fun a1 =>
       ld a1 (.lf .sl) fun v1 =>
       cl PP 62 #[.slice v1.a v1.len v1.cap] [.agg [.int .i64, .int .i64, .int .i64, .int .i64, .int .i64], .lf .sl, .lf (.int .i64)] fun r1 =>
       ifB (decide ((r1.2.2.1 : Int) = 0)) (
        apv PP 22 22 22 40 z1.1 1 [.slice r1.2.1.a r1.2.1.len r1.2.1.cap] fun s1 =>
        w64 (z1.2.1 + 1) fun i3 =>
        go1 (s1, i3, ())) (
        K (.slice none 0 0)))))) (
    K (.slice z1.1.a z1.1.len z1.1.cap))
theorem c15 (x0 : SlV) (x1 : ShV (.agg [.int .i64, .int .i64, .int .i64])) {K : Value → HP} {L : HList} (h : s15 x0 x1 (HL.Ends K) L) : CallF PP 15 #[.slice x0.a x0.len x0.cap, .agg #[.int .i64 x1.1, .int .i64 x1.2.1, .int .i64 x1.2.2.1]] L K := by
  refine CallF.of (args := [.slice x0.a x0.len x0.cap, .agg #[.int .i64 x1.1, .int .i64 x1.2.1, .int .i64 x1.2.2.1]]) noNum mixed Try.func15 (e15 x0 x1 _) (fr_run ?_ h)
  unfold s15 t15
  refine fr_nwL fun n1 => ?_
  refine fr_lp0 fun go1' go1 hgo1 z1 => ?_
  refine fr_ldI 0 2 rfl rfl rfl ?_
  refine fr_ifB ?_ ?_
  · refine fr_ldI 0 1 rfl rfl rfl ?_
    refine fr_ifB ?_ ?_
    · exact fr_end
    · refine fr_ldI 0 1 rfl rfl rfl ?_
      refine fr_ifB ?_ ?_
      · exact fr_end
      · refine fr_ldI 0 1 rfl rfl rfl ?_
        refine fr_w64 ?_
        refine fr_ifB ?_ ?_
        · exact fr_end
        · refine fr_ldI 0 1 rfl rfl rfl ?_
          refine fr_w64 ?_
          refine fr_elpK fun a1 ha1 => ?_
          refine fr_ld fun v1 => ?_
          refine fr_cl fun r1 => ?_
          refine fr_nwL fun n2 => ?_
          refine fr_stI 0 0 rfl rfl rfl rfl ?_
          refine fr_ifNe ?_ ?_
          · exact fr_end
          · refine fr_nwL fun n3 => ?_
            refine fr_apv (v := _) 0 rfl fun s1 => ?_
            refine fr_w64 ?_
            refine fr_front 2 rfl rfl ?_
            exact fr_wk (hgo1 _) rfl
  · exact fr_end

end Go.Proofs.Ytlabcgnegbdlfaa
set_option linter.unusedVariables false
set_option maxRecDepth 100000
namespace Go.Proofs.Ytlabcgnegbdlfaa
open Go.HL
/-- depot/region.Open -/
def s40 (x0 : Option Addr) (x1 : Int) (x2 : Int) (K : Value → HP) : HP :=
  cl PP 82 #[.pointer x0, .int .i64 x1, .agg #[.int .i64 1, .int .i64 0, .int .i64 1, .int .i64 x2, .int .i64 0], .slice none 0 0] [.lf (.int .i64)] fun r1 =>
  K (.int .i64 r1.1)
theorem c40 (x0 : Option Addr) (x1 : Int) (x2 : Int) {K : Value → HP} {L : HList} (h : s40 x0 x1 x2 (HL.Ends K) L) : CallF PP 40 #[.pointer x0, .int .i64 x1, .int .i64 x2] L K := by
  refine CallF.of (args := [.pointer x0, .int .i64 x1, .int .i64 x2]) noNum mixed Try.func40 (e40 x0 x1 x2 _) (fr_run ?_ h)
  unfold s40 t40
  refine fr_cl fun r1 => ?_
  exact fr_end

/-- depot/region.Append -/
def s41 (x0 : Option Addr) (x1 : Int) (x2 : Int) (x3 : Int) (x4 : Int) (x5 : SlV) (K : Value → HP) : HP :=
  ifB (decide ((x5.len : Int) = 0)) (
   K (.int .i64 2)) (
   lp [.lf (.int .i64), .lf (.int .i64), .lf (.int .i64), .lf (.int .i64), .lf (.int .i64), .lf (.int .i64)] (0, x4, 0, x5.len, x2, x3, ()) fun z1 go1 =>   -- , n1.0, n1.1, n1.2, n1.3, n1.4
    ifB (decide ((z1.1 : Int) < x5.len)) (
     elp x5.a x5.len z1.1 1 fun a1 =>
     ld a1 (.lf .sl) fun v1 =>
     cl PP 82 #[.pointer x0, .int .i64 x1, .agg #[.int .i64 z1.2.1, .int .i64 z1.1, .int .i64 z1.2.2.2.1, .int .i64 z1.2.2.2.2.1, .int .i64 z1.2.2.2.2.2.1], .slice v1.a v1.len v1.cap] [.lf (.int .i64)] fun r1 =>
     ifB (decide ((r1.1 : Int) = 0)) (
      w64 (z1.2.2.2.2.2.1 + 1) fun i1 =>
      w64 (z1.1 + 1) fun i2 =>
      go1 (i2, z1.2.1, z1.1, z1.2.2.2.1, z1.2.2.2.2.1, i1, ())) (
      K (.int .i64 r1.1))) (
     K (.int .i64 0)))
theorem c41 (x0 : Option Addr) (x1 : Int) (x2 : Int) (x3 : Int) (x4 : Int) (x5 : SlV) {K : Value → HP} {L : HList} (h : s41 x0 x1 x2 x3 x4 x5 (HL.Ends K) L) : CallF PP 41 #[.pointer x0, .int .i64 x1, .int .i64 x2, .int .i64 x3, .int .i64 x4, .slice x5.a x5.len x5.cap] L K := by
  refine CallF.of (args := [.pointer x0, .int .i64 x1, .int .i64 x2, .int .i64 x3, .int .i64 x4, .slice x5.a x5.len x5.cap]) noNum mixed Try.func41 (e41 x0 x1 x2 x3 x4 x5 _) (fr_run ?_ h)
  unfold s41 t41
  refine fr_ifEq ?_ ?_
  · exact fr_end
  · refine fr_nwL fun n1 => ?_
    refine fr_stI 0 0 rfl rfl rfl rfl ?_
    refine fr_lp (fun z1 => [(n1, .cells #[.int .i64 z1.2.1, .int .i64 z1.2.2.1, .int .i64 z1.2.2.2.1, .int .i64 z1.2.2.2.2.1, .int .i64 z1.2.2.2.2.2.1] 111 (0, 0))]) (fun z1 => (z1.1, ())) rfl rfl fun go1' go1 hgo1 z1 => ?_
    refine fr_ifB ?_ ?_
    · refine fr_elpK fun a1 ha1 => ?_
      refine fr_ld fun v1 => ?_
      refine fr_stI 0 1 rfl rfl rfl rfl ?_
      refine fr_ldI 0 0 rfl rfl rfl ?_
      refine fr_cl fun r1 => ?_
      refine fr_ifNe ?_ ?_
      · exact fr_end
      · refine fr_ldI 0 4 rfl rfl rfl ?_
        refine fr_w64 ?_
        refine fr_stI 0 4 rfl rfl rfl rfl ?_
        refine fr_w64 ?_
        exact fr_wk (hgo1 _) rfl
    · exact fr_end

/-- depot/region.Seal -/
def s43 (x0 : Option Addr) (x1 : Int) (x2 : Int) (x3 : Int) (x4 : SlV) (K : Value → HP) : HP :=
  lp [.lf .sl, .lf (.int .i64)] (⟨none, 0, 0⟩, 0, ()) fun z1 go1 =>   -- b, 
   ifB (decide ((z1.2.1 : Int) < x4.len)) (
    elp x4.a x4.len z1.2.1 3 fun a1 =>
    ld a1 (.agg [.int .i64, .int .i64, .int .i64]) fun v1 =>
    nw (.cells #[.int .i64 v1.1, .int .i64 v1.2.1, .int .i64 v1.2.2.1] 3) fun n2 =>
    cl PP 69 #[.slice z1.1.a z1.1.len z1.1.cap, .slice (some ⟨n2, 0, none⟩) 3 3] [.lf .sl, .lf .bool] fun r1 =>
    ifB r1.2.1 (
     w64 (z1.2.1 + 1) fun i1 =>
     go1 (r1.1, i1, ())) (
     K (.int .i64 3))) (
    cl PP 82 #[.pointer x0, .int .i64 x1, .agg #[.int .i64 4, .int .i64 0, .int .i64 1, .int .i64 x2, .int .i64 x3], .slice z1.1.a z1.1.len z1.1.cap] [.lf (.int .i64)] fun r2 =>
    K (.int .i64 r2.1))
theorem c43 (x0 : Option Addr) (x1 : Int) (x2 : Int) (x3 : Int) (x4 : SlV) {K : Value → HP} {L : HList} (h : s43 x0 x1 x2 x3 x4 (HL.Ends K) L) : CallF PP 43 #[.pointer x0, .int .i64 x1, .int .i64 x2, .int .i64 x3, .slice x4.a x4.len x4.cap] L K := by
  refine CallF.of (args := [.pointer x0, .int .i64 x1, .int .i64 x2, .int .i64 x3, .slice x4.a x4.len x4.cap]) noNum mixed Try.func43 (e43 x0 x1 x2 x3 x4 _) (fr_run ?_ h)
  unfold s43 t43
  refine fr_lp0 fun go1' go1 hgo1 z1 => ?_
  refine fr_ifB ?_ ?_
  · refine fr_elpK fun a1 ha1 => ?_
    refine fr_ld fun v1 => ?_
    refine fr_nwL fun n1 => ?_
    refine fr_stI 0 0 rfl rfl rfl rfl ?_
    refine fr_ldI 0 0 rfl rfl rfl ?_
    refine fr_ldI 0 1 rfl rfl rfl ?_
    refine fr_ldI 0 2 rfl rfl rfl ?_
    refine fr_nw fun n2 => ?_
    refine fr_cl fun r1 => ?_
    refine fr_ifNot ?_ ?_
    · exact fr_end
    · refine fr_w64 ?_
      exact fr_wk (hgo1 _) rfl
  · refine fr_cl fun r2 => ?_
    exact fr_end

/-- depot/region.Load -/
def s46 (x0 : Option Addr) (x1 : Int) (K : Value → HP) : HP :=
  ifB (Option.isNone x0) (
   K (.tuple #[.slice none 0 0, .int .i64 1])) (
   cl PP 83 #[.pointer x0] [.agg [.int .i64, .int .i64, .int .i64, .int .i64]] fun r1 =>
   lp [.lf .sl, .lf (.int .i64)] (⟨none, 0, 0⟩, 0, ()) fun z1 go1 =>   -- l, 
    ifB (decide ((z1.2.1 : Int) < r1.1.2.1)) (
     cl PP 84 #[.pointer x0, .int .i64 x1, .int .i64 z1.2.1] [.lf .sl, .lf (.int .i64)] fun r2 =>
     ifB (decide ((r2.2.1 : Int) = 0)) (
      apv PP 22 22 22 40 z1.1 1 [.slice r2.1.a r2.1.len r2.1.cap] fun s1 =>
      w64 (z1.2.1 + 1) fun i1 =>
      go1 (s1, i1, ())) (
      K (.tuple #[.slice none 0 0, .int .i64 r2.2.1]))) (
     K (.tuple #[.slice z1.1.a z1.1.len z1.1.cap, .int .i64 0])))
theorem c46 (x0 : Option Addr) (x1 : Int) {K : Value → HP} {L : HList} (h : s46 x0 x1 (HL.Ends K) L) : CallF PP 46 #[.pointer x0, .int .i64 x1] L K := by
  refine CallF.of (args := [.pointer x0, .int .i64 x1]) noNum mixed Try.func46 (e46 x0 x1 _) (fr_run ?_ h)
  unfold s46 t46
  refine fr_ifB ?_ ?_
  · exact fr_end
  · refine fr_cl fun r1 => ?_
    refine fr_lp0 fun go1' go1 hgo1 z1 => ?_
    refine fr_ifB ?_ ?_
    · refine fr_cl fun r2 => ?_
      refine fr_ifNe ?_ ?_
      · exact fr_end
      · refine fr_nwL fun n1 => ?_
        refine fr_apv (v := _) 0 rfl fun s1 => ?_
        refine fr_w64 ?_
        exact fr_wk (hgo1 _) rfl
    · exact fr_end

/-- depot/depotlaw25.device -/
def s47 (K : Value → HP) : HP :=
  K (.agg #[.int .i64 2, .int .i64 8, .int .i64 64, .int .i64 9])
theorem c47 {K : Value → HP} {L : HList} (h : s47 (HL.Ends K) L) : CallF PP 47 #[] L K := by
  refine CallF.of (args := []) noNum mixed Try.func47 (e47 _) (fr_run ?_ h)
  unfold s47 t47
  refine fr_nwL fun n1 => ?_
  refine fr_stI 0 0 rfl rfl rfl rfl ?_
  refine fr_ldI 0 0 rfl rfl rfl ?_
  exact fr_end

/-- depot/depotref25.Open -/
def s49 (x0 : Option Addr) (x1 : Int) (x2 : Int) (K : Value → HP) : HP :=
  cl PP 87 #[.pointer x0, .int .i64 x1, .agg #[.int .i64 1, .int .i64 0, .int .i64 1, .int .i64 x2, .int .i64 0], .slice none 0 0] [.lf (.int .i64)] fun r1 =>
  K (.int .i64 r1.1)
theorem c49 (x0 : Option Addr) (x1 : Int) (x2 : Int) {K : Value → HP} {L : HList} (h : s49 x0 x1 x2 (HL.Ends K) L) : CallF PP 49 #[.pointer x0, .int .i64 x1, .int .i64 x2] L K := by
  refine CallF.of (args := [.pointer x0, .int .i64 x1, .int .i64 x2]) noNum mixed Try.func49 (e49 x0 x1 x2 _) (fr_run ?_ h)
  unfold s49 t49
  refine fr_cl fun r1 => ?_
  exact fr_end

/-- depot/depotref25.Append -/
def s50 (x0 : Option Addr) (x1 : Int) (x2 : Int) (x3 : Int) (x4 : Int) (x5 : SlV) (K : Value → HP) : HP :=
  ifB (decide ((x5.len : Int) = 0)) (
   K (.int .i64 2)) (
   lp [.lf (.int .i64)] (0, ()) fun z1 go1 =>   -- i
    ifB (decide ((z1.1 : Int) < x5.len)) (
     w64 (x3 + z1.1) fun i1 =>
     elp x5.a x5.len z1.1 1 fun a1 =>
     ld a1 (.lf .sl) fun v1 =>
     cl PP 87 #[.pointer x0, .int .i64 x1, .agg #[.int .i64 x4, .int .i64 z1.1, .int .i64 x5.len, .int .i64 x2, .int .i64 i1], .slice v1.a v1.len v1.cap] [.lf (.int .i64)] fun r1 =>
     ifB (decide ((r1.1 : Int) = 0)) (
      w64 (z1.1 + 1) fun i2 =>
      go1 (i2, ())) (
      K (.int .i64 r1.1))) (
     K (.int .i64 0)))
theorem c50 (x0 : Option Addr) (x1 : Int) (x2 : Int) (x3 : Int) (x4 : Int) (x5 : SlV) {K : Value → HP} {L : HList} (h : s50 x0 x1 x2 x3 x4 x5 (HL.Ends K) L) : CallF PP 50 #[.pointer x0, .int .i64 x1, .int .i64 x2, .int .i64 x3, .int .i64 x4, .slice x5.a x5.len x5.cap] L K := by
  refine CallF.of (args := [.pointer x0, .int .i64 x1, .int .i64 x2, .int .i64 x3, .int .i64 x4, .slice x5.a x5.len x5.cap]) noNum mixed Try.func50 (e50 x0 x1 x2 x3 x4 x5 _) (fr_run ?_ h)
  unfold s50 t50
  refine fr_ifEq ?_ ?_
  · exact fr_end
  · refine fr_lp0 fun go1' go1 hgo1 z1 => ?_
    refine fr_ifB ?_ ?_
    · refine fr_w64 ?_
      refine fr_elpK fun a1 ha1 => ?_
      refine fr_ld fun v1 => ?_
      refine fr_cl fun r1 => ?_
      refine fr_ifNe ?_ ?_
      · exact fr_end
      · refine fr_w64 ?_
        exact fr_wk (hgo1 _) rfl
    · exact fr_end

/-- depot/depotref25.Seal -/
def s51 (x0 : Option Addr) (x1 : Int) (x2 : Int) (x3 : Int) (x4 : SlV) (K : Value → HP) : HP :=
  cl PP 88 #[.slice x4.a x4.len x4.cap] [.lf .sl, .lf (.int .i64)] fun r1 =>
  ifB (decide ((r1.2.1 : Int) = 0)) (
   cl PP 87 #[.pointer x0, .int .i64 x1, .agg #[.int .i64 4, .int .i64 0, .int .i64 1, .int .i64 x2, .int .i64 x3], .slice r1.1.a r1.1.len r1.1.cap] [.lf (.int .i64)] fun r2 =>
   K (.int .i64 r2.1)) (
   K (.int .i64 r1.2.1))
theorem c51 (x0 : Option Addr) (x1 : Int) (x2 : Int) (x3 : Int) (x4 : SlV) {K : Value → HP} {L : HList} (h : s51 x0 x1 x2 x3 x4 (HL.Ends K) L) : CallF PP 51 #[.pointer x0, .int .i64 x1, .int .i64 x2, .int .i64 x3, .slice x4.a x4.len x4.cap] L K := by
  refine CallF.of (args := [.pointer x0, .int .i64 x1, .int .i64 x2, .int .i64 x3, .slice x4.a x4.len x4.cap]) noNum mixed Try.func51 (e51 x0 x1 x2 x3 x4 _) (fr_run ?_ h)
  unfold s51 t51
  refine fr_cl fun r1 => ?_
  refine fr_ifNe ?_ ?_
  · exact fr_end
  · refine fr_cl fun r2 => ?_
    exact fr_end

/-- depot/depotref25.Load -/
def s56 (x0 : Option Addr) (x1 : Int) (K : Value → HP) : HP :=
  lp [.lf .sl, .lf (.int .i64)] (⟨none, 0, 0⟩, 0, ()) fun z1 go1 =>   -- out, p
   nilc x0 fun a1 =>
   ld (Addr.add a1 1) (.lf (.int .i64)) fun v1 =>
   ifB (decide ((z1.2.1 : Int) < v1)) (
    cl PP 95 #[.pointer x0, .int .i64 x1, .int .i64 z1.2.1] [.lf .sl, .lf (.int .i64)] fun r1 =>
    ifB (decide ((r1.2.1 : Int) = 0)) (
     apv PP 22 22 22 40 z1.1 1 [.slice r1.1.a r1.1.len r1.1.cap] fun s1 =>
     w64 (z1.2.1 + 1) fun i1 =>
     go1 (s1, i1, ())) (
     K (.tuple #[.slice none 0 0, .int .i64 r1.2.1]))) (
    K (.tuple #[.slice z1.1.a z1.1.len z1.1.cap, .int .i64 0]))
theorem c56 (x0 : Option Addr) (x1 : Int) {K : Value → HP} {L : HList} (h : s56 x0 x1 (HL.Ends K) L) : CallF PP 56 #[.pointer x0, .int .i64 x1] L K := by
  refine CallF.of (args := [.pointer x0, .int .i64 x1]) noNum mixed Try.func56 (e56 x0 x1 _) (fr_run ?_ h)
  unfold s56 t56
  refine fr_lp0 fun go1' go1 hgo1 z1 => ?_
  refine fr_nilcK fun a1 ha1 => ?_
  refine fr_ld fun v1 => ?_
  refine fr_ifB ?_ ?_
  · refine fr_cl fun r1 => ?_
    refine fr_ifNe ?_ ?_
    · exact fr_end
    · refine fr_nwL fun n1 => ?_
      refine fr_apv (v := _) 0 rfl fun s1 => ?_
      refine fr_w64 ?_
      exact fr_wk (hgo1 _) rfl
  · exact fr_end

/-- (*depot/region.scanner).each -/
def s60 (x0 : Option Addr) (x1 : FnV) (K : Value → HP) : HP :=
  lp [.lf .sl, .lf (.int .i64)] (⟨none, 0, 0⟩, 1, ()) fun z1 go1 =>   -- l, p
   nilc x0 fun a1 =>
   ld (Addr.add a1 2) (.lf (.int .i64)) fun v1 =>
   ifB (decide ((z1.2.1 : Int) ≤ v1)) (
    clv PP x1.fn (x1.first ++ #[.int .i64 z1.2.1]) x1.captured [.agg [.int .i64, .int .i64, .int .i64], .lf .bool] fun r1 =>
    ifB r1.2.1 (
     apv PP 27 27 27 24 z1.1 1 [.int .i64 r1.1.1, .int .i64 r1.1.2.1, .int .i64 r1.1.2.2.1] fun s1 =>
     w64 (r1.1.2.2.1 - 1) fun i2 =>
     w64 (z1.2.1 + i2) fun i3 =>
     w64 (i3 + 1) fun i4 =>
     go1 (s1, i4, ())) (
     w64 (z1.2.1 + 1) fun i1 =>
     go1 (z1.1, i1, ()))) (
    K (.slice z1.1.a z1.1.len z1.1.cap))
theorem c60 (x0 : Option Addr) (x1 : FnV) {K : Value → HP} {L : HList} (h : s60 x0 x1 (HL.Ends K) L) : CallF PP 60 #[.pointer x0, .func x1.fn x1.first x1.captured] L K := by
  refine CallF.of (args := [.pointer x0, .func x1.fn x1.first x1.captured]) noNum mixed Try.func60 (e60 x0 x1 _) (fr_run ?_ h)
  unfold s60 t60
  refine fr_lp0 fun go1' go1 hgo1 z1 => ?_
  refine fr_nilcK fun a1 ha1 => ?_
  refine fr_ld fun v1 => ?_
  refine fr_ifB ?_ ?_
  · refine fr_clv fun r1 => ?_
    refine fr_nwL fun n1 => ?_
    refine fr_stI 0 0 rfl rfl rfl rfl ?_
    refine fr_ifNot ?_ ?_
    · refine fr_w64 ?_
      exact fr_wk (hgo1 _) rfl
    · refine fr_ldI 0 0 rfl rfl rfl ?_
      refine fr_nwL fun n2 => ?_
      refine fr_apv (v := _) 0 rfl fun s1 => ?_
      refine fr_ldI 1 2 rfl rfl rfl ?_
      refine fr_w64 ?_
      refine fr_w64 ?_
      refine fr_w64 ?_
      exact fr_wk (hgo1 _) rfl
  · exact fr_end

end Go.Proofs.Ytlabcgnegbdlfaa
set_option linter.unusedVariables false
set_option maxRecDepth 100000
namespace Go.Proofs.Ytlabcgnegbdlfaa
open Go.HL
/-- depot/depotref25.is -/
def s63 (x0 : SlV) (x1 : Int) (x2 : ShV (.agg [.int .i64, .int .i64, .int .i64, .int .i64, .int .i64])) (K : Value → HP) : HP :=
  ifB (decide ((x1 : Int) ≥ x0.len)) (
   K (.tuple #[.slice none 0 0, .bool false])) (
   ifB (decide ((x1 : Int) ≥ 16)) (
    K (.tuple #[.slice none 0 0, .bool false])) (
    elp x0.a x0.len x1 1 fun a1 =>
    ld a1 (.lf .sl) fun v1 =>
    cl PP 62 #[.slice v1.a v1.len v1.cap] [.agg [.int .i64, .int .i64, .int .i64, .int .i64, .int .i64], .lf .sl, .lf (.int .i64)] fun r1 =>
    ifB (decide ((r1.2.2.1 : Int) = 0)) (
     smP PP (binOp .eql 111 (.agg #[.int .i64 r1.1.1, .int .i64 r1.1.2.1, .int .i64 r1.1.2.2.1, .int .i64 r1.1.2.2.2.1, .int .i64 r1.1.2.2.2.2.1]) (.agg #[.int .i64 x2.1, .int .i64 x2.2.1, .int .i64 x2.2.2.1, .int .i64 x2.2.2.2.1, .int .i64 x2.2.2.2.2.1])) (.lf .bool) fun v2 =>
     K (.tuple #[.slice r1.2.1.a r1.2.1.len r1.2.1.cap, .bool v2])) (
     K (.tuple #[.slice r1.2.1.a r1.2.1.len r1.2.1.cap, .bool false]))))
theorem c63 (x0 : SlV) (x1 : Int) (x2 : ShV (.agg [.int .i64, .int .i64, .int .i64, .int .i64, .int .i64])) {K : Value → HP} {L : HList} (h : s63 x0 x1 x2 (HL.Ends K) L) : CallF PP 63 #[.slice x0.a x0.len x0.cap, .int .i64 x1, .agg #[.int .i64 x2.1, .int .i64 x2.2.1, .int .i64 x2.2.2.1, .int .i64 x2.2.2.2.1, .int .i64 x2.2.2.2.2.1]] L K := by
  refine CallF.of (args := [.slice x0.a x0.len x0.cap, .int .i64 x1, .agg #[.int .i64 x2.1, .int .i64 x2.2.1, .int .i64 x2.2.2.1, .int .i64 x2.2.2.2.1, .int .i64 x2.2.2.2.2.1]]) noNum mixed Try.func63 (e63 x0 x1 x2 _) (fr_run ?_ h)
  unfold s63 t63
  refine fr_nwL fun n1 => ?_
  refine fr_ifB ?_ ?_
  · exact fr_end
  · refine fr_ifB ?_ ?_
    · exact fr_end
    · refine fr_elpK fun a1 ha1 => ?_
      refine fr_ld fun v1 => ?_
      refine fr_cl fun r1 => ?_
      refine fr_nwL fun n2 => ?_
      refine fr_stI 0 0 rfl rfl rfl rfl ?_
      refine fr_ifEq ?_ ?_
      · refine fr_ldI 0 0 rfl rfl rfl ?_
        refine fr_ldI 1 0 rfl rfl rfl ?_
        refine fr_smP fun v2 => ?_
        exact fr_end
      · exact fr_end

/-- depot/depotref25.sealed -/
def s65 (x0 : SlV) (x1 : Int) (K : Value → HP) : HP :=
  ifB (decide ((Int.tmod x0.len 3 : Int) = 0)) (
   lp [.lf .sl, .lf (.int .i64), .lf (.int .i64)] (⟨none, 0, 0⟩, 1, 0, ()) fun z1 go1 =>   -- out, next, i
    ifB (decide ((z1.2.2.1 : Int) < x0.len)) (
     elp x0.a x0.len z1.2.2.1 1 fun a1 =>
     w64 (z1.2.2.1 + 1) fun i1 =>
     elp x0.a x0.len i1 1 fun a2 =>
     w64 (z1.2.2.1 + 2) fun i2 =>
     elp x0.a x0.len i2 1 fun a3 =>
     ld a1 (.lf (.int .u8)) fun v1 =>
     w64 v1 fun i3 =>
     ld a2 (.lf (.int .u8)) fun v2 =>
     w64 v2 fun i4 =>
     ld a3 (.lf (.int .u8)) fun v3 =>
     w64 v3 fun i5 =>
     ifB (decide ((i3 : Int) = 2)) (
      ifB (decide ((i5 : Int) < 1)) (
       K (.tuple #[.slice none 0 0, .bool false])) (
       ifB (decide ((i4 : Int) = z1.2.1)) (
        w64 (z1.2.1 + i5) fun i8 =>
        apv PP 27 27 27 24 z1.1 1 [.int .i64 i3, .int .i64 i4, .int .i64 i5] fun s2 =>
        w64 (z1.2.2.1 + 3) fun i9 =>
        go1 (s2, i8, i9, ())) (
        K (.tuple #[.slice none 0 0, .bool false])))) (
      ifB (decide ((i3 : Int) = 3)) (
       ifB (decide ((i5 : Int) < 1)) (
        K (.tuple #[.slice none 0 0, .bool false])) (
        ifB (decide ((i4 : Int) = z1.2.1)) (
         w64 (z1.2.1 + i5) fun i6 =>
         apv PP 27 27 27 24 z1.1 1 [.int .i64 i3, .int .i64 i4, .int .i64 i5] fun s1 =>
         w64 (z1.2.2.1 + 3) fun i7 =>
         go1 (s1, i6, i7, ())) (
         K (.tuple #[.slice none 0 0, .bool false])))) (
       K (.tuple #[.slice none 0 0, .bool false])))) (
     K (.tuple #[.slice z1.1.a z1.1.len z1.1.cap, .bool ((z1.2.1 : Int) == x1)]))) (
   K (.tuple #[.slice none 0 0, .bool false]))
theorem c65 (x0 : SlV) (x1 : Int) {K : Value → HP} {L : HList} (h : s65 x0 x1 (HL.Ends K) L) : CallF PP 65 #[.slice x0.a x0.len x0.cap, .int .i64 x1] L K := by
  refine CallF.of (args := [.slice x0.a x0.len x0.cap, .int .i64 x1]) noNum mixed Try.func65 (e65 x0 x1 _) (fr_run ?_ h)
  unfold s65 t65
  refine fr_reqT (by decide) ?_
  refine fr_ifNe ?_ ?_
  · exact fr_end
  · refine fr_lp0 fun go1' go1 hgo1 z1 => ?_
    refine fr_ifB ?_ ?_
    · refine fr_elpK fun a1 ha1 => ?_
      refine fr_w64 ?_
      refine fr_elpK fun a2 ha2 => ?_
      refine fr_w64 ?_
      refine fr_elpK fun a3 ha3 => ?_
      refine fr_ld fun v1 => ?_
      refine fr_w64 ?_
      refine fr_ld fun v2 => ?_
      refine fr_w64 ?_
      refine fr_ld fun v3 => ?_
      refine fr_w64 ?_
      refine fr_nwL fun n1 => ?_
      refine fr_stI 0 0 rfl rfl rfl rfl ?_
      refine fr_ldI 0 0 rfl rfl rfl ?_
      refine fr_ifNe ?_ ?_
      · refine fr_ldI 0 0 rfl rfl rfl ?_
        refine fr_ifNe ?_ ?_
        · exact fr_end
        · refine fr_ldI 0 2 rfl rfl rfl ?_
          refine fr_ifB ?_ ?_
          · exact fr_end
          · refine fr_ldI 0 1 rfl rfl rfl ?_
            refine fr_ifNe ?_ ?_
            · exact fr_end
            · refine fr_ldI 0 2 rfl rfl rfl ?_
              refine fr_w64 ?_
              refine fr_ldI 0 0 rfl rfl rfl ?_
              refine fr_nwL fun n2 => ?_
              refine fr_apv (v := _) 0 rfl fun s1 => ?_
              refine fr_w64 ?_
              exact fr_wk (hgo1 _) rfl
      · refine fr_ldI 0 2 rfl rfl rfl ?_
        refine fr_ifB ?_ ?_
        · exact fr_end
        · refine fr_ldI 0 1 rfl rfl rfl ?_
          refine fr_ifNe ?_ ?_
          · exact fr_end
          · refine fr_ldI 0 2 rfl rfl rfl ?_
            refine fr_w64 ?_
            refine fr_ldI 0 0 rfl rfl rfl ?_
            refine fr_nwL fun n3 => ?_
            refine fr_apv (v := _) 0 rfl fun s2 => ?_
            refine fr_w64 ?_
            exact fr_wk (hgo1 _) rfl
    · exact fr_end

/-- depot/depotref25.found -/
def s66 (x0 : SlV) (x1 : Int) (x2 : Int) (K : Value → HP) : HP :=
  elp x0.a x0.len x1 1 fun a1 =>
  ld a1 (.lf .sl) fun v1 =>
  cl PP 62 #[.slice v1.a v1.len v1.cap] [.agg [.int .i64, .int .i64, .int .i64, .int .i64, .int .i64], .lf .sl, .lf (.int .i64)] fun r1 =>
  ifB (decide ((r1.2.2.1 : Int) = 0)) (
   ifB (decide ((r1.1.1 : Int) = 2)) (
    lp [.lf (.int .i64)] (0, ()) fun z2 go2 =>   -- i
     ifB (decide ((z2.1 : Int) < r1.1.2.2.1)) (
      w64 (x1 + z2.1) fun i4 =>
      w64 (x1 + z2.1) fun i5 =>
      cl PP 63 #[.slice x0.a x0.len x0.cap, .int .i64 i4, .agg #[.int .i64 r1.1.1, .int .i64 z2.1, .int .i64 r1.1.2.2.1, .int .i64 x2, .int .i64 i5]] [.lf .sl, .lf .bool] fun r3 =>
      ifB r3.2.1 (
       w64 (z2.1 + 1) fun i6 =>
       go2 (i6, ())) (
       K (.tuple #[.agg #[.int .i64 0, .int .i64 0, .int .i64 0], .bool false]))) (
      K (.tuple #[.agg #[.int .i64 r1.1.1, .int .i64 x1, .int .i64 r1.1.2.2.1], .bool true]))) (
    ifB (decide ((r1.1.1 : Int) = 3)) (
     lp [.lf (.int .i64)] (0, ()) fun z1 go1 =>   -- i
      ifB (decide ((z1.1 : Int) < r1.1.2.2.1)) (
       w64 (x1 + z1.1) fun i1 =>
       w64 (x1 + z1.1) fun i2 =>
       cl PP 63 #[.slice x0.a x0.len x0.cap, .int .i64 i1, .agg #[.int .i64 r1.1.1, .int .i64 z1.1, .int .i64 r1.1.2.2.1, .int .i64 x2, .int .i64 i2]] [.lf .sl, .lf .bool] fun r2 =>
       ifB r2.2.1 (
        w64 (z1.1 + 1) fun i3 =>
        go1 (i3, ())) (
        K (.tuple #[.agg #[.int .i64 0, .int .i64 0, .int .i64 0], .bool false]))) (
       K (.tuple #[.agg #[.int .i64 r1.1.1, .int .i64 x1, .int .i64 r1.1.2.2.1], .bool true]))) (
     K (.tuple #[.agg #[.int .i64 0, .int .i64 0, .int .i64 0], .bool false])))) (
   K (.tuple #[.agg #[.int .i64 0, .int .i64 0, .int .i64 0], .bool false]))
theorem c66 (x0 : SlV) (x1 : Int) (x2 : Int) {K : Value → HP} {L : HList} (h : s66 x0 x1 x2 (HL.Ends K) L) : CallF PP 66 #[.slice x0.a x0.len x0.cap, .int .i64 x1, .int .i64 x2] L K := by
  refine CallF.of (args := [.slice x0.a x0.len x0.cap, .int .i64 x1, .int .i64 x2]) noNum mixed Try.func66 (e66 x0 x1 x2 _) (fr_run ?_ h)
  unfold s66 t66
  refine fr_nwL fun n1 => ?_
  refine fr_elpK fun a1 ha1 => ?_
  refine fr_ld fun v1 => ?_
  refine fr_cl fun r1 => ?_
  refine fr_nwL fun n2 => ?_
  refine fr_stI 0 0 rfl rfl rfl rfl ?_
  refine fr_ifNe ?_ ?_
  · refine fr_stI 1 0 rfl rfl rfl rfl ?_
    refine fr_ldI 1 0 rfl rfl rfl ?_
    exact fr_end
  · refine fr_ldI 0 0 rfl rfl rfl ?_
    refine fr_ifNe ?_ ?_
    · refine fr_ldI 0 0 rfl rfl rfl ?_
      refine fr_ifNe ?_ ?_
      · refine fr_stI 1 0 rfl rfl rfl rfl ?_
        refine fr_ldI 1 0 rfl rfl rfl ?_
        exact fr_end
      · refine fr_lp0 fun go1' go1 hgo1 z1 => ?_
        refine fr_ldI 0 2 rfl rfl rfl ?_
        refine fr_ifB ?_ ?_
        · refine fr_w64 ?_
          refine fr_ldI 0 0 rfl rfl rfl ?_
          refine fr_ldI 0 2 rfl rfl rfl ?_
          refine fr_w64 ?_
          refine fr_cl fun r2 => ?_
          refine fr_ifNot ?_ ?_
          · refine fr_stI 1 0 rfl rfl rfl rfl ?_
            refine fr_ldI 1 0 rfl rfl rfl ?_
            exact fr_end
          · refine fr_w64 ?_
            exact fr_wk (hgo1 _) rfl
        · refine fr_ldI 0 0 rfl rfl rfl ?_
          refine fr_ldI 0 2 rfl rfl rfl ?_
          refine fr_stI 1 0 rfl rfl rfl rfl ?_
          refine fr_ldI 1 0 rfl rfl rfl ?_
          exact fr_end
    · refine fr_lp0 fun go2' go2 hgo2 z2 => ?_
      refine fr_ldI 0 2 rfl rfl rfl ?_
      refine fr_ifB ?_ ?_
      · refine fr_w64 ?_
        refine fr_ldI 0 0 rfl rfl rfl ?_
        refine fr_ldI 0 2 rfl rfl rfl ?_
        refine fr_w64 ?_
        refine fr_cl fun r3 => ?_
        refine fr_ifNot ?_ ?_
        · refine fr_stI 1 0 rfl rfl rfl rfl ?_
          refine fr_ldI 1 0 rfl rfl rfl ?_
          exact fr_end
        · refine fr_w64 ?_
          exact fr_wk (hgo2 _) rfl
      · refine fr_ldI 0 0 rfl rfl rfl ?_
        refine fr_ldI 0 2 rfl rfl rfl ?_
        refine fr_stI 1 0 rfl rfl rfl rfl ?_
        refine fr_ldI 1 0 rfl rfl rfl ?_
        exact fr_end

/-- depot/region.program -/
def s82 (x0 : Option Addr) (x1 : Int) (x2 : ShV (.agg [.int .i64, .int .i64, .int .i64, .int .i64, .int .i64])) (x3 : SlV) (K : Value → HP) : HP :=
  cl PP 83 #[.pointer x0] [.agg [.int .i64, .int .i64, .int .i64, .int .i64]] fun r1 =>
  cl PP 110 #[.agg #[.int .i64 x2.1, .int .i64 x2.2.1, .int .i64 x2.2.2.1, .int .i64 x2.2.2.2.1, .int .i64 x2.2.2.2.2.1], .slice x3.a x3.len x3.cap, .int .i64 r1.1.2.2.1] [.lf .sl, .lf (.int .i64)] fun r2 =>
  ifB (decide ((r2.2.1 : Int) = 0)) (
   cl PP 111 #[.pointer x0, .int .i64 x1, .int .i64 x2.2.2.2.2.1, .slice r2.1.a r2.1.len r2.1.cap] [.lf (.int .i64)] fun r3 =>
   K (.int .i64 r3.1)) (
   K (.int .i64 r2.2.1))
theorem c82 (x0 : Option Addr) (x1 : Int) (x2 : ShV (.agg [.int .i64, .int .i64, .int .i64, .int .i64, .int .i64])) (x3 : SlV) {K : Value → HP} {L : HList} (h : s82 x0 x1 x2 x3 (HL.Ends K) L) : CallF PP 82 #[.pointer x0, .int .i64 x1, .agg #[.int .i64 x2.1, .int .i64 x2.2.1, .int .i64 x2.2.2.1, .int .i64 x2.2.2.2.1, .int .i64 x2.2.2.2.2.1], .slice x3.a x3.len x3.cap] L K := by
  refine CallF.of (args := [.pointer x0, .int .i64 x1, .agg #[.int .i64 x2.1, .int .i64 x2.2.1, .int .i64 x2.2.2.1, .int .i64 x2.2.2.2.1, .int .i64 x2.2.2.2.2.1], .slice x3.a x3.len x3.cap]) noNum mixed Try.func82 (e82 x0 x1 x2 x3 _) (fr_run ?_ h)
  unfold s82 t82
  refine fr_nwL fun n1 => ?_
  refine fr_ldI 0 0 rfl rfl rfl ?_
  refine fr_cl fun r1 => ?_
  refine fr_keepI 0 0 rfl rfl rfl ?_
  refine fr_cl fun r2 => ?_
  refine fr_ifNe ?_ ?_
  · exact fr_end
  · refine fr_ldI 0 4 rfl rfl rfl ?_
    refine fr_cl fun r3 => ?_
    exact fr_end

/-- depot/depotref25.one -/
def s87 (x0 : Option Addr) (x1 : Int) (x2 : ShV (.agg [.int .i64, .int .i64, .int .i64, .int .i64, .int .i64])) (x3 : SlV) (K : Value → HP) : HP :=
  nilc x0 fun a1 =>
  ld (Addr.add a1 2) (.lf (.int .i64)) fun v1 =>
  cl PP 100 #[.agg #[.int .i64 x2.1, .int .i64 x2.2.1, .int .i64 x2.2.2.1, .int .i64 x2.2.2.2.1, .int .i64 x2.2.2.2.2.1], .slice x3.a x3.len x3.cap, .int .i64 v1] [.lf .sl, .lf (.int .i64)] fun r1 =>
  ifB (decide ((r1.2.1 : Int) = 0)) (
   cl PP 112 #[.pointer x0, .int .i64 x1, .int .i64 x2.2.2.2.2.1, .slice r1.1.a r1.1.len r1.1.cap] [.lf (.int .i64)] fun r2 =>
   K (.int .i64 r2.1)) (
   K (.int .i64 r1.2.1))
theorem c87 (x0 : Option Addr) (x1 : Int) (x2 : ShV (.agg [.int .i64, .int .i64, .int .i64, .int .i64, .int .i64])) (x3 : SlV) {K : Value → HP} {L : HList} (h : s87 x0 x1 x2 x3 (HL.Ends K) L) : CallF PP 87 #[.pointer x0, .int .i64 x1, .agg #[.int .i64 x2.1, .int .i64 x2.2.1, .int .i64 x2.2.2.1, .int .i64 x2.2.2.2.1, .int .i64 x2.2.2.2.2.1], .slice x3.a x3.len x3.cap] L K := by
  refine CallF.of (args := [.pointer x0, .int .i64 x1, .agg #[.int .i64 x2.1, .int .i64 x2.2.1, .int .i64 x2.2.2.1, .int .i64 x2.2.2.2.1, .int .i64 x2.2.2.2.2.1], .slice x3.a x3.len x3.cap]) noNum mixed Try.func87 (e87 x0 x1 x2 x3 _) (fr_run ?_ h)
  unfold s87 t87
  refine fr_nwL fun n1 => ?_
  refine fr_nilcK fun a1 ha1 => ?_
  refine fr_ldI 0 0 rfl rfl rfl ?_
  refine fr_ld fun v1 => ?_
  refine fr_cl fun r1 => ?_
  refine fr_ifNe ?_ ?_
  · exact fr_end
  · refine fr_ldI 0 4 rfl rfl rfl ?_
    refine fr_cl fun r2 => ?_
    exact fr_end

/-- depot/depotref25.SealLoad -/
def s88 (x0 : SlV) (K : Value → HP) : HP :=
  lp [.lf .sl, .lf (.int .i64)] (⟨none, 0, 0⟩, 0, ()) fun z1 go1 =>   -- b, i
   ifB (decide ((z1.2.1 : Int) < x0.len)) (
    elp x0.a x0.len z1.2.1 3 fun a1 =>
    ld a1 (.lf (.int .i64)) fun v1 =>
    ld (Addr.add a1 1) (.lf (.int .i64)) fun v2 =>
    ld (Addr.add a1 2) (.lf (.int .i64)) fun v3 =>
    nw (.cells #[.int .i64 v1, .int .i64 v2, .int .i64 v3] 3) fun n1 =>
    lp [.lf .sl, .lf (.int .i64)] (z1.1, 0, ()) fun z2 go2 =>   -- b, k
     ifB (decide ((z2.2.1 : Int) < 3)) (
      ixn z2.2.1 3 <|
      ld (Addr.add ⟨n1, 0, none⟩ (z2.2.1.toNat * 1)) (.lf (.int .i64)) fun v4 =>
      ifB (decide ((v4 : Int) < 0)) (
       K (.tuple #[.slice none 0 0, .int .i64 3])) (
       ixn z2.2.1 3 <|
       ld (Addr.add ⟨n1, 0, none⟩ (z2.2.1.toNat * 1)) (.lf (.int .i64)) fun v5 =>
       ifB (decide ((v5 : Int) > 255)) (
        K (.tuple #[.slice none 0 0, .int .i64 3])) (
        ixn z2.2.1 3 <|
        ld (Addr.add ⟨n1, 0, none⟩ (z2.2.1.toNat * 1)) (.lf (.int .i64)) fun v6 =>
        apv PP 40 40 40 5 z2.1 1 [.int .u8 (IntKind.u8.wrap v6)] fun s1 =>
        w64 (z2.2.1 + 1) fun i1 =>
        go2 (s1, i1, ())))) (
      w64 (z1.2.1 + 1) fun i2 =>
      go1 (z2.1, i2, ()))) (
    K (.tuple #[.slice z1.1.a z1.1.len z1.1.cap, .int .i64 0]))
theorem c88 (x0 : SlV) {K : Value → HP} {L : HList} (h : s88 x0 (HL.Ends K) L) : CallF PP 88 #[.slice x0.a x0.len x0.cap] L K := by
  refine CallF.of (args := [.slice x0.a x0.len x0.cap]) noNum mixed Try.func88 (e88 x0 _) (fr_run ?_ h)
  unfold s88 t88
  refine fr_lp0 fun go1' go1 hgo1 z1 => ?_
  refine fr_ifB ?_ ?_
  · refine fr_elpK fun a1 ha1 => ?_
    refine fr_elpE ha1 ?_
    refine fr_elpE ha1 ?_
    refine fr_ld fun v1 => ?_
    refine fr_ld fun v2 => ?_
    refine fr_ld fun v3 => ?_
    refine fr_nw fun n1 => ?_
    refine fr_lp0 fun go2' go2 hgo2 z2 => ?_
    refine fr_ifB ?_ ?_
    · refine fr_ixn ?_
      refine fr_ld fun v4 => ?_
      refine fr_ifB ?_ ?_
      · exact fr_end
      · refine fr_ixn ?_
        refine fr_ld fun v5 => ?_
        refine fr_ifB ?_ ?_
        · exact fr_end
        · refine fr_ixn ?_
          refine fr_ld fun v6 => ?_
          refine fr_nwL fun n2 => ?_
          refine fr_apv (v := _) 0 rfl fun s1 => ?_
          refine fr_w64 ?_
          exact fr_wk (hgo2 _) rfl
    · refine fr_w64 ?_
      exact fr_wk (hgo1 _) rfl
  · exact fr_end

end Go.Proofs.Ytlabcgnegbdlfaa
set_option linter.unusedVariables false
set_option maxRecDepth 100000
namespace Go.Proofs.Ytlabcgnegbdlfaa
open Go.HL
end Go.Proofs.Ytlabcgnegbdlfaa
set_option linter.unusedVariables false
set_option maxRecDepth 100000
namespace Go.Proofs.Ytlabcgnegbdlfaa
open Go.HL
end Go.Proofs.Ytlabcgnegbdlfaa
set_option linter.unusedVariables false
set_option maxRecDepth 100000
namespace Go.Proofs.Ytlabcgnegbdlfaa
open Go.HL
end Go.Proofs.Ytlabcgnegbdlfaa
set_option linter.unusedVariables false
set_option maxRecDepth 100000
namespace Go.Proofs.Ytlabcgnegbdlfaa
open Go.HL
end Go.Proofs.Ytlabcgnegbdlfaa
set_option linter.unusedVariables false
set_option linter.unusedSimpArgs false
namespace Go.Proofs.Ytlabcgnegbdlfaa
open Go.HL

theorem found_rng {ps : List (List UInt8)} {ep : Int} {q : Nat} {x : It} (h : foundR ps ep q = some x) : 1 ≤ x.2.2.1 ∧ x.2.2.1 ≤ 16 := by
  unfold foundR at h
  split at h
  · rename_i b hb
    split at h
    · rename_i h1
      split at h
      · obtain rfl := Option.some.inj h
        have := hErr_ok (par_ok h1.1)
        exact ⟨this.2.2.1, this.2.2.2.1⟩
      · cases h
    · cases h
  · cases h
theorem each_cl (L B : HList) (m : Nat) (ps : List (List UInt8)) (ep : Int) (last : Nat) (hB : SH m ps ep last B) (hs : ∀ x ∈ B, x ∈ L) (hlast : last < min ps.length 16) :
    CallF PP 60 #[.pointer (some ⟨m, 0, none⟩), .func (.func 61) #[.pointer (some ⟨m, 0, none⟩)] #[]] L fun r L' => ∃ (v : SlV) (seg : HList), r = .slice v.a v.len v.cap ∧ L' = seg ++ L ∧ Own v 3 eItm ((eachR (foundR ps ep) last 17 1).flatMap itEnc) seg := by
  refine c60 (some ⟨m, 0, none⟩) ⟨.func 61, #[.pointer (some ⟨m, 0, none⟩)], #[]⟩ ?_
  unfold s60
  have hB0 := hB
  obtain ⟨sv, seg, ims, hBe, hh⟩ := hB
  have hmO : sO m sv ep last ∈ L := hs _ (by rw [hBe]; exact List.mem_cons_self)
  refine lp_of (fun z' z L' => ∃ (p k : Nat) (s : SlV) (ds : List It) (sg : HList), 1 ≤ p ∧ p ≤ 32 ∧ z' = 40 - p ∧ last + 1 ≤ p + k ∧ z = (s, (p : Int), ()) ∧ L' = sg ++ L ∧ Own s 3 eItm (ds.flatMap itEnc) sg ∧ ds.length < p ∧ eachR (foundR ps ep) last 17 1 = ds ++ eachR (foundR ps ep) last k p) 39
    ⟨1, 17, ⟨none, 0, 0⟩, [], [], by omega, by omega, rfl, by omega, rfl, rfl, own_nil, by simp, rfl⟩ ?_
  rintro z' z _ ⟨p, k, s, ds, sg, h1, h2, rfl, hk, rfl, rfl, own, hd, he⟩
  dsimp only
  have hsl := own.sl.els_len itEnc_len (by decide)
  refine nilc_of rfl (ld_of (last : Int) ((s_la hmO).mono mem_r) (ifb_of (fun (hle : (p : Int) ≤ last) => ?_) (fun (hgt : ¬ (p : Int) ≤ last) => ?_)))
  · obtain ⟨k, rfl⟩ : ∃ k', k = k' + 1 := ⟨k - 1, by omega⟩
    have hst : eachR (foundR ps ep) last (k + 1) p = match foundR ps ep p with | some x => x :: eachR (foundR ps ep) last k (p + x.2.2.1.toNat) | none => eachR (foundR ps ep) last k (p + 1) := by
      rw [eachR, if_pos (by omega)]; rfl
    refine clv_of (by kernel_rfl) (cl_of (at_cl (sg ++ L) B m ps ep last hB0 (fun x hx => List.mem_append_right _ (hs x hx)) p (by omega)) ?_)
    rintro _ _ - ⟨rfl, ⟨hn, rfl⟩ | ⟨x, hx, rfl⟩⟩
    · rw [hst, hn] at he
      refine ⟨((0, 0, 0, ()), false, ()), rfl, ifF rfl (w64_of (by omega) ⟨40 - (p + 1), by omega, p + 1, k, s, ds, sg, by omega, by omega, rfl, by omega, rfl, rfl, own, by omega, he⟩)⟩
    · have hr := found_rng hx
      rw [hst, hx] at he
      refine ⟨(x, true, ()), rfl, ifT rfl ?_⟩
      dsimp only
      refine apv_in elemItm srcItm [] L own rfl rfl rfl (by omega) fun s2 sg2 hs2 own2 => w64_of (by omega) (w64_of (by omega) (w64_of (by omega) ?_))
      refine ⟨40 - (p + x.2.2.1.toNat), by omega, p + x.2.2.1.toNat, k, s2, ds ++ [x], sg2, by omega, by omega, rfl, by omega, ?_, rfl, ?_, by simp; omega, by rw [he]; simp⟩
      · show (s2, (p : Int) + (x.2.2.1 - 1) + 1, ()) = _
        rw [show (p : Int) + (x.2.2.1 - 1) + 1 = ((p + x.2.2.1.toNat : Nat) : Int) by omega]
      · rw [List.flatMap_append, List.flatMap_singleton]; exact own2
  · have hst : eachR (foundR ps ep) last k p = [] := by
      cases k with
      | zero => rfl
      | succ k => rw [eachR, if_neg (by omega)]
    rw [hst, List.append_nil] at he
    exact .of ⟨s, sg, rfl, rfl, by rw [he]; exact own⟩
abbrev Rg := (Int × Bool × List It) × Bool
def ScanK (q : Rg) (A : HList) (r : Value) (L' : HList) : Prop := ∃ (v : SlV) (seg : HList), r = .tuple #[.agg #[.int .i64 q.1.1, .bool q.1.2.1, .slice v.a v.len v.cap], .bool q.2] ∧ L' = seg ++ A ∧ Own v 3 eItm (q.1.2.2.flatMap itEnc) seg
theorem ScanK.no {q : Rg} {A J : HList} (h : q = ((0, false, []), false)) : HL.Ends (ScanK q A) (.tuple #[.agg #[.int .i64 0, .bool false, .slice none 0 0], .bool false]) (J ++ A) := .app (.of ⟨⟨none, 0, 0⟩, [], by rw [h], rfl, by rw [h]; exact own_nil⟩)
theorem scanR_nil : scanR [] = ((0, false, []), false) := rfl
theorem lastR_lt {ps : List (List UInt8)} (h : ps ≠ []) : lastR ps < min ps.length 16 := by
  have h1 := lastD_le ps (min ps.length 16 - 1)
  have h2 : 0 < ps.length := List.length_pos_iff.2 h
  unfold lastR
  omega
theorem scanR_no {ps : List (List UInt8)} (h : saysR ps 0 (1, 0, 1, epR ps, 0, ()) ≠ some []) : scanR ps = ((0, false, []), false) := by
  unfold scanR
  split
  · rfl
  · split
    · rename_i h2; exact absurd h2 h
    · rfl
theorem scanR_seal {ps : List (List UInt8)} (h0 : ps ≠ []) (h : saysR ps 0 (1, 0, 1, epR ps, 0, ()) = some []) {l : List It} (hl : (if lastR ps > 0 then sealS ps (epR ps) else none) = some l) : scanR ps = ((epR ps, true, l), true) := by
  unfold scanR
  rw [if_neg h0, h]
  simp only [hl]
theorem scanR_each {ps : List (List UInt8)} (h0 : ps ≠ []) (h : saysR ps 0 (1, 0, 1, epR ps, 0, ()) = some []) (hl : (if lastR ps > 0 then sealS ps (epR ps) else none) = none) : scanR ps = ((epR ps, false, eachR (foundR ps (epR ps)) (lastR ps) 17 1), true) := by
  unfold scanR
  rw [if_neg h0, h]
  simp only [hl]
theorem scan_cl (A : HList) (v : SlV) (l : List PV) (h : Parts A v l) (hl : l.length ≤ 1000000) (hb : ∀ x ∈ l, x.2.length ≤ 1000000) : CallF PP 10 #[.slice v.a v.len v.cap] A (ScanK (scanR (l.map Prod.snd)) A) := by
  refine c10 v ?_
  unfold s10
  refine cl_of (look_cl A v l h hl hb) ?_
  rintro _ _ - ⟨m, B, rfl, rfl, hSH⟩
  refine ⟨(some ⟨m, 0, none⟩, ()), rfl, nilc_of rfl ?_⟩
  obtain ⟨sv, seg, ims, rfl, hh⟩ := hSH
  generalize hps : l.map Prod.snd = ps at hh ⊢
  have hvl := hh.own.sl.els_len IM.enc_len (by decide)
  have hil := hh.ilen
  refine ld_of sv (s_im (L := sO m sv 0 (lastR ps) :: (seg ++ imsegs ims) ++ A) List.mem_cons_self) (ifb_of (fun (h0 : (sv.len : Int) = 0) => ?_) (fun (h0 : ¬ (sv.len : Int) = 0) => ?_))
  · have : ps = [] := List.length_eq_zero_iff.1 (by omega)
    exact ScanK.no (by rw [this]; rfl)
  have hne : ps ≠ [] := fun e => h0 (by rw [e, List.length_nil] at hil; omega)
  have hlt := lastR_lt hne
  refine ld_of sv (s_im (L := sO m sv 0 (lastR ps) :: (seg ++ imsegs ims) ++ A) List.mem_cons_self) ?_
  have hSl : Sl (sO m sv 0 (lastR ps) :: (seg ++ imsegs ims) ++ A) sv 7 (ims.flatMap IM.enc) := Sl.mono hh.own.sl fun x hx => by simp [hx]
  have hi0 : 0 < ims.length := by omega
  refine elp_el IM.enc_len (by decide) hSl (i := 0) (n := 0) rfl hi0 fun a ha => ?_
  obtain ⟨hip, i1, -, -⟩ := hh.im hi0
  have hep : epR ps = ims[0].h.2.2.2.1 := by
    unfold epR
    rw [i1]
    congr 4
    simp [List.getD_eq_getElem?_getD, hip]
  refine ld_of ims[0].h.2.2.2.1 (ha.one 3 rfl) ?_
  rw [← hep]
  refine st_of (n := m) (off := 1) (c := #[.slice sv.a sv.len sv.cap, .int .i64 0, .int .i64 (lastR ps)]) (T := 109) (fz := (0, 0)) [] ((seg ++ imsegs ims) ++ A) rfl (by simp [sO]) (by simp) (.inl (Nat.le_refl _)) #[.slice sv.a sv.len sv.cap, .int .i64 (epR ps), .int .i64 (lastR ps)] rfl ?_
  obtain ⟨B, hBd⟩ : ∃ B, B = sO m sv (epR ps) (lastR ps) :: (seg ++ imsegs ims) := ⟨_, rfl⟩
  have hBB : ([] ++ (m, Obj.cells #[.slice sv.a sv.len sv.cap, .int .i64 (epR ps), .int .i64 (lastR ps)] 109) :: ((seg ++ imsegs ims) ++ A)) = B ++ A := by rw [hBd]; rfl
  rw [hBB]
  have hSH : SH m ps (epR ps) (lastR ps) B := ⟨sv, seg, ims, hBd, hh⟩
  have hmO : sO m sv (epR ps) (lastR ps) ∈ B ++ A := by rw [hBd]; simp
  refine cl_of (says_cl (B ++ A) B m ps (epR ps) (lastR ps) hSH mem_l 0 (1, 0, 1, 0, 0, ())) ?_
  rintro _ _ - ⟨rfl, ⟨hn, rfl⟩ | ⟨w, p, hsm, rfl, hw, -⟩⟩
  · exact ⟨(⟨none, 0, 0⟩, false, ()), rfl, ifF rfl (ScanK.no (scanR_no (by rw [hn]; exact fun e => by cases e)))⟩
  have hwl := hw.len
  refine ⟨(w, true, ()), rfl, ifT rfl (ifb_of (fun (h1 : (w.len : Int) > 0) => ScanK.no (scanR_no (by rw [hsm]; intro e; cases e; simp at hwl; omega))) (fun (h1 : ¬ (w.len : Int) > 0) => ?_))⟩
  obtain rfl : p = [] := List.length_eq_zero_iff.1 (by omega)
  refine jn_of (fun _ L' => ∃ J, L' = J ++ (B ++ A) ∧ (if lastR ps > 0 then sealS ps (epR ps) else none) = none) ?_ ?_
  · rintro _ _ ⟨J, rfl, hno⟩
    refine ld_of (epR ps) ((s_ep hmO).mono mem_r) (cl_of (each_cl (J ++ (B ++ A)) B m ps (epR ps) (lastR ps) hSH (fun x hx => by simp [hx]) hlt) ?_)
    rintro _ _ - ⟨v1, sg1, rfl, rfl, own1⟩
    refine ⟨(v1, ()), rfl, keep_of (((s_ep hmO).mono mem_r).mono mem_r) (.drop (A := sg1 ++ A) (J := J ++ B) ⟨v1, sg1, ?_, rfl, ?_⟩ ?_)⟩
    · rw [scanR_each hne hsm hno]
    · rw [scanR_each hne hsm hno]; exact own1
    · classical
      rw [List.perm_iff_count]
      intro z
      simp only [List.count_append]
      omega
  · intro j hj
    refine ld_of (lastR ps : Int) (s_la hmO) (ifb_of (fun (h2 : (lastR ps : Int) > 0) => ?_) (fun (h2 : ¬ (lastR ps : Int) > 0) => hj _ _ ⟨[], rfl, by rw [if_neg (by omega)]⟩))
    have h2' : lastR ps > 0 := by omega
    refine cl_of (seal_cl (B ++ A) B m ps (epR ps) hSH mem_l) ?_
    rintro _ _ - (⟨hn, rfl, w2, rfl⟩ | ⟨its, w2, sg2, hs2, rfl, rfl, own2⟩)
    · exact ⟨(w2, false, ()), rfl, ifF rfl (hj _ _ ⟨[], rfl, by rw [if_pos h2']; exact hn⟩)⟩
    · have hsc := scanR_seal hne hsm (l := its) (by rw [if_pos h2']; exact hs2)
      refine ⟨(w2, true, ()), rfl, ifT rfl (ld_of (epR ps) ((s_ep hmO).mono mem_r) (.drop (A := sg2 ++ A) (J := B) ⟨w2, sg2, by rw [hsc], rfl, by rw [hsc]; exact own2⟩ ?_))⟩
      classical
      rw [List.perm_iff_count]
      intro z
      simp only [List.count_append]
      omega
/-! ### Parts -/
def partsG (ps : List (List UInt8)) (pg : Int) : Nat → Option (List (List UInt8))
  | 0 => some []
  | n + 1 => match partsG ps pg n with
    | some l => if pg < 0 ∨ (ps.length : Int) ≤ pg + n then none else if (parR (ps.getD (pg.toNat + n) [])).2.2 = 0 then some (l ++ [(parR (ps.getD (pg.toNat + n) [])).2.1]) else none
    | none => none
def partsR (ps : List (List UInt8)) (x : It) : List (List UInt8) := (partsG ps x.2.1 x.2.2.1.toNat).getD []
theorem partsG_none {ps : List (List UInt8)} {pg : Int} : ∀ {n m : Nat}, n ≤ m → partsG ps pg n = none → partsG ps pg m = none
  | n, m, h, hn => by
    induction m with
    | zero => obtain rfl : n = 0 := by omega
              exact hn
    | succ m ih =>
      rcases Nat.lt_or_ge m n with h1 | h1
      · obtain rfl : n = m + 1 := by omega
        exact hn
      · rw [partsG, ih h1]
theorem partsG_len {ps : List (List UInt8)} {pg : Int} : ∀ {n : Nat} {l : List (List UInt8)}, partsG ps pg n = some l → l.length = n ∧ (0 < n → pg + n ≤ ps.length)
  | 0, l, h => by obtain rfl := Option.some.inj h; exact ⟨rfl, fun h => absurd h (by omega)⟩
  | n + 1, l, h => by
    rw [partsG] at h
    split at h
    · rename_i l' hl'
      split at h
      · cases h
      · split at h
        · obtain rfl := Option.some.inj h
          exact ⟨by simp [(partsG_len hl').1], fun _ => by omega⟩
        · cases h
    · cases h
def PartsK (l : List (List UInt8)) (A : HList) (r : Value) (L' : HList) : Prop := ∃ (v : SlV) (gs : List PG) (seg : HList), r = .slice v.a v.len v.cap ∧ L' = seg ++ (pgs gs ++ A) ∧ Own v 1 tB (gs.map PG.val) seg ∧ (∀ g ∈ gs, g.Ok) ∧ gs.map PG.l = l
theorem PartsK.nil {l : List (List UInt8)} {A : HList} (h : l = []) : PartsK l A (.slice none 0 0) A := ⟨⟨none, 0, 0⟩, [], [], rfl, rfl, own_nil, by simp, by rw [h]; rfl⟩
theorem PartsK.no {ps : List (List UInt8)} {x : It} {A J : HList} {n : Nat} (hn : n ≤ x.2.2.1.toNat) (h : partsG ps x.2.1 n = none) : HL.Ends (PartsK (partsR ps x) A) (.slice none 0 0) (J ++ A) := .app (.of (PartsK.nil (by unfold partsR; rw [partsG_none hn h]; rfl)))
def PInv (ps : List (List UInt8)) (pg : Int) (A : HList) (i : Nat) (s : SlV) (L' : HList) : Prop := ∃ (gs : List PG) (sg J X Y : HList), L' = X ++ sg ++ Y ∧ (X ++ Y).Perm (pgs gs ++ (J ++ A)) ∧ Own s 1 tB (gs.map PG.val) sg ∧ (∀ g ∈ gs, g.Ok) ∧ partsG ps pg i = some (gs.map PG.l)
theorem PInv.sub {ps : List (List UInt8)} {pg : Int} {A : HList} {i : Nat} {s : SlV} {L' : HList} (h : PInv ps pg A i s L') : ∀ x ∈ A, x ∈ L' := by
  obtain ⟨gs, sg, J, X, Y, rfl, hp, -⟩ := h
  intro x hx
  have h5 : x ∈ X ++ Y := (hp.mem_iff (a := x)).2 (by simp [hx])
  simp only [List.mem_append] at h5 ⊢
  rcases h5 with h5 | h5 <;> simp [h5]
theorem PInv.fin {ps : List (List UInt8)} {x : It} {A : HList} {i : Nat} {s : SlV} {L' : HList} (h : PInv ps x.2.1 A i s L') (hi : i = x.2.2.1.toNat) : HL.Ends (PartsK (partsR ps x) A) (.slice s.a s.len s.cap) L' := by
  obtain ⟨gs, sg, J, X, Y, rfl, hp, own, hok, hg⟩ := h
  refine .drop (A := sg ++ (pgs gs ++ A)) (J := J) ⟨s, gs, sg, rfl, rfl, own, hok, ?_⟩ ?_
  · unfold partsR; rw [← hi, hg]; rfl
  · classical
    rw [List.perm_iff_count] at hp ⊢
    intro z
    have := hp z
    simp only [List.count_append] at this ⊢
    omega
theorem PInv.app {ps : List (List UInt8)} {x : It} {A : HList} {i : Nat} {s : SlV} {L' : HList} (h : PInv ps x.2.1 A i s L') (hn : partsG ps x.2.1 (i + 1) = none) (hi : i < x.2.2.1.toNat) (seg : HList) : HL.Ends (PartsK (partsR ps x) A) (.slice none 0 0) (seg ++ L') := by
  obtain ⟨gs, sg, J, X, Y, rfl, hp, -⟩ := h
  refine .drop (A := A) (J := seg ++ (sg ++ (pgs gs ++ J))) (PartsK.nil (by unfold partsR; rw [partsG_none hi hn]; rfl)) ?_
  classical
  rw [List.perm_iff_count] at hp ⊢
  intro z
  have := hp z
  simp only [List.count_append] at this ⊢
  omega
theorem PInv.snoc {ps : List (List UInt8)} {pg : Int} {A : HList} {i : Nat} {s : SlV} {L' : HList} (h : PInv ps pg A i s L') (g : PG) (hg : g.Ok) (hgl : g.l.length ≤ 1000000) (hi : i ≤ 1000000) (hn : partsG ps pg (i + 1) = (partsG ps pg i).map fun l => l ++ [g.l]) {k : SlV → HP} (hk : ∀ s' L', PInv ps pg A (i + 1) s' L' → k s' L') :
    apv PP tPs tPs tPs tB s 1 [g.val] k (g.seg ++ L') := by
  obtain ⟨gs, sg, J, X, Y, rfl, hp, own, hok, hl⟩ := h
  have hln := (partsG_len hl).1
  rw [List.length_map] at hln
  have hsl := own.len
  rw [List.length_map] at hsl
  refine apv_in elemPs srcPs (g.seg ++ X) Y own (by simp) rfl rfl (by omega) fun s2 sg2 _ own2 => hk _ _ ⟨gs ++ [g], sg2, J, g.seg ++ X, Y, by simp, ?_, ?_, ?_, ?_⟩
  · rw [pgs_append, pgs_one]
    classical
    rw [List.perm_iff_count] at hp ⊢
    intro z
    have := hp z
    simp only [List.count_append] at this ⊢
    omega
  · rw [List.map_append]; exact own2
  · intro g' hg'
    rcases List.mem_append.1 hg' with h1 | h1
    · exact hok g' h1
    · rw [List.mem_singleton.1 h1]; exact hg
  · rw [hn, hl]; simp
theorem ppartsrg_cl (A : HList) (v : SlV) (l : List PV) (h : Parts A v l) (hl : l.length ≤ 1000000) (hb : ∀ x ∈ l, x.2.length ≤ 1000000) (x : It) (hx : intWf .i64 x.2.1 ∧ intWf .i64 x.2.2.1) :
    CallF PP 14 #[.slice v.a v.len v.cap, .agg #[.int .i64 x.1, .int .i64 x.2.1, .int .i64 x.2.2.1]] A (PartsK (partsR (l.map Prod.snd) x) A) := by
  refine c14 v x ?_
  unfold s14
  have hvl := h.len
  have hx1 := wf_i64 hx.1
  have hx2 := wf_i64 hx.2
  generalize hps : l.map Prod.snd = ps
  have hpl : ps.length = l.length := by rw [← hps]; simp
  refine lp_of (fun z' z L' => ∃ (i : Nat) (s : SlV), i ≤ x.2.2.1.toNat ∧ i ≤ l.length ∧ z' = x.2.2.1.toNat - i ∧ z = (s, (i : Int), ()) ∧ PInv ps x.2.1 A i s L') x.2.2.1.toNat ⟨0, ⟨none, 0, 0⟩, by omega, by omega, by omega, rfl, [], [], [], [], A, rfl, List.Perm.refl _, own_nil, by simp, rfl⟩ ?_
  rintro z' z L1 ⟨i, s, hi, hil, rfl, rfl, hP⟩
  dsimp only
  refine ifb_of (fun (hlt : (i : Int) < x.2.2.1) => ?_) (fun (hge : ¬ (i : Int) < x.2.2.1) => hP.fin (by omega))
  obtain ⟨gs, sg, J, X, Y, hLe, hp, own, hok, hg⟩ := hP
  have hP : PInv ps x.2.1 A i s L1 := ⟨gs, sg, J, X, Y, hLe, hp, own, hok, hg⟩
  have hi' : i < x.2.2.1.toNat := by omega
  have hstep := show partsG ps x.2.1 (i + 1) = _ from rfl
  rw [partsG, hg] at hstep
  simp only at hstep
  refine ifb_of (fun (h1 : x.2.1 < 0) => hP.app (by rw [partsG, hg]; simp only; rw [if_pos (.inl h1)]) hi' []) (fun (h1 : ¬ x.2.1 < 0) => w64_of (by omega) (ifb_of (fun (h2 : x.2.1 ≥ (v.len : Int) - i) => hP.app (by rw [partsG, hg]; simp only; rw [if_pos (.inr (by omega))]) hi' []) (fun (h2 : ¬ x.2.1 ≥ (v.len : Int) - i) => w64_of (by omega) ?_)))
  have hq : x.2.1.toNat + i < l.length := by omega
  have hst : partsG ps x.2.1 (i + 1) = if (parR l[x.2.1.toNat + i].2).2.2 = 0 then some (gs.map PG.l ++ [(parR l[x.2.1.toNat + i].2).2.1]) else none := by
    rw [partsG, hg]
    simp only
    rw [if_neg (by omega)]
    have : ps.getD (x.2.1.toNat + i) [] = l[x.2.1.toNat + i].2 := by rw [← hps]; simp [List.getD_eq_getElem?_getD, hq]
    rw [this]
  refine elp_1 (h.sl.mono hP.sub) (n := x.2.1.toNat + i) (by omega) (by rw [List.length_map]; exact hq) fun a ha => ?_
  rw [List.getElem_map] at ha
  refine ld_of l[x.2.1.toNat + i].1 ha (cl_of (pparse_cl L1 _ l[x.2.1.toNat + i].2 (Sl.mono (h.val _ (List.getElem_mem hq)) hP.sub) (hb _ (List.getElem_mem hq))) ?_)
  rintro _ _ - ⟨s2, sg2, rfl, rfl, own2⟩
  refine ⟨((parR l[x.2.1.toNat + i].2).1, s2, (parR l[x.2.1.toNat + i].2).2.2, ()), rfl, ifb_of (fun (h3 : (parR l[x.2.1.toNat + i].2).2.2 = 0) => ?_) (fun (h3 : ¬ (parR l[x.2.1.toNat + i].2).2.2 = 0) => hP.app (by rw [hst, if_neg h3]) hi' sg2)⟩
  refine hP.snoc ⟨s2, sg2, (parR l[x.2.1.toNat + i].2).2.1⟩ own2 (Nat.le_trans (parR_len _) (hb _ (List.getElem_mem hq))) (by omega) (by rw [hst, hg, if_pos h3]; rfl) fun s' L' hP' => w64_of (by omega) ⟨x.2.2.1.toNat - (i + 1), by omega, i + 1, s', by omega, by omega, rfl, rfl, hP'⟩
theorem rpartsrg_cl (A : HList) (v : SlV) (l : List PV) (h : Parts A v l) (hl : l.length ≤ 1000000) (hb : ∀ x ∈ l, x.2.length ≤ 1000000) (x : It) (hx : intWf .i64 x.2.1 ∧ intWf .i64 x.2.2.1) :
    CallF PP 15 #[.slice v.a v.len v.cap, .agg #[.int .i64 x.1, .int .i64 x.2.1, .int .i64 x.2.2.1]] A (PartsK (partsR (l.map Prod.snd) x) A) := by
  refine c15 v x ?_
  unfold s15
  have hvl := h.len
  have hx1 := wf_i64 hx.1
  have hx2 := wf_i64 hx.2
  generalize hps : l.map Prod.snd = ps
  have hpl : ps.length = l.length := by rw [← hps]; simp
  refine lp_of (fun z' z L' => ∃ (i : Nat) (s : SlV), i ≤ x.2.2.1.toNat ∧ i ≤ l.length ∧ z' = x.2.2.1.toNat - i ∧ z = (s, (i : Int), ()) ∧ PInv ps x.2.1 A i s L') x.2.2.1.toNat ⟨0, ⟨none, 0, 0⟩, by omega, by omega, by omega, rfl, [], [], [], [], A, rfl, List.Perm.refl _, own_nil, by simp, rfl⟩ ?_
  rintro z' z L1 ⟨i, s, hi, hil, rfl, rfl, hP⟩
  dsimp only
  refine ifb_of (fun (hlt : (i : Int) < x.2.2.1) => ?_) (fun (hge : ¬ (i : Int) < x.2.2.1) => hP.fin (by omega))
  obtain ⟨gs, sg, J, X, Y, hLe, hp, own, hok, hg⟩ := hP
  have hP : PInv ps x.2.1 A i s L1 := ⟨gs, sg, J, X, Y, hLe, hp, own, hok, hg⟩
  have hi' : i < x.2.2.1.toNat := by omega
  refine ifb_of (fun (h1 : x.2.1 < 0) => hP.app (by rw [partsG, hg]; simp only; rw [if_pos (.inl h1)]) hi' []) (fun (h1 : ¬ x.2.1 < 0) => ifb_of (fun (h2 : x.2.1 ≥ (v.len : Int)) => hP.app (by rw [partsG, hg]; simp only; rw [if_pos (.inr (by omega))]) hi' []) (fun (h2 : ¬ x.2.1 ≥ (v.len : Int)) => w64_of (by omega) (ifb_of (fun (h2 : x.2.1 + i ≥ (v.len : Int)) => hP.app (by rw [partsG, hg]; simp only; rw [if_pos (.inr (by omega))]) hi' []) (fun (h2 : ¬ x.2.1 + i ≥ (v.len : Int)) => w64_of (by omega) ?_))))
  have hq : x.2.1.toNat + i < l.length := by omega
  have hst : partsG ps x.2.1 (i + 1) = if (parR l[x.2.1.toNat + i].2).2.2 = 0 then some (gs.map PG.l ++ [(parR l[x.2.1.toNat + i].2).2.1]) else none := by
    rw [partsG, hg]
    simp only
    rw [if_neg (by omega)]
    have : ps.getD (x.2.1.toNat + i) [] = l[x.2.1.toNat + i].2 := by rw [← hps]; simp [List.getD_eq_getElem?_getD, hq]
    rw [this]
  refine elp_1 (h.sl.mono hP.sub) (n := x.2.1.toNat + i) (by omega) (by rw [List.length_map]; exact hq) fun a ha => ?_
  rw [List.getElem_map] at ha
  refine ld_of l[x.2.1.toNat + i].1 ha (cl_of (rparse_cl L1 _ l[x.2.1.toNat + i].2 (Sl.mono (h.val _ (List.getElem_mem hq)) hP.sub) (hb _ (List.getElem_mem hq))) ?_)
  rintro _ _ - ⟨s2, sg2, rfl, rfl, own2⟩
  refine ⟨((parR l[x.2.1.toNat + i].2).1, s2, (parR l[x.2.1.toNat + i].2).2.2, ()), rfl, ifb_of (fun (h3 : (parR l[x.2.1.toNat + i].2).2.2 = 0) => ?_) (fun (h3 : ¬ (parR l[x.2.1.toNat + i].2).2.2 = 0) => hP.app (by rw [hst, if_neg h3]) hi' sg2)⟩
  refine hP.snoc ⟨s2, sg2, (parR l[x.2.1.toNat + i].2).2.1⟩ own2 (Nat.le_trans (parR_len _) (hb _ (List.getElem_mem hq))) (by omega) (by rw [hst, hg, if_pos h3]; rfl) fun s' L' hP' => w64_of (by omega) ⟨x.2.2.1.toNat - (i + 1), by omega, i + 1, s', by omega, by omega, rfl, rfl, hP'⟩
end Go.Proofs.Ytlabcgnegbdlfaa
set_option linter.unusedVariables false
set_option linter.unusedSimpArgs false
namespace Go.Proofs.Ytlabcgnegbdlfaa
open Go.HL

theorem saysR_at {ps : List (List UInt8)} {q : Nat} (hq : q < ps.length) (h16 : q < 16) (h : Hd) : saysR ps q h = if (parR ps[q]).2.2 = 0 ∧ (parR ps[q]).1 = h then some (parR ps[q]).2.1 else none := by
  unfold saysR
  rw [if_pos (by omega), Int.toNat_natCast, List.getElem?_eq_getElem hq]
theorem saysR_out {ps : List (List UInt8)} {q : Nat} (hq : ps.length ≤ q ∨ 16 ≤ q) (h : Hd) : saysR ps q h = none := by
  unfold saysR
  split
  · rw [Int.toNat_natCast, List.getElem?_eq_none (by omega)]
  · rfl
theorem is_cl (L : HList) (v : SlV) (l : List PV) (h : Parts L v l) (hb : ∀ x ∈ l, x.2.length ≤ 1000000) (q : Nat) (hd : Hd) :
    CallF PP 63 #[.slice v.a v.len v.cap, .int .i64 q, .agg #[.int .i64 hd.1, .int .i64 hd.2.1, .int .i64 hd.2.2.1, .int .i64 hd.2.2.2.1, .int .i64 hd.2.2.2.2.1]] L fun r L' => ∃ (w : SlV) (b : Bool) (seg : HList), r = .tuple #[.slice w.a w.len w.cap, .bool b] ∧ L' = seg ++ L ∧ b = (saysR (l.map Prod.snd) q hd).isSome ∧ ∀ p, saysR (l.map Prod.snd) q hd = some p → BSl seg w p ∧ p.length ≤ 1000000 := by
  refine c63 v q hd ?_
  unfold s63
  have hvl := h.len
  have hpl : (l.map Prod.snd).length = l.length := List.length_map _
  refine ifb_of (fun (h1 : (q : Int) ≥ v.len) => .of ⟨⟨none, 0, 0⟩, false, [], rfl, rfl, by rw [saysR_out (by omega)]; rfl, by rw [saysR_out (by omega)]; intro p hp; cases hp⟩) (fun (h1 : ¬ (q : Int) ≥ v.len) => ifb_of (fun (h2 : (q : Int) ≥ 16) => .of ⟨⟨none, 0, 0⟩, false, [], rfl, rfl, by rw [saysR_out (by omega)]; rfl, by rw [saysR_out (by omega)]; intro p hp; cases hp⟩) (fun (h2 : ¬ (q : Int) ≥ 16) => ?_))
  have hq : q < l.length := by omega
  refine elp_1 h.sl rfl (by rw [List.length_map]; exact hq) fun a ha => ?_
  rw [List.getElem_map] at ha
  refine ld_of l[q].1 ha (cl_of (rparse_cl L _ l[q].2 (h.val _ (List.getElem_mem hq)) (hb _ (List.getElem_mem hq))) ?_)
  rintro _ _ - ⟨s2, sg2, rfl, rfl, own2⟩
  have hsm := saysR_at (ps := l.map Prod.snd) (q := q) (by omega) (by omega) hd
  rw [List.getElem_map] at hsm
  rw [hsm]
  refine ⟨((parR l[q].2).1, s2, (parR l[q].2).2.2, ()), rfl, ifb_of (fun (h3 : (parR l[q].2).2.2 = 0) => eqHd2 (parR l[q].2).1 hd ?_) (fun (h3 : ¬ (parR l[q].2).2.2 = 0) => .of ⟨s2, false, sg2, rfl, rfl, by rw [if_neg (fun hh => h3 hh.1)]; rfl, fun p hp => by rw [if_neg (fun hh => h3 hh.1)] at hp; cases hp⟩)⟩
  refine .of ⟨s2, decide ((parR l[q].2).1 = hd), sg2, rfl, rfl, ?_, fun p hp => ?_⟩
  · by_cases he : (parR l[q].2).1 = hd
    · rw [decide_eq_true he, if_pos ⟨h3, he⟩]; rfl
    · rw [decide_eq_false he, if_neg (fun hh => he hh.2)]; rfl
  · split at hp
    · obtain rfl := Option.some.inj hp
      exact ⟨own2.sl, Nat.le_trans (parR_len _) (hb _ (List.getElem_mem hq))⟩
    · cases hp
theorem sealed_cl (L : HList) (v : SlV) (p : List UInt8) (hp : BSl L v p) (hpl : p.length ≤ 1000000) (last : Nat) : CallF PP 65 #[.slice v.a v.len v.cap, .int .i64 last] L (SealK (sealR p last) L) := by
  refine c65 v last ?_
  unfold s65
  have hvl := hp.len
  have htm : Int.tmod (v.len : Int) 3 = ((p.length % 3 : Nat) : Int) := by rw [Int.tmod_eq_emod_of_nonneg (by omega), hvl]; omega
  rw [htm]
  refine ifb_of (fun (h3 : ((p.length % 3 : Nat) : Int) = 0) => ?_) (fun (h3 : ¬ ((p.length % 3 : Nat) : Int) = 0) => .of (SealK.no (by unfold sealR; rw [if_pos (by omega)])))
  obtain ⟨n, hn⟩ : ∃ n, p.length = n * 3 := ⟨p.length / 3, by omega⟩
  have hdiv : p.length / 3 = n := by omega
  have hR1 : ∀ y, sealG p n 0 1 = some y → sealR p last = if y.2 = last then some y.1 else none := by
    intro y hy
    unfold sealR
    rw [if_neg (by omega), hdiv, hy]
  have hR0 : sealG p n 0 1 = none → sealR p last = none := by
    intro hy
    unfold sealR
    rw [if_neg (by omega), hdiv, hy]
  refine lp_of (fun z' z L' => ∃ (i : Nat) (s : SlV) (nx : Int) (ds : List It) (sg : HList), i ≤ n ∧ z' = n - i ∧ z = (s, nx, ((i * 3 : Nat) : Int), ()) ∧ L' = sg ++ L ∧ Own s 3 eItm (ds.flatMap itEnc) sg ∧ ds.length = i ∧ 1 ≤ nx ∧ nx ≤ 1 + 255 * i ∧ sealG p n 0 1 = (sealG p (n - i) i nx).map fun y => (ds ++ y.1, y.2)) n
    ⟨0, ⟨none, 0, 0⟩, 1, [], [], by omega, by omega, rfl, rfl, own_nil, rfl, by omega, by omega, by simp⟩ ?_
  rintro z' z _ ⟨i, s, nx, ds, sg, hi, rfl, rfl, rfl, own, hdl, hnx0, hnx1, hG⟩
  dsimp only
  have hs1 := own.sl.els_len itEnc_len (by decide)
  refine ifb_of (fun (hgt : ((i * 3 : Nat) : Int) < (v.len : Int)) => ?_) (fun (hle : ¬ ((i * 3 : Nat) : Int) < (v.len : Int)) => ?_)
  · have hi' : i < n := by omega
    have hB : BSl (sg ++ L) v p := hp.right
    refine elp_b hB rfl (n := i * 3) (by omega) fun a0 l0 => w64_of (by omega) (elp_b hB (n := i * 3 + 1) (by omega) (by omega) fun a1 l1 => w64_of (by omega) (elp_b hB (n := i * 3 + 2) (by omega) (by omega) fun a2 l2 => ?_))
    rw [← getD_of (by omega)] at l0 l1 l2
    refine ld_of _ l0 (w64_raw ?_)
    refine ld_of _ l1 (w64_raw ?_)
    refine ld_of _ l2 (w64_raw ?_)
    simp only [u8_64]
    have hr := sItem_rng p i
    have hsu : sealG p (n - i) i nx = if ((sItem p i).1 = 2 ∨ (sItem p i).1 = 3) ∧ (sItem p i).2.2.1 ≠ 0 ∧ (sItem p i).2.1 = nx then (sealG p (n - (i + 1)) (i + 1) (nx + (sItem p i).2.2.1)).map fun y => (sItem p i :: y.1, y.2) else none := by
      rw [show n - i = (n - (i + 1)) + 1 by omega, sealG_succ]
    have hno : ¬ (((sItem p i).1 = 2 ∨ (sItem p i).1 = 3) ∧ (sItem p i).2.2.1 ≠ 0 ∧ (sItem p i).2.1 = nx) → HL.Ends (SealK (sealR p last) L) (.tuple #[.slice none 0 0, .bool false]) (sg ++ L) := by
      intro hx
      rw [hsu, if_neg hx] at hG
      exact .app (.of (SealK.no (hR0 (by rw [hG]; rfl))))
    have e0 : ((p.getD (i * 3) 0).toNat : Int) = (sItem p i).1 := rfl
    have e1 : ((p.getD (i * 3 + 1) 0).toNat : Int) = (sItem p i).2.1 := rfl
    have e2 : ((p.getD (i * 3 + 2) 0).toNat : Int) = (sItem p i).2.2.1 := rfl
    rw [e0, e1, e2]
    have hfin : ((sItem p i).1 = 2 ∨ (sItem p i).1 = 3) → (sItem p i).2.2.1 ≠ 0 → (sItem p i).2.1 = nx → sealG p n 0 1 = (sealG p (n - (i + 1)) (i + 1) (nx + (sItem p i).2.2.1)).map fun y => (ds ++ [sItem p i] ++ y.1, y.2) := by
      intro hk hz hx
      rw [hG, hsu, if_pos ⟨hk, hz, hx⟩, Option.map_map]
      have : ∀ y : List It × Int, (ds ++ (sItem p i :: y.1), y.2) = (ds ++ [sItem p i] ++ y.1, y.2) := fun y => by simp
      exact congrArg (fun f => Option.map f _) (funext this)
    refine ifb_of (fun (hk : (sItem p i).1 = 2) => ?_) (fun (hk : ¬ (sItem p i).1 = 2) => ifb_of (fun (hk3 : (sItem p i).1 = 3) => ?_) (fun (hk3 : ¬ (sItem p i).1 = 3) => hno (by omega)))
    all_goals
      refine ifb_of (fun (hz : (sItem p i).2.2.1 < 1) => hno (by omega)) (fun (hz : ¬ (sItem p i).2.2.1 < 1) => ifb_of (fun (hx : (sItem p i).2.1 = nx) => ?_) (fun (hx : ¬ (sItem p i).2.1 = nx) => hno (by omega)))
      refine w64_of (by omega) (apv_in elemItm srcItm [] L own rfl rfl rfl (by omega) fun s2 sg2 hs2 own2 => w64_of (by omega) ?_)
      exact ⟨n - (i + 1), by omega, i + 1, s2, _, ds ++ [sItem p i], sg2, by omega, rfl, by rw [show (((i + 1) * 3 : Nat) : Int) = ((i * 3 : Nat) : Int) + 3 by omega], rfl, by rw [List.flatMap_append, List.flatMap_singleton]; exact own2, by simp [hdl], by omega, by omega, hfin (by omega) (by omega) hx⟩
  · obtain rfl : i = n := by omega
    rw [Nat.sub_self] at hG
    have hG' : sealG p i 0 1 = some (ds, nx) := by rw [hG]; simp [sealG]
    by_cases hl : nx = last
    · have hb2 : (nx == (last : Int)) = true := by simp [hl]
      rw [hb2]
      exact .of (.inr ⟨ds, s, sg, by rw [hR1 _ hG', if_pos hl], rfl, rfl, own⟩)
    · have hb2 : (nx == (last : Int)) = false := by rw [beq_eq_false_iff_ne]; exact hl
      rw [hb2]
      exact .app (.of (.inl ⟨by rw [hR1 _ hG', if_neg hl], rfl, s, rfl⟩))
def FoundK (o : Option It) (A : HList) (r : Value) (L' : HList) : Prop := L' = A ∧ ((o = none ∧ r = .tuple #[.agg #[.int .i64 0, .int .i64 0, .int .i64 0], .bool false]) ∨ ∃ x : It, o = some x ∧ r = .tuple #[itV x, .bool true])
theorem rfound_cl (L : HList) (v : SlV) (l : List PV) (h : Parts L v l) (hl : l.length ≤ 1000000) (hb : ∀ x ∈ l, x.2.length ≤ 1000000) (ep : Int) (q : Nat) (hq : q < l.length) :
    CallF PP 66 #[.slice v.a v.len v.cap, .int .i64 q, .int .i64 ep] L (FoundK (foundR (l.map Prod.snd) ep q) L) := by
  refine c66 v q ep ?_
  unfold s66
  have hvl := h.len
  have hpl : (l.map Prod.snd).length = l.length := List.length_map _
  refine elp_1 h.sl rfl (by rw [List.length_map]; exact hq) fun a ha => ?_
  rw [List.getElem_map] at ha
  refine ld_of l[q].1 ha (cl_of (rparse_cl L _ l[q].2 (h.val _ (List.getElem_mem hq)) (hb _ (List.getElem_mem hq))) ?_)
  rintro _ _ - ⟨s2, sg2, rfl, rfl, own2⟩
  refine ⟨((parR l[q].2).1, s2, (parR l[q].2).2.2, ()), rfl, ?_⟩
  dsimp only
  have hfr : foundR (l.map Prod.snd) ep q = if (parR l[q].2).2.2 = 0 ∧ ((parR l[q].2).1.1 = 2 ∨ (parR l[q].2).1.1 = 3) then
      if (List.range (parR l[q].2).1.2.2.1.toNat).all (fun i => (saysR (l.map Prod.snd) ((q : Int) + i) ((parR l[q].2).1.1, i, (parR l[q].2).1.2.2.1, ep, (q : Int) + i, ())).isSome) = true then some ((parR l[q].2).1.1, ((q : Nat) : Int), (parR l[q].2).1.2.2.1, ()) else none
    else none := by unfold foundR; rw [List.getElem?_map, List.getElem?_eq_getElem hq]; rfl
  have hno : ∀ {J : HList}, foundR (l.map Prod.snd) ep q = none → HL.Ends (FoundK (foundR (l.map Prod.snd) ep q) L) (.tuple #[.agg #[.int .i64 0, .int .i64 0, .int .i64 0], .bool false]) (J ++ L) := fun h => .app (.of ⟨rfl, .inl ⟨h, rfl⟩⟩)
  refine ifb_of (fun (h0 : (parR l[q].2).2.2 = 0) => ?_) (fun (h0 : ¬ (parR l[q].2).2.2 = 0) => hno (by rw [hfr, if_neg (fun hh => h0 hh.1)]))
  have hok := hErr_ok (par_ok h0)
  generalize hH : (parR l[q].2).1 = H at *
  have hloop : (H.1 = 2 ∨ H.1 = 3) → ∀ (i : Nat), (i : Int) ≤ H.2.2.1 → (∀ j, j < i → (saysR (l.map Prod.snd) ((q : Int) + j) (H.1, j, H.2.2.1, ep, (q : Int) + j, ())).isSome = true) → ∀ J : HList, 
      (¬ (i : Int) < H.2.2.1 → HL.Ends (FoundK (foundR (l.map Prod.snd) ep q) L) (.tuple #[.agg #[.int .i64 H.1, .int .i64 q, .int .i64 H.2.2.1], .bool true]) (J ++ L)) := by
    intro hk i hi hall J hge
    refine .app (.of ⟨rfl, .inr ⟨(H.1, ((q : Nat) : Int), H.2.2.1, ()), ?_, rfl⟩⟩)
    rw [hfr, if_pos ⟨h0, hk⟩, if_pos]
    rw [List.all_eq_true]
    intro j hj
    exact hall j (by have := List.mem_range.1 hj; omega)
  have hbad : (H.1 = 2 ∨ H.1 = 3) → ∀ (i : Nat), (i : Int) < H.2.2.1 → (saysR (l.map Prod.snd) ((q : Int) + i) (H.1, i, H.2.2.1, ep, (q : Int) + i, ())).isSome = false → foundR (l.map Prod.snd) ep q = none := by
    intro hk i hi hn
    rw [hfr, if_pos ⟨h0, hk⟩, if_neg]
    intro hx
    rw [List.all_eq_true] at hx
    have := hx i (List.mem_range.2 (by omega))
    rw [hn] at this
    cases this
  refine ifb_of (fun (hk : H.1 = 2) => ?_) (fun (hk : ¬ H.1 = 2) => ifb_of (fun (hk3 : H.1 = 3) => ?_) (fun (hk3 : ¬ H.1 = 3) => hno (by rw [hfr, if_neg (fun hh => by omega)])))
  all_goals
    have hk' : H.1 = 2 ∨ H.1 = 3 := by omega
    refine lp_of (fun z' z L' => ∃ (i : Nat) (J : HList), L' = J ++ L ∧ (i : Int) ≤ H.2.2.1 ∧ z' = H.2.2.1.toNat - i ∧ z = ((i : Int), ()) ∧ ∀ j, j < i → (saysR (l.map Prod.snd) ((q : Int) + j) (H.1, j, H.2.2.1, ep, (q : Int) + j, ())).isSome = true) H.2.2.1.toNat ⟨0, sg2, rfl, by omega, by omega, rfl, by omega⟩ ?_
    rintro z' z _ ⟨i, J, rfl, hi, rfl, rfl, hall⟩
    dsimp only
    refine ifb_of (fun (hlt : (i : Int) < H.2.2.1) => w64_of (by omega) (w64_of (by omega) ?_)) (fun hge => hloop hk' i hi hall J hge)
    rw [show (q : Int) + i = ((q + i : Nat) : Int) by omega]
    refine cl_of (is_cl (J ++ L) v l (h.mono mem_r) hb (q + i) (H.1, i, H.2.2.1, ep, ((q + i : Nat) : Int), ())) ?_
    rintro _ _ - ⟨w, b, seg, rfl, rfl, hb1, -⟩
    have hcast : ((q + i : Nat) : Int) = (q : Int) + i := by omega
    rw [hcast] at hb1
    refine ⟨(w, b, ()), rfl, ifB_of (fun (hb2 : b = true) => w64_of (by omega) ⟨H.2.2.1.toNat - (i + 1), by omega, i + 1, seg ++ J, by simp, by omega, rfl, rfl, fun j hj => ?_⟩) (fun (hb2 : b = false) => ?_)⟩
    · rcases Nat.lt_or_ge j i with h5 | h5
      · exact hall j h5
      · obtain rfl : j = i := by omega
        rw [← hb1]; exact hb2
    · rw [← List.append_assoc]
      exact hno (hbad hk' i hlt (by rw [← hb1]; exact hb2))
theorem rscan_cl (A : HList) (v : SlV) (l : List PV) (h : Parts A v l) (hl : l.length ≤ 1000000) (hb : ∀ x ∈ l, x.2.length ≤ 1000000) : CallF PP 11 #[.slice v.a v.len v.cap] A (ScanK (scanR (l.map Prod.snd)) A) := by
  refine c11 v ?_
  unfold s11
  have hvl := h.len
  obtain ⟨ps, hps⟩ : ∃ ps, ps = l.map Prod.snd := ⟨_, rfl⟩
  rw [← hps]
  have hpl : ps.length = l.length := by rw [hps]; exact List.length_map _
  refine ifb_of (fun (h0 : (v.len : Int) = 0) => ?_) (fun (h0 : ¬ (v.len : Int) = 0) => ?_)
  · have : ps = [] := List.length_eq_zero_iff.1 (by omega)
    exact ScanK.no (J := []) (by rw [this]; rfl)
  have hne : ps ≠ [] := fun e => by rw [e] at hpl; simp at hpl; omega
  have hlt := lastR_lt hne
  have hq0 : 0 < l.length := by omega
  refine elp_1 h.sl rfl (n := 0) (by rw [List.length_map]; exact hq0) fun a ha => ?_
  rw [List.getElem_map] at ha
  refine ld_of l[0].1 ha (cl_of (rparse_cl A _ l[0].2 (h.val _ (List.getElem_mem hq0)) (hb _ (List.getElem_mem hq0))) ?_)
  rintro _ _ - ⟨s2, sg2, rfl, rfl, own2⟩
  refine ⟨((parR l[0].2).1, s2, (parR l[0].2).2.2, ()), rfl, ?_⟩
  have hep : (parR l[0].2).1.2.2.2.1 = epR ps := by
    unfold epR
    congr 4
    rw [hps]; simp [List.getD_eq_getElem?_getD, hq0]
  dsimp only
  rw [hep]
  refine cl_of (is_cl (sg2 ++ A) v l (h.mono mem_r) hb 0 (1, 0, 1, epR ps, 0, ())) ?_
  rintro _ _ - ⟨w, b, seg, rfl, rfl, hb1, hb2⟩
  rw [← hps] at hb1 hb2
  refine ⟨(w, b, ()), rfl, ifB_of (fun (hbt : b = true) => ?_) (fun (hbf : b = false) => ?_)⟩
  case refine_2 =>
    rw [← List.append_assoc]
    refine ScanK.no (scanR_no fun e => ?_)
    rw [show ((0 : Nat) : Int) = 0 from rfl, e] at hb1
    rw [hb1] at hbf; cases hbf
  obtain ⟨p, hsm⟩ := Option.isSome_iff_exists.1 (hb1.symm.trans hbt)
  have hw := (hb2 p hsm).1
  have hwl := hw.len
  have hsm' : saysR ps 0 (1, 0, 1, epR ps, 0, ()) = some p := hsm
  dsimp only
  rw [← List.append_assoc]
  generalize seg ++ sg2 = J0
  refine ifb_of (fun (h1 : (w.len : Int) > 0) => ScanK.no (scanR_no (by rw [hsm']; intro e; cases e; simp at hwl; omega))) (fun (h1 : ¬ (w.len : Int) > 0) => ?_)
  obtain rfl : p = [] := List.length_eq_zero_iff.1 (by omega)
  have him : imin (v.len : Int) 16 = ((min ps.length 16 : Nat) : Int) := by unfold imin; omega
  rw [him]
  have hm1 : 0 < min ps.length 16 := by omega
  refine w64_of (by omega) ?_
  refine lp_of (fun z' z L' => ∃ (q : Nat) (J : HList), L' = J ++ A ∧ q < min ps.length 16 ∧ z' = q ∧ z = ((q : Int), ()) ∧ lastR ps = lastD ps q) (min ps.length 16 - 1) ⟨min ps.length 16 - 1, J0, rfl, by omega, rfl, by rw [Int.ofNat_sub (by omega)]; rfl, rfl⟩ ?_
  rintro q z _ ⟨q', J, rfl, hqm, rfl, rfl, hlq⟩
  dsimp only

  refine ifb_of (fun (hgt : (q : Int) > 0) => ?ta) (fun (hgt : ¬ (q : Int) > 0) => ?tb)
  case' ta =>
    have hql : q < l.length := by omega
    refine elp_1 (h.sl.mono mem_r) rfl (by rw [List.length_map]; exact hql) fun a2 ha2 => ?_
    rw [List.getElem_map] at ha2
    refine ld_of l[q].1 ha2 (cl_rd (rblank_rd (J ++ A) l[q].1 l[q].2 (Sl.mono (h.val _ (List.getElem_mem hql)) mem_r) (hb _ (List.getElem_mem hql))) (pblank l[q].2, ()) rfl ?_)
    have hlq2 : lastR ps = if pblank l[q].2 then lastD ps (q - 1) else q := by
      obtain ⟨q', rfl⟩ : ∃ q', q = q' + 1 := ⟨q - 1, by omega⟩
      have hgD : ps.getD (q' + 1) [] = l[q' + 1].2 := by rw [hps]; simp [List.getD_eq_getElem?_getD, hql]
      rw [lastD, hgD] at hlq
      exact hlq
    refine ifB_of (fun (hbl : pblank l[q].2 = true) => w64_of (by omega) ⟨q - 1, by omega, q - 1, J, rfl, by omega, rfl, by rw [show (q : Int) - 1 = ((q - 1 : Nat) : Int) by omega], by rw [hlq2, if_pos hbl]⟩) (fun (hbl : pblank l[q].2 = false) => ?_)
    have hlast : lastR ps = q := by rw [hlq2, if_neg (by rw [hbl]; simp)]
  case' tb =>
    have hlast : lastR ps = q := by rw [hlq, show q = 0 by omega]; rfl
  all_goals
    clear hlq
    refine jn_of (fun _ L' => ∃ J, L' = J ++ A ∧ (if lastR ps > 0 then sealS ps (epR ps) else none) = none) ?_ ?_
    · rintro _ _ ⟨J, rfl, hno⟩
      refine lp_of (fun z' z L' => ∃ (p k : Nat) (s : SlV) (ds : List It) (sg J : HList), 1 ≤ p ∧ p ≤ 32 ∧ z' = 40 - p ∧ lastR ps + 1 ≤ p + k ∧ z = ((p : Int), epR ps, s, ()) ∧ L' = J ++ (sg ++ A) ∧ Own s 3 eItm (ds.flatMap itEnc) sg ∧ ds.length < p ∧ eachR (foundR ps (epR ps)) (lastR ps) 17 1 = ds ++ eachR (foundR ps (epR ps)) (lastR ps) k p) 39
        ⟨1, 17, ⟨none, 0, 0⟩, [], [], J, by omega, by omega, rfl, by omega, rfl, rfl, own_nil, by simp, rfl⟩ ?_
      rintro z' z _ ⟨p, k, s, ds, sg, J, h1, h2, rfl, hk, rfl, rfl, own, hd, he⟩
      dsimp only
      have hsl := own.sl.els_len itEnc_len (by decide)
      refine ifb_of (fun (hle : (p : Int) ≤ q) => ?_) (fun (hge : ¬ (p : Int) ≤ q) => ?_)
      · obtain ⟨k, rfl⟩ : ∃ k', k = k' + 1 := ⟨k - 1, by omega⟩
        have hst : eachR (foundR ps (epR ps)) (lastR ps) (k + 1) p = match foundR ps (epR ps) p with | some x => x :: eachR (foundR ps (epR ps)) (lastR ps) k (p + x.2.2.1.toNat) | none => eachR (foundR ps (epR ps)) (lastR ps) k (p + 1) := by
          rw [eachR, if_pos (by omega)]; rfl
        refine cl_of (rfound_cl (J ++ (sg ++ A)) v l ((h.mono mem_r).mono mem_r) hl hb (epR ps) p (by omega)) ?_
        rintro _ _ - ⟨rfl, ⟨hn, rfl⟩ | ⟨x, hx, rfl⟩⟩
        · rw [← hps] at hn
          rw [hst, hn] at he
          refine ⟨((0, 0, 0, ()), false, ()), rfl, ifF rfl (w64_of (by omega) ⟨40 - (p + 1), by omega, p + 1, k, s, ds, sg, J, by omega, by omega, rfl, by omega, rfl, rfl, own, by omega, he⟩)⟩
        · rw [← hps] at hx
          have hr := found_rng hx
          rw [hst, hx] at he
          refine ⟨(x, true, ()), rfl, ifT rfl ?_⟩
          dsimp only
          refine apv_in elemItm srcItm J A own (by simp) rfl rfl (by omega) fun s2 sg2 hs2 own2 => w64_of (by omega) ?_
          refine ⟨40 - (p + x.2.2.1.toNat), by omega, p + x.2.2.1.toNat, k, s2, ds ++ [x], sg2, J, by omega, by omega, rfl, by omega, ?_, by simp, ?_, by simp; omega, by rw [he]; simp⟩
          · rw [show (p : Int) + x.2.2.1 = ((p + x.2.2.1.toNat : Nat) : Int) by omega]
          · rw [List.flatMap_append, List.flatMap_singleton]; exact own2
      · have hst : eachR (foundR ps (epR ps)) (lastR ps) k p = [] := by
          cases k with
          | zero => rfl
          | succ k => rw [eachR, if_neg (by omega)]
        rw [hst, List.append_nil] at he
        exact .app (.of ⟨s, sg, by rw [scanR_each hne hsm' hno], rfl, by rw [scanR_each hne hsm' hno, he]; exact own⟩)
    · intro j hj
      refine ifb_of (fun (h2 : (q : Int) > 0) => ?_) (fun (h2 : ¬ (q : Int) > 0) => hj _ _ ⟨J, rfl, by rw [if_neg (by omega)]⟩)
      have h2' : lastR ps > 0 := by omega
      refine cl_of (is_cl (J ++ A) v l (h.mono mem_r) hb q (4, 0, 1, epR ps, q, ())) ?_
      rintro _ _ - ⟨w2, b2, seg2, rfl, rfl, hb3, hb4⟩
      rw [← hps] at hb3 hb4
      have hSS : sealS ps (epR ps) = (saysR ps q (4, 0, 1, epR ps, q, ())).bind fun p => sealR p (lastR ps) := by unfold sealS; rw [hlast]
      refine ⟨(w2, b2, ()), rfl, ifB_of (fun (hbt2 : b2 = true) => ?_) (fun (hbf2 : b2 = false) => hj _ _ ⟨seg2 ++ J, by simp, by rw [if_pos h2', hSS]; rw [hbf2] at hb3; cases hsq : saysR ps q (4, 0, 1, epR ps, q, ()) with | none => rfl | some y => rw [hsq] at hb3; cases hb3⟩)⟩
      obtain ⟨p2, hp2⟩ := Option.isSome_iff_exists.1 (hb3.symm.trans hbt2)
      obtain ⟨hw2, hpl2⟩ := hb4 p2 hp2
      have hSS2 : sealS ps (epR ps) = sealR p2 q := by rw [hSS, hp2, hlast]; rfl
      refine cl_of (sealed_cl (seg2 ++ (J ++ A)) w2 p2 hw2.left hpl2 q) ?_
      rintro _ _ - (⟨hn, rfl, w3, rfl⟩ | ⟨its, w3, sg3, hs3, rfl, rfl, own3⟩)
      · exact ⟨(w3, false, ()), rfl, ifF rfl (hj _ _ ⟨seg2 ++ J, by simp, by rw [if_pos h2', hSS2]; exact hn⟩)⟩
      · have hsc := scanR_seal hne hsm' (l := its) (by rw [if_pos h2', hSS2]; exact hs3)
        refine ⟨(w3, true, ()), rfl, ifT rfl (.drop (A := sg3 ++ A) (J := seg2 ++ J) ⟨w3, sg3, by rw [hsc], rfl, by rw [hsc]; exact own3⟩ ?_)⟩
        classical
        rw [List.perm_iff_count]
        intro z
        simp only [List.count_append]
        omega
end Go.Proofs.Ytlabcgnegbdlfaa
set_option linter.unusedVariables false
set_option linter.unusedSimpArgs false
namespace Go.Proofs.Ytlabcgnegbdlfaa
open Go.HL

/-! ### a device as plain data -/
structure Cfg where
  B : Nat
  P : Nat
  S : Nat
  W : Nat
structure CfgOk (c : Cfg) : Prop where
  b : 2 ≤ c.B ∧ c.B ≤ 16
  p : 4 ≤ c.P ∧ c.P ≤ 16
  s : 64 ≤ c.S ∧ c.S ≤ 512
  w : 1 ≤ c.W ∧ c.W ≤ 1048576
structure Blk where
  pages : List (List UInt8)
  next : Nat
  wear : Nat
  bad : Bool
structure Tn where
  b : Nat
  p : Nat
  meant : List UInt8
  image : List UInt8
structure Dev where
  c : Cfg
  after : Nat
  keep : Int
  down : Bool
  bs : List Blk
  bytes : Int
  torn : List Tn
def blk (n : Nat) : List UInt8 := List.replicate n 255
/-- The operation is torn, or is not. -/
def tear (d : Dev) : Bool × Dev := if d.after = 0 then (false, d) else (decide (d.after = 1), { d with after := d.after - 1, down := decide (d.after = 1) })
def keptN (k : Int) (n : Nat) : Nat := min k.toNat n
theorem tear_c (d : Dev) : (tear d).2.c = d.c ∧ (tear d).2.bs = d.bs ∧ (tear d).2.keep = d.keep ∧ (tear d).2.bytes = d.bytes ∧ (tear d).2.torn = d.torn := by unfold tear; split <;> exact ⟨rfl, rfl, rfl, rfl, rfl⟩

/-! ### what a device is in memory -/
abbrev tBk : TypeId := 161
abbrev tFl : TypeId := 158
abbrev tPb : TypeId := 156
abbrev ePb : TypeId := 159
abbrev tTs : TypeId := 79
abbrev eT : TypeId := 82
theorem elemPb : ElemT PP tPb ePb 1 8 [.pointer none] := elemT_of (by kernel_rfl) (by kernel_rfl) rfl (by decide) (by decide)
theorem srcPb : SrcT PP tPb := .inl ⟨ePb, by kernel_rfl⟩
theorem elemTs : ElemT PP tTs eT 4 64 [.int .i64 0, .int .i64 0, .slice none 0 0, .slice none 0 0] := elemT_of (by kernel_rfl) (by kernel_rfl) rfl (by decide) (by decide)
theorem srcTs : SrcT PP tTs := .inl ⟨eT, by kernel_rfl⟩
structure PB where
  id : Nat
  v : SlV
  seg : HList
  ps : List PG
  next : Nat
  wear : Nat
  bad : Bool
def PB.blk (b : PB) : Blk := ⟨b.ps.map PG.l, b.next, b.wear, b.bad⟩
def PB.obj (b : PB) : Nat × Obj := (b.id, .cells #[.slice b.v.a b.v.len b.v.cap, .int .i64 b.next, .int .i64 b.wear, .bool b.bad] tBk)
def PB.objs (b : PB) : HList := b.obj :: (b.seg ++ pgs b.ps)
structure PB.Ok (b : PB) : Prop where
  own : Own b.v 1 tB (b.ps.map PG.val) b.seg
  ps : ∀ g ∈ b.ps, g.Ok
def pbp (b : PB) : Value := .pointer (some ⟨b.id, 0, none⟩)
def fO (m : Nat) (d : Dev) (bv tv : SlV) : Nat × Obj :=
  (m, .cells #[.int .i64 d.after, .int .i64 d.keep, .bool d.down, .int .i64 d.c.B, .int .i64 d.c.P, .int .i64 d.c.S, .int .i64 d.c.W, .slice bv.a bv.len bv.cap, .int .i64 d.bytes, .slice tv.a tv.len tv.cap] tFl)
section
variable {L : HList} {m : Nat} {d : Dev} {bv tv : SlV} {b : PB}
theorem b_ps (h : b.obj ∈ L) : LdAt ⟨b.id, 0, none⟩ [.slice b.v.a b.v.len b.v.cap] L := ldB (by unfold PB.obj at h; exact h) rfl
theorem b_next (h : b.obj ∈ L) : LdAt ⟨b.id, 1, none⟩ [.int .i64 b.next] L := ldB (by unfold PB.obj at h; exact h) rfl
theorem b_wear (h : b.obj ∈ L) : LdAt ⟨b.id, 2, none⟩ [.int .i64 b.wear] L := ldB (by unfold PB.obj at h; exact h) rfl
theorem b_bad (h : b.obj ∈ L) : LdAt ⟨b.id, 3, none⟩ [.bool b.bad] L := ldB (by unfold PB.obj at h; exact h) rfl
theorem f_after (h : fO m d bv tv ∈ L) : LdAt ⟨m, 0, none⟩ [.int .i64 d.after] L := ldB (by unfold fO at h; exact h) rfl
theorem f_keep (h : fO m d bv tv ∈ L) : LdAt ⟨m, 1, none⟩ [.int .i64 d.keep] L := ldB (by unfold fO at h; exact h) rfl
theorem f_down (h : fO m d bv tv ∈ L) : LdAt ⟨m, 2, none⟩ [.bool d.down] L := ldB (by unfold fO at h; exact h) rfl
theorem f_cfg (h : fO m d bv tv ∈ L) : LdAt ⟨m, 3, none⟩ [.int .i64 d.c.B, .int .i64 d.c.P, .int .i64 d.c.S, .int .i64 d.c.W] L := ldB (by unfold fO at h; exact h) rfl
theorem f_P (h : fO m d bv tv ∈ L) : LdAt ⟨m, 4, none⟩ [.int .i64 d.c.P] L := ldB (by unfold fO at h; exact h) rfl
theorem f_S (h : fO m d bv tv ∈ L) : LdAt ⟨m, 5, none⟩ [.int .i64 d.c.S] L := ldB (by unfold fO at h; exact h) rfl
theorem f_W (h : fO m d bv tv ∈ L) : LdAt ⟨m, 6, none⟩ [.int .i64 d.c.W] L := ldB (by unfold fO at h; exact h) rfl
theorem f_bs (h : fO m d bv tv ∈ L) : LdAt ⟨m, 7, none⟩ [.slice bv.a bv.len bv.cap] L := ldB (by unfold fO at h; exact h) rfl
theorem f_bytes (h : fO m d bv tv ∈ L) : LdAt ⟨m, 8, none⟩ [.int .i64 d.bytes] L := ldB (by unfold fO at h; exact h) rfl
theorem f_torn (h : fO m d bv tv ∈ L) : LdAt ⟨m, 9, none⟩ [.slice tv.a tv.len tv.cap] L := ldB (by unfold fO at h; exact h) rfl
end

/-! ### the inner functions -/
theorem within_rd (L : HList) (n a b : Int) : Reads PP 80 #[.int .i64 n, .int .i64 a, .int .i64 b] L (.bool (decide (a ≤ n ∧ n ≤ b))) := by
  refine Reads.of (args := [.int .i64 n, .int .i64 a, .int .i64 b]) noNum mixed Try.func80 (e80 n a b _) ?_
  unfold t80
  refine ifD_of (fun (h : n ≥ a) => .of ⟨?_, rfl⟩) (fun (h : ¬ n ≥ a) => .of ⟨?_, rfl⟩)
  · congr 1
    by_cases h2 : n ≤ b
    · rw [decide_eq_true h2, decide_eq_true (by omega)]
    · rw [decide_eq_false h2, decide_eq_false (by omega)]
  · congr 1
    rw [decide_eq_false (by omega)]
theorem blank_cl (n : Nat) (hn : n ≤ 1048576) : CallF PP 109 #[.int .i64 n] [] fun r L' => ∃ (g : PG), r = g.val ∧ L' = g.seg ∧ g.Ok ∧ g.l = blk n := by
  refine CallF.of (args := [.int .i64 n]) noNum mixed Try.func109 (e109 n _) ?_
  unfold t109
  refine make_of elemB (l := n) (c := n) (Nat.le_refl _) (by omega) fun q ob own _ _ => ?_
  rw [zeros_bvs] at own
  refine lp_of (fun z' z L' => ∃ (i : Nat) (seg : HList), i ≤ n ∧ z' = n - i ∧ z = ((i : Int), ()) ∧ L' = seg ∧ Own ⟨some ⟨q, 0, none⟩, n, n⟩ 1 eB (bvs (List.replicate i 255 ++ List.replicate (n - i) 0)) seg) n ⟨0, [(q, ob)], by omega, by omega, rfl, rfl, by simpa using own⟩ ?_
  rintro z' z L ⟨i, seg, hi, rfl, rfl, rfl, own⟩
  refine ifD_of (fun (hlt : (i : Int) < (n : Nat)) => ?_) (fun (hge : ¬ (i : Int) < (n : Nat)) => ?_)
  · refine nilc_of rfl (ixn_of (show (0 : Int) ≤ i by omega) hlt ?_)
    refine own.st (p := i) [] [] (by rw [bvs_length, List.length_append, List.length_replicate, List.length_replicate, List.length_singleton]; omega) (by simp) rfl (by rw [Int.toNat_natCast, Nat.mul_one]) (by simp) fun seg' own' => ?_
    rw [putL_one (by rw [bvs_length, List.length_append, List.length_replicate, List.length_replicate]; omega)] at own'
    refine ⟨n - (i + 1), by omega, i + 1, seg', by omega, rfl, ?_, by simp, ?_⟩
    · rw [w64_id (by first | omega | (simp only; omega)) (by first | omega | (simp only; omega))]
      rfl
    · have : (bvs (List.replicate i 255 ++ List.replicate (n - i) 0)).set i (.int .u8 255) = bvs (List.replicate (i + 1) 255 ++ List.replicate (n - (i + 1)) 0) := by
        have h1 := bvs_set (List.replicate i 255 ++ List.replicate (n - i) 0) i 255
        rw [show ((255 : UInt8).toNat : Int) = 255 by decide] at h1
        rw [h1]
        congr 1
        rw [List.set_append, if_neg (by simp), List.length_replicate, Nat.sub_self, show n - i = (n - (i + 1)) + 1 by omega, List.replicate_succ, List.set_cons_zero, List.replicate_succ', List.append_assoc]
        rfl
      rw [this] at own'
      exact own'
  · obtain rfl : i = n := by omega
    refine .of ⟨⟨⟨some ⟨q, 0, none⟩, i, i⟩, L, blk i⟩, rfl, rfl, ?_, rfl⟩
    rw [Nat.sub_self, List.replicate_zero, List.append_nil] at own
    exact own
theorem wipe_cl (b : PB) (hb : b.Ok) (n S : Nat) (hn : n ≤ b.ps.length) (hn2 : n ≤ 1048576) (hS : S ≤ 1048576) :
    CallF PP 81 #[.pointer (some ⟨b.id, 0, none⟩), .int .i64 n, .int .i64 S] b.objs fun r L' => r = .tuple #[] ∧ ∃ (seg' : HList) (ps' : List PG), L' = ({ b with seg := seg', ps := ps' } : PB).objs ∧ ({ b with seg := seg', ps := ps' } : PB).Ok ∧ ps'.map PG.l = List.replicate n (blk S) ++ (b.ps.map PG.l).drop n := by
  refine CallF.of (args := [.pointer (some ⟨b.id, 0, none⟩), .int .i64 n, .int .i64 S]) noNum mixed Try.func81 (e81 (some ⟨b.id, 0, none⟩) n S _) ?_
  unfold t81
  refine lp_of (fun z' z L' => ∃ (i : Nat) (seg' : HList) (D : List PG) (J : HList), i ≤ n ∧ z' = n - i ∧ z = ((i : Int), ()) ∧ L' = b.obj :: (seg' ++ (pgs D ++ (J ++ pgs (b.ps.drop i)))) ∧ Own b.v 1 tB ((D ++ b.ps.drop i).map PG.val) seg' ∧ D.length = i ∧ (∀ g ∈ D, g.Ok) ∧ D.map PG.l = List.replicate i (blk S)) n
    ⟨0, b.seg, [], [], by omega, by omega, rfl, rfl, hb.own, rfl, by simp, rfl⟩ ?_
  rintro z' z L ⟨i, seg', D, J, hi, rfl, rfl, rfl, own, hD, hok, hl⟩
  have hsl : Sl (b.obj :: (seg' ++ (pgs D ++ (J ++ pgs (b.ps.drop i))))) b.v 1 ((D ++ b.ps.drop i).map PG.val) := own.sl.left.cons
  have hvl : b.v.len = b.ps.length := by
    have := own.len
    rw [List.length_map, List.length_append, List.length_drop] at this
    omega
  refine ifD_of (fun (hlt : (i : Int) < (n : Int)) => ?_) (fun (hge : ¬ (i : Int) < (n : Int)) => ?_)
  · have hi' : i < b.ps.length := by omega
    have hdr : b.ps.drop i = b.ps[i] :: b.ps.drop (i + 1) := List.drop_eq_getElem_cons hi'
    refine nilc_of rfl (ld_of b.v (b_ps List.mem_cons_self) ?_)
    refine cl_in (b.obj :: (seg' ++ pgs D)) (J ++ pgs (b.ps.drop i)) (blank_cl S hS) (by simp) ?_
    rintro _ _ - ⟨g, rfl, rfl, hg, hgl⟩
    refine ⟨(g.v, ()), rfl, keep_of (b_ps (by simp)) ?_⟩
    obtain ⟨a, ha, -⟩ := hsl.at' (i := i) (by omega) (by decide)
    refine nilc_of ha (ixn_of (show (0 : Int) ≤ i by omega) (show (i : Int) < b.v.len by omega) ?_)
    refine own.st (p := i) [b.obj] (pgs D ++ (g.seg ++ (J ++ pgs (b.ps.drop i)))) (by rw [List.length_map, List.length_append, List.length_drop, List.length_singleton]; omega) (by simp) ha (by rw [Int.toNat_natCast, Nat.mul_one]) (by simp) fun seg2 own2 => ?_
    rw [putL_one (by rw [List.length_map, List.length_append, List.length_drop]; omega)] at own2
    refine ⟨n - (i + 1), by omega, i + 1, seg2, D ++ [g], J ++ b.ps[i].seg, by omega, rfl, ?_, ?_, ?_, by simp [hD], ?_, ?_⟩
    · rw [w64_id (by first | omega | (simp only; omega)) (by first | omega | (simp only; omega))]
      rfl
    · rw [hdr, pgs_cons, pgs_append, pgs_one]; simp
    · have : (((D ++ b.ps.drop i).map PG.val).set i g.val) = (((D ++ [g]) ++ b.ps.drop (i + 1)).map PG.val) := by
        rw [hdr, List.map_append, List.set_append, if_neg (by simp [hD]), List.length_map, hD, Nat.sub_self, List.map_cons, List.set_cons_zero]
        simp
      rw [← this]
      exact own2
    · intro x hx
      rcases List.mem_append.1 hx with h | h
      · exact hok x h
      · rw [List.mem_singleton.1 h]; exact hg
    · rw [List.map_append, hl, List.replicate_succ', List.map_singleton, hgl]
  · obtain rfl : i = n := by omega
    refine .drop (A := ({ b with seg := seg', ps := D ++ b.ps.drop i } : PB).objs) (J := J) ⟨rfl, seg', D ++ b.ps.drop i, rfl, ⟨own, fun x hx => ?_⟩, ?_⟩ ?_
    · rcases List.mem_append.1 hx with h | h
      · exact hok x h
      · exact hb.ps x (List.mem_of_mem_drop h)
    · rw [List.map_append, hl, List.map_drop]
    · show (b.obj :: (seg' ++ (pgs D ++ (J ++ pgs (b.ps.drop i))))).Perm ((b.obj :: (seg' ++ pgs (D ++ b.ps.drop i))) ++ J)
      rw [pgs_append]
      classical
      rw [List.perm_iff_count]
      intro x
      simp only [List.append_eq, List.cons_append, List.count_append, List.count_cons, List.count_nil]
      omega
theorem worn_cl (b : PB) (W : Int) (hw : b.wear ≤ 1048576) :
    CallF PP 92 #[.pointer (some ⟨b.id, 0, none⟩), .int .i64 W] [b.obj] fun r L' => r = .bool (decide (((b.wear + 1 : Nat) : Int) = W)) ∧ L' = [({ b with next := 0, wear := b.wear + 1, bad := decide (((b.wear + 1 : Nat) : Int) = W) } : PB).obj] := by
  refine CallF.of (args := [.pointer (some ⟨b.id, 0, none⟩), .int .i64 W]) noNum mixed Try.func92 (e92 (some ⟨b.id, 0, none⟩) W _) ?_
  unfold t92
  have hww : IntKind.i64.wrap ((b.wear : Int) + 1) = ((b.wear + 1 : Nat) : Int) := by rw [w64_id (by omega) (by omega)]; omega
  refine nilc_of rfl (st_of (n := b.id) (off := 1) (c := #[.slice b.v.a b.v.len b.v.cap, .int .i64 b.next, .int .i64 b.wear, .bool b.bad]) (T := tBk) (fz := (0, 0)) [] [] rfl rfl (by simp) (.inl (Nat.le_refl _)) #[.slice b.v.a b.v.len b.v.cap, .int .i64 0, .int .i64 b.wear, .bool b.bad] rfl ?_)
  refine nilc_of rfl (ld_of (b.wear : Int) (ldB List.mem_cons_self rfl) (nilc_of rfl ?_))
  simp only [hww]
  refine st_of (n := b.id) (off := 2) (T := tBk) (fz := (0, 0)) [] [] rfl rfl (by simp) (.inl (Nat.le_refl _)) #[.slice b.v.a b.v.len b.v.cap, .int .i64 0, .int .i64 ((b.wear + 1 : Nat) : Int), .bool b.bad] rfl ?_
  refine nilc_of rfl (ld_of ((b.wear + 1 : Nat) : Int) (ldB List.mem_cons_self rfl) (nilc_of rfl ?_))
  refine st_of (n := b.id) (off := 3) (T := tBk) (fz := (0, 0)) [] [] rfl rfl (by simp) (.inl (Nat.le_refl _)) #[.slice b.v.a b.v.len b.v.cap, .int .i64 0, .int .i64 ((b.wear + 1 : Nat) : Int), .bool (decide (((b.wear + 1 : Nat) : Int) = W))] rfl ?_
  refine nilc_of rfl (ld_of (decide (((b.wear + 1 : Nat) : Int) = W)) (ldB List.mem_cons_self rfl) ?_)
  exact .of ⟨rfl, rfl⟩
theorem tears_cl (m : Nat) (d : Dev) (bv tv : SlV) (ha : (d.after : Int) ≤ 9223372036854775807) :
    CallF PP 90 #[.pointer (some ⟨m, 0, none⟩)] [fO m d bv tv] fun r L' => r = .bool (tear d).1 ∧ L' = [fO m (tear d).2 bv tv] := by
  refine CallF.of (args := [.pointer (some ⟨m, 0, none⟩)]) noNum mixed Try.func90 (e90 (some ⟨m, 0, none⟩) _) ?_
  unfold t90
  refine nilc_of rfl (ld_of (d.after : Int) (f_after List.mem_cons_self) ?_)
  refine ifE_of (fun (h : (d.after : Int) = 0) => ?_) (fun (h : (d.after : Int) ≠ 0) => ?_)
  · have h0 : d.after = 0 := by omega
    unfold tear
    rw [if_pos h0]
    exact .of ⟨rfl, rfl⟩
  · have h0 : d.after ≠ 0 := by omega
    have hww : IntKind.i64.wrap ((d.after : Int) - 1) = ((d.after - 1 : Nat) : Int) := by rw [w64_id (by omega) (by omega)]; omega
    have hdd : (((d.after - 1 : Nat) : Int) == 0) = decide (d.after = 1) := by
      by_cases h1 : d.after = 1
      · rw [h1]; rfl
      · rw [decide_eq_false h1, beq_eq_false_iff_ne]; omega
    unfold tear
    rw [if_neg h0]
    refine nilc_of rfl (ld_of (d.after : Int) (f_after List.mem_cons_self) (nilc_of rfl ?_))
    simp only [hww]
    refine st_of (n := m) (off := 0) (c := #[.int .i64 d.after, .int .i64 d.keep, .bool d.down, .int .i64 d.c.B, .int .i64 d.c.P, .int .i64 d.c.S, .int .i64 d.c.W, .slice bv.a bv.len bv.cap, .int .i64 d.bytes, .slice tv.a tv.len tv.cap]) (T := tFl) (fz := (0, 0)) [] [] rfl rfl (by simp) (.inl (Nat.le_refl _))
      #[.int .i64 ((d.after - 1 : Nat) : Int), .int .i64 d.keep, .bool d.down, .int .i64 d.c.B, .int .i64 d.c.P, .int .i64 d.c.S, .int .i64 d.c.W, .slice bv.a bv.len bv.cap, .int .i64 d.bytes, .slice tv.a tv.len tv.cap] rfl ?_
    refine nilc_of rfl (ld_of ((d.after - 1 : Nat) : Int) (ldB List.mem_cons_self rfl) (nilc_of rfl ?_))
    simp only [hdd]
    refine st_of (n := m) (off := 2) (T := tFl) (fz := (0, 0)) [] [] rfl rfl (by simp) (.inl (Nat.le_refl _))
      #[.int .i64 ((d.after - 1 : Nat) : Int), .int .i64 d.keep, .bool (decide (d.after = 1)), .int .i64 d.c.B, .int .i64 d.c.P, .int .i64 d.c.S, .int .i64 d.c.W, .slice bv.a bv.len bv.cap, .int .i64 d.bytes, .slice tv.a tv.len tv.cap] rfl ?_
    refine nilc_of rfl (ld_of (decide (d.after = 1)) (ldB List.mem_cons_self rfl) ?_)
    exact .of ⟨rfl, rfl⟩
theorem imin_kept (k : Int) (n : Nat) : imin (imax k 0) n = (keptN k n : Int) := by
  unfold imin imax keptN
  omega
theorem kept_rd (L : HList) (m : Nat) (d : Dev) (bv tv : SlV) (h : fO m d bv tv ∈ L) (n : Nat) : Reads PP 91 #[.pointer (some ⟨m, 0, none⟩), .int .i64 n] L (.int .i64 (keptN d.keep n)) := by
  refine Reads.of (args := [.pointer (some ⟨m, 0, none⟩), .int .i64 n]) noNum mixed Try.func91 (e91 (some ⟨m, 0, none⟩) n _) ?_
  unfold t91
  refine nilc_of rfl (ld_of d.keep (f_keep h) ?_)
  rw [imin_kept]
  exact .of ⟨rfl, rfl⟩
/-- The block that has a number. -/
def ptAt (l : List PB) (b : Int) : Option Addr := if 0 ≤ b then (l[b.toNat]?).map fun k => ⟨k.id, 0, none⟩ else none
theorem ptAt_some {l : List PB} {i : Nat} (h : i < l.length) : ptAt l (i : Int) = some ⟨l[i].id, 0, none⟩ := by
  unfold ptAt
  rw [if_pos (by omega), Int.toNat_natCast, List.getElem?_eq_getElem h]; rfl
theorem ptAt_none {l : List PB} {b : Int} (h : ¬ (0 ≤ b ∧ b < l.length)) : ptAt l b = none := by
  unfold ptAt
  split
  · rw [List.getElem?_eq_none (by omega)]; rfl
  · rfl
theorem at_rd (L : HList) (m : Nat) (d : Dev) (bv tv : SlV) (h : fO m d bv tv ∈ L) (l : List PB) (hl : Sl L bv 1 (l.map pbp)) (hle : l.length ≤ 1048576) (b : Int) :
    Reads PP 113 #[.pointer (some ⟨m, 0, none⟩), .int .i64 b] L (.pointer (ptAt l b)) := by
  refine Reads.of (args := [.pointer (some ⟨m, 0, none⟩), .int .i64 b]) noNum mixed Try.func113 (e113 (some ⟨m, 0, none⟩) b _) ?_
  unfold t113
  have hlen : bv.len = l.length := by have := hl.len; rw [List.length_map] at this; omega
  refine ifF rfl (nilc_of rfl (ld_of bv (f_bs h) ?_))
  have hw : IntKind.i64.wrap ((bv.len : Int) - 1) = (l.length : Int) - 1 := by rw [w64_id (by omega) (by omega)]; omega
  simp only [hw]
  refine cl_rd (within_rd _ b 0 ((l.length : Int) - 1)) (decide (0 ≤ b ∧ b ≤ (l.length : Int) - 1), ()) rfl ?_
  by_cases hb : 0 ≤ b ∧ b ≤ (l.length : Int) - 1
  · rw [decide_eq_true hb]
    refine ifF rfl ?_
    obtain ⟨i, rfl⟩ : ∃ i : Nat, b = i := ⟨b.toNat, by omega⟩
    have hi : i < l.length := by omega
    rw [ptAt_some hi]
    obtain ⟨a, ha, hld⟩ := hl.at' (i := i) (by omega) (by decide)
    refine nilc_of rfl (ld_of bv (f_bs h) (nilc_of ha (ixn_of (show (0 : Int) ≤ i by omega) (show (i : Int) < bv.len by omega) (ld_of (some ⟨l[i].id, 0, none⟩ : Option Addr) (hld.one ((i : Int).toNat * 1) ?_) ?_))))
    · rw [Int.toNat_natCast, Nat.mul_one, List.getElem?_map, List.getElem?_eq_getElem hi]; rfl
    · exact .of ⟨rfl, rfl⟩
  · rw [decide_eq_false hb]
    refine ifT rfl (.of ⟨?_, rfl⟩)
    rw [ptAt_none (by omega)]
/-- Why there is no such page; 0: there is. -/
def findE (d : Dev) (b p : Int) : Int := if d.down then 11 else if ¬ (0 ≤ b ∧ b < d.bs.length) then 2 else if ¬ (0 ≤ p ∧ p < d.c.P) then 2 else 0
theorem find_rd (L : HList) (m : Nat) (d : Dev) (bv tv : SlV) (h : fO m d bv tv ∈ L) (l : List PB) (hl : Sl L bv 1 (l.map pbp)) (hle : l.length ≤ 1048576) (hd : l.map PB.blk = d.bs) (hP : d.c.P ≤ 1048576) (b p : Int) :
    Reads PP 89 #[.pointer (some ⟨m, 0, none⟩), .int .i64 b, .int .i64 p] L (.tuple #[.pointer (if findE d b p = 0 then ptAt l b else none), .int .i64 (findE d b p)]) := by
  refine Reads.of (args := [.pointer (some ⟨m, 0, none⟩), .int .i64 b, .int .i64 p]) noNum mixed Try.func89 (e89 (some ⟨m, 0, none⟩) b p _) ?_
  unfold t89
  have hbl : d.bs.length = l.length := by rw [← hd, List.length_map]
  refine ifF rfl (nilc_of rfl (ld_of d.down (f_down h) ?_))
  refine ifB_of (fun (hdn : d.down = true) => .of ⟨?_, rfl⟩) (fun (hdn : d.down = false) => ?_)
  · have hE : findE d b p = 11 := by unfold findE; rw [if_pos hdn]
    rw [hE]; rfl
  · refine cl_rd (at_rd L m d bv tv h l hl hle b) (ptAt l b, ()) rfl ?_
    by_cases hb : 0 ≤ b ∧ b < d.bs.length
    · obtain ⟨i, rfl⟩ : ∃ i : Nat, b = i := ⟨b.toNat, by omega⟩
      rw [ptAt_some (by omega)]
      refine ifF rfl (nilc_of rfl (ld_of (d.c.P : Int) (f_P h) ?_))
      have hw : IntKind.i64.wrap ((d.c.P : Int) - 1) = (d.c.P : Int) - 1 := w64_id (by omega) (by omega)
      simp only [hw]
      refine cl_rd (within_rd _ p 0 ((d.c.P : Int) - 1)) (decide (0 ≤ p ∧ p ≤ (d.c.P : Int) - 1), ()) rfl ?_
      by_cases hp : 0 ≤ p ∧ p < d.c.P
      · have hE : findE d i p = 0 := by unfold findE; rw [hdn, if_neg (by decide), if_neg (by simpa using hb), if_neg (by simpa using hp)]
        rw [decide_eq_true (by omega), hE, if_pos rfl]
        exact ifF rfl (.of ⟨rfl, rfl⟩)
      · have hE : findE d i p = 2 := by unfold findE; rw [hdn, if_neg (by decide), if_neg (by simpa using hb), if_pos hp]
        rw [decide_eq_false (by omega), hE]
        exact ifT rfl (.of ⟨rfl, rfl⟩)
    · have hE : findE d b p = 2 := by unfold findE; rw [hdn, if_neg (by decide), if_pos hb]
      rw [hE, ptAt_none (by omega)]
      exact ifT rfl (.of ⟨rfl, rfl⟩)
end Go.Proofs.Ytlabcgnegbdlfaa
set_option linter.unusedVariables false
set_option linter.unusedSimpArgs false
namespace Go.Proofs.Ytlabcgnegbdlfaa
open Go.HL

structure DvOk (d : Dev) : Prop where
  c : CfgOk d.c
  len : d.bs.length = d.c.B
  pg : ∀ k ∈ d.bs, k.pages.length = d.c.P ∧ ∀ l ∈ k.pages, l.length = d.c.S
  nx : ∀ k ∈ d.bs, k.next ≤ d.c.P ∧ k.wear ≤ d.c.W ∧ k.bad = decide (k.wear = d.c.W)
  after : (d.after : Int) ≤ 9223372036854775807
  torn : ∀ t ∈ d.torn, t.meant.length = d.c.S ∧ t.image.length = d.c.S
structure PT where
  b : Nat
  p : Nat
  m : PG
  i : PG
def PT.enc (t : PT) : List Value := [.int .i64 t.b, .int .i64 t.p, t.m.val, t.i.val]
theorem PT.enc_len (t : PT) : t.enc.length = 4 := rfl
theorem PT.enc_plain (l : List PT) : (l.flatMap PT.enc).all plainV = true := by
  induction l with
  | nil => rfl
  | cons e r ih => rw [List.flatMap_cons, List.all_append, ih]; rfl
def PT.tn (t : PT) : Tn := ⟨t.b, t.p, t.m.l, t.i.l⟩
def tsegs (l : List PT) : HList := l.flatMap fun t => t.m.seg ++ t.i.seg
theorem tsegs_append (a b : List PT) : tsegs (a ++ b) = tsegs a ++ tsegs b := List.flatMap_append
theorem tsegs_one (t : PT) : tsegs [t] = t.m.seg ++ t.i.seg := by simp [tsegs]
def bobjs (l : List PB) : HList := l.flatMap PB.objs
theorem bobjs_append (a b : List PB) : bobjs (a ++ b) = bobjs a ++ bobjs b := List.flatMap_append
theorem bobjs_cons (a : PB) (b : List PB) : bobjs (a :: b) = a.objs ++ bobjs b := rfl
/-- A device's objects. -/
structure FHs (m : Nat) (d : Dev) (bv : SlV) (bseg : HList) (bs : List PB) (tv : SlV) (tseg : HList) (ts : List PT) : Prop where
  ob : Own bv 1 ePb (bs.map pbp) bseg
  okb : ∀ b ∈ bs, b.Ok
  hb : bs.map PB.blk = d.bs
  ot : Own tv 4 eT (ts.flatMap PT.enc) tseg
  okt : ∀ t ∈ ts, t.m.Ok ∧ t.i.Ok
  ht : ts.map PT.tn = d.torn
def fL (m : Nat) (d : Dev) (bv : SlV) (bseg : HList) (bs : List PB) (tv : SlV) (tseg : HList) (ts : List PT) : HList := fO m d bv tv :: (bseg ++ (bobjs bs ++ (tseg ++ tsegs ts)))
def FH (m : Nat) (d : Dev) (A : HList) : Prop := ∃ bv bseg bs tv tseg ts, A = fL m d bv bseg bs tv tseg ts ∧ FHs m d bv bseg bs tv tseg ts
def blkAt (d : Dev) (b : Int) : Option Blk := if 0 ≤ b then d.bs[b.toNat]? else none
def nextOf (d : Dev) (b : Int) : Int := ((blkAt d b).elim 0 fun k => k.next : Nat)
def wearOf (d : Dev) (b : Int) : Int := ((blkAt d b).elim 0 fun k => k.wear : Nat)
def badOf (d : Dev) (b : Int) : Bool := (blkAt d b).elim false fun k => k.bad
theorem at_cases {d : Dev} {bs : List PB} (h : bs.map PB.blk = d.bs) (b : Int) : (ptAt bs b = none ∧ blkAt d b = none) ∨ ∃ (i : Nat) (hi : i < bs.length), b = i ∧ ptAt bs b = some ⟨bs[i].id, 0, none⟩ ∧ blkAt d b = some bs[i].blk := by
  by_cases hb : 0 ≤ b ∧ b < bs.length
  · right
    obtain ⟨i, rfl⟩ : ∃ i : Nat, b = i := ⟨b.toNat, by omega⟩
    have hi : i < bs.length := by omega
    refine ⟨i, hi, rfl, ptAt_some hi, ?_⟩
    unfold blkAt
    rw [if_pos (by omega), Int.toNat_natCast, ← h, List.getElem?_map, List.getElem?_eq_getElem hi]; rfl
  · left
    refine ⟨ptAt_none hb, ?_⟩
    have hl : d.bs.length = bs.length := by rw [← h, List.length_map]
    unfold blkAt
    split
    · rw [List.getElem?_eq_none (by omega)]
    · rfl
theorem obj_mem {bs : List PB} {i : Nat} (hi : i < bs.length) : bs[i].obj ∈ bobjs bs := List.mem_flatMap.2 ⟨bs[i], List.getElem_mem hi, List.mem_cons_self⟩
section
variable {m : Nat} {d : Dev} {bv : SlV} {bseg : HList} {bs : List PB} {tv : SlV} {tseg : HList} {ts : List PT}
theorem fL_o : fO m d bv tv ∈ fL m d bv bseg bs tv tseg ts := List.mem_cons_self
theorem FHs.sl (h : FHs m d bv bseg bs tv tseg ts) : Sl (fL m d bv bseg bs tv tseg ts) bv 1 (bs.map pbp) := h.ob.sl.left.cons
theorem FHs.tsl (h : FHs m d bv bseg bs tv tseg ts) : Sl (fL m d bv bseg bs tv tseg ts) tv 4 (ts.flatMap PT.enc) := h.ot.sl.left.right.right.cons
theorem FHs.few (h : FHs m d bv bseg bs tv tseg ts) (ok : DvOk d) : bs.length ≤ 16 := by
  have h1 := ok.len
  have h2 := ok.c.b
  rw [← h.hb, List.length_map] at h1
  omega
theorem fL_b {i : Nat} (hi : i < bs.length) : bs[i].obj ∈ fL m d bv bseg bs tv tseg ts := List.mem_cons_of_mem _ (List.mem_append_right _ (List.mem_append_left _ (obj_mem hi)))
end
abbrev Cf := ShV (.agg [.int .i64, .int .i64, .int .i64, .int .i64])
def cfV (c : Cfg) : Value := .agg #[.int .i64 c.B, .int .i64 c.P, .int .i64 c.S, .int .i64 c.W]
theorem config_rd (m : Nat) (d : Dev) (A : HList) (h : FH m d A) : CallF PP 83 #[.pointer (some ⟨m, 0, none⟩)] A fun r L' => r = cfV d.c ∧ L' = A := by
  obtain ⟨bv, bseg, bs, tv, tseg, ts, rfl, h⟩ := h
  refine CallF.of (args := [.pointer (some ⟨m, 0, none⟩)]) noNum mixed Try.func83 (e83 (some ⟨m, 0, none⟩) _) ?_
  unfold t83
  refine nw_of fun n _ => ifF rfl (nilc_of rfl ?_)
  refine ld_of ((d.c.B : Int), (d.c.P : Int), (d.c.S : Int), (d.c.W : Int), ()) (f_cfg (List.mem_cons_of_mem _ fL_o)) ?_
  refine st_of (n := n) (off := 0) (c := #[.int .i64 0, .int .i64 0, .int .i64 0, .int .i64 0]) (T := 75) (fz := (0, 0)) [] _ rfl rfl (by simp) (.inl (Nat.le_refl _)) #[.int .i64 d.c.B, .int .i64 d.c.P, .int .i64 d.c.S, .int .i64 d.c.W] rfl ?_
  refine ld_of ((d.c.B : Int), (d.c.P : Int), (d.c.S : Int), (d.c.W : Int), ()) (ldB List.mem_cons_self rfl) ?_
  exact .cons (.of ⟨rfl, rfl⟩)
def arm (d : Dev) (n k : Int) : Dev := if d.down then d else { d with after := n.toNat, keep := k }
theorem arm_cl (m : Nat) (d : Dev) (A : HList) (h : FH m d A) (n k : Int) : CallF PP 39 #[.pointer (some ⟨m, 0, none⟩), .int .i64 n, .int .i64 k] A fun r L' => r = .tuple #[] ∧ FH m (arm d n k) L' := by
  obtain ⟨bv, bseg, bs, tv, tseg, ts, rfl, h⟩ := h
  refine CallF.of (args := [.pointer (some ⟨m, 0, none⟩), .int .i64 n, .int .i64 k]) noNum mixed Try.func39 (e39 (some ⟨m, 0, none⟩) n k _) ?_
  unfold t39 arm
  refine ifT rfl (nilc_of rfl (ld_of d.down (f_down fL_o) ?_))
  rcases Bool.eq_false_or_eq_true d.down with hd | hd
  · rw [if_pos hd]
    exact ifF (by simp only [hd]; rfl) (.of ⟨rfl, bv, bseg, bs, tv, tseg, ts, rfl, h⟩)
  · rw [if_neg (by rw [hd]; decide)]
    have hn : imax n 0 = (n.toNat : Int) := by unfold imax; omega
    refine ifT (by simp only [hd]; rfl) (nilc_of rfl ?_)
    rw [hn]
    refine st_of (n := m) (off := 0) (c := #[.int .i64 d.after, .int .i64 d.keep, .bool d.down, .int .i64 d.c.B, .int .i64 d.c.P, .int .i64 d.c.S, .int .i64 d.c.W, .slice bv.a bv.len bv.cap, .int .i64 d.bytes, .slice tv.a tv.len tv.cap]) (T := tFl) (fz := (0, 0)) [] _ rfl rfl (by simp) (.inl (Nat.le_refl _))
      #[.int .i64 (n.toNat : Int), .int .i64 d.keep, .bool d.down, .int .i64 d.c.B, .int .i64 d.c.P, .int .i64 d.c.S, .int .i64 d.c.W, .slice bv.a bv.len bv.cap, .int .i64 d.bytes, .slice tv.a tv.len tv.cap] rfl (nilc_of rfl ?_)
    refine st_of (n := m) (off := 1) (T := tFl) (fz := (0, 0)) [] _ rfl rfl (by simp) (.inl (Nat.le_refl _))
      #[.int .i64 (n.toNat : Int), .int .i64 k, .bool d.down, .int .i64 d.c.B, .int .i64 d.c.P, .int .i64 d.c.S, .int .i64 d.c.W, .slice bv.a bv.len bv.cap, .int .i64 d.bytes, .slice tv.a tv.len tv.cap] rfl ?_
    exact .of ⟨rfl, bv, bseg, bs, tv, tseg, ts, rfl, ⟨h.ob, h.okb, h.hb, h.ot, h.okt, h.ht⟩⟩
def restart (d : Dev) : Dev := { d with down := false, after := 0 }
theorem restart_cl (m : Nat) (d : Dev) (A : HList) (h : FH m d A) : CallF PP 44 #[.pointer (some ⟨m, 0, none⟩)] A fun r L' => r = .tuple #[] ∧ FH m (restart d) L' := by
  obtain ⟨bv, bseg, bs, tv, tseg, ts, rfl, h⟩ := h
  refine CallF.of (args := [.pointer (some ⟨m, 0, none⟩)]) noNum mixed Try.func44 (e44 (some ⟨m, 0, none⟩) _) ?_
  unfold t44 restart
  refine ifT rfl (nilc_of rfl ?_)
  refine st_of (n := m) (off := 2) (c := #[.int .i64 d.after, .int .i64 d.keep, .bool d.down, .int .i64 d.c.B, .int .i64 d.c.P, .int .i64 d.c.S, .int .i64 d.c.W, .slice bv.a bv.len bv.cap, .int .i64 d.bytes, .slice tv.a tv.len tv.cap]) (T := tFl) (fz := (0, 0)) [] _ rfl rfl (by simp) (.inl (Nat.le_refl _))
    #[.int .i64 d.after, .int .i64 d.keep, .bool false, .int .i64 d.c.B, .int .i64 d.c.P, .int .i64 d.c.S, .int .i64 d.c.W, .slice bv.a bv.len bv.cap, .int .i64 d.bytes, .slice tv.a tv.len tv.cap] rfl (nilc_of rfl ?_)
  refine st_of (n := m) (off := 0) (T := tFl) (fz := (0, 0)) [] _ rfl rfl (by simp) (.inl (Nat.le_refl _))
    #[.int .i64 0, .int .i64 d.keep, .bool false, .int .i64 d.c.B, .int .i64 d.c.P, .int .i64 d.c.S, .int .i64 d.c.W, .slice bv.a bv.len bv.cap, .int .i64 d.bytes, .slice tv.a tv.len tv.cap] rfl ?_
  exact .of ⟨rfl, bv, bseg, bs, tv, tseg, ts, rfl, ⟨h.ob, h.okb, h.hb, h.ot, h.okt, h.ht⟩⟩
def readR (d : Dev) (b p : Int) : List UInt8 × Int :=
  if findE d b p ≠ 0 then ([], findE d b p) else match d.bs[b.toNat]? with
  | none => ([], 2)
  | some k => if k.bad then (blk d.c.S, 0) else (k.pages.getD p.toNat [], 0)
theorem findE_0 {d : Dev} {b p : Int} (h : findE d b p = 0) : d.down = false ∧ 0 ≤ b ∧ b < d.bs.length ∧ 0 ≤ p ∧ p < d.c.P := by
  unfold findE at h
  split at h
  · cases h
  · split at h
    · cases h
    · split at h
      · cases h
      · rename_i h1 h2 h3
        refine ⟨by simpa using h1, ?_, ?_, ?_, ?_⟩ <;> omega
theorem read_cl (m : Nat) (d : Dev) (A : HList) (h : FH m d A) (ok : DvOk d) (b p : Int) :
    CallF PP 84 #[.pointer (some ⟨m, 0, none⟩), .int .i64 b, .int .i64 p] A fun r L' => ∃ g : PG, r = .tuple #[g.val, .int .i64 (readR d b p).2] ∧ L' = g.seg ++ A ∧ g.Ok ∧ g.l = (readR d b p).1 := by
  obtain ⟨bv, bseg, bs, tv, tseg, ts, rfl, h⟩ := h
  refine CallF.of (args := [.pointer (some ⟨m, 0, none⟩), .int .i64 b, .int .i64 p]) noNum mixed Try.func84 (e84 (some ⟨m, 0, none⟩) b p _) ?_
  unfold t84
  have hfew := h.few ok
  have hP := ok.c.p
  have hS := ok.c.s
  refine cl_rd (find_rd _ m d bv tv fL_o bs h.sl (by omega) h.hb (by omega) b p) (if findE d b p = 0 then ptAt bs b else none, findE d b p, ()) rfl ?_
  refine ifNe_of (fun (he : findE d b p ≠ 0) => ?_) (fun (he : findE d b p = 0) => ?_)
  · have hr : readR d b p = ([], findE d b p) := by unfold readR; rw [if_pos he]
    rw [hr]
    exact .of ⟨pg0, rfl, rfl, pg0_ok, rfl⟩
  obtain ⟨hdn, hb0, hb1, hp0, hp1⟩ := findE_0 he
  obtain ⟨i, rfl⟩ : ∃ i : Nat, b = i := ⟨b.toNat, by omega⟩
  obtain ⟨q, rfl⟩ : ∃ q : Nat, p = q := ⟨p.toNat, by omega⟩
  have hbl : d.bs.length = bs.length := by rw [← h.hb, List.length_map]
  have hi : i < bs.length := by omega
  have hk : d.bs[i]? = some bs[i].blk := by rw [← h.hb, List.getElem?_map, List.getElem?_eq_getElem hi]; rfl
  have hmk : bs[i].blk ∈ d.bs := List.mem_of_getElem? hk
  rw [if_pos he, ptAt_some hi]
  refine nilc_of rfl (ld_of bs[i].bad (b_bad (fL_b hi)) ?_)
  refine ifB_of (fun (hbad : bs[i].bad = true) => ?_) (fun (hbad : bs[i].bad = false) => ?_)
  · have hr : readR d i q = (blk d.c.S, 0) := by
      unfold readR
      rw [if_neg (by simpa using he), Int.toNat_natCast, hk]
      show (if bs[i].bad = true then _ else _) = _
      rw [if_pos hbad]
    rw [hr]
    refine nilc_of rfl (ld_of (d.c.S : Int) (f_S fL_o) ?_)
    refine cl_in [] (fL m d bv bseg bs tv tseg ts) (blank_cl d.c.S (by omega)) rfl ?_
    rintro _ _ - ⟨g, rfl, rfl, hg, hgl⟩
    exact ⟨(g.v, ()), rfl, .of ⟨g, rfl, rfl, hg, hgl⟩⟩
  · have hpl := (ok.pg _ hmk).1
    have hpl' : bs[i].ps.length = d.c.P := by rw [← hpl]; simp [PB.blk]
    have hq : q < bs[i].ps.length := by omega
    have hr : readR d i q = (bs[i].ps[q].l, 0) := by
      unfold readR
      rw [if_neg (by simpa using he), Int.toNat_natCast, Int.toNat_natCast, hk]
      show (if bs[i].bad = true then _ else ((bs[i].ps.map PG.l).getD q [], (0 : Int))) = _
      rw [if_neg (by rw [hbad]; decide), List.getD_eq_getElem?_getD, List.getElem?_map, List.getElem?_eq_getElem hq]; rfl
    rw [hr]
    have hbi := h.okb _ (List.getElem_mem hi)
    have hsub : ∀ x ∈ bs[i].objs, x ∈ fL m d bv bseg bs tv tseg ts := fun x hx => List.mem_cons_of_mem _ (List.mem_append_right _ (List.mem_append_left _ (List.mem_flatMap.2 ⟨bs[i], List.getElem_mem hi, hx⟩)))
    have hpsl : Sl (fL m d bv bseg bs tv tseg ts) bs[i].v 1 (bs[i].ps.map PG.val) := Sl.mono (hbi.own.sl.left.cons (p := bs[i].obj)) hsub
    have hgo := hbi.ps _ (List.getElem_mem hq)
    have hgsl : BSl (fL m d bv bseg bs tv tseg ts) bs[i].ps[q].v bs[i].ps[q].l := Sl.mono hgo.sl fun x hx => hsub x (List.mem_cons_of_mem _ (List.mem_append_right _ (List.mem_flatMap.2 ⟨_, List.getElem_mem hq, hx⟩)))
    have hgl : bs[i].ps[q].l.length = d.c.S := (ok.pg _ hmk).2 _ (List.mem_map.2 ⟨_, List.getElem_mem hq, rfl⟩)
    have hvl := hpsl.len
    rw [List.length_map] at hvl
    obtain ⟨a, ha, hld⟩ := hpsl.at' (i := q) (by omega) (by decide)
    refine nw_of fun n _ => nilc_of rfl (ld_of bs[i].v (b_ps (List.mem_cons_of_mem _ (fL_b hi))) (nilc_of ha (ixn_of (show (0 : Int) ≤ q by omega) (show (q : Int) < bs[i].v.len by omega) ?_)))
    refine ld_of bs[i].ps[q].v ((hld.one ((q : Int).toNat * 1) (v := bs[i].ps[q].val) (by rw [Int.toNat_natCast, Nat.mul_one, List.getElem?_map, List.getElem?_eq_getElem hq]; rfl)).mono fun x hx => List.mem_cons_of_mem _ hx) ?_
    refine append_in elemB srcB [] (fL m d bv bseg bs tv tseg ts) own_empty rfl (.sl hgsl.cons) (bvs_plain _) (by rw [hgsl.len]; simp only; omega) fun v' seg' hv' own' => ?_
    rw [List.nil_append] at own' ⊢
    exact .of ⟨⟨v', seg', bs[i].ps[q].l⟩, rfl, rfl, own', rfl⟩
end Go.Proofs.Ytlabcgnegbdlfaa
set_option linter.unusedVariables false
set_option linter.unusedSimpArgs false
namespace Go.Proofs.Ytlabcgnegbdlfaa
open Go.HL

theorem torn_cl (m : Nat) (d : Dev) (A : HList) (h : FH m d A) (ok : DvOk d) (hf : d.torn.length ≤ 1048576) :
    CallF PP 42 #[.pointer (some ⟨m, 0, none⟩)] A fun r L' => ∃ (v : SlV) (seg : HList) (ts' : List PT), r = .slice v.a v.len v.cap ∧ L' = seg ++ (tsegs ts' ++ A) ∧ Own v 4 eT (ts'.flatMap PT.enc) seg ∧ (∀ t ∈ ts', t.m.Ok ∧ t.i.Ok) ∧ ts'.map PT.tn = d.torn := by
  have hA := h
  obtain ⟨bv, bseg, bs, tv, tseg, ts, he, h⟩ := h
  have hfO : fO m d bv tv ∈ A := he ▸ fL_o
  have htsl : Sl A tv 4 (ts.flatMap PT.enc) := he ▸ h.tsl
  have htm : ∀ t ∈ ts, ∀ x, x ∈ t.m.seg ∨ x ∈ t.i.seg → x ∈ A := by
    intro t ht x hx
    rw [he]
    refine List.mem_cons_of_mem _ (List.mem_append_right _ (List.mem_append_right _ (List.mem_append_right _ (List.mem_flatMap.2 ⟨t, ht, ?_⟩))))
    exact List.mem_append.2 hx
  have hlt : ts.length = d.torn.length := by rw [← h.ht, List.length_map]
  have htl := htsl.els_len PT.enc_len (by decide)
  clear he
  refine CallF.of (args := [.pointer (some ⟨m, 0, none⟩)]) noNum mixed Try.func42 (e42 (some ⟨m, 0, none⟩) _) ?_
  unfold t42
  refine ifF rfl (nilc_of rfl (ld_of tv (f_torn hfO) ?_))
  refine lp_of (fun z' z L' => ∃ (i : Nat) (v : SlV) (seg : HList) (D : List PT) (J X Y : HList), i ≤ ts.length ∧ z' = ts.length - i ∧ z = (v, (i : Int), ()) ∧ L' = X ++ seg ++ Y ∧ (X ++ Y).Perm (tsegs D ++ (J ++ A)) ∧ (∀ x ∈ A, x ∈ L') ∧ Own v 4 eT (D.flatMap PT.enc) seg ∧ (∀ t ∈ D, t.m.Ok ∧ t.i.Ok) ∧ D.map PT.tn = (ts.map PT.tn).take i) ts.length
    ⟨0, ⟨none, 0, 0⟩, [], [], [], [], A, by omega, by omega, rfl, rfl, by simp [tsegs], fun x hx => by simpa using hx, own_nil, by simp, rfl⟩ ?_
  rintro z' z L ⟨i, v, seg, D, J, X, Y, hi, rfl, rfl, rfl, hp, hsub, own, hok, hD⟩
  refine ifD_of (fun (hlt2 : (i : Int) < (tv.len : Int)) => ?_) (fun (hge : ¬ (i : Int) < (tv.len : Int)) => ?_)
  · have hi' : i < ts.length := by omega
    obtain ⟨a, ha, hld⟩ := htsl.el PT.enc_len (by decide) hi'
    have hot := h.okt _ (List.getElem_mem hi')
    have htn := ok.torn (ts[i].tn) (by rw [← h.ht]; exact List.mem_map.2 ⟨_, List.getElem_mem hi', rfl⟩)
    have hS := ok.c.s
    have hmsl : BSl A ts[i].m.v ts[i].m.l := Sl.mono hot.1.sl fun x hx => htm _ (List.getElem_mem hi') x (.inl hx)
    have hisl : BSl A ts[i].i.v ts[i].i.l := Sl.mono hot.2.sl fun x hx => htm _ (List.getElem_mem hi') x (.inr hx)
    have hml : ts[i].m.l.length = d.c.S := htn.1
    have hil : ts[i].i.l.length = d.c.S := htn.2
    have hmv := hmsl.len
    have hiv := hisl.len
    have hvl := own.sl.len
    rw [flat_len PT.enc_len] at hvl
    have hDl : D.length = i := by
      have := congrArg List.length hD
      rw [List.length_map, List.length_take, List.length_map] at this
      omega
    refine nilc_of ha (ixn_of (show (0 : Int) ≤ i by omega) (show (i : Int) < tv.len by omega) ?_)
    refine ld_of ((ts[i].b : Int), (ts[i].p : Int), ts[i].m.v, ts[i].i.v, ()) (by rw [Int.toNat_natCast]; exact hld.mono hsub) ?_
    refine nw_of fun n1 _ => ?_
    refine st_of (n := n1) (off := 0) (c := #[.int .i64 0, .int .i64 0, .slice none 0 0, .slice none 0 0]) (T := eT) (fz := (0, 0)) [] (X ++ seg ++ Y) rfl rfl (by simp) (.inl (Nat.le_refl _))
      #[.int .i64 ts[i].b, .int .i64 ts[i].p, ts[i].m.val, ts[i].i.val] rfl ?_
    rw [List.nil_append]
    refine ld_of ts[i].m.v (ldB List.mem_cons_self rfl) (ld_of ts[i].i.v (ldB List.mem_cons_self rfl) ?_)
    refine nw_of fun n2 _ => ?_
    refine append_in elemB srcB [] ((n1, Obj.cells #[.int .i64 ts[i].b, .int .i64 ts[i].p, ts[i].m.val, ts[i].i.val] eT) :: (X ++ seg ++ Y)) own_empty rfl (.sl (Sl.mono hmsl fun x hx => List.mem_cons_of_mem _ (List.mem_cons_of_mem _ (hsub x hx)))) (bvs_plain _) (by simp only; omega) fun v5 seg5 hv5 own5 => ?_
    rw [List.nil_append] at own5 ⊢
    refine keep_of (ldB (n := n1) (off := 3) (T := eT) (c := #[.int .i64 ts[i].b, .int .i64 ts[i].p, ts[i].m.val, ts[i].i.val]) (fz := (0, 0)) (by simp) rfl) (nw_of fun n3 _ => ?_)
    refine append_in elemB srcB [] (seg5 ++ ((n1, Obj.cells #[.int .i64 ts[i].b, .int .i64 ts[i].p, ts[i].m.val, ts[i].i.val] eT) :: (X ++ seg ++ Y))) own_empty rfl (.sl (Sl.mono hisl fun x hx => by have h0 := hsub x hx; simp at h0 ⊢; simp [h0])) (bvs_plain _) (by simp only; omega) fun v6 seg6 hv6 own6 => ?_
    rw [List.nil_append] at own6 ⊢
    refine st_of (n := n1) (off := 2) (c := #[.int .i64 ts[i].b, .int .i64 ts[i].p, ts[i].m.val, ts[i].i.val]) (T := eT) (fz := (0, 0)) (seg6 ++ seg5) (X ++ seg ++ Y) rfl (by simp) (by simp) (.inl (Nat.le_refl _))
      #[.int .i64 ts[i].b, .int .i64 ts[i].p, .slice v5.a v5.len v5.cap, ts[i].i.val] rfl ?_
    refine st_of (n := n1) (off := 3) (c := #[.int .i64 ts[i].b, .int .i64 ts[i].p, .slice v5.a v5.len v5.cap, ts[i].i.val]) (T := eT) (fz := (0, 0)) (seg6 ++ seg5) (X ++ seg ++ Y) rfl rfl (by simp) (.inl (Nat.le_refl _))
      #[.int .i64 ts[i].b, .int .i64 ts[i].p, .slice v5.a v5.len v5.cap, .slice v6.a v6.len v6.cap] rfl ?_
    refine ld_of ((ts[i].b : Int), (ts[i].p : Int), v5, v6, ()) (ldB (n := n1) (off := 0) (c := #[.int .i64 ts[i].b, .int .i64 ts[i].p, .slice v5.a v5.len v5.cap, .slice v6.a v6.len v6.cap]) (T := eT) (fz := (0, 0)) (by simp) rfl) ?_
    refine nw_of fun n4 _ => ?_
    refine append_in elemTs srcTs ((n4, Obj.cells #[.int .i64 ts[i].b, .int .i64 ts[i].p, .slice v5.a v5.len v5.cap, .slice v6.a v6.len v6.cap] eT) :: ((seg6 ++ seg5) ++ ((n1, Obj.cells #[.int .i64 ts[i].b, .int .i64 ts[i].p, .slice v5.a v5.len v5.cap, .slice v6.a v6.len v6.cap] eT) :: X))) Y own (by simp)
      (n := 1) (ws := PT.enc ⟨ts[i].b, ts[i].p, ⟨v5, seg5, ts[i].m.l⟩, ⟨v6, seg6, ts[i].i.l⟩⟩) (x := .slice (some ⟨n4, 0, none⟩) 1 1) (Src.sl (v := ⟨some ⟨n4, 0, none⟩, 1, 1⟩) ⟨rfl, Nat.le_refl _, .inr ⟨_, rfl, ldB List.mem_cons_self rfl⟩⟩) rfl (by omega) fun v8 seg8 hv8 own8 => ?_
    refine ⟨ts.length - (i + 1), by omega, i + 1, v8, seg8, D ++ [⟨ts[i].b, ts[i].p, ⟨v5, seg5, ts[i].m.l⟩, ⟨v6, seg6, ts[i].i.l⟩⟩], (n4, Obj.cells #[.int .i64 ts[i].b, .int .i64 ts[i].p, .slice v5.a v5.len v5.cap, .slice v6.a v6.len v6.cap] eT) :: (n1, Obj.cells #[.int .i64 ts[i].b, .int .i64 ts[i].p, .slice v5.a v5.len v5.cap, .slice v6.a v6.len v6.cap] eT) :: J, _, _, by omega, rfl, ?_, rfl, ?_, ?_, ?_, ?_, ?_⟩
    · rw [w64_id (by first | omega | (simp only; omega)) (by first | omega | (simp only; omega))]
      rfl
    · generalize (n4, Obj.cells #[.int .i64 ts[i].b, .int .i64 ts[i].p, .slice v5.a v5.len v5.cap, .slice v6.a v6.len v6.cap] eT) = o4
      generalize (n1, Obj.cells #[.int .i64 ts[i].b, .int .i64 ts[i].p, .slice v5.a v5.len v5.cap, .slice v6.a v6.len v6.cap] eT) = o1
      rw [tsegs_append, tsegs_one]
      classical
      rw [List.perm_iff_count] at hp ⊢
      intro x
      have := hp x
      simp only [List.append_eq, List.cons_append, List.count_append, List.count_cons, List.count_nil] at this ⊢
      omega
    · intro x hx
      have h1 := hp.mem_iff (a := x)
      have h2 : x ∈ X ++ Y := h1.2 (List.mem_append_right _ (List.mem_append_right _ hx))
      rcases List.mem_append.1 h2 with h3 | h3
      · exact List.mem_append_left _ (List.mem_append_left _ (List.mem_cons_of_mem _ (List.mem_append_right _ (List.mem_cons_of_mem _ h3))))
      · exact List.mem_append_right _ h3
    · rw [List.flatMap_append, List.flatMap_singleton]
      exact own8
    · intro x hx
      rcases List.mem_append.1 hx with h1 | h1
      · exact hok x h1
      · rw [List.mem_singleton.1 h1]; exact ⟨own5, own6⟩
    · rw [List.map_append, hD, List.take_succ_eq_append_getElem (by rw [List.length_map]; omega), List.getElem_map]; rfl
  · obtain rfl : i = ts.length := by omega
    refine .drop (A := seg ++ (tsegs D ++ A)) (J := J) ⟨v, seg, D, rfl, rfl, own, hok, ?_⟩ ?_
    · rw [hD, ← h.ht, List.take_of_length_le (by rw [List.length_map]; omega)]
    · classical
      rw [List.perm_iff_count] at hp ⊢
      intro x
      have := hp x
      simp only [List.append_eq, List.cons_append, List.count_append, List.count_cons, List.count_nil] at this ⊢
      omega
end Go.Proofs.Ytlabcgnegbdlfaa
set_option linter.unusedVariables false
set_option linter.unusedSimpArgs false
namespace Go.Proofs.Ytlabcgnegbdlfaa
open Go.HL

def Blk.put (k : Blk) (p : Nat) (l : List UInt8) : Blk := { k with pages := k.pages.set p l, next := p + 1 }
def counted (d : Dev) : Dev := { d with bytes := IntKind.i64.wrap (d.bytes + d.c.S) }
def tornImg (d : Dev) (data : List UInt8) : List UInt8 := data.take (keptN d.keep d.c.S) ++ blk (d.c.S - keptN d.keep d.c.S)
def progK (d : Dev) (i p : Nat) (k : Blk) (data : List UInt8) : Int × Dev :=
  if (tear (counted d)).1 then (11, { (tear (counted d)).2 with bs := d.bs.set i (k.put p (tornImg d data)), torn := d.torn ++ [⟨i, p, data, tornImg d data⟩] })
  else (0, { (tear (counted d)).2 with bs := d.bs.set i (k.put p data) })
def prog (d : Dev) (b p : Int) (data : List UInt8) : Int × Dev :=
  if findE d b p ≠ 0 then (findE d b p, d) else if data.length ≠ d.c.S then (2, d) else
  match d.bs[b.toNat]? with
  | none => (2, d)
  | some k => if k.bad then (10, d) else if (k.next : Int) ≠ p then (9, d) else progK d b.toNat p.toNat k data
theorem ptAt_mid (pre post : List PB) (x : PB) : ptAt (pre ++ x :: post) (pre.length : Int) = some ⟨x.id, 0, none⟩ := by
  rw [ptAt_some (by simp)]
  simp
theorem program_cl (m : Nat) (d : Dev) (A R : HList) (h : FH m d A) (ok : DvOk d) (hf : d.torn.length ≤ 1048576) (b p : Int) (u : SlV) (data : List UInt8) (hu : BSl R u data) :
    CallF PP 111 #[.pointer (some ⟨m, 0, none⟩), .int .i64 b, .int .i64 p, .slice u.a u.len u.cap] (A ++ R) fun r L' => ∃ A', L' = A' ++ R ∧ r = .int .i64 (prog d b p data).1 ∧ FH m (prog d b p data).2 A' := by
  have hA := h
  obtain ⟨bv, bseg, bs, tv, tseg, ts, rfl, h⟩ := h
  refine CallF.of (args := [.pointer (some ⟨m, 0, none⟩), .int .i64 b, .int .i64 p, .slice u.a u.len u.cap]) noNum mixed Try.func111 (e111 (some ⟨m, 0, none⟩) b p u _) ?_
  unfold t111
  have hfew := h.few ok
  have hP := ok.c.p
  have hS := ok.c.s
  have hul := hu.len
  refine cl_rd (find_rd _ m d bv tv (List.mem_append_left _ fL_o) bs h.sl.left (by omega) h.hb (by omega) b p) (if findE d b p = 0 then ptAt bs b else none, findE d b p, ()) rfl ?_
  refine ifNe_of (fun (he : findE d b p ≠ 0) => ?_) (fun (he : findE d b p = 0) => ?_)
  · have hr : prog d b p data = (findE d b p, d) := by unfold prog; rw [if_pos he]
    rw [hr]
    exact .of ⟨_, rfl, rfl, hA⟩
  refine nilc_of rfl (ld_of (d.c.S : Int) (f_S (List.mem_append_left _ fL_o)) ?_)
  refine ifNe_of (fun (hs : (u.len : Int) ≠ (d.c.S : Int)) => ?_) (fun (hs : (u.len : Int) = (d.c.S : Int)) => ?_)
  · have hr : prog d b p data = (2, d) := by unfold prog; rw [if_neg (by simpa using he), if_pos (by omega)]
    rw [hr]
    exact .of ⟨_, rfl, rfl, hA⟩
  have hdl : data.length = d.c.S := by omega
  obtain ⟨hdn, hb0, hb1, hp0, hp1⟩ := findE_0 he
  obtain ⟨i, rfl⟩ : ∃ i : Nat, b = i := ⟨b.toNat, by omega⟩
  obtain ⟨q, rfl⟩ : ∃ q : Nat, p = q := ⟨p.toNat, by omega⟩
  have hbl : d.bs.length = bs.length := by rw [← h.hb, List.length_map]
  have hi : i < bs.length := by omega
  obtain ⟨pre, x, post, rfl, rfl⟩ : ∃ pre x post, bs = pre ++ x :: post ∧ pre.length = i := ⟨bs.take i, bs[i], bs.drop (i + 1), by rw [← List.drop_eq_getElem_cons hi, List.take_append_drop], by rw [List.length_take]; omega⟩
  have hk : d.bs[pre.length]? = some x.blk := by rw [← h.hb, List.getElem?_map]; simp
  have hset : ∀ y : PB, (pre ++ y :: post).map PB.blk = d.bs.set pre.length y.blk := fun y => by rw [← h.hb]; simp
  have hmk : x.blk ∈ d.bs := List.mem_of_getElem? hk
  have hpr : prog d (pre.length : Int) (q : Int) data = if x.bad then (10, d) else if (x.next : Int) ≠ (q : Int) then (9, d) else progK d pre.length q x.blk data := by
    unfold prog
    rw [if_neg (by simpa using he), if_neg (by omega), Int.toNat_natCast, Int.toNat_natCast, hk]
    rfl
  have hxm : x.obj ∈ fL m d bv bseg (pre ++ x :: post) tv tseg ts ++ R := List.mem_append_left _ (List.mem_cons_of_mem _ (List.mem_append_right _ (List.mem_append_left _ (by rw [bobjs_append, bobjs_cons]; exact List.mem_append_right _ (List.mem_append_left _ List.mem_cons_self)))))
  rw [if_pos he, ptAt_mid]
  refine nilc_of rfl (ld_of x.bad (b_bad hxm) ?_)
  refine ifB_of (fun (hbad : x.bad = true) => ?_) (fun (hbad : x.bad = false) => ?_)
  · rw [hpr, if_pos hbad]
    exact .of ⟨_, rfl, rfl, hA⟩
  refine nilc_of rfl (ld_of (x.next : Int) (b_next hxm) ?_)
  refine ifNe_of (fun (hn : (x.next : Int) ≠ (q : Int)) => ?_) (fun (hn : (x.next : Int) = (q : Int)) => ?_)
  · rw [hpr, if_neg (by rw [hbad]; decide), if_pos hn]
    exact .of ⟨_, rfl, rfl, hA⟩
  rw [hpr, if_neg (by rw [hbad]; decide), if_neg (by omega)]
  clear hpr hA
  refine nilc_of rfl (ld_of (d.c.S : Int) (f_S (List.mem_append_left _ fL_o)) ?_)
  have hok := h.okb x (by simp)
  have hpl := (ok.pg _ hmk).1
  have hpl' : x.ps.length = d.c.P := by rw [← hpl]; simp [PB.blk]
  have hq : q < x.ps.length := by omega
  obtain ⟨D, g0, E, hps, hDl⟩ : ∃ D g0 E, x.ps = D ++ g0 :: E ∧ D.length = q := ⟨x.ps.take q, x.ps[q], x.ps.drop (q + 1), by rw [← List.drop_eq_getElem_cons hq, List.take_append_drop], by rw [List.length_take]; omega⟩
  have hL : fL m d bv bseg (pre ++ x :: post) tv tseg ts ++ R = fO m d bv tv :: (bseg ++ (bobjs pre ++ (x.obj :: (x.seg ++ (pgs D ++ (g0.seg ++ (pgs E ++ (bobjs post ++ (tseg ++ (tsegs ts ++ R)))))))))) := by
    unfold fL
    rw [bobjs_append, bobjs_cons]
    unfold PB.objs
    rw [hps, pgs_append, pgs_cons]
    simp
  rw [hL]
  clear hL hxm
  refine cl_in (fO m d bv tv :: (bseg ++ (bobjs pre ++ (x.obj :: (x.seg ++ pgs D))))) (g0.seg ++ (pgs E ++ (bobjs post ++ (tseg ++ (tsegs ts ++ R))))) (blank_cl d.c.S (by omega)) (by simp) ?_
  rintro _ _ - ⟨g, rfl, rfl, hg, hgl⟩
  refine ⟨(g.v, ()), rfl, nilc_of rfl (ld_of x.v (b_ps (by simp)) ?_)⟩
  have hxl := hok.own.len
  rw [List.length_map] at hxl
  have hxsl : Sl x.seg x.v 1 (x.ps.map PG.val) := hok.own.sl
  obtain ⟨xa, hxa, -⟩ := hxsl.at' (i := q) (by omega) (by decide)
  refine nilc_of hxa (ixn_of (show (0 : Int) ≤ q by omega) (show (q : Int) < x.v.len by omega) ?_)
  refine hok.own.st (p := q) (ws := [g.val]) (fO m d bv tv :: (bseg ++ (bobjs pre ++ [x.obj]))) (pgs D ++ (g.seg ++ (g0.seg ++ (pgs E ++ (bobjs post ++ (tseg ++ (tsegs ts ++ R))))))) (by rw [List.length_map, List.length_singleton]; omega) (by simp) hxa (by rw [Int.toNat_natCast, Nat.mul_one]) (by simp) fun xs xown => ?_
  rw [putL_one (by rw [List.length_map]; omega)] at xown
  have hvals : ∀ v, (x.ps.map PG.val).set q v = (D.map PG.val) ++ v :: (E.map PG.val) := by
    intro v
    rw [hps, List.map_append, List.set_append, if_neg (by simp [hDl]), List.length_map, hDl, Nat.sub_self, List.map_cons, List.set_cons_zero]
  rw [hvals] at xown
  have hnx : IntKind.i64.wrap ((x.next : Int) + 1) = ((q + 1 : Nat) : Int) := by rw [w64_id (by omega) (by omega)]; omega
  refine nilc_of rfl (ld_of (x.next : Int) (b_next (by simp)) (nilc_of rfl ?_))
  simp only [hnx]
  refine st_of (n := x.id) (off := 1) (c := #[.slice x.v.a x.v.len x.v.cap, .int .i64 x.next, .int .i64 x.wear, .bool x.bad]) (T := tBk) (fz := (0, 0)) (fO m d bv tv :: (bseg ++ bobjs pre)) (xs ++ (pgs D ++ (g.seg ++ (g0.seg ++ (pgs E ++ (bobjs post ++ (tseg ++ (tsegs ts ++ R)))))))) rfl (by simp [PB.obj]) (by simp) (.inl (Nat.le_refl _))
    #[.slice x.v.a x.v.len x.v.cap, .int .i64 ((q + 1 : Nat) : Int), .int .i64 x.wear, .bool x.bad] rfl ?_
  have hox : ((x.id, Obj.cells #[.slice x.v.a x.v.len x.v.cap, .int .i64 ((q + 1 : Nat) : Int), .int .i64 x.wear, .bool x.bad] tBk) : Nat × Obj) = ({ x with next := q + 1 } : PB).obj := rfl
  rw [hox]
  refine nilc_of rfl (nilc_of rfl (ld_of d.bytes (f_bytes (m := m) (bv := bv) (tv := tv) (by simp)) (ld_of (d.c.S : Int) (f_S (m := m) (bv := bv) (tv := tv) (by simp)) (nilc_of rfl ?_))))
  refine st_of (n := m) (off := 8) (c := #[.int .i64 d.after, .int .i64 d.keep, .bool d.down, .int .i64 d.c.B, .int .i64 d.c.P, .int .i64 d.c.S, .int .i64 d.c.W, .slice bv.a bv.len bv.cap, .int .i64 d.bytes, .slice tv.a tv.len tv.cap]) (T := tFl) (fz := (0, 0)) [] (bseg ++ (bobjs pre ++ (({ x with next := q + 1 } : PB).obj :: (xs ++ (pgs D ++ (g.seg ++ (g0.seg ++ (pgs E ++ (bobjs post ++ (tseg ++ (tsegs ts ++ R))))))))))) rfl (by simp [fO]) (by simp) (.inl (Nat.le_refl _))
    #[.int .i64 d.after, .int .i64 d.keep, .bool d.down, .int .i64 d.c.B, .int .i64 d.c.P, .int .i64 d.c.S, .int .i64 d.c.W, .slice bv.a bv.len bv.cap, .int .i64 (IntKind.i64.wrap (d.bytes + d.c.S)), .slice tv.a tv.len tv.cap] rfl (nilc_of rfl ?_)
  rw [List.nil_append]
  refine cl_in [] (bseg ++ (bobjs pre ++ (({ x with next := q + 1 } : PB).obj :: (xs ++ (pgs D ++ (g.seg ++ (g0.seg ++ (pgs E ++ (bobjs post ++ (tseg ++ (tsegs ts ++ R))))))))))) (tears_cl m (counted d) bv tv ok.after) rfl ?_
  rintro _ _ - ⟨rfl, rfl⟩
  refine ⟨((tear (counted d)).1, ()), rfl, ?_⟩
  unfold progK
  obtain ⟨hc2, hb2, hk2, hy2, ht2⟩ := tear_c (counted d)
  generalize hd2 : tear (counted d) = tt at hc2 hb2 hk2 hy2 ht2 ⊢
  obtain ⟨t, d2⟩ := tt
  simp only at hc2 hb2 hk2 hy2 ht2 ⊢
  have hgv : g.v.len = d.c.S := by have := hg.sl.len; rw [bvs_length, hgl, blk, List.length_replicate] at this; omega
  obtain ⟨ga, hga⟩ := BSl.some (L := g.seg) hg.sl (i := 0) (by rw [hgl, blk, List.length_replicate]; omega)
  unfold PG.Ok at hg
  rw [hgl] at hg
  have hus : ∀ X : HList, BSl (X ++ R) u data := fun X => hu.right
  have hfin : ∀ (l : List UInt8) (segg : HList), Own g.v 1 eB (bvs l) segg → ({ x with seg := xs, ps := D ++ ⟨g.v, segg, l⟩ :: E, next := q + 1 } : PB).Ok := by
    intro l segg ho
    refine ⟨?_, fun y hy => ?_⟩
    · show Own x.v 1 tB ((D ++ ⟨g.v, segg, l⟩ :: E).map PG.val) xs
      rw [List.map_append, List.map_cons]
      exact xown
    · have hy' : y ∈ D ∨ y = ⟨g.v, segg, l⟩ ∨ y ∈ E := by simpa using hy
      rcases hy' with h1 | rfl | h1
      · exact hok.ps y (by rw [hps]; simp [h1])
      · exact ho
      · exact hok.ps y (by rw [hps]; simp [h1])
  have hblk : ∀ (l : List UInt8) (segg : HList), ({ x with seg := xs, ps := D ++ ⟨g.v, segg, l⟩ :: E, next := q + 1 } : PB).blk = x.blk.put q l := by
    intro l segg
    unfold PB.blk Blk.put
    simp only
    rw [hps]
    congr 1
    rw [List.map_append, List.map_append, List.set_append, if_neg (by simp [hDl]), List.length_map, hDl, Nat.sub_self, List.map_cons, List.map_cons, List.set_cons_zero]
  have hokb : ∀ y : PB, y.Ok → ∀ z ∈ pre ++ y :: post, z.Ok := by
    intro y hy z hz
    have hz' : z ∈ pre ∨ z = y ∨ z ∈ post := by simpa using hz
    rcases hz' with h1 | rfl | h1
    · exact h.okb z (by simp [h1])
    · exact hy
    · exact h.okb z (by simp [h1])
  have hobp : ∀ y : PB, y.id = x.id → Own bv 1 ePb ((pre ++ y :: post).map pbp) bseg := by
    intro y hy
    have : (pre ++ y :: post).map pbp = (pre ++ x :: post).map pbp := by simp [pbp, hy]
    rw [this]; exact h.ob
  cases t with
  | false =>
    refine ifT rfl ?_
    rw [if_neg (by decide)]
    refine copy_own (T := eB) (sz := 1) (l := 0) (v := g.v) (a := ga) undB (by kernel_rfl) (fO m d2 bv tv :: (bseg ++ (bobjs pre ++ (({ x with next := q + 1 } : PB).obj :: (xs ++ pgs D))))) (g0.seg ++ (pgs E ++ (bobjs post ++ (tseg ++ (tsegs ts ++ R))))) hg (by simp) hga (d := g.v) (by rw [hga]; rfl) (by omega) (u := u) (ws := bvs data) ?_ (bvs_plain _) fun segg owng => ?_
    · have := hus (fO m d2 bv tv :: (bseg ++ (bobjs pre ++ (({ x with next := q + 1 } : PB).obj :: (xs ++ (pgs D ++ (g.seg ++ (g0.seg ++ (pgs E ++ (bobjs post ++ (tseg ++ tsegs ts)))))))))))
      simpa using this
    have hbb : putL (bvs (blk d.c.S)) (0 * 1) ((bvs data).take (min u.len g.v.len * 1)) = bvs data := by
      rw [bvs_take, bvs_put, List.take_of_length_le (l := data) (by omega), Nat.zero_mul, List.take_zero, List.nil_append, List.drop_of_length_le (by rw [blk, List.length_replicate]; omega), List.append_nil]
    rw [hbb] at owng
    refine .drop (A := fL m { d2 with bs := d.bs.set pre.length (x.blk.put q data) } bv bseg (pre ++ ({ x with seg := xs, ps := D ++ ⟨g.v, segg, data⟩ :: E, next := q + 1 } : PB) :: post) tv tseg ts ++ R) (J := g0.seg)
      ⟨_, rfl, rfl, bv, bseg, _, tv, tseg, ts, rfl, hobp _ rfl, hokb _ (hfin _ _ owng), ?_, h.ot, h.okt, ?_⟩ ?_
    · rw [hset, hblk]
    · simp only; rw [ht2]; exact h.ht
    · unfold fL
      rw [bobjs_append, bobjs_cons]
      unfold PB.objs
      simp only
      rw [pgs_append, pgs_cons]
      have ho1 : ({ x with seg := xs, ps := D ++ ⟨g.v, segg, data⟩ :: E, next := q + 1 } : PB).obj = ({ x with next := q + 1 } : PB).obj := rfl
      have ho2 : fO m { d2 with bs := d.bs.set pre.length (x.blk.put q data) } bv tv = fO m d2 bv tv := rfl
      rw [ho1, ho2]
      generalize ({ x with next := q + 1 } : PB).obj = ox
      generalize fO m d2 bv tv = of
      classical
      rw [List.perm_iff_count]
      intro z
      simp only [List.append_eq, List.cons_append, List.count_append, List.count_cons, List.count_nil]
      omega
  | true =>
    refine ifF rfl (nilc_of rfl (nilc_of rfl ?_))
    rw [if_pos rfl]
    have hcS : d2.c.S = d.c.S := by rw [hc2]; rfl
    have hkk : d2.keep = d.keep := hk2
    have ht2' : d2.torn = d.torn := ht2
    refine ld_of (d2.c.S : Int) (f_S (m := m) (bv := bv) (tv := tv) (by simp)) ?_
    rw [hcS]
    refine cl_rd (kept_rd _ m d2 bv tv (by simp) d.c.S) ((keptN d2.keep d.c.S : Int), ()) rfl ?_
    rw [show keptN d2.keep d.c.S = keptN d.keep d.c.S by rw [hkk]]
    have hkp : keptN d.keep d.c.S ≤ d.c.S := by unfold keptN; omega
    have hcap := hu.cap
    refine slc_of (l' := 0) (h' := keptN d.keep d.c.S) (m' := u.cap) rfl rfl rfl (by omega) (by omega) (Nat.le_refl _) ?_
    have hss : ∀ X : HList, Sl (X ++ R) (slcV u (0 : Nat) (keptN d.keep d.c.S : Nat) (u.cap : Nat) 1) 1 (bvs (data.take (keptN d.keep d.c.S))) := by
      intro X
      have := (hus X).slc (l := 0) (h' := keptN d.keep d.c.S) (m := u.cap) (by decide) (by omega) (by omega) (by omega)
      rw [bvs_slc, List.drop_zero, Nat.sub_zero] at this
      exact this
    generalize slcV u (0 : Nat) (keptN d.keep d.c.S : Nat) (u.cap : Nat) 1 = us at hss ⊢
    have husl := (hss []).len
    rw [bvs_length, List.length_take] at husl
    refine copy_own (T := eB) (sz := 1) (l := 0) (v := g.v) (a := ga) undB (by kernel_rfl) (fO m d2 bv tv :: (bseg ++ (bobjs pre ++ (({ x with next := q + 1 } : PB).obj :: (xs ++ pgs D))))) (g0.seg ++ (pgs E ++ (bobjs post ++ (tseg ++ (tsegs ts ++ R))))) hg (by simp) hga (d := g.v) (by rw [hga]; rfl) (by omega) (u := us) (ws := bvs (data.take (keptN d.keep d.c.S))) ?_ (bvs_plain _) fun segg owng => ?_
    · have := hss (fO m d2 bv tv :: (bseg ++ (bobjs pre ++ (({ x with next := q + 1 } : PB).obj :: (xs ++ (pgs D ++ (g.seg ++ (g0.seg ++ (pgs E ++ (bobjs post ++ (tseg ++ tsegs ts)))))))))))
      simpa using this
    have hbb : putL (bvs (blk d.c.S)) (0 * 1) ((bvs (data.take (keptN d.keep d.c.S))).take (min us.len g.v.len * 1)) = bvs (tornImg d data) := by
      rw [bvs_take, bvs_put, List.take_of_length_le (l := data.take (keptN d.keep d.c.S)) (by rw [List.length_take]; omega), Nat.zero_mul, List.take_zero, List.nil_append, List.length_take]
      unfold tornImg blk
      rw [List.drop_replicate, Nat.zero_add, Nat.min_eq_left (by omega)]
    rw [hbb] at owng
    have himl : (tornImg d data).length = d.c.S := by
      unfold tornImg blk
      rw [List.length_append, List.length_take, List.length_replicate]; omega
    refine nilc_of rfl (ld_of tv (f_torn (m := m) (d := d2) (bv := bv) (by simp)) (nw_of fun n1 _ => ?_))
    have husL : BSl (fO m d2 bv tv :: (bseg ++ (bobjs pre ++ (({ x with next := q + 1 } : PB).obj :: (xs ++ pgs D)))) ++ segg ++ (g0.seg ++ (pgs E ++ (bobjs post ++ (tseg ++ (tsegs ts ++ R)))))) u data := by
      have := hus (fO m d2 bv tv :: (bseg ++ (bobjs pre ++ (({ x with next := q + 1 } : PB).obj :: (xs ++ (pgs D ++ (segg ++ (g0.seg ++ (pgs E ++ (bobjs post ++ (tseg ++ tsegs ts)))))))))))
      simpa using this
    have hgsL : BSl (fO m d2 bv tv :: (bseg ++ (bobjs pre ++ (({ x with next := q + 1 } : PB).obj :: (xs ++ pgs D)))) ++ segg ++ (g0.seg ++ (pgs E ++ (bobjs post ++ (tseg ++ (tsegs ts ++ R)))))) g.v (tornImg d data) := owng.sl.right.left
    have htoL : LdAt ⟨m, 9, none⟩ [.slice tv.a tv.len tv.cap] (fO m d2 bv tv :: (bseg ++ (bobjs pre ++ (({ x with next := q + 1 } : PB).obj :: (xs ++ pgs D)))) ++ segg ++ (g0.seg ++ (pgs E ++ (bobjs post ++ (tseg ++ (tsegs ts ++ R)))))) := f_torn (m := m) (d := d2) (bv := bv) (by simp)
    generalize hLL : fO m d2 bv tv :: (bseg ++ (bobjs pre ++ (({ x with next := q + 1 } : PB).obj :: (xs ++ pgs D)))) ++ segg ++ (g0.seg ++ (pgs E ++ (bobjs post ++ (tseg ++ (tsegs ts ++ R))))) = LL at husL hgsL htoL ⊢
    refine append_in elemB srcB [] LL own_empty rfl (.sl husL.cons) (bvs_plain _) (by simp only; omega) fun v5 seg5 hv5 own5 => ?_
    rw [List.nil_append] at own5 ⊢
    refine keep_of (htoL.mono fun z hz => List.mem_append_right _ hz) (nw_of fun n2 _ => ?_)
    refine append_in elemB srcB [] (seg5 ++ LL) own_empty rfl (.sl hgsL.right.cons) (bvs_plain _) (by simp only; omega) fun v6 seg6 hv6 own6 => ?_
    rw [List.nil_append] at own6 ⊢
    refine keep_of (htoL.mono fun z hz => List.mem_append_right _ (List.mem_append_right _ hz)) (nw_of fun n3 _ => ?_)
    subst hLL
    have htl : ts.length = d.torn.length := by rw [← h.ht, List.length_map]
    have htvl := h.ot.sl.els_len PT.enc_len (by decide)
    refine append_in elemTs srcTs ((n3, Obj.cells #[.int .i64 pre.length, .int .i64 q, .slice v5.a v5.len v5.cap, .slice v6.a v6.len v6.cap] eT) :: (seg6 ++ (seg5 ++ (fO m d2 bv tv :: (bseg ++ (bobjs pre ++ (({ x with next := q + 1 } : PB).obj :: (xs ++ (pgs D ++ (segg ++ (g0.seg ++ (pgs E ++ bobjs post)))))))))))) (tsegs ts ++ R) h.ot (by simp)
      (n := 1) (ws := PT.enc ⟨pre.length, q, ⟨v5, seg5, data⟩, ⟨v6, seg6, tornImg d data⟩⟩) (x := .slice (some ⟨n3, 0, none⟩) 1 1) (Src.sl (v := ⟨some ⟨n3, 0, none⟩, 1, 1⟩) ⟨rfl, Nat.le_refl _, .inr ⟨_, rfl, ldB List.mem_cons_self rfl⟩⟩) rfl (by omega) fun v8 seg8 hv8 own8 => ?_
    refine nilc_of rfl ?_
    refine st_of (n := m) (off := 9) (c := #[.int .i64 d2.after, .int .i64 d2.keep, .bool d2.down, .int .i64 d2.c.B, .int .i64 d2.c.P, .int .i64 d2.c.S, .int .i64 d2.c.W, .slice bv.a bv.len bv.cap, .int .i64 d2.bytes, .slice tv.a tv.len tv.cap]) (T := tFl) (fz := (0, 0)) ((n3, Obj.cells #[.int .i64 pre.length, .int .i64 q, .slice v5.a v5.len v5.cap, .slice v6.a v6.len v6.cap] eT) :: (seg6 ++ seg5)) (bseg ++ (bobjs pre ++ (({ x with next := q + 1 } : PB).obj :: (xs ++ (pgs D ++ (segg ++ (g0.seg ++ (pgs E ++ (bobjs post ++ (seg8 ++ (tsegs ts ++ R))))))))))) rfl (by simp [fO]) (by simp) (.inl (Nat.le_refl _))
      #[.int .i64 d2.after, .int .i64 d2.keep, .bool d2.down, .int .i64 d2.c.B, .int .i64 d2.c.P, .int .i64 d2.c.S, .int .i64 d2.c.W, .slice bv.a bv.len bv.cap, .int .i64 d2.bytes, .slice v8.a v8.len v8.cap] rfl ?_
    refine .drop (A := fL m { d2 with bs := d.bs.set pre.length (x.blk.put q (tornImg d data)), torn := d.torn ++ [⟨pre.length, q, data, tornImg d data⟩] } bv bseg (pre ++ ({ x with seg := xs, ps := D ++ ⟨g.v, segg, tornImg d data⟩ :: E, next := q + 1 } : PB) :: post) v8 seg8 (ts ++ [⟨pre.length, q, ⟨v5, seg5, data⟩, ⟨v6, seg6, tornImg d data⟩⟩]) ++ R) (J := (n3, Obj.cells #[.int .i64 pre.length, .int .i64 q, .slice v5.a v5.len v5.cap, .slice v6.a v6.len v6.cap] eT) :: g0.seg)
      ⟨_, rfl, rfl, bv, bseg, _, v8, seg8, _, rfl, hobp _ rfl, hokb _ (hfin _ _ owng), ?_, ?_, ?_, ?_⟩ ?_
    · rw [hset, hblk]
    · rw [List.flatMap_append, List.flatMap_singleton]; exact own8
    · intro z hz
      rcases List.mem_append.1 hz with h1 | h1
      · exact h.okt z h1
      · rw [List.mem_singleton.1 h1]; exact ⟨own5, own6⟩
    · rw [List.map_append, h.ht]; rfl
    · unfold fL
      rw [bobjs_append, bobjs_cons, tsegs_append, tsegs_one]
      unfold PB.objs
      simp only
      rw [pgs_append, pgs_cons]
      have ho1 : ({ x with seg := xs, ps := D ++ ⟨g.v, segg, tornImg d data⟩ :: E, next := q + 1 } : PB).obj = ({ x with next := q + 1 } : PB).obj := rfl
      have ho2 : fO m { d2 with bs := d.bs.set pre.length (x.blk.put q (tornImg d data)), torn := d.torn ++ [⟨pre.length, q, data, tornImg d data⟩] } bv v8 = (m, Obj.cells #[.int .i64 d2.after, .int .i64 d2.keep, .bool d2.down, .int .i64 d2.c.B, .int .i64 d2.c.P, .int .i64 d2.c.S, .int .i64 d2.c.W, .slice bv.a bv.len bv.cap, .int .i64 d2.bytes, .slice v8.a v8.len v8.cap] tFl) := rfl
      rw [ho1, ho2]
      generalize ({ x with next := q + 1 } : PB).obj = ox
      generalize (m, Obj.cells #[.int .i64 d2.after, .int .i64 d2.keep, .bool d2.down, .int .i64 d2.c.B, .int .i64 d2.c.P, .int .i64 d2.c.S, .int .i64 d2.c.W, .slice bv.a bv.len bv.cap, .int .i64 d2.bytes, .slice v8.a v8.len v8.cap] tFl) = of
      generalize (n3, Obj.cells #[.int .i64 pre.length, .int .i64 q, .slice v5.a v5.len v5.cap, .slice v6.a v6.len v6.cap] eT) = o3
      classical
      rw [List.perm_iff_count]
      intro z
      simp only [List.append_eq, List.cons_append, List.count_append, List.count_cons, List.count_nil]
      omega
end Go.Proofs.Ytlabcgnegbdlfaa
set_option linter.unusedVariables false
set_option linter.unusedSimpArgs false
namespace Go.Proofs.Ytlabcgnegbdlfaa
open Go.HL

def Blk.torn (k : Blk) (c : Cfg) (n : Nat) : Blk := { k with pages := List.replicate n (blk c.S) ++ k.pages.drop n, next := c.P }
def Blk.fresh (k : Blk) (c : Cfg) : Blk := ⟨List.replicate c.P (blk c.S), 0, k.wear + 1, decide (k.wear + 1 = c.W)⟩
def eraseK (d : Dev) (i : Nat) (k : Blk) : Int × Dev :=
  if (tear d).1 then (11, { (tear d).2 with bs := d.bs.set i (k.torn d.c (keptN d.keep d.c.P)) })
  else (if k.wear + 1 = d.c.W then 10 else 0, { (tear d).2 with bs := d.bs.set i (k.fresh d.c) })
def eraseR (d : Dev) (b : Int) : Int × Dev :=
  if findE d b 0 ≠ 0 then (findE d b 0, d) else
  match d.bs[b.toNat]? with
  | none => (2, d)
  | some k => if k.bad then (10, d) else eraseK d b.toNat k
theorem erase_cl (m : Nat) (d : Dev) (A : HList) (h : FH m d A) (ok : DvOk d) (b : Int) :
    CallF PP 54 #[.pointer (some ⟨m, 0, none⟩), .int .i64 b] A fun r L' => r = .int .i64 (eraseR d b).1 ∧ FH m (eraseR d b).2 L' := by
  have hA := h
  obtain ⟨bv, bseg, bs, tv, tseg, ts, rfl, h⟩ := h
  refine CallF.of (args := [.pointer (some ⟨m, 0, none⟩), .int .i64 b]) noNum mixed Try.func54 (e54 (some ⟨m, 0, none⟩) b _) ?_
  unfold t54
  have hfew := h.few ok
  have hP := ok.c.p
  have hS := ok.c.s
  have hW := ok.c.w
  refine cl_rd (find_rd _ m d bv tv fL_o bs h.sl (by omega) h.hb (by omega) b 0) (if findE d b 0 = 0 then ptAt bs b else none, findE d b 0, ()) rfl ?_
  refine ifNe_of (fun (he : findE d b 0 ≠ 0) => ?_) (fun (he : findE d b 0 = 0) => ?_)
  · have hr : eraseR d b = (findE d b 0, d) := by unfold eraseR; rw [if_pos he]
    rw [hr]
    exact .of ⟨rfl, hA⟩
  obtain ⟨hdn, hb0, hb1, hp0, hp1⟩ := findE_0 he
  obtain ⟨i, rfl⟩ : ∃ i : Nat, b = i := ⟨b.toNat, by omega⟩
  have hbl : d.bs.length = bs.length := by rw [← h.hb, List.length_map]
  have hi : i < bs.length := by omega
  obtain ⟨pre, x, post, rfl, rfl⟩ : ∃ pre x post, bs = pre ++ x :: post ∧ pre.length = i := ⟨bs.take i, bs[i], bs.drop (i + 1), by rw [← List.drop_eq_getElem_cons hi, List.take_append_drop], by rw [List.length_take]; omega⟩
  have hk : d.bs[pre.length]? = some x.blk := by rw [← h.hb, List.getElem?_map]; simp
  have hset : ∀ y : PB, (pre ++ y :: post).map PB.blk = d.bs.set pre.length y.blk := fun y => by rw [← h.hb]; simp
  have hmk : x.blk ∈ d.bs := List.mem_of_getElem? hk
  have hpr : eraseR d (pre.length : Int) = if x.bad then (10, d) else eraseK d pre.length x.blk := by
    unfold eraseR
    rw [if_neg (by simpa using he), Int.toNat_natCast, hk]
    rfl
  have hxm : x.obj ∈ fL m d bv bseg (pre ++ x :: post) tv tseg ts := (List.mem_cons_of_mem _ (List.mem_append_right _ (List.mem_append_left _ (by rw [bobjs_append, bobjs_cons]; exact List.mem_append_right _ (List.mem_append_left _ List.mem_cons_self)))))
  rw [if_pos he, ptAt_mid]
  refine nilc_of rfl (ld_of x.bad (b_bad hxm) ?_)
  refine ifB_of (fun (hbad : x.bad = true) => ?_) (fun (hbad : x.bad = false) => ?_)
  · rw [hpr, if_pos hbad]
    exact .of ⟨rfl, hA⟩
  rw [hpr, if_neg (by rw [hbad]; decide)]
  clear hpr hA hxm
  have hok := h.okb x (by simp)
  have hpl := (ok.pg _ hmk).1
  have hpl' : x.ps.length = d.c.P := by rw [← hpl]; simp [PB.blk]
  have hxw : x.wear ≤ d.c.W := (ok.nx _ hmk).2.1
  have hL : fL m d bv bseg (pre ++ x :: post) tv tseg ts = fO m d bv tv :: (bseg ++ (bobjs pre ++ (x.objs ++ (bobjs post ++ (tseg ++ tsegs ts))))) := by
    unfold fL
    rw [bobjs_append, bobjs_cons]
    simp
  rw [hL]
  clear hL
  have hokb : ∀ y : PB, y.Ok → ∀ z ∈ pre ++ y :: post, z.Ok := by
    intro y hy z hz
    have hz' : z ∈ pre ∨ z = y ∨ z ∈ post := by simpa using hz
    rcases hz' with h1 | rfl | h1
    · exact h.okb z (by simp [h1])
    · exact hy
    · exact h.okb z (by simp [h1])
  have hobp : ∀ y : PB, y.id = x.id → Own bv 1 ePb ((pre ++ y :: post).map pbp) bseg := by
    intro y hy
    have : (pre ++ y :: post).map pbp = (pre ++ x :: post).map pbp := by simp [pbp, hy]
    rw [this]; exact h.ob
  refine nilc_of rfl ?_
  refine cl_in [] (bseg ++ (bobjs pre ++ (x.objs ++ (bobjs post ++ (tseg ++ tsegs ts))))) (tears_cl m d bv tv ok.after) rfl ?_
  rintro _ _ - ⟨rfl, rfl⟩
  refine ⟨((tear d).1, ()), rfl, ?_⟩
  unfold eraseK
  obtain ⟨hc2, hb2, hk2, hy2, ht2⟩ := tear_c d
  generalize hd2 : tear d = tt at hc2 hb2 hk2 hy2 ht2 ⊢
  obtain ⟨t, d2⟩ := tt
  simp only at hc2 hb2 hk2 hy2 ht2 ⊢
  rw [List.nil_append]
  have hLs : [fO m d2 bv tv] ++ (bseg ++ (bobjs pre ++ (x.objs ++ (bobjs post ++ (tseg ++ tsegs ts))))) = (fO m d2 bv tv :: (bseg ++ bobjs pre)) ++ x.objs ++ (bobjs post ++ (tseg ++ tsegs ts)) := by simp
  rw [hLs]
  cases t with
  | true =>
    refine ifT rfl (nilc_of rfl (nilc_of rfl (nilc_of rfl ?_)))
    refine ld_of (d.c.P : Int) (by have := f_P (m := m) (d := d2) (bv := bv) (tv := tv) (L := (fO m d2 bv tv :: (bseg ++ bobjs pre)) ++ x.objs ++ (bobjs post ++ (tseg ++ tsegs ts))) (by simp); rw [hc2] at this; exact this) ?_
    have hls : LdAt ⟨m, 5, none⟩ [.int .i64 d.c.S] ((fO m d2 bv tv :: (bseg ++ bobjs pre)) ++ x.objs ++ (bobjs post ++ (tseg ++ tsegs ts))) := by have := f_S (m := m) (d := d2) (bv := bv) (tv := tv) (L := (fO m d2 bv tv :: (bseg ++ bobjs pre)) ++ x.objs ++ (bobjs post ++ (tseg ++ tsegs ts))) (by simp); rw [hc2] at this; exact this
    refine ld_of (d.c.S : Int) hls ?_
    refine cl_rd (kept_rd _ m d2 bv tv (by simp) d.c.P) ((keptN d2.keep d.c.P : Int), ()) rfl (keep_of hls ?_)
    rw [show keptN d2.keep d.c.P = keptN d.keep d.c.P by rw [hk2]]
    have hkp : keptN d.keep d.c.P ≤ d.c.P := by unfold keptN; omega
    refine cl_in (fO m d2 bv tv :: (bseg ++ bobjs pre)) (bobjs post ++ (tseg ++ tsegs ts)) (wipe_cl x hok (keptN d.keep d.c.P) d.c.S (by omega) (by omega) (by omega)) rfl ?_
    rintro _ _ - ⟨rfl, seg', ps', rfl, hok', hps'⟩
    refine ⟨(), rfl, nilc_of rfl (ld_of (d.c.P : Int) (by have := f_P (m := m) (d := d2) (bv := bv) (tv := tv) (L := (fO m d2 bv tv :: (bseg ++ bobjs pre)) ++ ({ x with seg := seg', ps := ps' } : PB).objs ++ (bobjs post ++ (tseg ++ tsegs ts))) (by simp); rw [hc2] at this; exact this) (nilc_of rfl ?_))⟩
    refine st_of (n := x.id) (off := 1) (c := #[.slice x.v.a x.v.len x.v.cap, .int .i64 x.next, .int .i64 x.wear, .bool x.bad]) (T := tBk) (fz := (0, 0)) (fO m d2 bv tv :: (bseg ++ bobjs pre)) (seg' ++ (pgs ps' ++ (bobjs post ++ (tseg ++ tsegs ts)))) rfl (by simp [PB.obj, PB.objs]) (by simp) (.inl (Nat.le_refl _))
      #[.slice x.v.a x.v.len x.v.cap, .int .i64 d.c.P, .int .i64 x.wear, .bool x.bad] rfl ?_
    refine .of ⟨rfl, bv, bseg, pre ++ ({ x with seg := seg', ps := ps', next := d.c.P } : PB) :: post, tv, tseg, ts, ?_, hobp _ rfl, hokb _ ⟨hok'.own, hok'.ps⟩, ?_, h.ot, h.okt, ?_⟩
    · unfold fL
      rw [bobjs_append, bobjs_cons]
      unfold PB.objs PB.obj
      simp [fO]
    · rw [hset]
      congr 1
      unfold PB.blk Blk.torn
      simp only
      rw [hps']
    · rw [if_pos rfl]; show _ = d2.torn; rw [ht2]; exact h.ht
  | false =>
    refine ifF rfl (nilc_of rfl (nilc_of rfl ?_))
    refine ld_of (d.c.P : Int) (by have := f_P (m := m) (d := d2) (bv := bv) (tv := tv) (L := (fO m d2 bv tv :: (bseg ++ bobjs pre)) ++ x.objs ++ (bobjs post ++ (tseg ++ tsegs ts))) (by simp); rw [hc2] at this; exact this) ?_
    have hls : LdAt ⟨m, 5, none⟩ [.int .i64 d.c.S] ((fO m d2 bv tv :: (bseg ++ bobjs pre)) ++ x.objs ++ (bobjs post ++ (tseg ++ tsegs ts))) := by have := f_S (m := m) (d := d2) (bv := bv) (tv := tv) (L := (fO m d2 bv tv :: (bseg ++ bobjs pre)) ++ x.objs ++ (bobjs post ++ (tseg ++ tsegs ts))) (by simp); rw [hc2] at this; exact this
    refine ld_of (d.c.S : Int) hls ?_
    refine cl_in (fO m d2 bv tv :: (bseg ++ bobjs pre)) (bobjs post ++ (tseg ++ tsegs ts)) (wipe_cl x hok d.c.P d.c.S (by omega) (by omega) (by omega)) rfl ?_
    rintro _ _ - ⟨rfl, seg', ps', rfl, hok', hps'⟩
    refine ⟨(), rfl, nilc_of rfl (ld_of (d.c.W : Int) (by have := f_W (m := m) (d := d2) (bv := bv) (tv := tv) (L := (fO m d2 bv tv :: (bseg ++ bobjs pre)) ++ ({ x with seg := seg', ps := ps' } : PB).objs ++ (bobjs post ++ (tseg ++ tsegs ts))) (by simp); rw [hc2] at this; exact this) ?_)⟩
    refine cl_in (fO m d2 bv tv :: (bseg ++ bobjs pre)) (seg' ++ (pgs ps' ++ (bobjs post ++ (tseg ++ tsegs ts)))) (worn_cl ({ x with seg := seg', ps := ps' } : PB) d.c.W (by show x.wear ≤ 1048576; omega)) (by simp [PB.objs]) ?_
    rintro _ _ - ⟨rfl, rfl⟩
    have hwd : decide ((((({ x with seg := seg', ps := ps' } : PB).wear + 1 : Nat)) : Int) = (d.c.W : Int)) = decide (x.wear + 1 = d.c.W) := by
      show decide (((x.wear + 1 : Nat) : Int) = (d.c.W : Int)) = _
      by_cases hw1 : x.wear + 1 = d.c.W
      · rw [decide_eq_true hw1, decide_eq_true (by omega)]
      · rw [decide_eq_false hw1, decide_eq_false (by omega)]
    rw [hwd]
    refine ⟨(decide (x.wear + 1 = d.c.W), ()), rfl, ?_⟩
    rw [if_neg (by decide)]
    have hend : FH m { d2 with bs := d.bs.set pre.length (x.blk.fresh d.c) } ((fO m d2 bv tv :: (bseg ++ bobjs pre)) ++ [({ x with seg := seg', ps := ps', next := 0, wear := x.wear + 1, bad := decide (x.wear + 1 = d.c.W) } : PB).obj] ++ (seg' ++ (pgs ps' ++ (bobjs post ++ (tseg ++ tsegs ts))))) := by
      refine ⟨bv, bseg, pre ++ ({ x with seg := seg', ps := ps', next := 0, wear := x.wear + 1, bad := decide (x.wear + 1 = d.c.W) } : PB) :: post, tv, tseg, ts, ?_, hobp _ rfl, hokb _ ⟨hok'.own, hok'.ps⟩, ?_, h.ot, h.okt, ?_⟩
      · unfold fL
        rw [bobjs_append, bobjs_cons]
        unfold PB.objs PB.obj
        simp [fO]
      · rw [hset]
        congr 1
        unfold PB.blk Blk.fresh
        simp only
        rw [hps', List.drop_of_length_le (by rw [List.length_map]; omega), List.append_nil]
      · show _ = d2.torn; rw [ht2]; exact h.ht
    refine ifD_of (fun (hw1 : x.wear + 1 = d.c.W) => .of ⟨?_, hend⟩) (fun (hw1 : ¬ x.wear + 1 = d.c.W) => .of ⟨?_, hend⟩)
    · show Value.int .i64 10 = .int .i64 (if x.wear + 1 = d.c.W then 10 else 0)
      rw [if_pos hw1]
    · show Value.int .i64 0 = .int .i64 (if x.wear + 1 = d.c.W then 10 else 0)
      rw [if_neg hw1]
def right (c : Int × Int × Int × Int × Unit) : Prop := 2 ≤ c.1 ∧ c.1 ≤ 16 ∧ 4 ≤ c.2.1 ∧ c.2.1 ≤ 16 ∧ 64 ≤ c.2.2.1 ∧ c.2.2.1 ≤ 512 ∧ 1 ≤ c.2.2.2.1 ∧ c.2.2.2.1 ≤ 1048576
def cfg (c : Int × Int × Int × Int × Unit) : Cfg := ⟨c.1.toNat, c.2.1.toNat, c.2.2.1.toNat, c.2.2.2.1.toNat⟩
def blk0 (c : Cfg) : Blk := ⟨List.replicate c.P (blk c.S), 0, 0, false⟩
def fresh (c : Cfg) : Dev := ⟨c, 0, 0, false, List.replicate c.B (blk0 c), 0, []⟩
theorem cfg_ok {c : Int × Int × Int × Int × Unit} (h : right c) : CfgOk (cfg c) := by
  unfold right at h
  refine ⟨?_, ?_, ?_, ?_⟩ <;> simp only [cfg] <;> omega
theorem fresh_ok {c : Cfg} (h : CfgOk c) : DvOk (fresh c) := by
  refine ⟨h, by simp [fresh], ?_, ?_, by simp [fresh], by simp [fresh]⟩
  · intro k hk
    rw [List.eq_of_mem_replicate hk]
    refine ⟨by simp [blk0, fresh], fun l hl => ?_⟩
    rw [List.eq_of_mem_replicate hl]; simp [blk, fresh]
  · intro k hk
    rw [List.eq_of_mem_replicate hk]
    have := h.w
    refine ⟨Nat.zero_le _, Nat.zero_le _, ?_⟩
    show false = decide (0 = c.W)
    rw [decide_eq_false (by omega)]
theorem zeros_pg (n : Nat) : zeros [.slice none 0 0] n = (List.replicate n pg0).map PG.val := by
  unfold zeros
  rw [List.map_replicate]
  induction n with
  | zero => rfl
  | succ n ih => rw [List.replicate_succ, List.replicate_succ, List.flatten_cons, ih]; rfl
theorem pgs_nil (n : Nat) : pgs (List.replicate n pg0) = [] := by
  induction n with
  | zero => rfl
  | succ n ih => rw [List.replicate_succ, pgs_cons, ih]; rfl
theorem new_cl (c : Int × Int × Int × Int × Unit) :
    CallF PP 38 #[.agg #[.int .i64 c.1, .int .i64 c.2.1, .int .i64 c.2.2.1, .int .i64 c.2.2.2.1]] [] fun r L' => (¬ right c ∧ r = .tuple #[.pointer none, .int .i64 30] ∧ L' = []) ∨ (right c ∧ ∃ m, r = .tuple #[.pointer (some ⟨m, 0, none⟩), .int .i64 0] ∧ FH m (fresh (cfg c)) L') := by
  refine CallF.of (args := [.agg #[.int .i64 c.1, .int .i64 c.2.1, .int .i64 c.2.2.1, .int .i64 c.2.2.2.1]]) noNum mixed Try.func38 (e38 c _) ?_
  unfold t38
  refine nw_of fun n1 _ => ?_
  generalize ho : (n1, Obj.cells #[.int .i64 c.1, .int .i64 c.2.1, .int .i64 c.2.2.1, .int .i64 c.2.2.2.1] 75) = o1
  have lc : ∀ L : HList, o1 ∈ L → LdAt ⟨n1, 0, none⟩ [.int .i64 c.1, .int .i64 c.2.1, .int .i64 c.2.2.1, .int .i64 c.2.2.2.1] L := fun L hm => ldB (by rw [← ho] at hm; exact hm) rfl
  clear ho
  have lB : ∀ L : HList, o1 ∈ L → LdAt ⟨n1, 0, none⟩ [.int .i64 c.1] L := fun L hm => (lc L hm).pre fun i u hu => by cases i with | zero => exact hu | succ i => exact absurd (show (none : Option Value) = some u from hu) (by simp)
  refine ld_of c.1 (lB _ List.mem_cons_self) ?_
  refine cl_rd (within_rd _ c.1 2 16) (decide (2 ≤ c.1 ∧ c.1 ≤ 16), ()) rfl ?_
  refine ifD_of (fun (h1 : 2 ≤ c.1 ∧ c.1 ≤ 16) => ?_) (fun (h1 : ¬ (2 ≤ c.1 ∧ c.1 ≤ 16)) => .cons (.of (.inl ⟨by unfold right; omega, rfl, rfl⟩)))
  refine ld_of c.2.1 ((lc _ List.mem_cons_self).one 1 rfl) ?_
  refine cl_rd (within_rd _ c.2.1 4 16) (decide (4 ≤ c.2.1 ∧ c.2.1 ≤ 16), ()) rfl ?_
  by_cases h2 : 4 ≤ c.2.1 ∧ c.2.1 ≤ 16
  case neg => rw [decide_eq_false h2]; exact ifT rfl (.cons (.of (.inl ⟨by unfold right; omega, rfl, rfl⟩)))
  rw [decide_eq_true h2]
  refine ifF rfl (ld_of c.2.2.1 ((lc _ List.mem_cons_self).one 2 rfl) ?_)
  refine cl_rd (within_rd _ c.2.2.1 64 512) (decide (64 ≤ c.2.2.1 ∧ c.2.2.1 ≤ 512), ()) rfl ?_
  by_cases h3 : 64 ≤ c.2.2.1 ∧ c.2.2.1 ≤ 512
  case neg => rw [decide_eq_false h3]; exact ifT rfl (.cons (.of (.inl ⟨by unfold right; omega, rfl, rfl⟩)))
  rw [decide_eq_true h3]
  refine ifF rfl (ld_of c.2.2.2.1 ((lc _ List.mem_cons_self).one 3 rfl) ?_)
  refine cl_rd (within_rd _ c.2.2.2.1 1 1048576) (decide (1 ≤ c.2.2.2.1 ∧ c.2.2.2.1 ≤ 1048576), ()) rfl ?_
  by_cases h4 : 1 ≤ c.2.2.2.1 ∧ c.2.2.2.1 ≤ 1048576
  case neg => rw [decide_eq_false h4]; exact ifT rfl (.cons (.of (.inl ⟨by unfold right; omega, rfl, rfl⟩)))
  rw [decide_eq_true h4]
  refine ifF rfl ?_
  have hr : right c := by unfold right; omega
  have hck := cfg_ok hr
  obtain ⟨cB, cP, cS, cW, u⟩ := c
  obtain ⟨B, rfl⟩ : ∃ B : Nat, cB = B := ⟨cB.toNat, by simp only at h1; omega⟩
  obtain ⟨Pn, rfl⟩ : ∃ B : Nat, cP = B := ⟨cP.toNat, by simp only at h2; omega⟩
  obtain ⟨S, rfl⟩ : ∃ B : Nat, cS = B := ⟨cS.toNat, by simp only at h3; omega⟩
  obtain ⟨W, rfl⟩ : ∃ B : Nat, cW = B := ⟨cW.toNat, by simp only at h4; omega⟩
  simp only at h1 h2 h3 h4
  have hcf : cfg ((B : Int), (Pn : Int), (S : Int), (W : Int), u) = ⟨B, Pn, S, W⟩ := by simp [cfg]
  rw [hcf] at hck ⊢
  refine ld_of ((B : Int), (Pn : Int), (S : Int), (W : Int), ()) (lc _ List.mem_cons_self) (nw_of fun m _ => ?_)
  have hm0 : ((m, Obj.cells #[.int .i64 0, .int .i64 0, .bool false, .int .i64 B, .int .i64 Pn, .int .i64 S, .int .i64 W, .slice none 0 0, .int .i64 0, .slice none 0 0] tFl) : Nat × Obj) = fO m { fresh ⟨B, Pn, S, W⟩ with bs := [] } ⟨none, 0, 0⟩ ⟨none, 0, 0⟩ := rfl
  refine ld_of (B : Int) (lB _ (by simp)) ?_
  refine lp_of (fun z' z L' => ∃ (i : Nat) (bv : SlV) (bseg : HList) (bs : List PB) (J X Y : HList), i ≤ B ∧ z' = B - i ∧ z = ((i : Int), ()) ∧ L' = X ++ fO m (fresh ⟨B, Pn, S, W⟩) bv ⟨none, 0, 0⟩ :: (bseg ++ Y) ∧ (X ++ Y).Perm (bobjs bs ++ (o1 :: J)) ∧ Own bv 1 ePb (bs.map pbp) bseg ∧ (∀ b ∈ bs, b.Ok) ∧ bs.map PB.blk = List.replicate i (blk0 ⟨B, Pn, S, W⟩)) B
    ⟨0, ⟨none, 0, 0⟩, [], [], [], [], [o1], by omega, by omega, rfl, rfl, List.Perm.refl _, own_nil, by simp, rfl⟩ ?_
  rintro z' z L ⟨i, bv, bseg, bs, J, X, Y, hi, rfl, rfl, rfl, hp, own, hokb, hbs⟩
  have ho1 : o1 ∈ X ++ fO m (fresh ⟨B, Pn, S, W⟩) bv ⟨none, 0, 0⟩ :: (bseg ++ Y) := by
    have h5 : o1 ∈ X ++ Y := (hp.mem_iff (a := o1)).2 (by simp)
    have h6 : o1 ∈ X ∨ o1 ∈ Y := by simpa using h5
    rcases h6 with h6 | h6 <;> simp [h6]
  have hbl : bs.length = i := by have := congrArg List.length hbs; rwa [List.length_map, List.length_replicate] at this
  refine ifD_of (fun (hlt : (i : Int) < (B : Int)) => ?_) (fun (hge : ¬ (i : Int) < (B : Int)) => ?_)
  · refine ld_of (Pn : Int) ((lc _ ho1).one 1 rfl) ?_
    refine make_of elemPs (l := Pn) (c := Pn) (Nat.le_refl _) (by omega) fun q ob ownq _ _ => ?_
    rw [zeros_pg] at ownq
    refine nw_of fun n3 _ => ?_
    refine ld_of (Pn : Int) ((lc _ (List.mem_cons_of_mem _ (List.mem_cons_of_mem _ ho1))).one 1 rfl) (ld_of (S : Int) ((lc _ (List.mem_cons_of_mem _ (List.mem_cons_of_mem _ ho1))).one 2 rfl) ?_)
    have hx0 : ({ id := n3, v := ⟨some ⟨q, 0, none⟩, Pn, Pn⟩, seg := [(q, ob)], ps := List.replicate Pn pg0, next := 0, wear := 0, bad := false } : PB).Ok := ⟨ownq, fun g hg => by rw [List.eq_of_mem_replicate hg]; exact pg0_ok⟩
    refine cl_in [] (X ++ fO m (fresh ⟨B, Pn, S, W⟩) bv ⟨none, 0, 0⟩ :: (bseg ++ Y)) (wipe_cl _ hx0 Pn S (by simp) (by omega) (by omega)) (by simp [PB.objs, PB.obj, pgs_nil]) ?_
    rintro _ _ - ⟨rfl, seg', ps', rfl, hok', hps'⟩
    refine ⟨(), rfl, ?_⟩
    rw [List.nil_append]
    generalize hx : ({ id := n3, v := ⟨some ⟨q, 0, none⟩, Pn, Pn⟩, seg := seg', ps := ps', next := 0, wear := 0, bad := false } : PB) = x at hok' ⊢
    have hxi : x.id = n3 := by rw [← hx]
    have hxb : x.blk = blk0 ⟨B, Pn, S, W⟩ := by
      rw [← hx]
      unfold PB.blk blk0
      simp only
      rw [hps', List.drop_of_length_le (by simp), List.append_nil]
    refine ld_of bv (f_bs (m := m) (d := fresh ⟨B, Pn, S, W⟩) (tv := ⟨none, 0, 0⟩) (by simp)) (nw_of fun n4 _ => ?_)
    have hbvl := own.len
    rw [List.length_map] at hbvl
    refine append_in elemPb srcPb ((n4, Obj.cells #[.pointer (some ⟨n3, 0, none⟩)] 159) :: (x.objs ++ (X ++ [fO m (fresh ⟨B, Pn, S, W⟩) bv ⟨none, 0, 0⟩]))) Y own (by simp)
      (n := 1) (ws := [pbp x]) (x := .slice (some ⟨n4, 0, none⟩) 1 1) (Src.sl (v := ⟨some ⟨n4, 0, none⟩, 1, 1⟩) ⟨rfl, Nat.le_refl _, .inr ⟨_, rfl, ldB (n := n4) (off := 0) (T := 159) (fz := (0, 0)) (c := #[.pointer (some ⟨n3, 0, none⟩)]) List.mem_cons_self (by unfold pbp; rw [hxi]; rfl)⟩⟩) rfl (by omega) fun v8 seg8 hv8 own8 => ?_
    refine st_of (n := m) (off := 7) (c := #[.int .i64 0, .int .i64 0, .bool false, .int .i64 B, .int .i64 Pn, .int .i64 S, .int .i64 W, .slice bv.a bv.len bv.cap, .int .i64 0, .slice none 0 0]) (T := tFl) (fz := (0, 0)) ((n4, Obj.cells #[.pointer (some ⟨n3, 0, none⟩)] 159) :: (x.objs ++ X)) (seg8 ++ Y) rfl (by simp [fO, fresh]) (by simp) (.inl (Nat.le_refl _))
      #[.int .i64 0, .int .i64 0, .bool false, .int .i64 B, .int .i64 Pn, .int .i64 S, .int .i64 W, .slice v8.a v8.len v8.cap, .int .i64 0, .slice none 0 0] rfl ?_
    refine ⟨B - (i + 1), by omega, i + 1, v8, seg8, bs ++ [x], (n4, Obj.cells #[.pointer (some ⟨n3, 0, none⟩)] 159) :: J, (n4, Obj.cells #[.pointer (some ⟨n3, 0, none⟩)] 159) :: (x.objs ++ X), Y, by omega, rfl, ?_, rfl, ?_, ?_, ?_, ?_⟩
    · rw [w64_id (by first | omega | (simp only; omega)) (by first | omega | (simp only; omega))]
      rfl
    · generalize (n4, Obj.cells #[.pointer (some ⟨n3, 0, none⟩)] 159) = o4
      have hbo : bobjs (bs ++ [x]) = bobjs bs ++ x.objs := by rw [bobjs_append, bobjs_cons]; simp [bobjs]
      rw [hbo]
      classical
      rw [List.perm_iff_count] at hp ⊢
      intro z
      have := hp z
      simp only [List.append_eq, List.cons_append, List.count_append, List.count_cons, List.count_nil] at this ⊢
      omega
    · rw [List.map_append]; exact own8
    · intro z hz
      rcases List.mem_append.1 hz with h5 | h5
      · exact hokb z h5
      · rw [List.mem_singleton.1 h5]; exact hok'
    · rw [List.map_append, hbs, List.replicate_succ', List.map_singleton, hxb]
  · obtain rfl : i = B := by omega
    refine .drop (A := fL m (fresh ⟨i, Pn, S, W⟩) bv bseg bs ⟨none, 0, 0⟩ [] []) (J := o1 :: J) (.inr ⟨hr, m, rfl, bv, bseg, bs, ⟨none, 0, 0⟩, [], [], rfl, own, hokb, hbs, own_nil, by simp, rfl⟩) ?_
    unfold fL
    have : tsegs [] = [] := rfl
    rw [this]
    classical
    rw [List.perm_iff_count] at hp ⊢
    intro z
    have := hp z
    simp only [List.append_eq, List.cons_append, List.count_append, List.count_cons, List.count_nil] at this ⊢
    omega
end Go.Proofs.Ytlabcgnegbdlfaa
