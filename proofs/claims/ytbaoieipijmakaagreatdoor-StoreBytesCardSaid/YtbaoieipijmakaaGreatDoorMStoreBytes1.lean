/-
  It is proved what the functions that the law StoreBytes reaches compute, part 1. There are no further conditions than those that each theorem names.
-/
import Derived.Test.YtbaoieipijmakaaGreatDoorMStoreBytes0
import Derived.Test.YtbaoieipijmakaaGreatDoorProg
import Derived.KernelRfl
set_option linter.unusedVariables false
set_option maxRecDepth 100000
namespace Go.Proofs.YtbaoieipijmakaaGreatDoor
open Go.HL
noncomputable abbrev PP:Program:=Tryz.prog
theorem B5:A08 PP:=by unfold A08;kernel_rfl
theorem B6:PP.follows .mixedOrders=true:=by kernel_rfl
def h4:D5:=⟨[(0,[(5,.lf .ptr),(7,lI),(8,.lf .sl),(9,.lf .sl),(10,lI)]),(2,[(12,lI)]),(4,[(13,lI)])],[(4,[]),(14,[(7,lI)])],[(25,[0,1,2,4,5,6,9,11,13,14,15,17,18,19,3,7,8,10,12,16,20,21,22,23,24,25,26,27,28,30,31,32,29,33,34,35])]⟩
def t4(x0:ShV (.agg [.int .i64,.int .i64,.int .i64,.int .i64,.int .i64,.int .i64,.int .i64,.int .i64,.int .i64,.int .i64,.int .i64]))(x1:SlV)(K:Value->HP):HP:=
 nw (.cells #[.i x0.1,.i x0.2.1,.i x0.2.2.1,.i x0.2.2.2.1,.i x0.2.2.2.2.1,.i x0.2.2.2.2.2.1,.i x0.2.2.2.2.2.2.1,.i x0.2.2.2.2.2.2.2.1,.i x0.2.2.2.2.2.2.2.2.1,.i x0.2.2.2.2.2.2.2.2.2.1,.i x0.2.2.2.2.2.2.2.2.2.2.1] 25) fun n1=>
 ld ⟨n1,0,none⟩ (.agg [.int .i64,.int .i64,.int .i64,.int .i64,.int .i64,.int .i64,.int .i64,.int .i64,.int .i64,.int .i64,.int .i64]) fun v1=>
 cl PP 8 #[.agg #[.i v1.1,.i v1.2.1,.i v1.2.2.1,.i v1.2.2.2.1,.i v1.2.2.2.2.1,.i v1.2.2.2.2.2.1,.i v1.2.2.2.2.2.2.1,.i v1.2.2.2.2.2.2.2.1,.i v1.2.2.2.2.2.2.2.2.1,.i v1.2.2.2.2.2.2.2.2.2.1,.i v1.2.2.2.2.2.2.2.2.2.2.1]] [.lf .ptr,.lf .ptr] fun r1=>
 jn (fun y1:RsV []=>
 nw (.cells #[.i 0] 3) fun n2=>
 nw (.cells #[.i 0] 3) fun n3=>
 lp [.lf .ptr,lI,.lf .sl,.lf .sl,lI] (r1.1,0,⟨(some ⟨n2,0,none⟩),1,1⟩,⟨(some ⟨n3,0,none⟩),1,1⟩,0,()) fun z1 go1=>
 ifB (decide ((z1.2.2.2.2.1:Int)<x1.len)) (
 A9 x1.a fun a1=>
 ixn z1.2.2.2.2.1 x1.len<|
 ld (a1.add (z1.2.2.2.2.1.toNat*5)) (.agg [.int .i64,.str,.sl,.int .i64,.int .i64]) fun v2=>
 nw (.cells #[.i 0,.w ByteArray.empty,.slice none 0 0,.i 0,.i 0] 35) fun n4=>
 st ⟨n4,0,none⟩ [.i v2.1,.w v2.2.1,.slice v2.2.2.1.a v2.2.2.1.len v2.2.2.1.cap,.i v2.2.2.2.1,.i v2.2.2.2.2.1]<|
 jn (fun y2:RsV [lI]=>
 ld ⟨n1,0,none⟩ (.agg [.int .i64,.int .i64,.int .i64,.int .i64,.int .i64,.int .i64,.int .i64,.int .i64,.int .i64,.int .i64,.int .i64]) fun v7=>
 ld ⟨n4,0,none⟩ (.agg [.int .i64,.str,.sl,.int .i64,.int .i64]) fun v8=>
 cl PP 11 #[.agg #[.i v7.1,.i v7.2.1,.i v7.2.2.1,.i v7.2.2.2.1,.i v7.2.2.2.2.1,.i v7.2.2.2.2.2.1,.i v7.2.2.2.2.2.2.1,.i v7.2.2.2.2.2.2.2.1,.i v7.2.2.2.2.2.2.2.2.1,.i v7.2.2.2.2.2.2.2.2.2.1,.i v7.2.2.2.2.2.2.2.2.2.2.1],.q z1.1,.q r1.2.1,.agg #[.i v8.1,.w v8.2.1,.sv v8.2.2.1,.i v8.2.2.2.1,.i v8.2.2.2.2.1],.i y2.1] [.lf .ptr] fun r7=>
 ifB (Option.isNone r7.1) (
 K (.b false)) (
 nw (.cells #[.i y2.1] 3) fun n5=>
 smW PP (Builtin.append_ #[49,49] 49 #[.sv z1.2.2.1,.slice (some ⟨n5,0,none⟩) 1 1]) [.lf .sl] fun v9=>
 cl PP 22 #[.q r1.2.1] [lI] fun r8=>
 nw (.cells #[.i r8.1] 3) fun n6=>
 smW PP (Builtin.append_ #[49,49] 49 #[.sv z1.2.2.2.1,.slice (some ⟨n6,0,none⟩) 1 1]) [.lf .sl] fun v10=>
 go1 (r7.1,y2.1,⟨v9.1.a,v9.1.len,v9.1.cap⟩,⟨v10.1.a,v10.1.len,v10.1.cap⟩,IntKind.i64.wrap (z1.2.2.2.2.1+1),()))) fun j2=>
 ld ⟨n4,0,none⟩ (lI) fun v3=>
 ifB ((v3:Int)==4) (
 ld (Addr.add ⟨n4,0,none⟩ 3) (lI) fun v4=>
 ifB (decide ((v4:Int)<z1.2.1)) (
 cl PP 10 #[] [.lf .bool] fun r5=>
 K (.b r5.1)) (
 ld (Addr.add ⟨n4,0,none⟩ 3) (lI) fun v5=>
 ifB (decide ((v5:Int)>1099511627776)) (
 cl PP 10 #[] [.lf .bool] fun r6=>
 K (.b r6.1)) (
 ld (Addr.add ⟨n4,0,none⟩ 3) (lI) fun v6=>
 j2 (v6,())))) (
 j2 (z1.2.1,()))) (
 lp [lI] (0,()) fun z2 go2=>
 ifB (decide ((z2.1:Int)<z1.2.2.1.len)) (
 lp [lI] (z2.1,()) fun z3 go3=>
 ifB (decide ((z3.1:Int)<z1.2.2.1.len)) (
 A9 z1.2.2.2.1.a fun a2=>
 ixn z3.1 z1.2.2.2.1.len<|
 A9 z1.2.2.2.1.a fun a3=>
 ixn z2.1 z1.2.2.2.1.len<|
 A9 z1.2.2.1.a fun a4=>
 ixn z3.1 z1.2.2.1.len<|
 A9 z1.2.2.1.a fun a5=>
 ixn z2.1 z1.2.2.1.len<|
 ld (a2.add (z3.1.toNat*1)) (lI) fun v11=>
 ld (a3.add (z2.1.toNat*1)) (lI) fun v12=>
 ld (Addr.add ⟨n1,0,none⟩ 9) (lI) fun v13=>
 ld (Addr.add ⟨n1,0,none⟩ 8) (lI) fun v14=>
 ld (a4.add (z3.1.toNat*1)) (lI) fun v15=>
 ld (a5.add (z2.1.toNat*1)) (lI) fun v16=>
 ifB (decide ((IntKind.i64.wrap (v11-v12):Int)>(IntKind.i64.wrap (v13+(IntKind.i64.wrap (v14*(IntKind.i64.wrap (v15-v16)))))))) (
 K (.b false)) (
 A9 z1.2.2.2.1.a fun a6=>
 ixn z3.1 z1.2.2.2.1.len<|
 A9 z1.2.2.2.1.a fun a7=>
 ixn z2.1 z1.2.2.2.1.len<|
 ld (a6.add (z3.1.toNat*1)) (lI) fun v17=>
 ld (a7.add (z2.1.toNat*1)) (lI) fun v18=>
 ifB (decide ((v17:Int)<v18)) (
 K (.b false)) (
 go3 (IntKind.i64.wrap (z3.1+1),())))) (
 go2 (IntKind.i64.wrap (z2.1+1),()))) (
 cl PP 10 #[] [.lf .bool] fun r9=>
 K (.b r9.1)))) fun j1=>
 ifB (Option.isNone r1.1) (
 cl PP 10 #[] [.lf .bool] fun r2=>
 K (.b r2.1)) (
 cl PP 9 #[.sv x1,.i 100,.i 700] [.lf .bool] fun r3=>
 ifB (!r3.1) (
 cl PP 10 #[] [.lf .bool] fun r4=>
 K (.b r4.1)) (
 j1 (())))
theorem e4(x0:ShV (.agg [.int .i64,.int .i64,.int .i64,.int .i64,.int .i64,.int .i64,.int .i64,.int .i64,.int .i64,.int .i64,.int .i64]))(x1:SlV)(K:Value->HP):A8 PP h4 Tryz.f4 [.agg #[.i x0.1,.i x0.2.1,.i x0.2.2.1,.i x0.2.2.2.1,.i x0.2.2.2.2.1,.i x0.2.2.2.2.2.1,.i x0.2.2.2.2.2.2.1,.i x0.2.2.2.2.2.2.2.1,.i x0.2.2.2.2.2.2.2.2.1,.i x0.2.2.2.2.2.2.2.2.2.1,.i x0.2.2.2.2.2.2.2.2.2.2.1],.sv x1] K=t4 x0 x1 K:=by kernel_rfl
def t8(x0:ShV (.agg [.int .i64,.int .i64,.int .i64,.int .i64,.int .i64,.int .i64,.int .i64,.int .i64,.int .i64,.int .i64,.int .i64]))(K:Value->HP):HP:=
 nw (.cells #[.i x0.1,.i x0.2.1,.i x0.2.2.1,.i x0.2.2.2.1,.i x0.2.2.2.2.1,.i x0.2.2.2.2.2.1,.i x0.2.2.2.2.2.2.1,.i x0.2.2.2.2.2.2.2.1,.i x0.2.2.2.2.2.2.2.2.1,.i x0.2.2.2.2.2.2.2.2.2.1,.i x0.2.2.2.2.2.2.2.2.2.2.1] 25) fun n1=>
 ld ⟨n1,0,none⟩ (.agg [.int .i64,.int .i64,.int .i64,.int .i64]) fun v1=>
 cl PP 35 #[.agg #[.i v1.1,.i v1.2.1,.i v1.2.2.1,.i v1.2.2.2.1]] [.lf .ptr,lI] fun r1=>
 ifB ((r1.2.1:Int) !=0) (
 K (.t #[.q none,.q none])) (
 ld ⟨n1,0,none⟩ (.agg [.int .i64,.int .i64,.int .i64,.int .i64,.int .i64,.int .i64,.int .i64,.int .i64,.int .i64,.int .i64,.int .i64]) fun v2=>
 cl PP 36 #[.agg #[.i v2.1,.i v2.2.1,.i v2.2.2.1,.i v2.2.2.2.1,.i v2.2.2.2.2.1,.i v2.2.2.2.2.2.1,.i v2.2.2.2.2.2.2.1,.i v2.2.2.2.2.2.2.2.1,.i v2.2.2.2.2.2.2.2.2.1,.i v2.2.2.2.2.2.2.2.2.2.1,.i v2.2.2.2.2.2.2.2.2.2.2.1],.q r1.1,.i 0] [.lf .ptr,lI] fun r2=>
 ifB ((r2.2.1:Int) !=0) (
 K (.t #[.q none,.q none])) (
 K (.t #[.q r2.1,.q r1.1])))
theorem e8(x0:ShV (.agg [.int .i64,.int .i64,.int .i64,.int .i64,.int .i64,.int .i64,.int .i64,.int .i64,.int .i64,.int .i64,.int .i64]))(K:Value->HP):A8 PP Hn Tryz.f8 [.agg #[.i x0.1,.i x0.2.1,.i x0.2.2.1,.i x0.2.2.2.1,.i x0.2.2.2.2.1,.i x0.2.2.2.2.2.1,.i x0.2.2.2.2.2.2.1,.i x0.2.2.2.2.2.2.2.1,.i x0.2.2.2.2.2.2.2.2.1,.i x0.2.2.2.2.2.2.2.2.2.1,.i x0.2.2.2.2.2.2.2.2.2.2.1]] K=t8 x0 K:=by kernel_rfl
def h9:D5:=⟨[(0,[(7,lI)])],[(4,[]),(6,[])],[]⟩
def t9(x0:SlV)(x1:Int)(x2:Int)(K:Value->HP):HP:=
 jn (fun y1:RsV []=>
 K (.b (decide ((x0.len:Int)<=x1)))) fun j1=>
 lp [lI] (0,()) fun z1 go1=>
 jn (fun y2:RsV []=>
 A9 x0.a fun a1=>
 ixn z1.1 x0.len<|
 ld (Addr.add (a1.add (z1.1.toNat*5)) 1) (.lf .str) fun v1=>
 ifB (decide ((v1.size:Int)>x2)) (
 K (.b false)) (
 A9 x0.a fun a2=>
 ixn z1.1 x0.len<|
 ld (Addr.add (a2.add (z1.1.toNat*5)) 2) (.lf .sl) fun v2=>
 ifB (decide ((v2.len:Int)>x2)) (
 K (.b false)) (
 go1 (IntKind.i64.wrap (z1.1+1),())))) fun j2=>
 ifB (decide ((z1.1:Int)<x0.len)) (
 ifB (decide ((z1.1:Int)<=x1)) (
 j2 (())) (
 j1 (()))) (
 j1 (()))
theorem e9(x0:SlV)(x1:Int)(x2:Int)(K:Value->HP):A8 PP h9 Tryz.f9 [.sv x0,.i x1,.i x2] K=t9 x0 x1 x2 K:=by kernel_rfl
def h10:D5:=⟨[],[(6,[])],[]⟩
def t10(K:Value->HP):HP:=
 cl PP 37 #[] [.agg [.int .i64,.int .i64,.int .i64,.int .i64,.int .i64,.int .i64,.int .i64,.int .i64,.int .i64,.int .i64,.int .i64]] fun r1=>
 cl PP 35 #[.agg #[.i r1.1.1,.i r1.1.2.1,.i r1.1.2.2.1,.i r1.1.2.2.2.1]] [.lf .ptr,lI] fun r2=>
 cl PP 37 #[] [.agg [.int .i64,.int .i64,.int .i64,.int .i64,.int .i64,.int .i64,.int .i64,.int .i64,.int .i64,.int .i64,.int .i64]] fun r3=>
 cl PP 36 #[.agg #[.i r3.1.1,.i r3.1.2.1,.i r3.1.2.2.1,.i r3.1.2.2.2.1,.i r3.1.2.2.2.2.1,.i r3.1.2.2.2.2.2.1,.i r3.1.2.2.2.2.2.2.1,.i r3.1.2.2.2.2.2.2.2.1,.i r3.1.2.2.2.2.2.2.2.2.1,.i r3.1.2.2.2.2.2.2.2.2.2.1,.i r3.1.2.2.2.2.2.2.2.2.2.2.1],.q r2.1,.i 0] [.lf .ptr,lI] fun r4=>
 cl PP 37 #[] [.agg [.int .i64,.int .i64,.int .i64,.int .i64,.int .i64,.int .i64,.int .i64,.int .i64,.int .i64,.int .i64,.int .i64]] fun r5=>
 cl PP 36 #[.agg #[.i r5.1.1,.i r5.1.2.1,.i r5.1.2.2.1,.i r5.1.2.2.2.1,.i r5.1.2.2.2.2.1,.i r5.1.2.2.2.2.2.1,.i r5.1.2.2.2.2.2.2.1,.i r5.1.2.2.2.2.2.2.2.1,.i r5.1.2.2.2.2.2.2.2.2.1,.i r5.1.2.2.2.2.2.2.2.2.2.1,.i r5.1.2.2.2.2.2.2.2.2.2.2.1],.q none,.i 0] [.lf .ptr,lI] fun r6=>
 jn (fun y1:RsV []=>
 cl PP 24 #[.q r4.1,.i 9] [] fun r7=>
 nw (.cells #[.int .u8 49,.int .u8 50,.int .u8 51,.int .u8 52,.int .u8 53] 5) fun n1=>
 smW PP (convert 27 27 (.slice (some ⟨n1,0,none⟩) 5 5)) [.lf .sl] fun v1=>
 cl PP 17 #[.q r4.1,.w (ByteArray.mk #[97]),.sv v1.1] [lI] fun r8=>
 nw (.cells #[.int .u8 49,.int .u8 50,.int .u8 51,.int .u8 52,.int .u8 53] 5) fun n2=>
 smW PP (convert 27 27 (.slice (some ⟨n2,0,none⟩) 5 5)) [.lf .sl] fun v2=>
 cl PP 17 #[.q r4.1,.w (ByteArray.mk #[98]),.sv v2.1] [lI] fun r9=>
 nw (.cells #[.int .u8 49] 5) fun n3=>
 smW PP (convert 27 27 (.slice (some ⟨n3,0,none⟩) 1 1)) [.lf .sl] fun v3=>
 cl PP 17 #[.q r4.1,.w (ByteArray.mk #[99]),.sv v3.1] [lI] fun r10=>
 cl PP 13 #[.q r4.1,.w (ByteArray.mk #[97])] [.lf .bool] fun r11=>
 cl PP 19 #[.q r4.1,.w (ByteArray.mk #[98])] [lI] fun r12=>
 nw (.cells #[.int .u8 49] 5) fun n4=>
 smW PP (convert 27 27 (.slice (some ⟨n4,0,none⟩) 1 1)) [.lf .sl] fun v4=>
 cl PP 17 #[.q r4.1,.w (ByteArray.mk #[97]),.sv v4.1] [lI] fun r13=>
 cl PP 25 #[.q r4.1,.w (ByteArray.mk #[97])] [.lf .sl,lI] fun r14=>
 cl PP 26 #[.q r4.1,.w (ByteArray.mk #[97])] [.lf .bool,lI] fun r15=>
 cl PP 31 #[.q r4.1] [.lf .sl] fun r16=>
 cl PP 27 #[.q r4.1] [lI] fun r17=>
 cl PP 25 #[.q r4.1,.w (ByteArray.mk #[97])] [.lf .sl,lI] fun r18=>
 ifB ((r8.1:Int)==0) (
 ifB ((r9.1:Int)==0) (
 ifB ((r10.1:Int)==0) (
 ifB r11.1 (
 ifB ((r12.1:Int)==1) (
 ifB ((r13.1:Int)==0) (
 smR PP (Conv.bytesToString (.sv r14.1)) [.lf .str] fun v5=>
 ifB (ByteArray.toList v5.1==ByteArray.toList (ByteArray.mk #[49])) (
 ifB ((r14.2.1:Int)==0) (
 ifB r15.1 (
 ifB ((r15.2.1:Int)==0) (
 ifB ((r16.1.len:Int)==1) (
 ifB ((r17.1:Int)==0) (
 cl PP 31 #[.q r4.1] [.lf .sl] fun r19=>
 ifB ((r19.1.len:Int)==0) (
 ifB ((r18.2.1:Int)==8) (
 cl PP 27 #[.q none] [lI] fun r20=>
 ifB ((r20.1:Int)==1) (
 cl PP 30 #[.q r4.1] [lI] fun r21=>
 ifB ((r21.1:Int)==2) (
 cl PP 29 #[.q r4.1] [lI] fun r22=>
 ifB ((r22.1:Int)==0) (
 cl PP 14 #[.q r4.1] [lI] fun r23=>
 K (.b ((r23.1:Int)==3808))) (
 K (.b false))) (
 K (.b false))) (
 K (.b false))) (
 K (.b false))) (
 K (.b false))) (
 K (.b false))) (
 K (.b false))) (
 K (.b false))) (
 K (.b false))) (
 K (.b false))) (
 K (.b false))) (
 K (.b false))) (
 K (.b false))) (
 K (.b false))) (
 K (.b false))) (
 K (.b false))) (
 K (.b false))) fun j1=>
 ifB ((r2.2.1:Int) !=0) (
 K (.b false)) (
 ifB ((r4.2.1:Int) !=0) (
 K (.b false)) (
 ifB ((r6.2.1:Int) !=1) (
 K (.b false)) (
 j1 (()))))
theorem e10(K:Value->HP):A8 PP h10 Tryz.f10 [] K=t10 K:=by kernel_rfl
def t11(x0:ShV (.agg [.int .i64,.int .i64,.int .i64,.int .i64,.int .i64,.int .i64,.int .i64,.int .i64,.int .i64,.int .i64,.int .i64]))(x1:Option Addr)(x2:Option Addr)(x3:ShV (.agg [.int .i64,.str,.sl,.int .i64,.int .i64]))(x4:Int)(K:Value->HP):HP:=
 nw (.cells #[.i x0.1,.i x0.2.1,.i x0.2.2.1,.i x0.2.2.2.1,.i x0.2.2.2.2.1,.i x0.2.2.2.2.2.1,.i x0.2.2.2.2.2.2.1,.i x0.2.2.2.2.2.2.2.1,.i x0.2.2.2.2.2.2.2.2.1,.i x0.2.2.2.2.2.2.2.2.2.1,.i x0.2.2.2.2.2.2.2.2.2.2.1] 25) fun n1=>
 nw (.cells #[.i x3.1,.w x3.2.1,.slice x3.2.2.1.a x3.2.2.1.len x3.2.2.1.cap,.i x3.2.2.2.1,.i x3.2.2.2.2.1] 35) fun n2=>
 ld ⟨n2,0,none⟩ (lI) fun v1=>
 ifB ((v1:Int)==0) (
 ld (Addr.add ⟨n2,0,none⟩ 1) (.lf .str) fun v2=>
 ld (Addr.add ⟨n2,0,none⟩ 2) (.lf .sl) fun v3=>
 cl PP 17 #[.q x1,.w v2,.sv v3] [lI] fun r1=>
 K (.q x1)) (
 ifB ((v1:Int)==1) (
 ld (Addr.add ⟨n2,0,none⟩ 1) (.lf .str) fun v4=>
 cl PP 25 #[.q x1,.w v4] [.lf .sl,lI] fun r2=>
 K (.q x1)) (
 ifB ((v1:Int)==2) (
 ld (Addr.add ⟨n2,0,none⟩ 1) (.lf .str) fun v5=>
 cl PP 26 #[.q x1,.w v5] [.lf .bool,lI] fun r3=>
 K (.q x1)) (
 ifB ((v1:Int)==3) (
 cl PP 27 #[.q x1] [lI] fun r4=>
 K (.q x1)) (
 ifB ((v1:Int)==4) (
 cl PP 24 #[.q x1,.i x4] [] fun r5=>
 K (.q x1)) (
 ifB ((v1:Int)==5) (
 ld (Addr.add ⟨n2,0,none⟩ 3) (lI) fun v6=>
 ld (Addr.add ⟨n2,0,none⟩ 4) (lI) fun v7=>
 cl PP 12 #[.q x2,.i v6,.i v7] [] fun r6=>
 K (.q x1)) (
 ifB ((v1:Int)==6) (
 cl PP 38 #[.q x2] [] fun r7=>
 ld ⟨n1,0,none⟩ (.agg [.int .i64,.int .i64,.int .i64,.int .i64,.int .i64,.int .i64,.int .i64,.int .i64,.int .i64,.int .i64,.int .i64]) fun v8=>
 cl PP 36 #[.agg #[.i v8.1,.i v8.2.1,.i v8.2.2.1,.i v8.2.2.2.1,.i v8.2.2.2.2.1,.i v8.2.2.2.2.2.1,.i v8.2.2.2.2.2.2.1,.i v8.2.2.2.2.2.2.2.1,.i v8.2.2.2.2.2.2.2.2.1,.i v8.2.2.2.2.2.2.2.2.2.1,.i v8.2.2.2.2.2.2.2.2.2.2.1],.q x2,.i x4] [.lf .ptr,lI] fun r8=>
 ifB ((r8.2.1:Int) !=0) (
 K (.q none)) (
 K (.q r8.1))) (
 ld (Addr.add ⟨n2,0,none⟩ 1) (.lf .str) fun v9=>
 cl PP 20 #[.q x1,.w v9] [.lf .sl,lI] fun r9=>
 K (.q x1))))))))
theorem e11(x0:ShV (.agg [.int .i64,.int .i64,.int .i64,.int .i64,.int .i64,.int .i64,.int .i64,.int .i64,.int .i64,.int .i64,.int .i64]))(x1:Option Addr)(x2:Option Addr)(x3:ShV (.agg [.int .i64,.str,.sl,.int .i64,.int .i64]))(x4:Int)(K:Value->HP):A8 PP Hn Tryz.f11 [.agg #[.i x0.1,.i x0.2.1,.i x0.2.2.1,.i x0.2.2.2.1,.i x0.2.2.2.2.1,.i x0.2.2.2.2.2.1,.i x0.2.2.2.2.2.2.1,.i x0.2.2.2.2.2.2.2.1,.i x0.2.2.2.2.2.2.2.2.1,.i x0.2.2.2.2.2.2.2.2.2.1,.i x0.2.2.2.2.2.2.2.2.2.2.1],.q x1,.q x2,.agg #[.i x3.1,.w x3.2.1,.sv x3.2.2.1,.i x3.2.2.2.1,.i x3.2.2.2.2.1],.i x4] K=t11 x0 x1 x2 x3 x4 K:=by kernel_rfl
def t12(x0:Option Addr)(x1:Int)(x2:Int)(K:Value->HP):HP:=
 ifB (!(Option.isNone x0)) (
 A9 x0 fun a1=>
 ld (a1.add 2) (.lf .bool) fun v1=>
 ifB (!v1) (
 A9 x0 fun a2=>
 st a2 [.i (Z6 x1 0)]<|
 A9 x0 fun a3=>
 st (a3.add 1) [.i x2]<|
 K (.t #[])) (
 K (.t #[]))) (
 K (.t #[]))
theorem e12(x0:Option Addr)(x1:Int)(x2:Int)(K:Value->HP):A8 PP Hn Tryz.f12 [.q x0,.i x1,.i x2] K=t12 x0 x1 x2 K:=by kernel_rfl
def h13:D5:=⟨[],[],[(1,[0,1,2,3,4,5,6,7,8,10,11,9,12,13,14,15])]⟩
def t13(x0:Option Addr)(x1:ByteArray)(K:Value->HP):HP:=
 cl PP 39 #[.q x0,.w x1] [lI] fun r1=>
 ifB ((r1.1:Int)==0) (
 A9 x0 fun a1=>
 ld (Addr.add (a1.add 19) 1) (.lf .ptr) fun v1=>
 cl PP 41 #[.q x0,.w x1] [.lf (.int .u64)] fun r2=>
 keep (D4 (Addr.add (a1.add 19) 1) [.q v1])<|
 cl PP 40 #[.q v1,.int .u64 r2.1] [.lf .bool] fun r3=>
 K (.b r3.1)) (
 K (.b false))
theorem e13(x0:Option Addr)(x1:ByteArray)(K:Value->HP):A8 PP h13 Tryz.f13 [.q x0,.w x1] K=t13 x0 x1 K:=by kernel_rfl
def t14(x0:Option Addr)(K:Value->HP):HP:=
 nw (.cells #[.q x0] 28) fun n1=>
 ld ⟨n1,0,none⟩ (.lf .ptr) fun v1=>
 cl PP 42 #[.q v1,.func (.func 43) #[] #[.q (some ⟨n1,0,none⟩)]] [lI] fun r1=>
 K (.i r1.1)
theorem e14(x0:Option Addr)(K:Value->HP):A8 PP Hn Tryz.f14 [.q x0] K=t14 x0 K:=by kernel_rfl
def t15(x0:Option Addr)(x1:Int)(K:Value->HP):HP:=
 cl PP 45 #[.q x0,.i x1] [.lf .ptr] fun r1=>
 ifB (!(Option.isNone r1.1)) (
 A9 r1.1 fun a1=>
 ld (a1.add 3) (.lf .bool) fun v1=>
 K (.b v1)) (
 K (.b false))
theorem e15(x0:Option Addr)(x1:Int)(K:Value->HP):A8 PP Hn Tryz.f15 [.q x0,.i x1] K=t15 x0 x1 K:=by kernel_rfl
def t16(x0:Option Addr)(x1:Int)(K:Value->HP):HP:=
 cl PP 45 #[.q x0,.i x1] [.lf .ptr] fun r1=>
 ifB (!(Option.isNone r1.1)) (
 A9 r1.1 fun a1=>
 ld (a1.add 2) (lI) fun v1=>
 K (.i v1)) (
 K (.i 0))
theorem e16(x0:Option Addr)(x1:Int)(K:Value->HP):A8 PP Hn Tryz.f16 [.q x0,.i x1] K=t16 x0 x1 K:=by kernel_rfl
def h17:D5:=⟨[],[(13,[])],[(9,[0,1,2,3,5,6,4,7,8])]⟩
def t17(x0:Option Addr)(x1:ByteArray)(x2:SlV)(K:Value->HP):HP:=
 cl PP 39 #[.q x0,.w x1] [lI] fun r1=>
 ifB ((r1.1:Int) !=0) (
 K (.i r1.1)) (
 ifB (decide ((x2.len:Int)>65536)) (
 K (.i 4)) (
 cl PP 46 #[.q x0,.w x1] [.lf .bool] fun r2=>
 A9 x0 fun a1=>
 ld a1 (.agg [.int .i64,.int .i64,.int .i64,.int .i64]) fun v1=>
 cl PP 47 #[.i x1.size,.i x2.len,.agg #[.i v1.1,.i v1.2.1,.i v1.2.2.1,.i v1.2.2.2.1]] [lI] fun r3=>
 ifB ((r3.1:Int)==0) (
 K (.i 14)) (
 jn (fun y1:RsV []=>
 A9 x0 fun a3=>
 ld (a3.add 19) (.lf .ptr) fun v3=>
 cl PP 50 #[.q v3,.w x1,.slice x2.a x2.len x2.cap] [] fun r7=>
 cl PP 51 #[.q x0] [lI] fun r8=>
 K (.i r8.1)) fun j1=>
 A9 x0 fun a2=>
 ld (Addr.add (a2.add 19) 1) (.lf .ptr) fun v2=>
 cl PP 41 #[.q x0,.w x1] [.lf (.int .u64)] fun r4=>
 keep (D4 (Addr.add (a2.add 19) 1) [.q v2])<|
 cl PP 48 #[.q v2,.int .u64 r4.1] [.lf .bool] fun r5=>
 ifB r5.1 (
 cl PP 49 #[.q x0,.w x1,.slice x2.a x2.len x2.cap] [lI] fun r6=>
 ifB ((r6.1:Int)==0) (
 K (.i r6.1)) (
 ifB ((r6.1:Int)==11) (
 K (.i r6.1)) (
 j1 (())))) (
 j1 (())))))
theorem e17(x0:Option Addr)(x1:ByteArray)(x2:SlV)(K:Value->HP):A8 PP h17 Tryz.f17 [.q x0,.w x1,.slice x2.a x2.len x2.cap] K=t17 x0 x1 x2 K:=by kernel_rfl
def t18(x0:Option Addr)(K:Value->HP):HP:=
 ifB (!(Option.isNone x0)) (
 A9 x0 fun a1=>
 ld (a1.add 2) (.lf .bool) fun v1=>
 K (.b v1)) (
 K (.b false))
theorem e18(x0:Option Addr)(K:Value->HP):A8 PP Hn Tryz.f18 [.q x0] K=t18 x0 K:=by kernel_rfl
def t19(x0:Option Addr)(x1:ByteArray)(K:Value->HP):HP:=
 cl PP 39 #[.q x0,.w x1] [lI] fun r1=>
 ifB ((r1.1:Int) !=0) (
 K (.i 0)) (
 A9 x0 fun a1=>
 ld (a1.add 19) (.lf .ptr) fun v1=>
 cl PP 52 #[.q v1,.w x1] [.lf .bool] fun r2=>
 ifB r2.1 (
 K (.i 1)) (
 cl PP 53 #[.q x0,.w x1] [.agg [.int .i64,.int .i64,.int .i64],.lf .sl,.lf .bool] fun r3=>
 nw (.cells #[.i 0,.i 0,.i 0] 102) fun n1=>
 st ⟨n1,0,none⟩ [.i r3.1.1,.i r3.1.2.1,.i r3.1.2.2.1]<|
 ifB r3.2.2.1 (
 K (.i 2)) (
 K (.i 0))))
theorem e19(x0:Option Addr)(x1:ByteArray)(K:Value->HP):A8 PP Hn Tryz.f19 [.q x0,.w x1] K=t19 x0 x1 K:=by kernel_rfl
def t20(x0:Option Addr)(x1:ByteArray)(K:Value->HP):HP:=
 cl PP 39 #[.q x0,.w x1] [lI] fun r1=>
 ifB ((r1.1:Int) !=0) (
 K (.t #[.slice none 0 0,.i r1.1])) (
 A9 x0 fun a1=>
 ld (a1.add 19) (.lf .ptr) fun v1=>
 cl PP 54 #[.q v1,.w x1] [.lf .sl,.lf .bool] fun r2=>
 ifB r2.2.1 (
 K (.t #[.sv r2.1,.i 0])) (
 cl PP 53 #[.q x0,.w x1] [.agg [.int .i64,.int .i64,.int .i64],.lf .sl,.lf .bool] fun r3=>
 nw (.cells #[.i 0,.i 0,.i 0] 102) fun n1=>
 st ⟨n1,0,none⟩ [.i r3.1.1,.i r3.1.2.1,.i r3.1.2.2.1]<|
 ifB (!r3.2.2.1) (
 K (.t #[.slice none 0 0,.i 8])) (
 K (.t #[.sv r3.2.1,.i 0]))))
theorem e20(x0:Option Addr)(x1:ByteArray)(K:Value->HP):A8 PP Hn Tryz.f20 [.q x0,.w x1] K=t20 x0 x1 K:=by kernel_rfl
def t22(x0:Option Addr)(K:Value->HP):HP:=
 ifB (Option.isNone x0) (
 K (.i 0)) (
 A9 x0 fun a1=>
 ld (a1.add 8) (lI) fun v1=>
 K (.i v1))
theorem e22(x0:Option Addr)(K:Value->HP):A8 PP Hn Tryz.f22 [.q x0] K=t22 x0 K:=by kernel_rfl
def t24(x0:Option Addr)(x1:Int)(K:Value->HP):HP:=
 cl PP 57 #[.q x0] [.lf .bool] fun r1=>
 ifB r1.1 (
 A9 x0 fun a1=>
 ld (Addr.add (a1.add 11) 2) (.lf .ptr) fun v1=>
 cl PP 58 #[.q v1,.i x1] [] fun r2=>
 K (.t #[])) (
 K (.t #[]))
theorem e24(x0:Option Addr)(x1:Int)(K:Value->HP):A8 PP Hn Tryz.f24 [.q x0,.i x1] K=t24 x0 x1 K:=by kernel_rfl
def h25:D5:=⟨[],[],[(10,[0,1,2,3,5,6,4,8,7,9])]⟩
def t25(x0:Option Addr)(x1:ByteArray)(K:Value->HP):HP:=
 cl PP 39 #[.q x0,.w x1] [lI] fun r1=>
 ifB ((r1.1:Int) !=0) (
 K (.t #[.slice none 0 0,.i r1.1])) (
 A9 x0 fun a1=>
 ld (a1.add 19) (.lf .ptr) fun v1=>
 cl PP 59 #[.q v1,.w x1] [.lf .sl,.lf .bool] fun r2=>
 ifB r2.2.1 (
 K (.t #[.sv r2.1,.i 0])) (
 cl PP 53 #[.q x0,.w x1] [.agg [.int .i64,.int .i64,.int .i64],.lf .sl,.lf .bool] fun r3=>
 nw (.cells #[.i 0,.i 0,.i 0] 102) fun n1=>
 st ⟨n1,0,none⟩ [.i r3.1.1,.i r3.1.2.1,.i r3.1.2.2.1]<|
 ifB (!r3.2.2.1) (
 K (.t #[.slice none 0 0,.i 8])) (
 A9 x0 fun a2=>
 ld (Addr.add (a2.add 19) 2) (.lf .ptr) fun v2=>
 ld ⟨n1,0,none⟩ (.agg [.int .i64,.int .i64,.int .i64]) fun v3=>
 cl PP 41 #[.q x0,.w x1] [.lf (.int .u64)] fun r4=>
 keep (D4 ⟨n1,0,none⟩ [.i v3.1,.i v3.2.1,.i v3.2.2.1])<|
 keep (D4 (Addr.add (a2.add 19) 2) [.q v2])<|
 cl PP 60 #[.q v2,.int .u64 r4.1,.agg #[.i v3.1,.i v3.2.1,.i v3.2.2.1]] [.lf .bool] fun r5=>
 K (.t #[.sv r3.2.1,.i 0]))))
theorem e25(x0:Option Addr)(x1:ByteArray)(K:Value->HP):A8 PP h25 Tryz.f25 [.q x0,.w x1] K=t25 x0 x1 K:=by kernel_rfl
def t26(x0:Option Addr)(x1:ByteArray)(K:Value->HP):HP:=
 cl PP 39 #[.q x0,.w x1] [lI] fun r1=>
 ifB ((r1.1:Int) !=0) (
 K (.t #[.b false,.i r1.1])) (
 cl PP 46 #[.q x0,.w x1] [.lf .bool] fun r2=>
 K (.t #[.b r2.1,.i 0]))
theorem e26(x0:Option Addr)(x1:ByteArray)(K:Value->HP):A8 PP Hn Tryz.f26 [.q x0,.w x1] K=t26 x0 x1 K:=by kernel_rfl
def h27:D5:=⟨[(0,[])],[],[(9,[0,1,2,3,6,7,8,9,10,4,5,11,12,13,14,15])]⟩
def t27(x0:Option Addr)(K:Value->HP):HP:=
 ifB (Option.isNone x0) (
 K (.i 1)) (
 A9 x0 fun a1=>
 ld (Addr.add (a1.add 11) 7) (.lf .bool) fun v1=>
 ifB v1 (
 K (.i 11)) (
 lp [] (()) fun z1 go1=>
 A9 x0 fun a2=>
 ld (Addr.add (a2.add 11) 6) (.lf .sl) fun v2=>
 ifB (decide ((v2.len:Int)>0)) (
 cl PP 61 #[.q x0,.i 1] [lI] fun r1=>
 ifB ((r1.1:Int) !=0) (
 K (.i r1.1)) (
 A9 x0 fun a3=>
 A9 x0 fun a4=>
 ld (Addr.add (a3.add 11) 6) (.lf .sl) fun v3=>
 ld (a4.add 2) (lI) fun v4=>
 cl PP 62 #[.i v4] [lI] fun r2=>
 keep (D4 (Addr.add (a3.add 11) 6) [.sv v3])<|
 req ((6:Int)≠0)<|
 ifB ((Ab3 v3.len (IntKind.i64.wrap (Int.tdiv r2.1 6)):Int)==0) (
 K (.i 0)) (
 A9 x0 fun a5=>
 ld (Addr.add (a5.add 11) 6) (.lf .sl) fun v5=>
 slc ⟨v5.a,v5.len,v5.cap⟩ 0 (Ab3 v3.len (IntKind.i64.wrap (Int.tdiv r2.1 6))) v5.cap 3 fun s1=>
 cl PP 63 #[.sv s1] [.lf .sl,lI] fun r3=>
 ifB ((r3.2.1:Int) !=0) (
 K (.i r3.2.1)) (
 A9 x0 fun a6=>
 nw (.cells #[.slice r3.1.a r3.1.len r3.1.cap] 27) fun n1=>
 cl PP 64 #[.q (some (a6.add 11)),.i 3,.slice (some ⟨n1,0,none⟩) 1 1] [.agg [.int .i64,.int .i64,.int .i64],lI] fun r4=>
 nw (.cells #[.i 0,.i 0,.i 0] 102) fun n2=>
 st ⟨n2,0,none⟩ [.i r4.1.1,.i r4.1.2.1,.i r4.1.2.2.1]<|
 ifB ((r4.2.1:Int) !=0) (
 K (.i r4.2.1)) (
 A9 x0 fun a7=>
 ld (Addr.add (a7.add 11) 6) (.lf .sl) fun v6=>
 cl PP 65 #[.sv v6,.i 0,.i (Ab3 v3.len (IntKind.i64.wrap (Int.tdiv r2.1 6)))] [.lf .sl] fun r5=>
 A9 x0 fun a8=>
 st (Addr.add (a8.add 11) 6) [.slice r5.1.a r5.1.len r5.1.cap]<|
 go1 (())))))) (
 K (.i 0))))
theorem e27(x0:Option Addr)(K:Value->HP):A8 PP h27 Tryz.f27 [.q x0] K=t27 x0 K:=by kernel_rfl
def t29(x0:Option Addr)(K:Value->HP):HP:=
 nw (.cells #[.q x0] 28) fun n1=>
 ld ⟨n1,0,none⟩ (.lf .ptr) fun v1=>
 cl PP 42 #[.q v1,.func (.func 67) #[] #[.q (some ⟨n1,0,none⟩)]] [lI] fun r1=>
 K (.i r1.1)
theorem e29(x0:Option Addr)(K:Value->HP):A8 PP Hn Tryz.f29 [.q x0] K=t29 x0 K:=by kernel_rfl
def t30(x0:Option Addr)(K:Value->HP):HP:=
 nw (.cells #[.q x0] 28) fun n1=>
 ld ⟨n1,0,none⟩ (.lf .ptr) fun v1=>
 cl PP 42 #[.q v1,.func (.func 69) #[] #[.q (some ⟨n1,0,none⟩)]] [lI] fun r1=>
 K (.i r1.1)
theorem e30(x0:Option Addr)(K:Value->HP):A8 PP Hn Tryz.f30 [.q x0] K=t30 x0 K:=by kernel_rfl
def t31(x0:Option Addr)(K:Value->HP):HP:=
 cl PP 57 #[.q x0] [.lf .bool] fun r1=>
 ifB (!r1.1) (
 K (.slice none 0 0)) (
 A9 x0 fun a1=>
 ld (Addr.add (a1.add 11) 6) (.lf .sl) fun v1=>
 cl PP 71 #[.sv v1] [.lf .sl] fun r2=>
 K (.sv r2.1))
theorem e31(x0:Option Addr)(K:Value->HP):A8 PP Hn Tryz.f31 [.q x0] K=t31 x0 K:=by kernel_rfl
set_option maxRecDepth 100000
def h35:D5:=⟨[(0,[(34,lI)])],[],[]⟩
def t35(x0:ShV (.agg [.int .i64,.int .i64,.int .i64,.int .i64]))(K:Value->HP):HP:=
 nw (.cells #[.i x0.1,.i x0.2.1,.i x0.2.2.1,.i x0.2.2.2.1] 23) fun n1=>
 ld ⟨n1,0,none⟩ (lI) fun v1=>
 cl PP 90 #[.i v1,.i 2,.i 16] [.lf .bool] fun r1=>
 ifB r1.1 (
 ld (Addr.add ⟨n1,0,none⟩ 1) (lI) fun v2=>
 cl PP 90 #[.i v2,.i 4,.i 16] [.lf .bool] fun r2=>
 ifB (!r2.1) (
 K (.t #[.q none,.i 30])) (
 ld (Addr.add ⟨n1,0,none⟩ 2) (lI) fun v3=>
 cl PP 90 #[.i v3,.i 64,.i 512] [.lf .bool] fun r3=>
 ifB (!r3.1) (
 K (.t #[.q none,.i 30])) (
 ld (Addr.add ⟨n1,0,none⟩ 3) (lI) fun v4=>
 cl PP 90 #[.i v4,.i 1,.i 1048576] [.lf .bool] fun r4=>
 ifB (!r4.1) (
 K (.t #[.q none,.i 30])) (
 ld ⟨n1,0,none⟩ (.agg [.int .i64,.int .i64,.int .i64,.int .i64]) fun v5=>
 nw (.cells #[.i 0,.i 0,.b false,.i v5.1,.i v5.2.1,.i v5.2.2.1,.i v5.2.2.2.1,.slice none 0 0,.i 0,.slice none 0 0] 75) fun n2=>
 ld ⟨n1,0,none⟩ (lI) fun v6=>
 lp [lI] (0,()) fun z1 go1=>
 ifB (decide ((z1.1:Int)<v6)) (
 ld (Addr.add ⟨n1,0,none⟩ 1) (lI) fun v7=>
 smA PP (Instr.makeSlice 96 (.i v7) (.i v7)) (.lf .sl) fun v8=>
 nw (.cells #[.slice v8.a v8.len v8.cap,.i 0,.i 0,.b false] 98) fun n3=>
 ld (Addr.add ⟨n1,0,none⟩ 1) (lI) fun v9=>
 ld (Addr.add ⟨n1,0,none⟩ 2) (lI) fun v10=>
 cl PP 91 #[.q (some ⟨n3,0,none⟩),.i v9,.i v10] [] fun r5=>
 ld (Addr.add ⟨n2,0,none⟩ 7) (.lf .sl) fun v11=>
 nw (.cells #[.q (some ⟨n3,0,none⟩)] 94) fun n4=>
 smW PP (Builtin.append_ #[72,72] 72 #[.sv v11,.slice (some ⟨n4,0,none⟩) 1 1]) [.lf .sl] fun v12=>
 st (Addr.add ⟨n2,0,none⟩ 7) [.slice v12.1.a v12.1.len v12.1.cap]<|
 go1 (IntKind.i64.wrap (z1.1+1),())) (
 K (.t #[.q (some ⟨n2,0,none⟩),.i 0])))))) (
 K (.t #[.q none,.i 30]))
theorem e35(x0:ShV (.agg [.int .i64,.int .i64,.int .i64,.int .i64]))(K:Value->HP):A8 PP h35 Tryz.f35 [.agg #[.i x0.1,.i x0.2.1,.i x0.2.2.1,.i x0.2.2.2.1]] K=t35 x0 K:=by kernel_rfl
def h36:D5:=⟨[(0,[(12,.lf .sl),(74,lI)]),(2,[(116,lI)])],[(6,[])],[(15,[0,1,2,3,5,7,9,11,4,6,8,10,12,13,14,15]),(9,[1,2,4,6,9,12,15,18,0,3,5,10,13,16,7,14,17,19,8,11,20,21,22]),(4,[0,2,3,1,4,5,6,7,8,9,10,11,12,13])]⟩
def t36(x0:ShV (.agg [.int .i64,.int .i64,.int .i64,.int .i64,.int .i64,.int .i64,.int .i64,.int .i64,.int .i64,.int .i64,.int .i64]))(x1:Option Addr)(x2:Int)(K:Value->HP):HP:=
 nw (.cells #[.i x0.1,.i x0.2.1,.i x0.2.2.1,.i x0.2.2.2.1,.i x0.2.2.2.2.1,.i x0.2.2.2.2.2.1,.i x0.2.2.2.2.2.2.1,.i x0.2.2.2.2.2.2.2.1,.i x0.2.2.2.2.2.2.2.2.1,.i x0.2.2.2.2.2.2.2.2.2.1,.i x0.2.2.2.2.2.2.2.2.2.2.1] 25) fun n1=>
 ifB (Option.isNone x1) (
 K (.t #[.q none,.i 1])) (
 ld (Addr.add ⟨n1,0,none⟩ 4) (lI) fun v1=>
 ld (Addr.add ⟨n1,0,none⟩ 5) (lI) fun v2=>
 cl PP 92 #[.i v1,.i v2] [.lf .ptr,lI] fun r1=>
 jn (fun y1:RsV []=>
 cl PP 95 #[.q x1] [.agg [.sl,.sl,.int .i64],lI] fun r4=>
 nw (.cells #[.slice none 0 0,.slice none 0 0,.i 0] 146) fun n2=>
 st ⟨n2,0,none⟩ [.slice r4.1.1.a r4.1.1.len r4.1.1.cap,.slice r4.1.2.1.a r4.1.2.1.len r4.1.2.1.cap,.i r4.1.2.2.1]<|
 ifB ((r4.2.1:Int) !=0) (
 K (.t #[.q none,.i r4.2.1])) (
 ld ⟨n1,0,none⟩ (.agg [.int .i64,.int .i64,.int .i64,.int .i64,.int .i64,.int .i64,.int .i64,.int .i64,.int .i64,.int .i64,.int .i64]) fun v6=>
 ld (Addr.add ⟨n1,0,none⟩ 8) (lI) fun v7=>
 ld (Addr.add ⟨n1,0,none⟩ 9) (lI) fun v8=>
 ld (Addr.add ⟨n2,0,none⟩ 2) (lI) fun v9=>
 ld (Addr.add ⟨n1,0,none⟩ 6) (lI) fun v10=>
 ld (Addr.add ⟨n1,0,none⟩ 7) (lI) fun v11=>
 cl PP 96 #[.i v7,.i v8,.i x2,.i 0] [.lf .ptr] fun r5=>
 keep (D4 (Addr.add ⟨n1,0,none⟩ 7) [.i v11])<|
 keep (D4 (Addr.add ⟨n1,0,none⟩ 6) [.i v10])<|
 keep (D4 (Addr.add ⟨n2,0,none⟩ 2) [.i v9])<|
 keep (D4 ⟨n1,0,none⟩ [.i v6.1,.i v6.2.1,.i v6.2.2.1,.i v6.2.2.2.1,.i v6.2.2.2.2.1,.i v6.2.2.2.2.2.1,.i v6.2.2.2.2.2.2.1,.i v6.2.2.2.2.2.2.2.1,.i v6.2.2.2.2.2.2.2.2.1,.i v6.2.2.2.2.2.2.2.2.2.1,.i v6.2.2.2.2.2.2.2.2.2.2.1])<|
 cl PP 97 #[.i v10] [.lf .ptr] fun r6=>
 keep (D4 (Addr.add ⟨n1,0,none⟩ 7) [.i v11])<|
 keep (D4 (Addr.add ⟨n2,0,none⟩ 2) [.i v9])<|
 keep (D4 ⟨n1,0,none⟩ [.i v6.1,.i v6.2.1,.i v6.2.2.1,.i v6.2.2.2.1,.i v6.2.2.2.2.1,.i v6.2.2.2.2.2.1,.i v6.2.2.2.2.2.2.1,.i v6.2.2.2.2.2.2.2.1,.i v6.2.2.2.2.2.2.2.2.1,.i v6.2.2.2.2.2.2.2.2.2.1,.i v6.2.2.2.2.2.2.2.2.2.2.1])<|
 cl PP 98 #[.i v11] [.lf .ptr] fun r7=>
 keep (D4 (Addr.add ⟨n2,0,none⟩ 2) [.i v9])<|
 keep (D4 ⟨n1,0,none⟩ [.i v6.1,.i v6.2.1,.i v6.2.2.1,.i v6.2.2.2.1,.i v6.2.2.2.2.1,.i v6.2.2.2.2.2.1,.i v6.2.2.2.2.2.2.1,.i v6.2.2.2.2.2.2.2.1,.i v6.2.2.2.2.2.2.2.2.1,.i v6.2.2.2.2.2.2.2.2.2.1,.i v6.2.2.2.2.2.2.2.2.2.2.1])<|
 nw (.map #[] 0) fun n3=>
 nw (.cells #[.i v6.1,.i v6.2.1,.i v6.2.2.1,.i v6.2.2.2.1,.i v6.2.2.2.2.1,.i v6.2.2.2.2.2.1,.i v6.2.2.2.2.2.2.1,.i v6.2.2.2.2.2.2.2.1,.i v6.2.2.2.2.2.2.2.2.1,.i v6.2.2.2.2.2.2.2.2.2.1,.i v6.2.2.2.2.2.2.2.2.2.2.1,.q x1,.q none,.q r5.1,.map (some n3),.q none,.i v9,.slice none 0 0,.b false,.q r6.1,.q r7.1,.q r1.1] 89) fun n4=>
 ld ⟨n2,0,none⟩ (.lf .sl) fun v12=>
 lp [.lf .sl,lI] (⟨none,0,0⟩,0,()) fun z1 go1=>
 ifB (decide ((z1.2.1:Int)<v12.len)) (
 A9 v12.a fun a1=>
 ixn z1.2.1 v12.len<|
 ld (a1.add (z1.2.1.toNat*3)) (.agg [.int .i64,.int .i64,.sl]) fun v13=>
 nw (.cells #[.i 0,.i 0,.slice none 0 0] 154) fun n5=>
 st ⟨n5,0,none⟩ [.i v13.1,.i v13.2.1,.slice v13.2.2.1.a v13.2.2.1.len v13.2.2.1.cap]<|
 ld ⟨n5,0,none⟩ (lI) fun v14=>
 nw (.cells #[.i v14] 3) fun n6=>
 smW PP (Builtin.append_ #[49,49] 49 #[.sv z1.1,.slice (some ⟨n6,0,none⟩) 1 1]) [.lf .sl] fun v15=>
 ld (Addr.add (Addr.add ⟨n4,0,none⟩ 11) 3) (.lf .map) fun v16=>
 ld ⟨n5,0,none⟩ (lI) fun v17=>
 ld ⟨n5,0,none⟩ (lI) fun v18=>
 ld (Addr.add ⟨n5,0,none⟩ 1) (lI) fun v19=>
 ld (Addr.add ⟨n5,0,none⟩ 2) (.lf .sl) fun v20=>
 nw (.cells #[.i v18,.i v19,.i 0,.slice v20.a v20.len v20.cap] 156) fun n7=>
 smU PP (Instr.mapUpdate 79 (.map v16) (.i v17) (.q (some ⟨n7,0,none⟩)))<|
 go1 (⟨v15.1.a,v15.1.len,v15.1.cap⟩,IntKind.i64.wrap (z1.2.1+1),())) (
 cl PP 100 #[.q x1] [.lf .sl] fun r8=>
 cl PP 99 #[.sv r8.1,.sv z1.1] [.lf .ptr,lI] fun r9=>
 st (Addr.add (Addr.add ⟨n4,0,none⟩ 11) 1) [.q r9.1]<|
 ifB ((r9.2.1:Int) !=0) (
 K (.t #[.q none,.i r9.2.1])) (
 ld (Addr.add ⟨n2,0,none⟩ 1) (.lf .sl) fun v21=>
 lp [lI] (0,()) fun z2 go2=>
 ifB (decide ((z2.1:Int)<v21.len)) (
 A9 v21.a fun a2=>
 ixn z2.1 v21.len<|
 ld (a2.add (z2.1.toNat*4)) (.agg [.str,.int .i64,.int .i64,.int .i64]) fun v22=>
 nw (.cells #[.w ByteArray.empty,.i 0,.i 0,.i 0] 162) fun n8=>
 st ⟨n8,0,none⟩ [.w v22.1,.i v22.2.1,.i v22.2.2.1,.i v22.2.2.2.1]<|
 ld ⟨n8,0,none⟩ (.lf .str) fun v23=>
 ld (Addr.add ⟨n8,0,none⟩ 1) (.agg [.int .i64,.int .i64,.int .i64]) fun v24=>
 cl PP 101 #[.q (some ⟨n4,0,none⟩),.w v23,.agg #[.i v24.1,.i v24.2.1,.i v24.2.2.1]] [] fun r10=>
 go2 (IntKind.i64.wrap (z2.1+1),())) (
 K (.t #[.q (some ⟨n4,0,none⟩),.i 0])))))) fun j1=>
 ld ⟨n1,0,none⟩ (.agg [.int .i64,.int .i64,.int .i64,.int .i64]) fun v3=>
 cl PP 93 #[.q x1] [.agg [.int .i64,.int .i64,.int .i64,.int .i64]] fun r2=>
 keep (D4 ⟨n1,0,none⟩ [.i v3.1,.i v3.2.1,.i v3.2.2.1,.i v3.2.2.2.1])<|
 smP PP (binOp .neq 23 (.agg #[.i r2.1.1,.i r2.1.2.1,.i r2.1.2.2.1,.i r2.1.2.2.2.1]) (.agg #[.i v3.1,.i v3.2.1,.i v3.2.2.1,.i v3.2.2.2.1])) (.lf .bool) fun v4=>
 ifB v4 (
 K (.t #[.q none,.i 30])) (
 ifB ((r1.2.1:Int) !=0) (
 K (.t #[.q none,.i 30])) (
 ld ⟨n1,0,none⟩ (.agg [.int .i64,.int .i64,.int .i64,.int .i64,.int .i64,.int .i64,.int .i64,.int .i64,.int .i64,.int .i64,.int .i64]) fun v5=>
 cl PP 94 #[.agg #[.i v5.1,.i v5.2.1,.i v5.2.2.1,.i v5.2.2.2.1,.i v5.2.2.2.2.1,.i v5.2.2.2.2.2.1,.i v5.2.2.2.2.2.2.1,.i v5.2.2.2.2.2.2.2.1,.i v5.2.2.2.2.2.2.2.2.1,.i v5.2.2.2.2.2.2.2.2.2.1,.i v5.2.2.2.2.2.2.2.2.2.2.1]] [.lf .bool] fun r3=>
 ifB (!r3.1) (
 K (.t #[.q none,.i 30])) (
 j1 (())))))
theorem e36(x0:ShV (.agg [.int .i64,.int .i64,.int .i64,.int .i64,.int .i64,.int .i64,.int .i64,.int .i64,.int .i64,.int .i64,.int .i64]))(x1:Option Addr)(x2:Int)(K:Value->HP):A8 PP h36 Tryz.f36 [.agg #[.i x0.1,.i x0.2.1,.i x0.2.2.1,.i x0.2.2.2.1,.i x0.2.2.2.2.1,.i x0.2.2.2.2.2.1,.i x0.2.2.2.2.2.2.1,.i x0.2.2.2.2.2.2.2.1,.i x0.2.2.2.2.2.2.2.2.1,.i x0.2.2.2.2.2.2.2.2.2.1,.i x0.2.2.2.2.2.2.2.2.2.2.1],.q x1,.i x2] K=t36 x0 x1 x2 K:=by kernel_rfl
def t37(K:Value->HP):HP:=
 nw (.cells #[.i 0,.i 0,.i 0,.i 0,.i 0,.i 0,.i 0,.i 0,.i 0,.i 0,.i 0] 25) fun n1=>
 st ⟨n1,0,none⟩ [.i 4,.i 8,.i 64,.i 1000,.i 4,.i 4,.i 12,.i 8,.i 1000,.i 4000,.i 0]<|
 ld ⟨n1,0,none⟩ (.agg [.int .i64,.int .i64,.int .i64,.int .i64,.int .i64,.int .i64,.int .i64,.int .i64,.int .i64,.int .i64,.int .i64]) fun v1=>
 K (.agg #[.i v1.1,.i v1.2.1,.i v1.2.2.1,.i v1.2.2.2.1,.i v1.2.2.2.2.1,.i v1.2.2.2.2.2.1,.i v1.2.2.2.2.2.2.1,.i v1.2.2.2.2.2.2.2.1,.i v1.2.2.2.2.2.2.2.2.1,.i v1.2.2.2.2.2.2.2.2.2.1,.i v1.2.2.2.2.2.2.2.2.2.2.1])
theorem e37(K:Value->HP):A8 PP Hn Tryz.f37 [] K=t37 K:=by kernel_rfl
def t38(x0:Option Addr)(K:Value->HP):HP:=
 ifB (!(Option.isNone x0)) (
 A9 x0 fun a1=>
 st (a1.add 2) [.b false]<|
 A9 x0 fun a2=>
 st a2 [.i 0]<|
 K (.t #[])) (
 K (.t #[]))
theorem e38(x0:Option Addr)(K:Value->HP):A8 PP Hn Tryz.f38 [.q x0] K=t38 x0 K:=by kernel_rfl
def t39(x0:Option Addr)(x1:ByteArray)(K:Value->HP):HP:=
 ifB (Option.isNone x0) (
 K (.i 1)) (
 A9 x0 fun a1=>
 ld (Addr.add (a1.add 11) 7) (.lf .bool) fun v1=>
 ifB v1 (
 K (.i 11)) (
 ifB (ByteArray.toList x1==ByteArray.toList (ByteArray.mk #[])) (
 K (.i 2)) (
 ifB (decide ((x1.size:Int)>255)) (
 K (.i 2)) (
 K (.i 0)))))
theorem e39(x0:Option Addr)(x1:ByteArray)(K:Value->HP):A8 PP Hn Tryz.f39 [.q x0,.w x1] K=t39 x0 x1 K:=by kernel_rfl
def t40(x0:Option Addr)(x1:Int)(K:Value->HP):HP:=
 ifB (!(Option.isNone x0)) (
 cl PP 103 #[.q x0] [.lf .sl] fun r1=>
 cl PP 102 #[.sv r1.1,.int .u64 x1] [lI] fun r2=>
 K (.b (decide ((r2.1:Int)≥0)))) (
 K (.b false))
theorem e40(x0:Option Addr)(x1:Int)(K:Value->HP):A8 PP Hn Tryz.f40 [.q x0,.int .u64 x1] K=t40 x0 x1 K:=by kernel_rfl
def t41(x0:Option Addr)(x1:ByteArray)(K:Value->HP):HP:=
 A9 x0 fun a1=>
 ld (a1.add 10) (lI) fun v1=>
 cl PP 104 #[.i v1,.w x1] [.lf (.int .u64)] fun r1=>
 K (.int .u64 r1.1)
theorem e41(x0:Option Addr)(x1:ByteArray)(K:Value->HP):A8 PP Hn Tryz.f41 [.q x0,.w x1] K=t41 x0 x1 K:=by kernel_rfl
def t42(x0:Option Addr)(x1:FnV)(K:Value->HP):HP:=
 cl PP 57 #[.q x0] [.lf .bool] fun r1=>
 ifB (!r1.1) (
 K (.i 0)) (
 clv PP x1.fn (x1.first++#[]) x1.captured [lI] fun r2=>
 K (.i r2.1))
theorem e42(x0:Option Addr)(x1:FnV)(K:Value->HP):A8 PP Hn Tryz.f42 [.q x0,.func x1.fn x1.first x1.captured] K=t42 x0 x1 K:=by kernel_rfl
def t43(x0:Option Addr)(K:Value->HP):HP:=
 A9 x0 fun a1=>
 ld a1 (.lf .ptr) fun v1=>
 A9 v1 fun a2=>
 ld (Addr.add (a2.add 11) 2) (.lf .ptr) fun v2=>
 cl PP 44 #[.q v2] [lI] fun r1=>
 K (.i r1.1)
theorem e43(x0:Option Addr)(K:Value->HP):A8 PP Hn Tryz.f43 [.q x0] K=t43 x0 K:=by kernel_rfl
def t44(x0:Option Addr)(K:Value->HP):HP:=
 ifB (Option.isNone x0) (
 K (.i 0)) (
 A9 x0 fun a1=>
 ld (a1.add 3) (lI) fun v1=>
 K (.i v1))
theorem e44(x0:Option Addr)(K:Value->HP):A8 PP Hn Tryz.f44 [.q x0] K=t44 x0 K:=by kernel_rfl
def t45(x0:Option Addr)(x1:Int)(K:Value->HP):HP:=
 ifB (Option.isNone x0) (
 K (.q none)) (
 A9 x0 fun a1=>
 ld (a1.add 7) (.lf .sl) fun v1=>
 cl PP 90 #[.i x1,.i 0,.i (IntKind.i64.wrap (v1.len-1))] [.lf .bool] fun r1=>
 ifB (!r1.1) (
 K (.q none)) (
 A9 x0 fun a2=>
 ld (a2.add 7) (.lf .sl) fun v2=>
 A9 v2.a fun a3=>
 ixn x1 v2.len<|
 ld (a3.add (x1.toNat*1)) (.lf .ptr) fun v3=>
 K (.q v3)))
theorem e45(x0:Option Addr)(x1:Int)(K:Value->HP):A8 PP Hn Tryz.f45 [.q x0,.i x1] K=t45 x0 x1 K:=by kernel_rfl
def h46:D5:=⟨[],[],[(5,[0,1,2,3,4,5,6,7,8,9,10,11,12]),(4,[0,1,2,3,5,6,4,8,7,9])]⟩
def t46(x0:Option Addr)(x1:ByteArray)(K:Value->HP):HP:=
 A9 x0 fun a1=>
 ld (a1.add 19) (.lf .ptr) fun v1=>
 cl PP 105 #[.q v1,.w x1] [.lf .bool] fun r1=>
 cl PP 53 #[.q x0,.w x1] [.agg [.int .i64,.int .i64,.int .i64],.lf .sl,.lf .bool] fun r2=>
 nw (.cells #[.i 0,.i 0,.i 0] 102) fun n1=>
 st ⟨n1,0,none⟩ [.i r2.1.1,.i r2.1.2.1,.i r2.1.2.2.1]<|
 ifB r2.2.2.1 (
 A9 x0 fun a2=>
 ld (Addr.add (a2.add 19) 2) (.lf .ptr) fun v2=>
 ld ⟨n1,0,none⟩ (.agg [.int .i64,.int .i64,.int .i64]) fun v3=>
 cl PP 41 #[.q x0,.w x1] [.lf (.int .u64)] fun r3=>
 keep (D4 ⟨n1,0,none⟩ [.i v3.1,.i v3.2.1,.i v3.2.2.1])<|
 keep (D4 (Addr.add (a2.add 19) 2) [.q v2])<|
 cl PP 106 #[.q v2,.int .u64 r3.1,.agg #[.i v3.1,.i v3.2.1,.i v3.2.2.1]] [.lf .bool] fun r4=>
 A9 x0 fun a3=>
 ld (Addr.add (a3.add 11) 6) (.lf .sl) fun v4=>
 ld ⟨n1,0,none⟩ (.agg [.int .i64,.int .i64,.int .i64]) fun v5=>
 nw (.cells #[.i v5.1,.i v5.2.1,.i v5.2.2.1] 102) fun n2=>
 smW PP (Builtin.append_ #[55,55] 55 #[.sv v4,.slice (some ⟨n2,0,none⟩) 1 1]) [.lf .sl] fun v6=>
 A9 x0 fun a4=>
 st (Addr.add (a4.add 11) 6) [.slice v6.1.a v6.1.len v6.1.cap]<|
 ifB r1.1 (
 K (.b true)) (
 K (.b r2.2.2.1))) (
 ifB r1.1 (
 K (.b true)) (
 K (.b r2.2.2.1)))
theorem e46(x0:Option Addr)(x1:ByteArray)(K:Value->HP):A8 PP h46 Tryz.f46 [.q x0,.w x1] K=t46 x0 x1 K:=by kernel_rfl
def h47:D5:=⟨[],[],[(4,[0,1,2,3,4,5,6,7,8,9,10,11,12])]⟩
def t47(x0:Int)(x1:Int)(x2:ShV (.agg [.int .i64,.int .i64,.int .i64,.int .i64]))(K:Value->HP):HP:=
 nw (.cells #[.i x2.1,.i x2.2.1,.i x2.2.2.1,.i x2.2.2.2.1] 23) fun n1=>
 ld (Addr.add ⟨n1,0,none⟩ 2) (lI) fun v1=>
 cl PP 62 #[.i v1] [lI] fun r1=>
 cl PP 107 #[.i x0] [.lf .bool] fun r2=>
 ifB (!r2.1) (
 K (.i 0)) (
 ifB (decide ((x1:Int)<0)) (
 K (.i 0)) (
 ifB (decide ((x1:Int)>65536)) (
 K (.i 0)) (
 ifB ((r1.1:Int)==0) (
 K (.i 0)) (
 req ((r1.1:Int)≠0)<|
 ld (Addr.add ⟨n1,0,none⟩ 1) (lI) fun v2=>
 cl PP 108 #[.i (IntKind.i64.wrap (Int.tdiv (IntKind.i64.wrap ((IntKind.i64.wrap ((IntKind.i64.wrap ((IntKind.i64.wrap (x0+x1))+12))+r1.1))-1)) r1.1)),.i v2] [lI] fun r3=>
 K (.i r3.1)))))
theorem e47(x0:Int)(x1:Int)(x2:ShV (.agg [.int .i64,.int .i64,.int .i64,.int .i64]))(K:Value->HP):A8 PP h47 Tryz.f47 [.i x0,.i x1,.agg #[.i x2.1,.i x2.2.1,.i x2.2.2.1,.i x2.2.2.2.1]] K=t47 x0 x1 x2 K:=by kernel_rfl
def t48(x0:Option Addr)(x1:Int)(K:Value->HP):HP:=
 ifB (Option.isNone x0) (
 K (.b false)) (
 cl PP 103 #[.q x0] [.lf .sl] fun r1=>
 cl PP 102 #[.sv r1.1,.int .u64 x1] [lI] fun r2=>
 ifB (decide ((r2.1:Int)<0)) (
 K (.b false)) (
 cl PP 110 #[.sv r1.1,.i r2.1,.i (IntKind.i64.wrap (r2.1+1))] [.lf .sl] fun r3=>
 cl PP 109 #[.q x0,.sv r3.1] [] fun r4=>
 K (.b true)))
theorem e48(x0:Option Addr)(x1:Int)(K:Value->HP):A8 PP Hn Tryz.f48 [.q x0,.int .u64 x1] K=t48 x0 x1 K:=by kernel_rfl
def t49(x0:Option Addr)(x1:ByteArray)(x2:SlV)(K:Value->HP):HP:=
 A9 x0 fun a1=>
 ld a1 (.agg [.int .i64,.int .i64,.int .i64,.int .i64]) fun v1=>
 cl PP 111 #[.w x1,.slice x2.a x2.len x2.cap,.agg #[.i v1.1,.i v1.2.1,.i v1.2.2.1,.i v1.2.2.2.1]] [.lf .sl,lI] fun r1=>
 ifB ((r1.2.1:Int) !=0) (
 K (.i r1.2.1)) (
 cl PP 61 #[.q x0,.i r1.1.len] [lI] fun r2=>
 ifB ((r2.1:Int) !=0) (
 K (.i r2.1)) (
 A9 x0 fun a2=>
 cl PP 64 #[.q (some (a2.add 11)),.i 2,.slice r1.1.a r1.1.len r1.1.cap] [.agg [.int .i64,.int .i64,.int .i64],lI] fun r3=>
 nw (.cells #[.i 0,.i 0,.i 0] 102) fun n1=>
 st ⟨n1,0,none⟩ [.i r3.1.1,.i r3.1.2.1,.i r3.1.2.2.1]<|
 ifB ((r3.2.1:Int)==0) (
 ld ⟨n1,0,none⟩ (.agg [.int .i64,.int .i64,.int .i64]) fun v2=>
 cl PP 101 #[.q x0,.w x1,.agg #[.i v2.1,.i v2.2.1,.i v2.2.2.1]] [] fun r4=>
 K (.i r3.2.1)) (
 K (.i r3.2.1))))
theorem e49(x0:Option Addr)(x1:ByteArray)(x2:SlV)(K:Value->HP):A8 PP Hn Tryz.f49 [.q x0,.w x1,.slice x2.a x2.len x2.cap] K=t49 x0 x1 x2 K:=by kernel_rfl
def h50:D5:=⟨[],[(6,[])],[(7,[0,1,2,4,3,5,6,7,8,9]),(2,[0,2,5,6,7,8,1,3,4,9,10,11])]⟩
def t50(x0:Option Addr)(x1:ByteArray)(x2:SlV)(K:Value->HP):HP:=
 ifB (Option.isNone x0) (
 K (.t #[])) (
 cl PP 105 #[.q x0,.w x1] [.lf .bool] fun r1=>
 A9 x0 fun a1=>
 ld (a1.add 3) (.lf .ptr) fun v1=>
 nw (.cells #[] 5) fun n1=>
 smW PP (Builtin.append_ #[27,27] 27 #[.slice (some ⟨n1,0,none⟩) 0 0,.sv x2]) [.lf .sl] fun v2=>
 keep (D4 (a1.add 3) [.q v1])<|
 nw (.cells #[.w x1,.slice v2.1.a v2.1.len v2.1.cap,.i 0,.q v1,.q none] 184) fun n2=>
 jn (fun y1:RsV []=>
 A9 x0 fun a6=>
 st (a6.add 3) [.q (some ⟨n2,0,none⟩)]<|
 A9 x0 fun a7=>
 ld (a7.add 1) (lI) fun v5=>
 cl PP 112 #[.q (some ⟨n2,0,none⟩)] [lI] fun r2=>
 keep (D4 (a7.add 1) [.i v5])<|
 A9 x0 fun a8=>
 st (a8.add 1) [.i (IntKind.i64.wrap (v5+r2.1))]<|
 A9 x0 fun a9=>
 ld (a9.add 4) (.lf .map) fun v6=>
 smU PP (Instr.mapUpdate 180 (.map v6) (.w x1) (.q (some ⟨n2,0,none⟩)))<|
 K (.t #[])) fun j1=>
 A9 x0 fun a2=>
 ld (a2.add 3) (.lf .ptr) fun v3=>
 ifB (!(Option.isNone v3)) (
 A9 x0 fun a3=>
 ld (a3.add 3) (.lf .ptr) fun v4=>
 A9 v4 fun a4=>
 st (a4.add 4) [.q (some ⟨n2,0,none⟩)]<|
 j1 (())) (
 A9 x0 fun a5=>
 st (a5.add 2) [.q (some ⟨n2,0,none⟩)]<|
 j1 (())))
theorem e50(x0:Option Addr)(x1:ByteArray)(x2:SlV)(K:Value->HP):A8 PP h50 Tryz.f50 [.q x0,.w x1,.sv x2] K=t50 x0 x1 x2 K:=by kernel_rfl
def h51:D5:=⟨[(0,[])],[(6,[(5,lI)])],[(7,[0,1,2,3,5,6,4,7,8,9])]⟩
def t51(x0:Option Addr)(K:Value->HP):HP:=
 lp [] (()) fun z1 go1=>
 A9 x0 fun a1=>
 ld (a1.add 19) (.lf .ptr) fun v1=>
 cl PP 113 #[.q v1] [.lf .bool] fun r1=>
 ifB r1.1 (
 A9 x0 fun a2=>
 ld (a2.add 19) (.lf .ptr) fun v2=>
 cl PP 114 #[.q v2] [.agg [.str,.sl,.int .i64],.lf .bool] fun r2=>
 nw (.cells #[.w ByteArray.empty,.slice none 0 0,.i 0] 179) fun n1=>
 st ⟨n1,0,none⟩ [.w r2.1.1,.slice r2.1.2.1.a r2.1.2.1.len r2.1.2.1.cap,.i r2.1.2.2.1]<|
 jn (fun y1:RsV [lI]=>
 ifB ((y1.1:Int)==0) (
 go1 (())) (
 ifB ((y1.1:Int)==11) (
 K (.i y1.1)) (
 A9 x0 fun a3=>
 ld (Addr.add (a3.add 19) 1) (.lf .ptr) fun v6=>
 ld ⟨n1,0,none⟩ (.lf .str) fun v7=>
 cl PP 41 #[.q x0,.w v7] [.lf (.int .u64)] fun r4=>
 keep (D4 (Addr.add (a3.add 19) 1) [.q v6])<|
 cl PP 115 #[.q v6,.int .u64 r4.1] [] fun r5=>
 go1 (())))) fun j1=>
 ld (Addr.add ⟨n1,0,none⟩ 2) (lI) fun v3=>
 ifB (decide ((v3:Int)>0)) (
 ld ⟨n1,0,none⟩ (.lf .str) fun v4=>
 ld (Addr.add ⟨n1,0,none⟩ 1) (.lf .sl) fun v5=>
 cl PP 49 #[.q x0,.w v4,.sv v5] [lI] fun r3=>
 j1 (r3.1,())) (
 j1 (8,()))) (
 K (.i 0))
theorem e51(x0:Option Addr)(K:Value->HP):A8 PP h51 Tryz.f51 [.q x0] K=t51 x0 K:=by kernel_rfl
def t52(x0:Option Addr)(x1:ByteArray)(K:Value->HP):HP:=
 cl PP 116 #[.q x0,.w x1] [.lf .ptr] fun r1=>
 K (.b (!(Option.isNone r1.1)))
theorem e52(x0:Option Addr)(x1:ByteArray)(K:Value->HP):A8 PP Hn Tryz.f52 [.q x0,.w x1] K=t52 x0 x1 K:=by kernel_rfl
def h53:D5:=⟨[(0,[(22,lI)])],[],[(4,[0,1,2,3,4,5,6,7,8,9,10,11,12,13]),(1,[0,1,2,3,5,6,10,4,7,8,9])]⟩
def t53(x0:Option Addr)(x1:ByteArray)(K:Value->HP):HP:=
 nw (.cells #[.i 0,.i 0,.i 0] 102) fun n1=>
 A9 x0 fun a1=>
 ld (Addr.add (a1.add 19) 2) (.lf .ptr) fun v1=>
 cl PP 41 #[.q x0,.w x1] [.lf (.int .u64)] fun r1=>
 keep (D4 (Addr.add (a1.add 19) 2) [.q v1])<|
 cl PP 117 #[.q v1,.int .u64 r1.1] [.lf .sl] fun r2=>
 lp [lI] (0,()) fun z1 go1=>
 ifB (decide ((z1.1:Int)<r2.1.len)) (
 A9 r2.1.a fun a2=>
 ixn z1.1 r2.1.len<|
 ld (a2.add (z1.1.toNat*3)) (.agg [.int .i64,.int .i64,.int .i64]) fun v2=>
 nw (.cells #[.i 0,.i 0,.i 0] 102) fun n2=>
 st ⟨n2,0,none⟩ [.i v2.1,.i v2.2.1,.i v2.2.2.1]<|
 A9 x0 fun a3=>
 ld (a3.add 11) (.lf .ptr) fun v3=>
 ld ⟨n2,0,none⟩ (.agg [.int .i64,.int .i64,.int .i64]) fun v4=>
 cl PP 118 #[.q v3,.agg #[.i v4.1,.i v4.2.1,.i v4.2.2.1]] [.lf .str,.lf .sl,lI] fun r3=>
 ifB ((r3.2.2.1:Int)==0) (
 ifB (ByteArray.toList r3.1==ByteArray.toList x1) (
 ld ⟨n2,0,none⟩ (.agg [.int .i64,.int .i64,.int .i64]) fun v5=>
 st ⟨n1,0,none⟩ [.i v5.1,.i v5.2.1,.i v5.2.2.1]<|
 ld ⟨n1,0,none⟩ (.agg [.int .i64,.int .i64,.int .i64]) fun v6=>
 K (.t #[.agg #[.i v6.1,.i v6.2.1,.i v6.2.2.1],.sv r3.2.1,.b true])) (
 go1 (IntKind.i64.wrap (z1.1+1),()))) (
 go1 (IntKind.i64.wrap (z1.1+1),()))) (
 st ⟨n1,0,none⟩ [.i 0,.i 0,.i 0]<|
 ld ⟨n1,0,none⟩ (.agg [.int .i64,.int .i64,.int .i64]) fun v7=>
 K (.t #[.agg #[.i v7.1,.i v7.2.1,.i v7.2.2.1],.slice none 0 0,.b false]))
theorem e53(x0:Option Addr)(x1:ByteArray)(K:Value->HP):A8 PP h53 Tryz.f53 [.q x0,.w x1] K=t53 x0 x1 K:=by kernel_rfl
def t54(x0:Option Addr)(x1:ByteArray)(K:Value->HP):HP:=
 cl PP 116 #[.q x0,.w x1] [.lf .ptr] fun r1=>
 ifB (Option.isNone r1.1) (
 K (.t #[.slice none 0 0,.b false])) (
 nw (.cells #[] 5) fun n1=>
 A9 r1.1 fun a1=>
 ld (a1.add 1) (.lf .sl) fun v1=>
 smW PP (Builtin.append_ #[27,27] 27 #[.slice (some ⟨n1,0,none⟩) 0 0,.sv v1]) [.lf .sl] fun v2=>
 K (.t #[.sv v2.1,.b true]))
theorem e54(x0:Option Addr)(x1:ByteArray)(K:Value->HP):A8 PP Hn Tryz.f54 [.q x0,.w x1] K=t54 x0 x1 K:=by kernel_rfl
def t57(x0:Option Addr)(K:Value->HP):HP:=
 ifB (!(Option.isNone x0)) (
 A9 x0 fun a1=>
 ld (Addr.add (a1.add 11) 7) (.lf .bool) fun v1=>
 K (.b (!v1))) (
 K (.b false))
theorem e57(x0:Option Addr)(K:Value->HP):A8 PP Hn Tryz.f57 [.q x0] K=t57 x0 K:=by kernel_rfl
def h58:D5:=⟨[],[],[(2,[0,1,2,3,4,6,8,9,10,5,7,11,14,12,13,15,16,17,18,19,20]),(1,[0,1,2,4,3,5,6,7,8,9,10,11,12,13])]⟩
def t58(x0:Option Addr)(x1:Int)(K:Value->HP):HP:=
 ifB (Option.isNone x0) (
 K (.t #[])) (
 A9 x0 fun a1=>
 ld a1 (.agg [.int .i64,.int .i64]) fun v1=>
 nw (.cells #[.i 253402300799] 3) fun n1=>
 cl PP 123 #[.i x1,.slice (some ⟨n1,0,none⟩) 1 1] [lI] fun r1=>
 keep (D4 a1 [.i v1.1,.i v1.2.1])<|
 cl PP 122 #[.agg #[.i v1.1,.i v1.2.1],.i r1.1] [lI,.agg [.int .i64,.int .i64]] fun r2=>
 nw (.cells #[.i 0,.i 0] 169) fun n2=>
 st ⟨n2,0,none⟩ [.i r2.2.1.1,.i r2.2.1.2.1]<|
 A9 x0 fun a2=>
 A9 x0 fun a3=>
 ld (a2.add 3) (lI) fun v2=>
 ld (a3.add 2) (lI) fun v3=>
 ld ⟨n2,0,none⟩ (.agg [.int .i64,.int .i64]) fun v4=>
 nw (.cells #[.i v3] 3) fun n3=>
 cl PP 123 #[.i (IntKind.i64.wrap (v2+r2.1)),.slice (some ⟨n3,0,none⟩) 1 1] [lI] fun r3=>
 keep (D4 ⟨n2,0,none⟩ [.i v4.1,.i v4.2.1])<|
 A9 x0 fun a4=>
 st (a4.add 3) [.i r3.1]<|
 keep (D4 ⟨n2,0,none⟩ [.i v4.1,.i v4.2.1])<|
 A9 x0 fun a5=>
 st a5 [.i v4.1,.i v4.2.1]<|
 K (.t #[]))
theorem e58(x0:Option Addr)(x1:Int)(K:Value->HP):A8 PP h58 Tryz.f58 [.q x0,.i x1] K=t58 x0 x1 K:=by kernel_rfl
def t59(x0:Option Addr)(x1:ByteArray)(K:Value->HP):HP:=
 cl PP 116 #[.q x0,.w x1] [.lf .ptr] fun r1=>
 ifB (Option.isNone r1.1) (
 K (.t #[.slice none 0 0,.b false])) (
 A9 r1.1 fun a1=>
 ld (a1.add 2) (lI) fun v1=>
 A9 r1.1 fun a2=>
 st (a2.add 2) [.i (Ab3 (IntKind.i64.wrap (v1+1)) 3)]<|
 nw (.cells #[] 5) fun n1=>
 A9 r1.1 fun a3=>
 ld (a3.add 1) (.lf .sl) fun v2=>
 smW PP (Builtin.append_ #[27,27] 27 #[.slice (some ⟨n1,0,none⟩) 0 0,.sv v2]) [.lf .sl] fun v3=>
 K (.t #[.sv v3.1,.b true]))
theorem e59(x0:Option Addr)(x1:ByteArray)(K:Value->HP):A8 PP Hn Tryz.f59 [.q x0,.w x1] K=t59 x0 x1 K:=by kernel_rfl
def t60(x0:Option Addr)(x1:Int)(x2:ShV (.agg [.int .i64,.int .i64,.int .i64]))(K:Value->HP):HP:=
 nw (.cells #[.i x2.1,.i x2.2.1,.i x2.2.2.1] 102) fun n1=>
 ld ⟨n1,0,none⟩ (.agg [.int .i64,.int .i64,.int .i64]) fun v1=>
 cl PP 124 #[.q x0,.int .u64 x1,.agg #[.i v1.1,.i v1.2.1,.i v1.2.2.1],.func (.func 125) #[] #[]] [.lf .bool] fun r1=>
 K (.b r1.1)
theorem e60(x0:Option Addr)(x1:Int)(x2:ShV (.agg [.int .i64,.int .i64,.int .i64]))(K:Value->HP):A8 PP Hn Tryz.f60 [.q x0,.int .u64 x1,.agg #[.i x2.1,.i x2.2.1,.i x2.2.2.1]] K=t60 x0 x1 x2 K:=by kernel_rfl
def h61:D5:=⟨[(0,[])],[],[]⟩
def t61(x0:Option Addr)(x1:Int)(K:Value->HP):HP:=
 lp [] (()) fun z1 go1=>
 A9 x0 fun a1=>
 nw (.cells #[.i x1] 3) fun n1=>
 cl PP 126 #[.q (some (a1.add 11)),.slice (some ⟨n1,0,none⟩) 1 1] [.lf .bool] fun r1=>
 ifB (!r1.1) (
 cl PP 127 #[.q x0,.i x1] [lI] fun r2=>
 ifB ((r2.1:Int) !=0) (
 K (.i r2.1)) (
 go1 (()))) (
 A9 x0 fun a2=>
 nw (.cells #[.i x1] 3) fun n2=>
 cl PP 128 #[.q (some (a2.add 11)),.slice (some ⟨n2,0,none⟩) 1 1] [.lf .bool] fun r3=>
 ifB (!r3.1) (
 K (.i 13)) (
 K (.i 0)))
theorem e61(x0:Option Addr)(x1:Int)(K:Value->HP):A8 PP h61 Tryz.f61 [.q x0,.i x1] K=t61 x0 x1 K:=by kernel_rfl
def t62(x0:Int)(K:Value->HP):HP:=
 cl PP 129 #[.i x0] [.lf .bool] fun r1=>
 ifB (!r1.1) (
 K (.i 0)) (
 K (.i (IntKind.i64.wrap (x0-16))))
theorem e62(x0:Int)(K:Value->HP):A8 PP Hn Tryz.f62 [.i x0] K=t62 x0 K:=by kernel_rfl
def h63:D5:=⟨[(0,[(4,.lf .sl),(9,lI)])],[],[]⟩
def t63(x0:SlV)(K:Value->HP):HP:=
 lp [.lf .sl,lI] (⟨none,0,0⟩,0,()) fun z1 go1=>
 ifB (decide ((z1.2.1:Int)<x0.len)) (
 A9 x0.a fun a1=>
 ixn z1.2.1 x0.len<|
 ld (a1.add (z1.2.1.toNat*3)) (.agg [.int .i64,.int .i64,.int .i64]) fun v1=>
 nw (.cells #[.i 0,.i 0,.i 0] 102) fun n1=>
 st ⟨n1,0,none⟩ [.i v1.1,.i v1.2.1,.i v1.2.2.1]<|
 ld ⟨n1,0,none⟩ (.agg [.int .i64,.int .i64,.int .i64]) fun v2=>
 cl PP 130 #[.agg #[.i v2.1,.i v2.2.1,.i v2.2.2.1]] [.lf .bool] fun r1=>
 ifB (!r1.1) (
 K (.t #[.slice none 0 0,.i 3])) (
 ld ⟨n1,0,none⟩ (lI) fun v3=>
 ld (Addr.add ⟨n1,0,none⟩ 1) (lI) fun v4=>
 nw (.cells #[.i v3,.i v4] 3) fun n2=>
 cl PP 131 #[.sv z1.1,.slice (some ⟨n2,0,none⟩) 2 2] [.lf .sl,.lf .bool] fun r2=>
 ld (Addr.add ⟨n1,0,none⟩ 2) (lI) fun v5=>
 cl PP 132 #[.sv r2.1,.i v5,.i 4] [.lf .sl,lI] fun r3=>
 go1 (⟨r3.1.a,r3.1.len,r3.1.cap⟩,IntKind.i64.wrap (z1.2.1+1),()))) (
 K (.t #[.sv z1.1,.i 0]))
theorem e63(x0:SlV)(K:Value->HP):A8 PP h63 Tryz.f63 [.sv x0] K=t63 x0 K:=by kernel_rfl
def h64:D5:=⟨[],[],[(7,[0,1,2,3,5,6,7,8,10,11,4,9,12,13,14,15,16,17]),(6,[1,2,0,3,4,5]),(4,[0,1,2,4,5,6,8,9,10,12,13,14,16,17,3,7,11,15,18,19]),(3,[0,1,2,4,5,6,8,9,10,3,7,11,12,13,14]),(2,[0,1,2,4,5,6,3,7,8,9])]⟩
def t64(x0:Option Addr)(x1:Int)(x2:SlV)(K:Value->HP):HP:=
 nw (.cells #[.i 0,.i 0,.i 0] 102) fun n1=>
 A9 x0 fun a1=>
 ld (a1.add 4) (.lf .ptr) fun v1=>
 A9 x0 fun a2=>
 ld (a2.add 2) (.lf .ptr) fun v2=>
 nw (.cells #[.i x2.len] 3) fun n2=>
 cl PP 134 #[.q x0,.slice (some ⟨n2,0,none⟩) 1 1] [lI] fun r1=>
 keep (D4 (a2.add 2) [.q v2])<|
 cl PP 133 #[.q v2,.i r1.1] [.lf .bool] fun r2=>
 A9 v1 fun a3=>
 A9 v1 fun a4=>
 A9 v1 fun a5=>
 ld a3 (lI) fun v3=>
 ld (a4.add 2) (lI) fun v4=>
 ld (a5.add 1) (lI) fun v5=>
 nw (.cells #[.i 0,.i 0,.i 0] 102) fun n3=>
 st ⟨n3,0,none⟩ [.i v3,.i v4,.i v5]<|
 A9 x0 fun a6=>
 A9 v1 fun a7=>
 A9 v1 fun a8=>
 A9 v1 fun a9=>
 ld a6 (.lf .ptr) fun v6=>
 ld a7 (lI) fun v7=>
 ld (a8.add 1) (lI) fun v8=>
 ld (a9.add 2) (lI) fun v9=>
 cl PP 135 #[.q v6,.i v7,.i v8,.i v9,.i x1,.sv x2] [lI] fun r3=>
 ifB ((r3.1:Int) !=0) (
 ld ⟨n3,0,none⟩ (.agg [.int .i64,.int .i64,.int .i64]) fun v10=>
 cl PP 136 #[.q x0,.i r3.1] [lI] fun r4=>
 keep (D4 ⟨n3,0,none⟩ [.i v10.1,.i v10.2.1,.i v10.2.2.1])<|
 st ⟨n1,0,none⟩ [.i v10.1,.i v10.2.1,.i v10.2.2.1]<|
 ld ⟨n1,0,none⟩ (.agg [.int .i64,.int .i64,.int .i64]) fun v11=>
 K (.t #[.agg #[.i v11.1,.i v11.2.1,.i v11.2.2.1],.i r4.1])) (
 A9 v1 fun a10=>
 A9 v1 fun a11=>
 ld (a10.add 3) (.lf .sl) fun v12=>
 ld (a11.add 2) (lI) fun v13=>
 nw (.cells #[.i x1,.i v13,.i x2.len] 215) fun n4=>
 smW PP (Builtin.append_ #[152,152] 152 #[.sv v12,.slice (some ⟨n4,0,none⟩) 1 1]) [.lf .sl] fun v14=>
 A9 v1 fun a12=>
 st (a12.add 3) [.slice v14.1.a v14.1.len v14.1.cap]<|
 A9 v1 fun a13=>
 ld (a13.add 2) (lI) fun v15=>
 A9 v1 fun a14=>
 st (a14.add 2) [.i (IntKind.i64.wrap (v15+x2.len))]<|
 ld ⟨n3,0,none⟩ (.agg [.int .i64,.int .i64,.int .i64]) fun v16=>
 st ⟨n1,0,none⟩ [.i v16.1,.i v16.2.1,.i v16.2.2.1]<|
 ld ⟨n1,0,none⟩ (.agg [.int .i64,.int .i64,.int .i64]) fun v17=>
 K (.t #[.agg #[.i v17.1,.i v17.2.1,.i v17.2.2.1],.i 0]))
theorem e64(x0:Option Addr)(x1:Int)(x2:SlV)(K:Value->HP):A8 PP h64 Tryz.f64 [.q x0,.i x1,.sv x2] K=t64 x0 x1 x2 K:=by kernel_rfl
def h65:D5:=⟨[],[],[(5,[0,1,2,3,4,5,6,7])]⟩
def t65(x0:SlV)(x1:Int)(x2:Int)(K:Value->HP):HP:=
 slc ⟨x0.a,x0.len,x0.cap⟩ x1 x2 x0.len 3 fun s1=>
 ifB ((x1:Int)==x2) (
 K (.sv x0)) (
 slc ⟨x0.a,x0.len,x0.cap⟩ 0 x1 x0.cap 3 fun s2=>
 slc ⟨x0.a,x0.len,x0.cap⟩ x2 x0.len x0.cap 3 fun s3=>
 smW PP (Builtin.append_ #[55,55] 55 #[.sv s2,.sv s3]) [.lf .sl] fun v1=>
 slc ⟨v1.1.a,v1.1.len,v1.1.cap⟩ v1.1.len x0.len v1.1.cap 3 fun s4=>
 smW PP (Builtin.clear_ #[55] 0 #[.sv s4]) [] fun v2=>
 K (.sv v1.1))
theorem e65(x0:SlV)(x1:Int)(x2:Int)(K:Value->HP):A8 PP h65 Tryz.f65 [.sv x0,.i x1,.i x2] K=t65 x0 x1 x2 K:=by kernel_rfl
def t67(x0:Option Addr)(K:Value->HP):HP:=
 A9 x0 fun a1=>
 ld a1 (.lf .ptr) fun v1=>
 A9 v1 fun a2=>
 ld (Addr.add (a2.add 19) 2) (.lf .ptr) fun v2=>
 cl PP 68 #[.q v2] [lI] fun r1=>
 K (.i r1.1)
theorem e67(x0:Option Addr)(K:Value->HP):A8 PP Hn Tryz.f67 [.q x0] K=t67 x0 K:=by kernel_rfl
set_option maxRecDepth 100000
def h68:D5:=⟨[(0,[(3,lI),(13,lI)])],[],[]⟩
def t68(x0:Option Addr)(K:Value->HP):HP:=
 ifB (!(Option.isNone x0)) (
 A9 x0 fun a1=>
 ld (a1.add 1) (.lf .sl) fun v1=>
 lp [lI,lI] (0,0,()) fun z1 go1=>
 ifB (decide ((z1.2.1:Int)<v1.len)) (
 A9 v1.a fun a2=>
 ixn z1.2.1 v1.len<|
 ld (a2.add (z1.2.1.toNat*1)) (.lf .sl) fun v2=>
 go1 (IntKind.i64.wrap (z1.1+v2.len),IntKind.i64.wrap (z1.2.1+1),())) (
 K (.i z1.1))) (
 K (.i 0))
theorem e68(x0:Option Addr)(K:Value->HP):A8 PP h68 Tryz.f68 [.q x0] K=t68 x0 K:=by kernel_rfl
def t69(x0:Option Addr)(K:Value->HP):HP:=
 A9 x0 fun a1=>
 ld a1 (.lf .ptr) fun v1=>
 A9 v1 fun a2=>
 ld (a2.add 19) (.lf .ptr) fun v2=>
 cl PP 70 #[.q v2] [lI] fun r1=>
 K (.i r1.1)
theorem e69(x0:Option Addr)(K:Value->HP):A8 PP Hn Tryz.f69 [.q x0] K=t69 x0 K:=by kernel_rfl
def t70(x0:Option Addr)(K:Value->HP):HP:=
 ifB (Option.isNone x0) (
 K (.i 0)) (
 A9 x0 fun a1=>
 ld (a1.add 4) (.lf .map) fun v1=>
 smR PP (Builtin.len_ #[180] 3 #[.map v1]) [lI] fun v2=>
 K (.i v2.1))
theorem e70(x0:Option Addr)(K:Value->HP):A8 PP Hn Tryz.f70 [.q x0] K=t70 x0 K:=by kernel_rfl
def t71(x0:SlV)(K:Value->HP):HP:=
 ifB (Option.isNone x0.a) (
 K (.slice none 0 0)) (
 nw (.cells #[] 102) fun n1=>
 smW PP (Builtin.append_ #[55,55] 55 #[.slice (some ⟨n1,0,none⟩) 0 0,.slice x0.a x0.len x0.cap]) [.lf .sl] fun v1=>
 K (.slice v1.1.a v1.1.len v1.1.cap))
theorem e71(x0:SlV)(K:Value->HP):A8 PP Hn Tryz.f71 [.slice x0.a x0.len x0.cap] K=t71 x0 K:=by kernel_rfl
def t82(x0:Option Addr)(x1:Int)(K:Value->HP):HP:=
 cl PP 45 #[.q x0,.i x1] [.lf .ptr] fun r1=>
 ifB (!(Option.isNone r1.1)) (
 A9 r1.1 fun a1=>
 ld (a1.add 1) (lI) fun v1=>
 K (.i v1)) (
 K (.i 0))
theorem e82(x0:Option Addr)(x1:Int)(K:Value->HP):A8 PP Hn Tryz.f82 [.q x0,.i x1] K=t82 x0 x1 K:=by kernel_rfl
def t90(x0:Int)(x1:Int)(x2:Int)(K:Value->HP):HP:=
 ifB (decide ((x0:Int)≥x1)) (
 K (.b (decide ((x0:Int)<=x2)))) (
 K (.b false))
theorem e90(x0:Int)(x1:Int)(x2:Int)(K:Value->HP):A8 PP Hn Tryz.f90 [.i x0,.i x1,.i x2] K=t90 x0 x1 x2 K:=by kernel_rfl
def h91:D5:=⟨[(0,[(8,lI)])],[],[(3,[0,1,2,4,5,3,6,7,8])]⟩
def t91(x0:Option Addr)(x1:Int)(x2:Int)(K:Value->HP):HP:=
 lp [lI] (0,()) fun z1 go1=>
 ifB (decide ((z1.1:Int)<x1)) (
 A9 x0 fun a1=>
 ld a1 (.lf .sl) fun v1=>
 cl PP 163 #[.i x2] [.lf .sl] fun r1=>
 keep (D4 a1 [.sv v1])<|
 A9 v1.a fun a2=>
 ixn z1.1 v1.len<|
 st (a2.add (z1.1.toNat*1)) [.slice r1.1.a r1.1.len r1.1.cap]<|
 go1 (IntKind.i64.wrap (z1.1+1),())) (
 K (.t #[]))
theorem e91(x0:Option Addr)(x1:Int)(x2:Int)(K:Value->HP):A8 PP h91 Tryz.f91 [.q x0,.i x1,.i x2] K=t91 x0 x1 x2 K:=by kernel_rfl
def t92(x0:Int)(x1:Int)(K:Value->HP):HP:=
 ifB (decide ((x0:Int)<1)) (
 K (.t #[.q none,.i 30])) (
 ifB (decide ((x0:Int)>64)) (
 K (.t #[.q none,.i 30])) (
 ifB (decide ((x1:Int)<1)) (
 K (.t #[.q none,.i 30])) (
 ifB (decide ((x1:Int)>8)) (
 K (.t #[.q none,.i 30])) (
 smA PP (Instr.makeSlice 219 (.i x0) (.i x0)) (.lf .sl) fun v1=>
 nw (.cells #[.i x1,.slice v1.a v1.len v1.cap] 221) fun n1=>
 K (.t #[.q (some ⟨n1,0,none⟩),.i 0])))))
theorem e92(x0:Int)(x1:Int)(K:Value->HP):A8 PP Hn Tryz.f92 [.i x0,.i x1] K=t92 x0 x1 K:=by kernel_rfl
def t93(x0:Option Addr)(K:Value->HP):HP:=
 nw (.cells #[.i 0,.i 0,.i 0,.i 0] 23) fun n1=>
 ifB (Option.isNone x0) (
 st ⟨n1,0,none⟩ [.i 0,.i 0,.i 0,.i 0]<|
 ld ⟨n1,0,none⟩ (.agg [.int .i64,.int .i64,.int .i64,.int .i64]) fun v1=>
 K (.agg #[.i v1.1,.i v1.2.1,.i v1.2.2.1,.i v1.2.2.2.1])) (
 A9 x0 fun a1=>
 ld (a1.add 3) (.agg [.int .i64,.int .i64,.int .i64,.int .i64]) fun v2=>
 st ⟨n1,0,none⟩ [.i v2.1,.i v2.2.1,.i v2.2.2.1,.i v2.2.2.2.1]<|
 ld ⟨n1,0,none⟩ (.agg [.int .i64,.int .i64,.int .i64,.int .i64]) fun v3=>
 K (.agg #[.i v3.1,.i v3.2.1,.i v3.2.2.1,.i v3.2.2.2.1]))
theorem e93(x0:Option Addr)(K:Value->HP):A8 PP Hn Tryz.f93 [.q x0] K=t93 x0 K:=by kernel_rfl
def h94:D5:=⟨[],[],[(3,[0,1,2,3,4,5,6,10,11,7,8,9,12,13,14,15,16])]⟩
def t94(x0:ShV (.agg [.int .i64,.int .i64,.int .i64,.int .i64,.int .i64,.int .i64,.int .i64,.int .i64,.int .i64,.int .i64,.int .i64]))(K:Value->HP):HP:=
 nw (.cells #[.i x0.1,.i x0.2.1,.i x0.2.2.1,.i x0.2.2.2.1,.i x0.2.2.2.2.1,.i x0.2.2.2.2.2.1,.i x0.2.2.2.2.2.2.1,.i x0.2.2.2.2.2.2.2.1,.i x0.2.2.2.2.2.2.2.2.1,.i x0.2.2.2.2.2.2.2.2.2.1,.i x0.2.2.2.2.2.2.2.2.2.2.1] 25) fun n1=>
 ld (Addr.add ⟨n1,0,none⟩ 6) (lI) fun v1=>
 cl PP 164 #[.i v1,.i 65536] [.lf .bool] fun r1=>
 ifB r1.1 (
 ld (Addr.add ⟨n1,0,none⟩ 7) (lI) fun v2=>
 cl PP 164 #[.i v2,.i 64] [.lf .bool] fun r2=>
 ld (Addr.add ⟨n1,0,none⟩ 8) (lI) fun v3=>
 cl PP 164 #[.i v3,.i 1048576] [.lf .bool] fun r3=>
 ifB r3.1 (
 ld (Addr.add ⟨n1,0,none⟩ 9) (lI) fun v4=>
 cl PP 164 #[.i v4,.i 1073741824] [.lf .bool] fun r4=>
 ifB r2.1 (
 ifB r4.1 (
 ld (Addr.add ⟨n1,0,none⟩ 1) (lI) fun v5=>
 ld (Addr.add ⟨n1,0,none⟩ 2) (lI) fun v6=>
 cl PP 62 #[.i v6] [lI] fun r5=>
 keep (D4 (Addr.add ⟨n1,0,none⟩ 1) [.i v5])<|
 K (.b (decide ((IntKind.i64.wrap (3*(IntKind.i64.wrap (v5-2))):Int)<=r5.1)))) (
 K (.b false))) (
 K (.b false))) (
 ifB r2.1 (
 K (.b false)) (
 K (.b false)))) (
 ld (Addr.add ⟨n1,0,none⟩ 8) (lI) fun v7=>
 cl PP 164 #[.i v7,.i 1048576] [.lf .bool] fun r6=>
 ifB r6.1 (
 ld (Addr.add ⟨n1,0,none⟩ 9) (lI) fun v8=>
 cl PP 164 #[.i v8,.i 1073741824] [.lf .bool] fun r7=>
 K (.b false)) (
 K (.b false)))
theorem e94(x0:ShV (.agg [.int .i64,.int .i64,.int .i64,.int .i64,.int .i64,.int .i64,.int .i64,.int .i64,.int .i64,.int .i64,.int .i64]))(K:Value->HP):A8 PP h94 Tryz.f94 [.agg #[.i x0.1,.i x0.2.1,.i x0.2.2.1,.i x0.2.2.2.1,.i x0.2.2.2.2.1,.i x0.2.2.2.2.2.1,.i x0.2.2.2.2.2.2.1,.i x0.2.2.2.2.2.2.2.1,.i x0.2.2.2.2.2.2.2.2.1,.i x0.2.2.2.2.2.2.2.2.2.1,.i x0.2.2.2.2.2.2.2.2.2.2.1]] K=t94 x0 K:=by kernel_rfl
def h95:D5:=⟨[(1,[(41,lI)]),(3,[(62,lI)]),(5,[(78,lI)])],[],[]⟩
def t95(x0:Option Addr)(K:Value->HP):HP:=
 nw (.cells #[.q x0] 29) fun n1=>
 nw (.cells #[.slice none 0 0,.slice none 0 0,.i 0] 146) fun n2=>
 ld ⟨n1,0,none⟩ (.lf .ptr) fun v1=>
 ifB (Option.isNone v1) (
 st ⟨n2,0,none⟩ [.slice none 0 0,.slice none 0 0,.i 0]<|
 ld ⟨n2,0,none⟩ (.agg [.sl,.sl,.int .i64]) fun v2=>
 K (.t #[.agg #[.sv v2.1,.sv v2.2.1,.i v2.2.2.1],.i 1])) (
 ld ⟨n1,0,none⟩ (.lf .ptr) fun v3=>
 cl PP 18 #[.q v3] [.lf .bool] fun r1=>
 ifB r1.1 (
 st ⟨n2,0,none⟩ [.slice none 0 0,.slice none 0 0,.i 0]<|
 ld ⟨n2,0,none⟩ (.agg [.sl,.sl,.int .i64]) fun v4=>
 K (.t #[.agg #[.sv v4.1,.sv v4.2.1,.i v4.2.2.1],.i 11])) (
 ld ⟨n1,0,none⟩ (.lf .ptr) fun v5=>
 cl PP 165 #[.q v5] [.lf .sl,.lf .sl,lI] fun r2=>
 nw (.cells #[.slice none 0 0] 243) fun n3=>
 st ⟨n3,0,none⟩ [.slice r2.2.1.a r2.2.1.len r2.2.1.cap]<|
 ifB ((r2.2.2.1:Int) !=0) (
 st ⟨n2,0,none⟩ [.slice none 0 0,.slice none 0 0,.i 0]<|
 ld ⟨n2,0,none⟩ (.agg [.sl,.sl,.int .i64]) fun v6=>
 K (.t #[.agg #[.sv v6.1,.sv v6.2.1,.i v6.2.2.1],.i r2.2.2.1])) (
 nw (.cells #[.slice none 0 0,.slice none 0 0,.i 0] 146) fun n4=>
 st ⟨n4,0,none⟩ [.slice r2.1.a r2.1.len r2.1.cap,.slice none 0 0,.i 0]<|
 lp [lI] (0,()) fun z1 go1=>
 ifB (decide ((z1.1:Int)<r2.1.len)) (
 A9 r2.1.a fun a1=>
 ixn z1.1 r2.1.len<|
 ld (a1.add (z1.1.toNat*3)) (.agg [.int .i64,.int .i64,.sl]) fun v7=>
 nw (.cells #[.i 0,.i 0,.slice none 0 0] 154) fun n5=>
 st ⟨n5,0,none⟩ [.i v7.1,.i v7.2.1,.slice v7.2.2.1.a v7.2.2.1.len v7.2.2.1.cap]<|
 ld (Addr.add ⟨n4,0,none⟩ 2) (lI) fun v8=>
 ld (Addr.add ⟨n5,0,none⟩ 1) (lI) fun v9=>
 st (Addr.add ⟨n4,0,none⟩ 2) [.i (Z6 v8 v9)]<|
 go1 (IntKind.i64.wrap (z1.1+1),())) (
 nw (.cells #[.slice none 0 0] 144) fun n6=>
 nw (.map #[] 0) fun n7=>
 nw (.cells #[.map none] 246) fun n8=>
 st ⟨n8,0,none⟩ [.map (some n7)]<|
 cl PP 166 #[.sv r2.1,.i 2,.func (.func 167) #[] #[.q (some ⟨n1,0,none⟩),.q (some ⟨n6,0,none⟩),.q (some ⟨n8,0,none⟩)]] [] fun r3=>
 nw (.map #[] 0) fun n9=>
 nw (.cells #[.map none] 249) fun n10=>
 st ⟨n10,0,none⟩ [.map (some n9)]<|
 cl PP 166 #[.sv r2.1,.i 3,.func (.func 168) #[] #[.q (some ⟨n3,0,none⟩),.q (some ⟨n10,0,none⟩)]] [] fun r4=>
 ld ⟨n6,0,none⟩ (.lf .sl) fun v10=>
 lp [lI] (0,()) fun z2 go2=>
 ifB (decide ((z2.1:Int)<v10.len)) (
 A9 v10.a fun a2=>
 ixn z2.1 v10.len<|
 ld (a2.add (z2.1.toNat*4)) (.agg [.str,.int .i64,.int .i64,.int .i64]) fun v11=>
 nw (.cells #[.w ByteArray.empty,.i 0,.i 0,.i 0] 162) fun n11=>
 st ⟨n11,0,none⟩ [.w v11.1,.i v11.2.1,.i v11.2.2.1,.i v11.2.2.2.1]<|
 ld ⟨n10,0,none⟩ (.lf .map) fun v12=>
 ld ⟨n8,0,none⟩ (.lf .map) fun v13=>
 ld ⟨n11,0,none⟩ (.lf .str) fun v14=>
 smR PP (Instr.lookup 246 (.map v13) (.w v14) false) [.agg [.int .i64,.int .i64,.int .i64]] fun v15=>
 smR PP (Instr.lookup 249 (.map v12) (.agg #[.i v15.1.1,.i v15.1.2.1,.i v15.1.2.2.1]) false) [.lf .bool] fun v16=>
 ifB v16.1 (
 ld ⟨n8,0,none⟩ (.lf .map) fun v17=>
 ld ⟨n11,0,none⟩ (.lf .str) fun v18=>
 smW PP (Builtin.delete_ #[246,9] 0 #[.map v17,.w v18]) [] fun v19=>
 go2 (IntKind.i64.wrap (z2.1+1),())) (
 go2 (IntKind.i64.wrap (z2.1+1),()))) (
 ld ⟨n6,0,none⟩ (.lf .sl) fun v20=>
 lp [lI] (0,()) fun z3 go3=>
 ifB (decide ((z3.1:Int)<v20.len)) (
 A9 v20.a fun a3=>
 ixn z3.1 v20.len<|
 ld (a3.add (z3.1.toNat*4)) (.agg [.str,.int .i64,.int .i64,.int .i64]) fun v21=>
 nw (.cells #[.w ByteArray.empty,.i 0,.i 0,.i 0] 162) fun n12=>
 st ⟨n12,0,none⟩ [.w v21.1,.i v21.2.1,.i v21.2.2.1,.i v21.2.2.2.1]<|
 ld ⟨n8,0,none⟩ (.lf .map) fun v22=>
 ld ⟨n12,0,none⟩ (.lf .str) fun v23=>
 smR PP (Instr.lookup 246 (.map v22) (.w v23) true) [.agg [.int .i64,.int .i64,.int .i64],.lf .bool] fun v24=>
 nw (.cells #[.i 0,.i 0,.i 0] 102) fun n13=>
 st ⟨n13,0,none⟩ [.i v24.1.1,.i v24.1.2.1,.i v24.1.2.2.1]<|
 ifB v24.2.1 (
 ld ⟨n13,0,none⟩ (.agg [.int .i64,.int .i64,.int .i64]) fun v25=>
 ld (Addr.add ⟨n12,0,none⟩ 1) (.agg [.int .i64,.int .i64,.int .i64]) fun v26=>
 smP PP (binOp .eql 102 (.agg #[.i v25.1,.i v25.2.1,.i v25.2.2.1]) (.agg #[.i v26.1,.i v26.2.1,.i v26.2.2.1])) (.lf .bool) fun v27=>
 ifB v27 (
 ld (Addr.add ⟨n4,0,none⟩ 1) (.lf .sl) fun v28=>
 ld ⟨n12,0,none⟩ (.agg [.str,.int .i64,.int .i64,.int .i64]) fun v29=>
 nw (.cells #[.w v29.1,.i v29.2.1,.i v29.2.2.1,.i v29.2.2.2.1] 162) fun n14=>
 smW PP (Builtin.append_ #[144,144] 144 #[.sv v28,.slice (some ⟨n14,0,none⟩) 1 1]) [.lf .sl] fun v30=>
 st (Addr.add ⟨n4,0,none⟩ 1) [.slice v30.1.a v30.1.len v30.1.cap]<|
 go3 (IntKind.i64.wrap (z3.1+1),())) (
 go3 (IntKind.i64.wrap (z3.1+1),()))) (
 go3 (IntKind.i64.wrap (z3.1+1),()))) (
 ld ⟨n4,0,none⟩ (.agg [.sl,.sl,.int .i64]) fun v31=>
 st ⟨n2,0,none⟩ [.slice v31.1.a v31.1.len v31.1.cap,.slice v31.2.1.a v31.2.1.len v31.2.1.cap,.i v31.2.2.1]<|
 ld ⟨n2,0,none⟩ (.agg [.sl,.sl,.int .i64]) fun v32=>
 K (.t #[.agg #[.sv v32.1,.sv v32.2.1,.i v32.2.2.1],.i 0])))))))
theorem e95(x0:Option Addr)(K:Value->HP):A8 PP h95 Tryz.f95 [.q x0] K=t95 x0 K:=by kernel_rfl
def t96(x0:Int)(x1:Int)(x2:Int)(x3:Int)(K:Value->HP):HP:=
 nw (.cells #[.i 1048576] 3) fun n1=>
 cl PP 123 #[.i x0,.slice (some ⟨n1,0,none⟩) 1 1] [lI] fun r1=>
 nw (.cells #[.i 253402300799] 3) fun n2=>
 cl PP 123 #[.i x2,.slice (some ⟨n2,0,none⟩) 1 1] [lI] fun r2=>
 nw (.cells #[.i 1073741824] 3) fun n3=>
 cl PP 123 #[.i x1,.slice (some ⟨n3,0,none⟩) 1 1] [lI] fun r3=>
 nw (.cells #[.i r1.1,.i r2.1,.i r3.1,.i 0] 171) fun n4=>
 ld (Addr.add ⟨n4,0,none⟩ 2) (lI) fun v1=>
 nw (.cells #[.i v1] 3) fun n5=>
 cl PP 123 #[.i x3,.slice (some ⟨n5,0,none⟩) 1 1] [lI] fun r4=>
 st (Addr.add ⟨n4,0,none⟩ 3) [.i r4.1]<|
 K (.q (some ⟨n4,0,none⟩))
theorem e96(x0:Int)(x1:Int)(x2:Int)(x3:Int)(K:Value->HP):A8 PP Hn Tryz.f96 [.i x0,.i x1,.i x2,.i x3] K=t96 x0 x1 x2 x3 K:=by kernel_rfl
def t97(x0:Int)(K:Value->HP):HP:=
 nw (.map #[] 0) fun n1=>
 nw (.cells #[.i (Z6 x0 0),.i 0,.q none,.q none,.map (some n1)] 182) fun n2=>
 K (.q (some ⟨n2,0,none⟩))
theorem e97(x0:Int)(K:Value->HP):A8 PP Hn Tryz.f97 [.i x0] K=t97 x0 K:=by kernel_rfl
def t98(x0:Int)(K:Value->HP):HP:=
 nw (.cells #[.i (Ab3 (Z6 x0 0) 64),.int .u64 0,.int .u64 0,.int .u64 0,.int .u64 0,.int .u64 0,.int .u64 0,.int .u64 0,.int .u64 0,.int .u64 0,.int .u64 0,.int .u64 0,.int .u64 0,.int .u64 0,.int .u64 0,.int .u64 0,.int .u64 0,.int .u64 0,.int .u64 0,.int .u64 0,.int .u64 0,.int .u64 0,.int .u64 0,.int .u64 0,.int .u64 0,.int .u64 0,.int .u64 0,.int .u64 0,.int .u64 0,.int .u64 0,.int .u64 0,.int .u64 0,.int .u64 0,.int .u64 0,.int .u64 0,.int .u64 0,.int .u64 0,.int .u64 0,.int .u64 0,.int .u64 0,.int .u64 0,.int .u64 0,.int .u64 0,.int .u64 0,.int .u64 0,.int .u64 0,.int .u64 0,.int .u64 0,.int .u64 0,.int .u64 0,.int .u64 0,.int .u64 0,.int .u64 0,.int .u64 0,.int .u64 0,.int .u64 0,.int .u64 0,.int .u64 0,.int .u64 0,.int .u64 0,.int .u64 0,.int .u64 0,.int .u64 0,.int .u64 0,.int .u64 0,.i 0,.i 0] 256) fun n1=>
 K (.q (some ⟨n1,0,none⟩))
theorem e98(x0:Int)(K:Value->HP):A8 PP Hn Tryz.f98 [.i x0] K=t98 x0 K:=by kernel_rfl
def h99:D5:=⟨[(0,[(25,lI)]),(2,[(40,lI)])],[],[]⟩
def t99(x0:SlV)(x1:SlV)(K:Value->HP):HP:=
 ifB (decide ((x0.len:Int)<1)) (
 K (.t #[.q none,.i 2])) (
 ifB (decide ((x0.len:Int)>16)) (
 K (.t #[.q none,.i 2])) (
 cl PP 171 #[.sv x0] [.lf .sl] fun r1=>
 nw (.cells #[.slice r1.1.a r1.1.len r1.1.cap,.slice none 0 0] 259) fun n1=>
 lp [lI] (0,()) fun z1 go1=>
 ifB (decide ((z1.1:Int)<x0.len)) (
 A9 x0.a fun a1=>
 ixn z1.1 x0.len<|
 ld (a1.add (z1.1.toNat*3)) (.agg [.int .i64,.bool,.bool]) fun v1=>
 nw (.cells #[.i 0,.b false,.b false] 194) fun n2=>
 st ⟨n2,0,none⟩ [.i v1.1,.b v1.2.1,.b v1.2.2.1]<|
 ld ⟨n2,0,none⟩ (lI) fun v2=>
 ifB (decide ((v2:Int)<0)) (
 K (.t #[.q none,.i 2])) (
 ld ⟨n2,0,none⟩ (lI) fun v3=>
 ifB (decide ((v3:Int)>1048576)) (
 K (.t #[.q none,.i 2])) (
 go1 (IntKind.i64.wrap (z1.1+1),())))) (
 lp [lI] (0,()) fun z2 go2=>
 ifB (decide ((z2.1:Int)<x1.len)) (
 A9 x1.a fun a2=>
 ixn z2.1 x1.len<|
 ld (a2.add (z2.1.toNat*1)) (lI) fun v4=>
 cl PP 172 #[.q (some ⟨n1,0,none⟩),.i v4] [.lf .bool] fun r2=>
 ifB (!r2.1) (
 K (.t #[.q none,.i 2])) (
 ld ⟨n1,0,none⟩ (.lf .sl) fun v5=>
 A9 v5.a fun a3=>
 ixn v4 v5.len<|
 st (Addr.add (a3.add (v4.toNat*3)) 2) [.b false]<|
 ld (Addr.add ⟨n1,0,none⟩ 1) (.lf .sl) fun v6=>
 nw (.cells #[.i v4] 3) fun n3=>
 smW PP (Builtin.append_ #[49,49] 49 #[.sv v6,.slice (some ⟨n3,0,none⟩) 1 1]) [.lf .sl] fun v7=>
 st (Addr.add ⟨n1,0,none⟩ 1) [.slice v7.1.a v7.1.len v7.1.cap]<|
 go2 (IntKind.i64.wrap (z2.1+1),()))) (
 K (.t #[.q (some ⟨n1,0,none⟩),.i 0])))))
theorem e99(x0:SlV)(x1:SlV)(K:Value->HP):A8 PP h99 Tryz.f99 [.sv x0,.sv x1] K=t99 x0 x1 K:=by kernel_rfl
def h100:D5:=⟨[(0,[(3,.lf .sl),(8,lI)])],[],[]⟩
def t100(x0:Option Addr)(K:Value->HP):HP:=
 cl PP 93 #[.q x0] [.agg [.int .i64,.int .i64,.int .i64,.int .i64]] fun r1=>
 lp [.lf .sl,lI] (⟨none,0,0⟩,0,()) fun z1 go1=>
 ifB (decide ((z1.2.1:Int)<r1.1.1)) (
 cl PP 16 #[.q x0,.i z1.2.1] [lI] fun r2=>
 cl PP 15 #[.q x0,.i z1.2.1] [.lf .bool] fun r3=>
 cl PP 82 #[.q x0,.i z1.2.1] [lI] fun r4=>
 nw (.cells #[.i r2.1,.b r3.1,.b ((r4.1:Int) !=0)] 194) fun n1=>
 smW PP (Builtin.append_ #[159,159] 159 #[.sv z1.1,.slice (some ⟨n1,0,none⟩) 1 1]) [.lf .sl] fun v1=>
 go1 (⟨v1.1.a,v1.1.len,v1.1.cap⟩,IntKind.i64.wrap (z1.2.1+1),())) (
 K (.sv z1.1))
theorem e100(x0:Option Addr)(K:Value->HP):A8 PP h100 Tryz.f100 [.q x0] K=t100 x0 K:=by kernel_rfl
def h101:D5:=⟨[],[],[(3,[0,1,2,3,4,5,6,7,8,9,10,11,12]),(1,[0,1,2,3,5,6,4,8,7,9,10,11,12,13,14,15])]⟩
def t101(x0:Option Addr)(x1:ByteArray)(x2:ShV (.agg [.int .i64,.int .i64,.int .i64]))(K:Value->HP):HP:=
 nw (.cells #[.i x2.1,.i x2.2.1,.i x2.2.2.1] 102) fun n1=>
 A9 x0 fun a1=>
 ld (Addr.add (a1.add 19) 2) (.lf .ptr) fun v1=>
 ld ⟨n1,0,none⟩ (.agg [.int .i64,.int .i64,.int .i64]) fun v2=>
 cl PP 41 #[.q x0,.w x1] [.lf (.int .u64)] fun r1=>
 keep (D4 ⟨n1,0,none⟩ [.i v2.1,.i v2.2.1,.i v2.2.2.1])<|
 keep (D4 (Addr.add (a1.add 19) 2) [.q v1])<|
 cl PP 173 #[.q v1,.int .u64 r1.1,.agg #[.i v2.1,.i v2.2.1,.i v2.2.2.1]] [.agg [.int .i64,.int .i64,.int .i64],.lf .bool] fun r2=>
 nw (.cells #[.i 0,.i 0,.i 0] 102) fun n2=>
 st ⟨n2,0,none⟩ [.i r2.1.1,.i r2.1.2.1,.i r2.1.2.2.1]<|
 ifB r2.2.1 (
 A9 x0 fun a2=>
 ld (Addr.add (a2.add 11) 6) (.lf .sl) fun v3=>
 ld ⟨n2,0,none⟩ (.agg [.int .i64,.int .i64,.int .i64]) fun v4=>
 nw (.cells #[.i v4.1,.i v4.2.1,.i v4.2.2.1] 102) fun n3=>
 smW PP (Builtin.append_ #[55,55] 55 #[.sv v3,.slice (some ⟨n3,0,none⟩) 1 1]) [.lf .sl] fun v5=>
 A9 x0 fun a3=>
 st (Addr.add (a3.add 11) 6) [.slice v5.1.a v5.1.len v5.1.cap]<|
 K (.t #[])) (
 K (.t #[]))
theorem e101(x0:Option Addr)(x1:ByteArray)(x2:ShV (.agg [.int .i64,.int .i64,.int .i64]))(K:Value->HP):A8 PP h101 Tryz.f101 [.q x0,.w x1,.agg #[.i x2.1,.i x2.2.1,.i x2.2.2.1]] K=t101 x0 x1 x2 K:=by kernel_rfl
def h102:D5:=⟨[(0,[(9,lI)])],[],[]⟩
def t102(x0:SlV)(x1:Int)(K:Value->HP):HP:=
 lp [lI] (0,()) fun z1 go1=>
 ifB (decide ((z1.1:Int)<x0.len)) (
 A9 x0.a fun a1=>
 ixn z1.1 x0.len<|
 ld (a1.add (z1.1.toNat*1)) (.lf (.int .u64)) fun v1=>
 ifB ((x1:Int)==v1) (
 K (.i z1.1)) (
 go1 (IntKind.i64.wrap (z1.1+1),()))) (
 K (.i (-1)))
theorem e102(x0:SlV)(x1:Int)(K:Value->HP):A8 PP h102 Tryz.f102 [.sv x0,.int .u64 x1] K=t102 x0 x1 K:=by kernel_rfl
def h103:D5:=⟨[(0,[(3,.lf .sl),(9,lI)])],[],[(5,[0,1,2,3,4,6,9,10,5,7,8,11,12,13,14,15])]⟩
def t103(x0:Option Addr)(K:Value->HP):HP:=
 A9 x0 fun a1=>
 ld (a1.add 66) (lI) fun v1=>
 lp [.lf .sl,lI] (⟨none,0,0⟩,0,()) fun z1 go1=>
 ifB (decide ((z1.2.1:Int)<v1)) (
 A9 x0 fun a2=>
 A9 x0 fun a3=>
 ld (a2.add 65) (lI) fun v2=>
 req ((64:Int)≠0)<|
 ixn (Int.tmod (IntKind.i64.wrap (v2+z1.2.1)) 64) 64<|
 ld (Addr.add (a3.add 1) ((Int.tmod (IntKind.i64.wrap (v2+z1.2.1)) 64).toNat*1)) (.lf (.int .u64)) fun v3=>
 nw (.cells #[.int .u64 v3] 91) fun n1=>
 smW PP (Builtin.append_ #[165,165] 165 #[.sv z1.1,.slice (some ⟨n1,0,none⟩) 1 1]) [.lf .sl] fun v4=>
 go1 (⟨v4.1.a,v4.1.len,v4.1.cap⟩,IntKind.i64.wrap (z1.2.1+1),())) (
 K (.sv z1.1))
theorem e103(x0:Option Addr)(K:Value->HP):A8 PP h103 Tryz.f103 [.q x0] K=t103 x0 K:=by kernel_rfl
def t104(x0:Int)(x1:ByteArray)(K:Value->HP):HP:=
 smA PP (Conv.stringToBytes 5 x1) (.lf .sl) fun v1=>
 cl PP 174 #[.int .u64 (Ak8 .xor .u64 (IntKind.u64.wrap x0) 11400714819323198485),.sv v1] [.lf (.int .u64)] fun r1=>
 req ((0:Int)<=32)<|
 K (.int .u64 (Ak8 .xor .u64 (IntKind.u64.wrap ((Ak8 .xor .u64 r1.1 (IntKind.u64.wrap x1.size))*11400714819323198485)) (Int.fdiv (IntKind.u64.wrap ((Ak8 .xor .u64 r1.1 (IntKind.u64.wrap x1.size))*11400714819323198485)) (2^(min (32:Int).toNat IntKind.u64.bits)))))
theorem e104(x0:Int)(x1:ByteArray)(K:Value->HP):A8 PP Hn Tryz.f104 [.i x0,.w x1] K=t104 x0 x1 K:=by kernel_rfl
def t105(x0:Option Addr)(x1:ByteArray)(K:Value->HP):HP:=
 cl PP 116 #[.q x0,.w x1] [.lf .ptr] fun r1=>
 ifB (Option.isNone r1.1) (
 K (.b false)) (
 cl PP 175 #[.q x0,.q r1.1] [] fun r2=>
 K (.b true))
theorem e105(x0:Option Addr)(x1:ByteArray)(K:Value->HP):A8 PP Hn Tryz.f105 [.q x0,.w x1] K=t105 x0 x1 K:=by kernel_rfl
def t106(x0:Option Addr)(x1:Int)(x2:ShV (.agg [.int .i64,.int .i64,.int .i64]))(K:Value->HP):HP:=
 nw (.cells #[.i x2.1,.i x2.2.1,.i x2.2.2.1] 102) fun n1=>
 ld ⟨n1,0,none⟩ (.agg [.int .i64,.int .i64,.int .i64]) fun v1=>
 cl PP 176 #[.q x0,.int .u64 x1,.agg #[.i v1.1,.i v1.2.1,.i v1.2.2.1]] [.agg [.int .i64,.int .i64,.int .i64,.int .i64,.int .i64],.lf .bool] fun r1=>
 nw (.cells #[.i 0,.i 0,.i 0,.i 0,.i 0] 204) fun n2=>
 st ⟨n2,0,none⟩ [.i r1.1.1,.i r1.1.2.1,.i r1.1.2.2.1,.i r1.1.2.2.2.1,.i r1.1.2.2.2.2.1]<|
 K (.b r1.2.1)
theorem e106(x0:Option Addr)(x1:Int)(x2:ShV (.agg [.int .i64,.int .i64,.int .i64]))(K:Value->HP):A8 PP Hn Tryz.f106 [.q x0,.int .u64 x1,.agg #[.i x2.1,.i x2.2.1,.i x2.2.2.1]] K=t106 x0 x1 x2 K:=by kernel_rfl
def t107(x0:Int)(K:Value->HP):HP:=
 ifB (decide ((x0:Int)≥1)) (
 K (.b (decide ((x0:Int)<=255)))) (
 K (.b false))
theorem e107(x0:Int)(K:Value->HP):A8 PP Hn Tryz.f107 [.i x0] K=t107 x0 K:=by kernel_rfl
def h108:D5:=⟨[(0,[(14,lI)])],[],[]⟩
def t108(x0:Int)(x1:Int)(K:Value->HP):HP:=
 ifB (decide ((x0:Int)<1)) (
 K (.i 0)) (
 ifB (decide ((x1:Int)<2)) (
 K (.i 0)) (
 ld ⟨0,0,none⟩ (.agg [.int .i64,.int .i64,.int .i64,.int .i64]) fun v1=>
 lp [lI] (0,()) fun z1 go1=>
 ifB (decide ((z1.1:Int)<4)) (
 smP PP (Instr.index 266 (.agg #[.i v1.1,.i v1.2.1,.i v1.2.2.1,.i v1.2.2.2.1]) (.i z1.1)) (lI) fun v2=>
 ifB (decide ((v2:Int)≥x0)) (
 ifB (decide ((v2:Int)<=(IntKind.i64.wrap (x1-2)))) (
 K (.i v2)) (
 go1 (IntKind.i64.wrap (z1.1+1),()))) (
 go1 (IntKind.i64.wrap (z1.1+1),()))) (
 K (.i 0))))
theorem e108(x0:Int)(x1:Int)(K:Value->HP):A8 PP h108 Tryz.f108 [.i x0,.i x1] K=t108 x0 x1 K:=by kernel_rfl
def t109(x0:Option Addr)(x1:SlV)(K:Value->HP):HP:=
 A9 x0 fun a1=>
 slc ⟨some (a1.add 1),64,64⟩ 0 64 64 1 fun s1=>
 smW PP (Builtin.copy_ #[165,165] 3 #[.sv s1,.sv x1]) [lI] fun v1=>
 A9 x0 fun a2=>
 st (a2.add 65) [.i 0]<|
 A9 x0 fun a3=>
 st (a3.add 66) [.i v1.1]<|
 K (.t #[])
theorem e109(x0:Option Addr)(x1:SlV)(K:Value->HP):A8 PP Hn Tryz.f109 [.q x0,.sv x1] K=t109 x0 x1 K:=by kernel_rfl
def h110:D5:=⟨[],[],[(5,[0,1,2,3,4,5,6,7])]⟩
def t110(x0:SlV)(x1:Int)(x2:Int)(K:Value->HP):HP:=
 slc ⟨x0.a,x0.len,x0.cap⟩ x1 x2 x0.len 1 fun s1=>
 ifB ((x1:Int)==x2) (
 K (.sv x0)) (
 slc ⟨x0.a,x0.len,x0.cap⟩ 0 x1 x0.cap 1 fun s2=>
 slc ⟨x0.a,x0.len,x0.cap⟩ x2 x0.len x0.cap 1 fun s3=>
 smW PP (Builtin.append_ #[165,165] 165 #[.sv s2,.sv s3]) [.lf .sl] fun v1=>
 slc ⟨v1.1.a,v1.1.len,v1.1.cap⟩ v1.1.len x0.len v1.1.cap 1 fun s4=>
 smW PP (Builtin.clear_ #[165] 0 #[.sv s4]) [] fun v2=>
 K (.sv v1.1))
theorem e110(x0:SlV)(x1:Int)(x2:Int)(K:Value->HP):A8 PP h110 Tryz.f110 [.sv x0,.i x1,.i x2] K=t110 x0 x1 x2 K:=by kernel_rfl
def h111:D5:=⟨[(1,[(13,.lf .sl),(14,.lf .sl),(56,lI)])],[],[]⟩
def t111(x0:ByteArray)(x1:SlV)(x2:ShV (.agg [.int .i64,.int .i64,.int .i64,.int .i64]))(K:Value->HP):HP:=
 nw (.cells #[.i x2.1,.i x2.2.1,.i x2.2.2.1,.i x2.2.2.2.1] 23) fun n1=>
 cl PP 107 #[.i x0.size] [.lf .bool] fun r1=>
 ifB (!r1.1) (
 K (.t #[.slice none 0 0,.i 2])) (
 ifB (decide ((x1.len:Int)>65536)) (
 K (.t #[.slice none 0 0,.i 4])) (
 ld ⟨n1,0,none⟩ (.agg [.int .i64,.int .i64,.int .i64,.int .i64]) fun v1=>
 cl PP 47 #[.i x0.size,.i x1.len,.agg #[.i v1.1,.i v1.2.1,.i v1.2.2.1,.i v1.2.2.2.1]] [lI] fun r2=>
 ifB ((r2.1:Int)==0) (
 K (.t #[.slice none 0 0,.i 14])) (
 cl PP 177 #[.slice none 0 0,.w x0] [.lf .sl,lI] fun r3=>
 smR PP (Conv.bytesToString (.sv x1)) [.lf .str] fun v2=>
 cl PP 177 #[.slice none 0 0,.w v2.1] [.lf .sl,lI] fun r4=>
 nw (.cells #[.slice r3.1.a r3.1.len r3.1.cap,.slice r4.1.a r4.1.len r4.1.cap] 27) fun n2=>
 cl PP 178 #[.slice (some ⟨n2,0,none⟩) 2 2] [.lf .sl] fun r5=>
 cl PP 179 #[.sv r5.1] [lI] fun r6=>
 cl PP 132 #[.sv r5.1,.i r6.1,.i 4] [.lf .sl,lI] fun r7=>
 lp [.lf .sl,.lf .sl,lI] (⟨r7.1.a,r7.1.len,r7.1.cap⟩,⟨none,0,0⟩,0,()) fun z1 go1=>
 ifB (decide ((z1.2.2.1:Int)<r2.1)) (
 ld (Addr.add ⟨n1,0,none⟩ 2) (lI) fun v3=>
 cl PP 62 #[.i v3] [lI] fun r8=>
 slc ⟨z1.1.a,z1.1.len,z1.1.cap⟩ 0 (Ab3 z1.1.len r8.1) z1.1.cap 1 fun s1=>
 nw (.cells #[.slice s1.a s1.len s1.cap] 27) fun n3=>
 cl PP 178 #[.slice (some ⟨n3,0,none⟩) 1 1] [.lf .sl] fun r9=>
 nw (.cells #[.slice r9.1.a r9.1.len r9.1.cap] 27) fun n4=>
 smW PP (Builtin.append_ #[96,96] 96 #[.sv z1.2.1,.slice (some ⟨n4,0,none⟩) 1 1]) [.lf .sl] fun v4=>
 slc ⟨z1.1.a,z1.1.len,z1.1.cap⟩ (Ab3 z1.1.len r8.1) z1.1.len z1.1.cap 1 fun s2=>
 go1 (⟨s2.a,s2.len,s2.cap⟩,⟨v4.1.a,v4.1.len,v4.1.cap⟩,IntKind.i64.wrap (z1.2.2.1+1),())) (
 K (.t #[.sv z1.2.1,.i 0])))))
theorem e111(x0:ByteArray)(x1:SlV)(x2:ShV (.agg [.int .i64,.int .i64,.int .i64,.int .i64]))(K:Value->HP):A8 PP h111 Tryz.f111 [.w x0,.sv x1,.agg #[.i x2.1,.i x2.2.1,.i x2.2.2.1,.i x2.2.2.2.1]] K=t111 x0 x1 x2 K:=by kernel_rfl
def h112:D5:=⟨[],[],[(1,[0,1,2,3,6,7,8,9,4,5,10,11,12,13])]⟩
def t112(x0:Option Addr)(K:Value->HP):HP:=
 A9 x0 fun a1=>
 A9 x0 fun a2=>
 ld a1 (.lf .str) fun v1=>
 ld (a2.add 1) (.lf .sl) fun v2=>
 K (.i (IntKind.i64.wrap (v1.size+v2.len)))
theorem e112(x0:Option Addr)(K:Value->HP):A8 PP h112 Tryz.f112 [.q x0] K=t112 x0 K:=by kernel_rfl
def h113:D5:=⟨[],[],[(1,[0,1,2,3,4,5,7,8,9,6,10,11,12,13])]⟩
def t113(x0:Option Addr)(K:Value->HP):HP:=
 ifB (!(Option.isNone x0)) (
 A9 x0 fun a1=>
 A9 x0 fun a2=>
 ld (a1.add 1) (lI) fun v1=>
 ld a2 (lI) fun v2=>
 K (.b (decide ((v1:Int)>v2)))) (
 K (.b false))
theorem e113(x0:Option Addr)(K:Value->HP):A8 PP h113 Tryz.f113 [.q x0] K=t113 x0 K:=by kernel_rfl
def t114(x0:Option Addr)(K:Value->HP):HP:=
 nw (.cells #[.w ByteArray.empty,.slice none 0 0,.i 0] 179) fun n1=>
 ifB (Option.isNone x0) (
 st ⟨n1,0,none⟩ [.w ByteArray.empty,.slice none 0 0,.i 0]<|
 ld ⟨n1,0,none⟩ (.agg [.str,.sl,.int .i64]) fun v1=>
 K (.t #[.agg #[.w v1.1,.sv v1.2.1,.i v1.2.2.1],.b false])) (
 A9 x0 fun a1=>
 ld (a1.add 2) (.lf .ptr) fun v2=>
 ifB (Option.isNone v2) (
 st ⟨n1,0,none⟩ [.w ByteArray.empty,.slice none 0 0,.i 0]<|
 ld ⟨n1,0,none⟩ (.agg [.str,.sl,.int .i64]) fun v3=>
 K (.t #[.agg #[.w v3.1,.sv v3.2.1,.i v3.2.2.1],.b false])) (
 A9 x0 fun a2=>
 ld (a2.add 2) (.lf .ptr) fun v4=>
 cl PP 175 #[.q x0,.q v4] [] fun r1=>
 A9 v4 fun a3=>
 ld a3 (.agg [.str,.sl,.int .i64]) fun v5=>
 st ⟨n1,0,none⟩ [.w v5.1,.slice v5.2.1.a v5.2.1.len v5.2.1.cap,.i v5.2.2.1]<|
 ld ⟨n1,0,none⟩ (.agg [.str,.sl,.int .i64]) fun v6=>
 K (.t #[.agg #[.w v6.1,.sv v6.2.1,.i v6.2.2.1],.b true])))
theorem e114(x0:Option Addr)(K:Value->HP):A8 PP Hn Tryz.f114 [.q x0] K=t114 x0 K:=by kernel_rfl
def h115:D5:=⟨[],[(5,[])],[(5,[0,1,2,3,5,6,7,11,12,13,4,8,9,10,14,15]),(2,[0,1,2,4,5,6,3,7,8])]⟩
def t115(x0:Option Addr)(x1:Int)(K:Value->HP):HP:=
 ifB (Option.isNone x0) (
 K (.t #[])) (
 A9 x0 fun a1=>
 ld a1 (lI) fun v1=>
 ifB ((v1:Int)==0) (
 K (.t #[])) (
 cl PP 48 #[.q x0,.int .u64 x1] [.lf .bool] fun r1=>
 jn (fun y1:RsV []=>
 A9 x0 fun a8=>
 A9 x0 fun a9=>
 A9 x0 fun a10=>
 ld (a8.add 65) (lI) fun v6=>
 ld (a9.add 66) (lI) fun v7=>
 req ((64:Int)≠0)<|
 ixn (Int.tmod (IntKind.i64.wrap (v6+v7)) 64) 64<|
 st (Addr.add (a10.add 1) ((Int.tmod (IntKind.i64.wrap (v6+v7)) 64).toNat*1)) [.int .u64 x1]<|
 A9 x0 fun a11=>
 ld (a11.add 66) (lI) fun v8=>
 A9 x0 fun a12=>
 st (a12.add 66) [.i (IntKind.i64.wrap (v8+1))]<|
 K (.t #[])) fun j1=>
 A9 x0 fun a2=>
 A9 x0 fun a3=>
 ld (a2.add 66) (lI) fun v2=>
 ld a3 (lI) fun v3=>
 ifB ((v2:Int)==v3) (
 A9 x0 fun a4=>
 ld (a4.add 65) (lI) fun v4=>
 req ((64:Int)≠0)<|
 A9 x0 fun a5=>
 st (a5.add 65) [.i (Int.tmod (IntKind.i64.wrap (v4+1)) 64)]<|
 A9 x0 fun a6=>
 ld (a6.add 66) (lI) fun v5=>
 A9 x0 fun a7=>
 st (a7.add 66) [.i (IntKind.i64.wrap (v5-1))]<|
 j1 (())) (
 j1 (()))))
theorem e115(x0:Option Addr)(x1:Int)(K:Value->HP):A8 PP h115 Tryz.f115 [.q x0,.int .u64 x1] K=t115 x0 x1 K:=by kernel_rfl
def t116(x0:Option Addr)(x1:ByteArray)(K:Value->HP):HP:=
 ifB (Option.isNone x0) (
 K (.q none)) (
 A9 x0 fun a1=>
 ld (a1.add 4) (.lf .map) fun v1=>
 smR PP (Instr.lookup 180 (.map v1) (.w x1) false) [.lf .ptr] fun v2=>
 K (.q v2.1))
theorem e116(x0:Option Addr)(x1:ByteArray)(K:Value->HP):A8 PP Hn Tryz.f116 [.q x0,.w x1] K=t116 x0 x1 K:=by kernel_rfl
set_option maxRecDepth 100000
def h117:D5:=⟨[(0,[(5,.lf .sl),(16,lI)])],[],[(7,[0,1,3,2,4,5])]⟩
def t117(x0:Option Addr)(x1:Int)(K:Value->HP):HP:=
 ifB (Option.isNone x0) (
 K (.slice none 0 0)) (
 cl PP 137 #[.q x0,.int .u64 x1] [.lf .ptr] fun r1=>
 A9 r1.1 fun a1=>
 ld a1 (.lf .sl) fun v1=>
 lp [.lf .sl,lI] (⟨none,0,0⟩,0,()) fun z1 go1=>
 ifB (decide ((z1.2.1:Int)<v1.len)) (
 A9 v1.a fun a2=>
 ixn z1.2.1 v1.len<|
 ld (a2.add (z1.2.1.toNat*5)) (.agg [.int .i64,.int .i64,.int .i64,.int .i64,.int .i64]) fun v2=>
 nw (.cells #[.i 0,.i 0,.i 0,.i 0,.i 0] 204) fun n1=>
 st ⟨n1,0,none⟩ [.i v2.1,.i v2.2.1,.i v2.2.2.1,.i v2.2.2.2.1,.i v2.2.2.2.2.1]<|
 ld ⟨n1,0,none⟩ (lI) fun v3=>
 cl PP 180 #[.int .u64 x1] [lI] fun r2=>
 keep (D4 ⟨n1,0,none⟩ [.i v3])<|
 ifB ((v3:Int)==r2.1) (
 ld (Addr.add ⟨n1,0,none⟩ 1) (.agg [.int .i64,.int .i64,.int .i64]) fun v4=>
 nw (.cells #[.i v4.1,.i v4.2.1,.i v4.2.2.1] 102) fun n2=>
 smW PP (Builtin.append_ #[55,55] 55 #[.sv z1.1,.slice (some ⟨n2,0,none⟩) 1 1]) [.lf .sl] fun v5=>
 go1 (⟨v5.1.a,v5.1.len,v5.1.cap⟩,IntKind.i64.wrap (z1.2.1+1),())) (
 go1 (⟨z1.1.a,z1.1.len,z1.1.cap⟩,IntKind.i64.wrap (z1.2.1+1),()))) (
 K (.sv z1.1)))
theorem e117(x0:Option Addr)(x1:Int)(K:Value->HP):A8 PP h117 Tryz.f117 [.q x0,.int .u64 x1] K=t117 x0 x1 K:=by kernel_rfl
def h118:D5:=⟨[(0,[(9,.lf .sl),(10,lI)])],[(17,[(10,lI)])],[]⟩
def t118(x0:Option Addr)(x1:ShV (.agg [.int .i64,.int .i64,.int .i64]))(K:Value->HP):HP:=
 nw (.cells #[.i x1.1,.i x1.2.1,.i x1.2.2.1] 102) fun n1=>
 ld ⟨n1,0,none⟩ (lI) fun v1=>
 cl PP 181 #[.q x0,.i v1,.i 0] [.lf .sl,lI] fun r1=>
 ifB ((r1.2.1:Int) !=0) (
 K (.t #[.w (ByteArray.mk #[]),.slice none 0 0,.i r1.2.1])) (
 lp [.lf .sl,lI] (⟨none,0,0⟩,1,()) fun z1 go1=>
 ifB (decide ((z1.1.len:Int)<z1.2.1)) (
 ld ⟨n1,0,none⟩ (lI) fun v2=>
 ld (Addr.add ⟨n1,0,none⟩ 1) (lI) fun v3=>
 cl PP 181 #[.q x0,.i v2,.i (IntKind.i64.wrap (v3+z1.1.len))] [.lf .sl,lI] fun r2=>
 ifB ((r2.2.1:Int) !=0) (
 K (.t #[.w (ByteArray.mk #[]),.slice none 0 0,.i 8])) (
 cl PP 182 #[.sv r2.1] [.agg [.int .i64,.int .i64,.int .i64,.int .i64,.int .i64],.lf .sl,lI] fun r3=>
 nw (.cells #[.i 0,.i 0,.i 0,.i 0,.i 0] 272) fun n2=>
 st ⟨n2,0,none⟩ [.i r3.1.1,.i r3.1.2.1,.i r3.1.2.2.1,.i r3.1.2.2.2.1,.i r3.1.2.2.2.2.1]<|
 ifB ((r3.2.2.1:Int) !=0) (
 K (.t #[.w (ByteArray.mk #[]),.slice none 0 0,.i 8])) (
 jn (fun y1:RsV [lI]=>
 nw (.cells #[.slice r3.2.1.a r3.2.1.len r3.2.1.cap] 27) fun n3=>
 smW PP (Builtin.append_ #[96,96] 96 #[.sv z1.1,.slice (some ⟨n3,0,none⟩) 1 1]) [.lf .sl] fun v11=>
 go1 (⟨v11.1.a,v11.1.len,v11.1.cap⟩,y1.1,())) fun j1=>
 ifB ((z1.1.len:Int)==0) (
 ld ⟨n2,0,none⟩ (lI) fun v4=>
 ifB ((v4:Int) !=2) (
 K (.t #[.w (ByteArray.mk #[]),.slice none 0 0,.i 8])) (
 ld (Addr.add ⟨n2,0,none⟩ 1) (lI) fun v5=>
 ifB ((v5:Int) !=0) (
 K (.t #[.w (ByteArray.mk #[]),.slice none 0 0,.i 8])) (
 ld (Addr.add ⟨n2,0,none⟩ 3) (lI) fun v6=>
 ld (Addr.add ⟨n1,0,none⟩ 2) (lI) fun v7=>
 ifB ((v6:Int) !=v7) (
 K (.t #[.w (ByteArray.mk #[]),.slice none 0 0,.i 8])) (
 ld (Addr.add ⟨n2,0,none⟩ 4) (lI) fun v8=>
 ld (Addr.add ⟨n1,0,none⟩ 1) (lI) fun v9=>
 ifB ((v8:Int) !=v9) (
 K (.t #[.w (ByteArray.mk #[]),.slice none 0 0,.i 8])) (
 ld (Addr.add ⟨n2,0,none⟩ 2) (lI) fun v10=>
 j1 (v10,())))))) (
 j1 (z1.2.1,()))))) (
 cl PP 183 #[.sv z1.1] [.lf .str,.lf .sl,lI] fun r4=>
 K (.t #[.w r4.1,.sv r4.2.1,.i r4.2.2.1])))
theorem e118(x0:Option Addr)(x1:ShV (.agg [.int .i64,.int .i64,.int .i64]))(K:Value->HP):A8 PP h118 Tryz.f118 [.q x0,.agg #[.i x1.1,.i x1.2.1,.i x1.2.2.1]] K=t118 x0 x1 K:=by kernel_rfl
def h119:D5:=⟨[(0,[(14,lI)])],[],[]⟩
def t119(x0:Option Addr)(x1:FnV)(x2:FnV)(K:Value->HP):HP:=
 ifB (Option.isNone x0) (
 K (.t #[])) (
 A9 x0 fun a1=>
 ld a1 (.lf .sl) fun v1=>
 lp [lI] (0,()) fun z1 go1=>
 ifB (decide ((z1.1:Int)<v1.len)) (
 clv PP x1.fn (x1.first++#[.i z1.1]) x1.captured [.lf .bool] fun r1=>
 ifB r1.1 (
 A9 x0 fun a2=>
 ld a2 (.lf .sl) fun v2=>
 A9 v2.a fun a3=>
 ixn z1.1 v2.len<|
 ld (a3.add (z1.1.toNat*3)) (.agg [.int .i64,.bool,.bool]) fun v3=>
 clv PP x2.fn (x2.first++#[.i z1.1,.agg #[.i v3.1,.b v3.2.1,.b v3.2.2.1]]) x2.captured [] fun r2=>
 go1 (IntKind.i64.wrap (z1.1+1),())) (
 go1 (IntKind.i64.wrap (z1.1+1),()))) (
 K (.t #[])))
theorem e119(x0:Option Addr)(x1:FnV)(x2:FnV)(K:Value->HP):A8 PP h119 Tryz.f119 [.q x0,.func x1.fn x1.first x1.captured,.func x2.fn x2.first x2.captured] K=t119 x0 x1 x2 K:=by kernel_rfl
def t120(x0:Option Addr)(x1:Int)(K:Value->HP):HP:=
 ifB (!(Option.isNone x0)) (
 ifB (decide ((x1:Int)≥0)) (
 A9 x0 fun a1=>
 ld a1 (.lf .sl) fun v1=>
 ifB (decide ((x1:Int)<v1.len)) (
 A9 x0 fun a2=>
 ld a2 (.lf .sl) fun v2=>
 A9 v2.a fun a3=>
 ixn x1 v2.len<|
 ld (Addr.add (a3.add (x1.toNat*3)) 1) (.lf .bool) fun v3=>
 K (.b (!v3))) (
 K (.b false))) (
 K (.b false))) (
 K (.b false))
theorem e120(x0:Option Addr)(x1:Int)(K:Value->HP):A8 PP Hn Tryz.f120 [.q x0,.i x1] K=t120 x0 x1 K:=by kernel_rfl
def h122:D5:=⟨[],[],[(3,[0,2,3,7,9,1,4,5,6,11,8,10,12]),(2,[1,0,2])]⟩
def t122(x0:ShV (.agg [.int .i64,.int .i64]))(x1:Int)(K:Value->HP):HP:=
 nw (.cells #[.i x0.1,.i x0.2.1] 169) fun n1=>
 nw (.cells #[.i 0,.i 0] 169) fun n2=>
 ld (Addr.add ⟨n1,0,none⟩ 1) (lI) fun v1=>
 ifB (decide ((x1:Int)<=v1)) (
 ld ⟨n1,0,none⟩ (.agg [.int .i64,.int .i64]) fun v2=>
 st ⟨n2,0,none⟩ [.i v2.1,.i v2.2.1]<|
 ld ⟨n2,0,none⟩ (.agg [.int .i64,.int .i64]) fun v3=>
 K (.t #[.i 0,.agg #[.i v3.1,.i v3.2.1]])) (
 ld ⟨n1,0,none⟩ (lI) fun v4=>
 ld (Addr.add ⟨n1,0,none⟩ 1) (lI) fun v5=>
 ld ⟨n1,0,none⟩ (lI) fun v6=>
 st ⟨n2,0,none⟩ [.i v6,.i x1]<|
 ld ⟨n2,0,none⟩ (.agg [.int .i64,.int .i64]) fun v7=>
 K (.t #[.i (IntKind.i64.wrap (v4*(IntKind.i64.wrap (x1-v5)))),.agg #[.i v7.1,.i v7.2.1]]))
theorem e122(x0:ShV (.agg [.int .i64,.int .i64]))(x1:Int)(K:Value->HP):A8 PP h122 Tryz.f122 [.agg #[.i x0.1,.i x0.2.1],.i x1] K=t122 x0 x1 K:=by kernel_rfl
def h123:D5:=⟨[(0,[(0,lI),(9,lI)])],[],[]⟩
def t123(x0:Int)(x1:SlV)(K:Value->HP):HP:=
 lp [lI,lI] (x0,0,()) fun z1 go1=>
 ifB (decide ((z1.2.1:Int)<x1.len)) (
 A9 x1.a fun a1=>
 ixn z1.2.1 x1.len<|
 ld (a1.add (z1.2.1.toNat*1)) (lI) fun v1=>
 go1 (Ab3 z1.1 v1,IntKind.i64.wrap (z1.2.1+1),())) (
 K (.i (Z6 z1.1 0)))
theorem e123(x0:Int)(x1:SlV)(K:Value->HP):A8 PP h123 Tryz.f123 [.i x0,.sv x1] K=t123 x0 x1 K:=by kernel_rfl
def h124:D5:=⟨[(0,[(24,lI)])],[],[(7,[0,1,2,3,4,5,6]),(3,[0,1,5,6,2,3,4,7,8,9,10])]⟩
def t124(x0:Option Addr)(x1:Int)(x2:ShV (.agg [.int .i64,.int .i64,.int .i64]))(x3:FnV)(K:Value->HP):HP:=
 nw (.cells #[.i x2.1,.i x2.2.1,.i x2.2.2.1] 102) fun n1=>
 ifB (Option.isNone x0) (
 K (.b false)) (
 ld ⟨n1,0,none⟩ (.agg [.int .i64,.int .i64,.int .i64]) fun v1=>
 cl PP 137 #[.q x0,.int .u64 x1] [.lf .ptr] fun r1=>
 keep (D4 ⟨n1,0,none⟩ [.i v1.1,.i v1.2.1,.i v1.2.2.1])<|
 A9 r1.1 fun a1=>
 ld a1 (.lf .sl) fun v2=>
 cl PP 184 #[.int .u64 x1,.agg #[.i v1.1,.i v1.2.1,.i v1.2.2.1]] [.agg [.int .i64,.int .i64,.int .i64,.int .i64]] fun r2=>
 keep (D4 a1 [.sv v2])<|
 nw (.cells #[.i 0,.i 0,.i 0,.i 0] 202) fun n2=>
 st ⟨n2,0,none⟩ [.i r2.1.1,.i r2.1.2.1,.i r2.1.2.2.1,.i r2.1.2.2.2.1]<|
 lp [lI] (0,()) fun z1 go1=>
 ifB (decide ((z1.1:Int)<v2.len)) (
 A9 v2.a fun a2=>
 ixn z1.1 v2.len<|
 ld (a2.add (z1.1.toNat*5)) (.agg [.int .i64,.int .i64,.int .i64,.int .i64]) fun v3=>
 ld ⟨n2,0,none⟩ (.agg [.int .i64,.int .i64,.int .i64,.int .i64]) fun v4=>
 smP PP (binOp .eql 202 (.agg #[.i v3.1,.i v3.2.1,.i v3.2.2.1,.i v3.2.2.2.1]) (.agg #[.i v4.1,.i v4.2.1,.i v4.2.2.1,.i v4.2.2.2.1])) (.lf .bool) fun v5=>
 ifB v5 (
 A9 v2.a fun a3=>
 ixn z1.1 v2.len<|
 clv PP x3.fn (x3.first++#[.q (some (a3.add (z1.1.toNat*5)))]) x3.captured [] fun r3=>
 K (.b true)) (
 go1 (IntKind.i64.wrap (z1.1+1),()))) (
 K (.b false)))
theorem e124(x0:Option Addr)(x1:Int)(x2:ShV (.agg [.int .i64,.int .i64,.int .i64]))(x3:FnV)(K:Value->HP):A8 PP h124 Tryz.f124 [.q x0,.int .u64 x1,.agg #[.i x2.1,.i x2.2.1,.i x2.2.2.1],.func x3.fn x3.first x3.captured] K=t124 x0 x1 x2 x3 K:=by kernel_rfl
def t125(x0:Option Addr)(K:Value->HP):HP:=
 A9 x0 fun a1=>
 ld (a1.add 4) (lI) fun v1=>
 A9 x0 fun a2=>
 st (a2.add 4) [.i (Ab3 (IntKind.i64.wrap (v1+1)) 3)]<|
 K (.t #[])
theorem e125(x0:Option Addr)(K:Value->HP):A8 PP Hn Tryz.f125 [.q x0] K=t125 x0 K:=by kernel_rfl
def h126:D5:=⟨[(0,[(5,lI),(22,lI)])],[],[]⟩
def t126(x0:Option Addr)(x1:SlV)(K:Value->HP):HP:=
 A9 x0 fun a1=>
 ld (a1.add 4) (.lf .ptr) fun v1=>
 ifB (Option.isNone v1) (
 K (.b false)) (
 A9 x0 fun a2=>
 ld (a2.add 4) (.lf .ptr) fun v2=>
 A9 v2 fun a3=>
 ld (a3.add 2) (lI) fun v3=>
 lp [lI,lI] (v3,0,()) fun z1 go1=>
 ifB (decide ((z1.2.1:Int)<x1.len)) (
 A9 x1.a fun a4=>
 ixn z1.2.1 x1.len<|
 ld (a4.add (z1.2.1.toNat*1)) (lI) fun v4=>
 go1 (IntKind.i64.wrap (z1.1+v4),IntKind.i64.wrap (z1.2.1+1),())) (
 A9 x0 fun a5=>
 ld a5 (.lf .ptr) fun v5=>
 cl PP 93 #[.q v5] [.agg [.int .i64,.int .i64,.int .i64,.int .i64]] fun r1=>
 K (.b (decide ((z1.1:Int)<r1.1.2.1)))))
theorem e126(x0:Option Addr)(x1:SlV)(K:Value->HP):A8 PP h126 Tryz.f126 [.q x0,.sv x1] K=t126 x0 x1 K:=by kernel_rfl
def h127:D5:=⟨[(1,[])],[(4,[(5,lI)]),(21,[])],[]⟩
def t127(x0:Option Addr)(x1:Int)(K:Value->HP):HP:=
 jn (fun y1:RsV [lI]=>
 A9 x0 fun a2=>
 nw (.cells #[.i x1,.i 1,.i y1.1] 3) fun n1=>
 cl PP 128 #[.q (some (a2.add 11)),.slice (some ⟨n1,0,none⟩) 3 3] [.lf .bool] fun r1=>
 ifB (!r1.1) (
 K (.i 13)) (
 A9 x0 fun a3=>
 ld (Addr.add (a3.add 11) 5) (lI) fun v2=>
 ifB (decide ((v2:Int)≥1073741824)) (
 K (.i 7)) (
 A9 x0 fun a4=>
 ld (Addr.add (a4.add 11) 1) (.lf .ptr) fun v3=>
 cl PP 185 #[.q v3] [lI] fun r2=>
 ifB ((r2.1:Int)==0) (
 A9 x0 fun a5=>
 cl PP 186 #[.q (some (a5.add 11))] [.lf .ptr] fun r3=>
 ifB (Option.isNone r3.1) (
 K (.i 7)) (
 cl PP 187 #[.q x0,.q r3.1,.i x1] [lI] fun r4=>
 K (.i r4.1))) (
 A9 x0 fun a6=>
 cl PP 188 #[.q (some (a6.add 11))] [lI] fun r5=>
 ifB ((r5.1:Int) !=0) (
 K (.i r5.1)) (
 A9 x0 fun a7=>
 ld (Addr.add (a7.add 11) 1) (.lf .ptr) fun v4=>
 cl PP 189 #[.q v4] [lI,.lf .bool,.lf .bool] fun r6=>
 jn (fun y2:RsV []=>
 A9 x0 fun a10=>
 cl PP 191 #[.q (some (a10.add 11)),.i r6.1] [lI] fun r9=>
 ifB ((r9.1:Int) !=0) (
 K (.i r9.1)) (
 lp [] (()) fun z1 go1=>
 A9 x0 fun a11=>
 ld (Addr.add (a11.add 11) 1) (.lf .ptr) fun v6=>
 cl PP 185 #[.q v6] [lI] fun r10=>
 ifB ((r10.1:Int)==0) (
 A9 x0 fun a12=>
 cl PP 186 #[.q (some (a12.add 11))] [.lf .ptr] fun r11=>
 ifB (Option.isNone r11.1) (
 K (.i 0)) (
 cl PP 187 #[.q x0,.q r11.1,.i x1] [lI] fun r12=>
 ifB ((r12.1:Int) !=0) (
 K (.i r12.1)) (
 go1 (())))) (
 K (.i 0)))) fun j2=>
 ifB r6.2.1 (
 A9 x0 fun a8=>
 cl PP 190 #[.q (some (a8.add 11)),.i r6.1] [lI] fun r7=>
 ifB ((r7.1:Int) !=0) (
 K (.i r7.1)) (
 A9 x0 fun a9=>
 ld (a9.add 11) (.lf .ptr) fun v5=>
 cl PP 15 #[.q v5,.i r6.1] [.lf .bool] fun r8=>
 ifB r8.1 (
 K (.i r7.1)) (
 j2 (())))) (
 j2 (()))))))) fun j1=>
 A9 x0 fun a1=>
 ld (Addr.add (a1.add 11) 4) (.lf .ptr) fun v1=>
 ifB (!(Option.isNone v1)) (
 j1 (1,())) (
 j1 (0,()))
theorem e127(x0:Option Addr)(x1:Int)(K:Value->HP):A8 PP h127 Tryz.f127 [.q x0,.i x1] K=t127 x0 x1 K:=by kernel_rfl
def t128(x0:Option Addr)(x1:SlV)(K:Value->HP):HP:=
 A9 x0 fun a1=>
 ld (a1.add 2) (.lf .ptr) fun v1=>
 cl PP 44 #[.q v1] [lI] fun r1=>
 cl PP 134 #[.q x0,.sv x1] [lI] fun r2=>
 K (.b (decide ((r1.1:Int)≥r2.1)))
theorem e128(x0:Option Addr)(x1:SlV)(K:Value->HP):A8 PP Hn Tryz.f128 [.q x0,.sv x1] K=t128 x0 x1 K:=by kernel_rfl
def t129(x0:Int)(K:Value->HP):HP:=
 ifB (decide ((x0:Int)≥64)) (
 K (.b (decide ((x0:Int)<=512)))) (
 K (.b false))
theorem e129(x0:Int)(K:Value->HP):A8 PP Hn Tryz.f129 [.i x0] K=t129 x0 K:=by kernel_rfl
def t130(x0:ShV (.agg [.int .i64,.int .i64,.int .i64]))(K:Value->HP):HP:=
 nw (.cells #[.i x0.1,.i x0.2.1,.i x0.2.2.1] 102) fun n1=>
 ld ⟨n1,0,none⟩ (lI) fun v1=>
 ifB (decide ((v1:Int)≥0)) (
 ld ⟨n1,0,none⟩ (lI) fun v2=>
 ifB (decide ((v2:Int)<16)) (
 ld (Addr.add ⟨n1,0,none⟩ 1) (lI) fun v3=>
 ifB (decide ((v3:Int)≥0)) (
 ld (Addr.add ⟨n1,0,none⟩ 1) (lI) fun v4=>
 ifB (decide ((v4:Int)<16)) (
 ld (Addr.add ⟨n1,0,none⟩ 2) (lI) fun v5=>
 ifB (decide ((v5:Int)≥1)) (
 ld (Addr.add ⟨n1,0,none⟩ 2) (lI) fun v6=>
 K (.b (decide ((v6:Int)<=1073741824)))) (
 K (.b false))) (
 K (.b false))) (
 K (.b false))) (
 K (.b false))) (
 K (.b false))
theorem e130(x0:ShV (.agg [.int .i64,.int .i64,.int .i64]))(K:Value->HP):A8 PP Hn Tryz.f130 [.agg #[.i x0.1,.i x0.2.1,.i x0.2.2.1]] K=t130 x0 K:=by kernel_rfl
def h131:D5:=⟨[(0,[(0,.lf .sl),(10,lI)])],[],[]⟩
def t131(x0:SlV)(x1:SlV)(K:Value->HP):HP:=
 lp [.lf .sl,lI] (⟨x0.a,x0.len,x0.cap⟩,0,()) fun z1 go1=>
 ifB (decide ((z1.2.1:Int)<x1.len)) (
 A9 x1.a fun a1=>
 ixn z1.2.1 x1.len<|
 ld (a1.add (z1.2.1.toNat*1)) (lI) fun v1=>
 ifB (decide ((v1:Int)<0)) (
 K (.t #[.slice none 0 0,.b false])) (
 ifB (decide ((v1:Int)>255)) (
 K (.t #[.slice none 0 0,.b false])) (
 nw (.cells #[.int .u8 (IntKind.u8.wrap v1)] 5) fun n1=>
 smW PP (Builtin.append_ #[27,27] 27 #[.sv z1.1,.slice (some ⟨n1,0,none⟩) 1 1]) [.lf .sl] fun v2=>
 go1 (⟨v2.1.a,v2.1.len,v2.1.cap⟩,IntKind.i64.wrap (z1.2.1+1),())))) (
 K (.t #[.sv z1.1,.b true]))
theorem e131(x0:SlV)(x1:SlV)(K:Value->HP):A8 PP h131 Tryz.f131 [.sv x0,.sv x1] K=t131 x0 x1 K:=by kernel_rfl
def t132(x0:SlV)(x1:Int)(x2:Int)(K:Value->HP):HP:=
 ifB (decide ((x2:Int)<1)) (
 K (.t #[.slice none 0 0,.i 2])) (
 ifB (decide ((x2:Int)>7)) (
 K (.t #[.slice none 0 0,.i 2])) (
 ifB (decide ((x1:Int)<0)) (
 K (.t #[.slice none 0 0,.i 3])) (
 req ((0:Int)<=(IntKind.i64.wrap (8*x2)))<|
 ifB ((Int.fdiv x1 (2^(min (IntKind.i64.wrap (8*x2):Int).toNat IntKind.i64.bits)):Int) !=0) (
 K (.t #[.slice none 0 0,.i 3])) (
 cl PP 192 #[.i x1] [.agg [.int .u8,.int .u8,.int .u8,.int .u8,.int .u8,.int .u8,.int .u8,.int .u8]] fun r1=>
 nw (.cells #[.int .u8 0,.int .u8 0,.int .u8 0,.int .u8 0,.int .u8 0,.int .u8 0,.int .u8 0,.int .u8 0] 282) fun n1=>
 st ⟨n1,0,none⟩ [.int .u8 r1.1.1,.int .u8 r1.1.2.1,.int .u8 r1.1.2.2.1,.int .u8 r1.1.2.2.2.1,.int .u8 r1.1.2.2.2.2.1,.int .u8 r1.1.2.2.2.2.2.1,.int .u8 r1.1.2.2.2.2.2.2.1,.int .u8 r1.1.2.2.2.2.2.2.2.1]<|
 smA PP (Instr.makeSlice 27 (.i 0) (.i (IntKind.i64.wrap (x0.len+x2)))) (.lf .sl) fun v1=>
 smW PP (Builtin.append_ #[27,27] 27 #[.sv v1,.sv x0]) [.lf .sl] fun v2=>
 slc ⟨some ⟨n1,0,none⟩,8,8⟩ 0 x2 8 1 fun s1=>
 smW PP (Builtin.append_ #[27,27] 27 #[.sv v2.1,.sv s1]) [.lf .sl] fun v3=>
 K (.t #[.sv v3.1,.i 0])))))
theorem e132(x0:SlV)(x1:Int)(x2:Int)(K:Value->HP):A8 PP Hn Tryz.f132 [.sv x0,.i x1,.i x2] K=t132 x0 x1 x2 K:=by kernel_rfl
def t133(x0:Option Addr)(x1:Int)(K:Value->HP):HP:=
 ifB (Option.isNone x0) (
 K (.b false)) (
 ifB (decide ((x1:Int)<0)) (
 K (.b false)) (
 A9 x0 fun a1=>
 ld (a1.add 3) (lI) fun v1=>
 ifB (decide ((x1:Int)>v1)) (
 K (.b false)) (
 A9 x0 fun a2=>
 ld (a2.add 3) (lI) fun v2=>
 A9 x0 fun a3=>
 st (a3.add 3) [.i (IntKind.i64.wrap (v2-x1))]<|
 K (.b true))))
theorem e133(x0:Option Addr)(x1:Int)(K:Value->HP):A8 PP Hn Tryz.f133 [.q x0,.i x1] K=t133 x0 x1 K:=by kernel_rfl
def h134:D5:=⟨[(0,[(5,lI),(10,lI)])],[],[]⟩
def t134(x0:Option Addr)(x1:SlV)(K:Value->HP):HP:=
 lp [lI,lI] (0,0,()) fun z1 go1=>
 ifB (decide ((z1.2.1:Int)<x1.len)) (
 A9 x1.a fun a1=>
 ixn z1.2.1 x1.len<|
 ld (a1.add (z1.2.1.toNat*1)) (lI) fun v1=>
 go1 (IntKind.i64.wrap (z1.1+v1),IntKind.i64.wrap (z1.2.1+1),())) (
 A9 x0 fun a2=>
 ld a2 (.lf .ptr) fun v2=>
 cl PP 93 #[.q v2] [.agg [.int .i64,.int .i64,.int .i64,.int .i64]] fun r1=>
 K (.i (IntKind.i64.wrap (z1.1*r1.1.2.2.1))))
theorem e134(x0:Option Addr)(x1:SlV)(K:Value->HP):A8 PP h134 Tryz.f134 [.q x0,.sv x1] K=t134 x0 x1 K:=by kernel_rfl
def h135:D5:=⟨[(0,[(28,lI)])],[],[]⟩
def t135(x0:Option Addr)(x1:Int)(x2:Int)(x3:Int)(x4:Int)(x5:SlV)(K:Value->HP):HP:=
 ifB ((x5.len:Int)==0) (
 K (.i 2)) (
 nw (.cells #[.i 0,.i 0,.i 0,.i 0,.i 0] 272) fun n1=>
 st ⟨n1,0,none⟩ [.i x4,.i 0,.i x5.len,.i x2,.i x3]<|
 lp [lI] (0,()) fun z1 go1=>
 ifB (decide ((z1.1:Int)<x5.len)) (
 A9 x5.a fun a1=>
 ixn z1.1 x5.len<|
 ld (a1.add (z1.1.toNat*1)) (.lf .sl) fun v1=>
 st (Addr.add ⟨n1,0,none⟩ 1) [.i z1.1]<|
 ld ⟨n1,0,none⟩ (.agg [.int .i64,.int .i64,.int .i64,.int .i64,.int .i64]) fun v2=>
 cl PP 193 #[.q x0,.i x1,.agg #[.i v2.1,.i v2.2.1,.i v2.2.2.1,.i v2.2.2.2.1,.i v2.2.2.2.2.1],.sv v1] [lI] fun r1=>
 ifB ((r1.1:Int) !=0) (
 K (.i r1.1)) (
 ld (Addr.add ⟨n1,0,none⟩ 4) (lI) fun v3=>
 st (Addr.add ⟨n1,0,none⟩ 4) [.i (IntKind.i64.wrap (v3+1))]<|
 go1 (IntKind.i64.wrap (z1.1+1),()))) (
 K (.i 0)))
theorem e135(x0:Option Addr)(x1:Int)(x2:Int)(x3:Int)(x4:Int)(x5:SlV)(K:Value->HP):A8 PP h135 Tryz.f135 [.q x0,.i x1,.i x2,.i x3,.i x4,.sv x5] K=t135 x0 x1 x2 x3 x4 x5 K:=by kernel_rfl
def t136(x0:Option Addr)(x1:Int)(K:Value->HP):HP:=
 A9 x0 fun a1=>
 ld (a1.add 7) (.lf .bool) fun v1=>
 ifB v1 (
 A9 x0 fun a2=>
 st (a2.add 7) [.b true]<|
 K (.i x1)) (
 A9 x0 fun a3=>
 st (a3.add 7) [.b ((x1:Int)==11)]<|
 K (.i x1))
theorem e136(x0:Option Addr)(x1:Int)(K:Value->HP):A8 PP Hn Tryz.f136 [.q x0,.i x1] K=t136 x0 x1 K:=by kernel_rfl
def h137:D5:=⟨[],[],[(1,[0,1,2,4,5,6,7,3,8,9,10,11,12])]⟩
def t137(x0:Option Addr)(x1:Int)(K:Value->HP):HP:=
 A9 x0 fun a1=>
 A9 x0 fun a2=>
 ld (a1.add 1) (.lf .sl) fun v1=>
 ld (a2.add 1) (.lf .sl) fun v2=>
 cl PP 194 #[.int .u64 x1,.i v2.len] [lI] fun r1=>
 keep (D4 (a1.add 1) [.sv v1])<|
 A9 v1.a fun a3=>
 ixn r1.1 v1.len<|
 K (.q (some (a3.add (r1.1.toNat*1))))
theorem e137(x0:Option Addr)(x1:Int)(K:Value->HP):A8 PP h137 Tryz.f137 [.q x0,.int .u64 x1] K=t137 x0 x1 K:=by kernel_rfl
set_option maxRecDepth 100000
def h163:D5:=⟨[(0,[(9,lI)])],[],[]⟩
def t163(x0:Int)(K:Value->HP):HP:=
 smA PP (Instr.makeSlice 27 (.i x0) (.i x0)) (.lf .sl) fun v1=>
 lp [lI] (0,()) fun z1 go1=>
 ifB (decide ((z1.1:Int)<v1.len)) (
 A9 v1.a fun a1=>
 ixn z1.1 v1.len<|
 st (a1.add (z1.1.toNat*1)) [.int .u8 255]<|
 go1 (IntKind.i64.wrap (z1.1+1),())) (
 K (.sv v1))
theorem e163(x0:Int)(K:Value->HP):A8 PP h163 Tryz.f163 [.i x0] K=t163 x0 K:=by kernel_rfl
def t164(x0:Int)(x1:Int)(K:Value->HP):HP:=
 ifB (decide ((x0:Int)≥0)) (
 K (.b (decide ((x0:Int)<=x1)))) (
 K (.b false))
theorem e164(x0:Int)(x1:Int)(K:Value->HP):A8 PP Hn Tryz.f164 [.i x0,.i x1] K=t164 x0 x1 K:=by kernel_rfl
def h165:D5:=⟨[(0,[(5,.lf .sl),(6,.lf .sl),(15,lI)])],[],[]⟩
def t165(x0:Option Addr)(K:Value->HP):HP:=
 cl PP 93 #[.q x0] [.agg [.int .i64,.int .i64,.int .i64,.int .i64]] fun r1=>
 lp [.lf .sl,.lf .sl,lI] (⟨none,0,0⟩,⟨none,0,0⟩,0,()) fun z1 go1=>
 ifB (decide ((z1.2.2.1:Int)<r1.1.1)) (
 cl PP 223 #[.q x0,.i z1.2.2.1] [.lf .sl,lI] fun r2=>
 ifB ((r2.2.1:Int) !=0) (
 K (.t #[.slice none 0 0,.slice none 0 0,.i r2.2.1])) (
 nw (.cells #[.slice r2.1.a r2.1.len r2.1.cap] 96) fun n1=>
 smW PP (Builtin.append_ #[243,243] 243 #[.sv z1.2.1,.slice (some ⟨n1,0,none⟩) 1 1]) [.lf .sl] fun v1=>
 cl PP 224 #[.sv r2.1] [.agg [.int .i64,.bool,.sl],.lf .bool] fun r3=>
 nw (.cells #[.i 0,.b false,.slice none 0 0] 319) fun n2=>
 st ⟨n2,0,none⟩ [.i r3.1.1,.b r3.1.2.1,.slice r3.1.2.2.1.a r3.1.2.2.1.len r3.1.2.2.1.cap]<|
 ifB r3.2.1 (
 ld ⟨n2,0,none⟩ (lI) fun v2=>
 ld (Addr.add ⟨n2,0,none⟩ 2) (.lf .sl) fun v3=>
 nw (.cells #[.i z1.2.2.1,.i v2,.slice v3.a v3.len v3.cap] 154) fun n3=>
 smW PP (Builtin.append_ #[143,143] 143 #[.sv z1.1,.slice (some ⟨n3,0,none⟩) 1 1]) [.lf .sl] fun v4=>
 go1 (⟨v4.1.a,v4.1.len,v4.1.cap⟩,⟨v1.1.a,v1.1.len,v1.1.cap⟩,IntKind.i64.wrap (z1.2.2.1+1),())) (
 go1 (⟨z1.1.a,z1.1.len,z1.1.cap⟩,⟨v1.1.a,v1.1.len,v1.1.cap⟩,IntKind.i64.wrap (z1.2.2.1+1),())))) (
 cl PP 225 #[.sv z1.1,.func (.func 226) #[] #[]] [] fun r4=>
 K (.t #[.sv z1.1,.sv z1.2.1,.i 0]))
theorem e165(x0:Option Addr)(K:Value->HP):A8 PP h165 Tryz.f165 [.q x0] K=t165 x0 K:=by kernel_rfl
def h166:D5:=⟨[(0,[(12,lI)]),(2,[(19,lI)])],[],[]⟩
def t166(x0:SlV)(x1:Int)(x2:FnV)(K:Value->HP):HP:=
 lp [lI] (0,()) fun z1 go1=>
 ifB (decide ((z1.1:Int)<x0.len)) (
 A9 x0.a fun a1=>
 ixn z1.1 x0.len<|
 ld (a1.add (z1.1.toNat*3)) (.agg [.int .i64,.int .i64,.sl]) fun v1=>
 nw (.cells #[.i 0,.i 0,.slice none 0 0] 154) fun n1=>
 st ⟨n1,0,none⟩ [.i v1.1,.i v1.2.1,.slice v1.2.2.1.a v1.2.2.1.len v1.2.2.1.cap]<|
 ld (Addr.add ⟨n1,0,none⟩ 2) (.lf .sl) fun v2=>
 lp [lI] (0,()) fun z2 go2=>
 ifB (decide ((z2.1:Int)<v2.len)) (
 A9 v2.a fun a2=>
 ixn z2.1 v2.len<|
 ld (a2.add (z2.1.toNat*3)) (.agg [.int .i64,.int .i64,.int .i64]) fun v3=>
 nw (.cells #[.i 0,.i 0,.i 0] 215) fun n2=>
 st ⟨n2,0,none⟩ [.i v3.1,.i v3.2.1,.i v3.2.2.1]<|
 ld ⟨n2,0,none⟩ (lI) fun v4=>
 ifB ((v4:Int)==x1) (
 ld ⟨n1,0,none⟩ (.agg [.int .i64,.int .i64,.sl]) fun v5=>
 ld ⟨n2,0,none⟩ (.agg [.int .i64,.int .i64,.int .i64]) fun v6=>
 clv PP x2.fn (x2.first++#[.agg #[.i v5.1,.i v5.2.1,.slice v5.2.2.1.a v5.2.2.1.len v5.2.2.1.cap],.agg #[.i v6.1,.i v6.2.1,.i v6.2.2.1]]) x2.captured [] fun r1=>
 go2 (IntKind.i64.wrap (z2.1+1),())) (
 go2 (IntKind.i64.wrap (z2.1+1),()))) (
 go1 (IntKind.i64.wrap (z1.1+1),()))) (
 K (.t #[]))
theorem e166(x0:SlV)(x1:Int)(x2:FnV)(K:Value->HP):A8 PP h166 Tryz.f166 [.slice x0.a x0.len x0.cap,.i x1,.func x2.fn x2.first x2.captured] K=t166 x0 x1 x2 K:=by kernel_rfl
def t167(x0:ShV (.agg [.int .i64,.int .i64,.sl]))(x1:ShV (.agg [.int .i64,.int .i64,.int .i64]))(x2:Option Addr)(x3:Option Addr)(x4:Option Addr)(K:Value->HP):HP:=
 nw (.cells #[.i x0.1,.i x0.2.1,.slice x0.2.2.1.a x0.2.2.1.len x0.2.2.1.cap] 154) fun n1=>
 nw (.cells #[.i x1.1,.i x1.2.1,.i x1.2.2.1] 215) fun n2=>
 ld ⟨n1,0,none⟩ (lI) fun v1=>
 ld (Addr.add ⟨n2,0,none⟩ 1) (lI) fun v2=>
 ld (Addr.add ⟨n1,0,none⟩ 1) (lI) fun v3=>
 nw (.cells #[.i 0,.i 0,.i 0] 102) fun n3=>
 st ⟨n3,0,none⟩ [.i v1,.i v2,.i v3]<|
 A9 x2 fun a1=>
 ld a1 (.lf .ptr) fun v4=>
 ld ⟨n3,0,none⟩ (.agg [.int .i64,.int .i64,.int .i64]) fun v5=>
 cl PP 118 #[.q v4,.agg #[.i v5.1,.i v5.2.1,.i v5.2.2.1]] [.lf .str,.lf .sl,lI] fun r1=>
 ifB ((r1.2.2.1:Int)==0) (
 A9 x3 fun a2=>
 ld a2 (.lf .sl) fun v6=>
 ld ⟨n3,0,none⟩ (.agg [.int .i64,.int .i64,.int .i64]) fun v7=>
 nw (.cells #[.w r1.1,.i v7.1,.i v7.2.1,.i v7.2.2.1] 162) fun n4=>
 smW PP (Builtin.append_ #[144,144] 144 #[.sv v6,.slice (some ⟨n4,0,none⟩) 1 1]) [.lf .sl] fun v8=>
 A9 x3 fun a3=>
 st a3 [.slice v8.1.a v8.1.len v8.1.cap]<|
 A9 x4 fun a4=>
 ld a4 (.lf .map) fun v9=>
 ld ⟨n3,0,none⟩ (.agg [.int .i64,.int .i64,.int .i64]) fun v10=>
 smU PP (Instr.mapUpdate 246 (.map v9) (.w r1.1) (.agg #[.i v10.1,.i v10.2.1,.i v10.2.2.1]))<|
 K (.t #[])) (
 K (.t #[]))
theorem e167(x0:ShV (.agg [.int .i64,.int .i64,.sl]))(x1:ShV (.agg [.int .i64,.int .i64,.int .i64]))(x2:Option Addr)(x3:Option Addr)(x4:Option Addr)(K:Value->HP):A8 PP Hn Tryz.f167 [.agg #[.i x0.1,.i x0.2.1,.sv x0.2.2.1],.agg #[.i x1.1,.i x1.2.1,.i x1.2.2.1],.q x2,.q x3,.q x4] K=t167 x0 x1 x2 x3 x4 K:=by kernel_rfl
def h168:D5:=⟨[(0,[(20,lI)]),(2,[(31,lI)])],[],[(1,[1,8,0,2,3,4,5,6,7])]⟩
def t168(x0:ShV (.agg [.int .i64,.int .i64,.sl]))(x1:ShV (.agg [.int .i64,.int .i64,.int .i64]))(x2:Option Addr)(x3:Option Addr)(K:Value->HP):HP:=
 nw (.cells #[.i x0.1,.i x0.2.1,.slice x0.2.2.1.a x0.2.2.1.len x0.2.2.1.cap] 154) fun n1=>
 nw (.cells #[.i x1.1,.i x1.2.1,.i x1.2.2.1] 215) fun n2=>
 A9 x2 fun a1=>
 ld a1 (.lf .sl) fun v1=>
 ld ⟨n1,0,none⟩ (lI) fun v2=>
 A9 v1.a fun a2=>
 ixn v2 v1.len<|
 ld (a2.add (v2.toNat*1)) (.lf .sl) fun v3=>
 ld ⟨n2,0,none⟩ (.agg [.int .i64,.int .i64,.int .i64]) fun v4=>
 cl PP 169 #[.sv v3,.agg #[.i v4.1,.i v4.2.1,.i v4.2.2.1]] [.lf .sl] fun r1=>
 lp [lI] (0,()) fun z1 go1=>
 ifB (decide ((z1.1:Int)<r1.1.len)) (
 A9 r1.1.a fun a3=>
 ixn z1.1 r1.1.len<|
 ld (a3.add (z1.1.toNat*1)) (.lf .sl) fun v5=>
 cl PP 170 #[.sv v5] [.lf .sl,lI] fun r2=>
 lp [lI] (0,()) fun z2 go2=>
 ifB (decide ((z2.1:Int)<r2.1.len)) (
 A9 r2.1.a fun a4=>
 ixn z2.1 r2.1.len<|
 ld (a4.add (z2.1.toNat*3)) (.agg [.int .i64,.int .i64,.int .i64]) fun v6=>
 nw (.cells #[.i 0,.i 0,.i 0] 102) fun n3=>
 st ⟨n3,0,none⟩ [.i v6.1,.i v6.2.1,.i v6.2.2.1]<|
 A9 x3 fun a5=>
 ld a5 (.lf .map) fun v7=>
 ld ⟨n3,0,none⟩ (.agg [.int .i64,.int .i64,.int .i64]) fun v8=>
 smU PP (Instr.mapUpdate 249 (.map v7) (.agg #[.i v8.1,.i v8.2.1,.i v8.2.2.1]) (.b true))<|
 go2 (IntKind.i64.wrap (z2.1+1),())) (
 go1 (IntKind.i64.wrap (z1.1+1),()))) (
 K (.t #[]))
theorem e168(x0:ShV (.agg [.int .i64,.int .i64,.sl]))(x1:ShV (.agg [.int .i64,.int .i64,.int .i64]))(x2:Option Addr)(x3:Option Addr)(K:Value->HP):A8 PP h168 Tryz.f168 [.agg #[.i x0.1,.i x0.2.1,.sv x0.2.2.1],.agg #[.i x1.1,.i x1.2.1,.i x1.2.2.1],.q x2,.q x3] K=t168 x0 x1 x2 x3 K:=by kernel_rfl
def h169:D5:=⟨[(0,[(5,.lf .sl),(6,lI)])],[],[]⟩
def t169(x0:SlV)(x1:ShV (.agg [.int .i64,.int .i64,.int .i64]))(K:Value->HP):HP:=
 nw (.cells #[.i x1.1,.i x1.2.1,.i x1.2.2.1] 215) fun n1=>
 lp [.lf .sl,lI] (⟨none,0,0⟩,0,()) fun z1 go1=>
 ld (Addr.add ⟨n1,0,none⟩ 2) (lI) fun v1=>
 ifB (decide ((z1.2.1:Int)<v1)) (
 ld (Addr.add ⟨n1,0,none⟩ 1) (lI) fun v2=>
 ifB (decide ((v2:Int)<0)) (
 K (.slice none 0 0)) (
 ld (Addr.add ⟨n1,0,none⟩ 1) (lI) fun v3=>
 ifB (decide ((v3:Int)≥(IntKind.i64.wrap (x0.len-z1.2.1)))) (
 K (.slice none 0 0)) (
 ld (Addr.add ⟨n1,0,none⟩ 1) (lI) fun v4=>
 A9 x0.a fun a1=>
 ixn (IntKind.i64.wrap (v4+z1.2.1)) x0.len<|
 ld (a1.add ((IntKind.i64.wrap (v4+z1.2.1)).toNat*1)) (.lf .sl) fun v5=>
 cl PP 182 #[.sv v5] [.agg [.int .i64,.int .i64,.int .i64,.int .i64,.int .i64],.lf .sl,lI] fun r1=>
 nw (.cells #[.i 0,.i 0,.i 0,.i 0,.i 0] 272) fun n2=>
 st ⟨n2,0,none⟩ [.i r1.1.1,.i r1.1.2.1,.i r1.1.2.2.1,.i r1.1.2.2.2.1,.i r1.1.2.2.2.2.1]<|
 ifB ((r1.2.2.1:Int) !=0) (
 K (.slice none 0 0)) (
 nw (.cells #[.slice r1.2.1.a r1.2.1.len r1.2.1.cap] 27) fun n3=>
 smW PP (Builtin.append_ #[96,96] 96 #[.sv z1.1,.slice (some ⟨n3,0,none⟩) 1 1]) [.lf .sl] fun v6=>
 go1 (⟨v6.1.a,v6.1.len,v6.1.cap⟩,IntKind.i64.wrap (z1.2.1+1),()))))) (
 K (.sv z1.1))
theorem e169(x0:SlV)(x1:ShV (.agg [.int .i64,.int .i64,.int .i64]))(K:Value->HP):A8 PP h169 Tryz.f169 [.sv x0,.agg #[.i x1.1,.i x1.2.1,.i x1.2.2.1]] K=t169 x0 x1 K:=by kernel_rfl
def h170:D5:=⟨[(0,[(4,.lf .sl),(5,.lf .sl)])],[],[(8,[0,1,4,5,8,2,3,6,7,9,10,11])]⟩
def t170(x0:SlV)(K:Value->HP):HP:=
 req ((6:Int)≠0)<|
 ifB ((Int.tmod x0.len 6:Int) !=0) (
 K (.t #[.slice none 0 0,.i 5])) (
 lp [.lf .sl,.lf .sl] (⟨none,0,0⟩,⟨x0.a,x0.len,x0.cap⟩,()) fun z1 go1=>
 ifB (decide ((z1.2.1.len:Int)>0)) (
 cl PP 227 #[.sv z1.2.1,.i 2,.i 4] [lI,lI] fun r1=>
 A9 z1.2.1.a fun a1=>
 ixn 0 z1.2.1.len<|
 A9 z1.2.1.a fun a2=>
 ixn 1 z1.2.1.len<|
 ld (a1.add ((0:Int).toNat*1)) (.lf (.int .u8)) fun v1=>
 ld (a2.add ((1:Int).toNat*1)) (.lf (.int .u8)) fun v2=>
 nw (.cells #[.i 0,.i 0,.i 0] 102) fun n1=>
 st ⟨n1,0,none⟩ [.i (IntKind.i64.wrap v1),.i (IntKind.i64.wrap v2),.i r1.1]<|
 ld ⟨n1,0,none⟩ (.agg [.int .i64,.int .i64,.int .i64]) fun v3=>
 cl PP 130 #[.agg #[.i v3.1,.i v3.2.1,.i v3.2.2.1]] [.lf .bool] fun r2=>
 ifB (!r2.1) (
 K (.t #[.slice none 0 0,.i 5])) (
 ld ⟨n1,0,none⟩ (.agg [.int .i64,.int .i64,.int .i64]) fun v4=>
 nw (.cells #[.i v4.1,.i v4.2.1,.i v4.2.2.1] 102) fun n2=>
 smW PP (Builtin.append_ #[55,55] 55 #[.sv z1.1,.slice (some ⟨n2,0,none⟩) 1 1]) [.lf .sl] fun v5=>
 slc ⟨z1.2.1.a,z1.2.1.len,z1.2.1.cap⟩ 6 z1.2.1.len z1.2.1.cap 1 fun s1=>
 go1 (⟨v5.1.a,v5.1.len,v5.1.cap⟩,⟨s1.a,s1.len,s1.cap⟩,()))) (
 K (.t #[.sv z1.1,.i 0])))
theorem e170(x0:SlV)(K:Value->HP):A8 PP h170 Tryz.f170 [.sv x0] K=t170 x0 K:=by kernel_rfl
def t171(x0:SlV)(K:Value->HP):HP:=
 ifB (Option.isNone x0.a) (
 K (.slice none 0 0)) (
 nw (.cells #[] 194) fun n1=>
 smW PP (Builtin.append_ #[159,159] 159 #[.slice (some ⟨n1,0,none⟩) 0 0,.sv x0]) [.lf .sl] fun v1=>
 K (.sv v1.1))
theorem e171(x0:SlV)(K:Value->HP):A8 PP Hn Tryz.f171 [.sv x0] K=t171 x0 K:=by kernel_rfl
def t172(x0:Option Addr)(x1:Int)(K:Value->HP):HP:=
 cl PP 120 #[.q x0,.i x1] [.lf .bool] fun r1=>
 ifB r1.1 (
 A9 x0 fun a1=>
 ld (a1.add 1) (.lf .sl) fun v1=>
 cl PP 228 #[.sv v1,.i x1] [.lf .bool] fun r2=>
 K (.b (!r2.1))) (
 K (.b false))
theorem e172(x0:Option Addr)(x1:Int)(K:Value->HP):A8 PP Hn Tryz.f172 [.q x0,.i x1] K=t172 x0 x1 K:=by kernel_rfl
def h173:D5:=⟨[],[(10,[])],[(6,[0,1,4,5,6,2,3,7,8,9])]⟩
def t173(x0:Option Addr)(x1:Int)(x2:ShV (.agg [.int .i64,.int .i64,.int .i64]))(K:Value->HP):HP:=
 nw (.cells #[.i x2.1,.i x2.2.1,.i x2.2.2.1] 102) fun n1=>
 nw (.cells #[.i 0,.i 0,.i 0] 102) fun n2=>
 ifB (Option.isNone x0) (
 st ⟨n2,0,none⟩ [.i 0,.i 0,.i 0]<|
 ld ⟨n2,0,none⟩ (.agg [.int .i64,.int .i64,.int .i64]) fun v1=>
 K (.t #[.agg #[.i v1.1,.i v1.2.1,.i v1.2.2.1],.b false])) (
 ld ⟨n1,0,none⟩ (.agg [.int .i64,.int .i64,.int .i64]) fun v2=>
 cl PP 176 #[.q x0,.int .u64 x1,.agg #[.i v2.1,.i v2.2.1,.i v2.2.2.1]] [.agg [.int .i64,.int .i64,.int .i64,.int .i64,.int .i64],.lf .bool] fun r1=>
 cl PP 137 #[.q x0,.int .u64 x1] [.lf .ptr] fun r2=>
 nw (.cells #[.i 0,.i 0,.i 0,.i 0,.i 0] 204) fun n3=>
 A9 r2.1 fun a1=>
 A9 x0 fun a2=>
 ld a1 (.lf .sl) fun v3=>
 ld a2 (lI) fun v4=>
 jn (fun y1:RsV []=>
 ld ⟨n1,0,none⟩ (.agg [.int .i64,.int .i64,.int .i64]) fun v8=>
 cl PP 184 #[.int .u64 x1,.agg #[.i v8.1,.i v8.2.1,.i v8.2.2.1]] [.agg [.int .i64,.int .i64,.int .i64,.int .i64]] fun r4=>
 cl PP 230 #[.q x0,.int .u64 x1,.agg #[.i r4.1.1,.i r4.1.2.1,.i r4.1.2.2.1,.i r4.1.2.2.2.1,.i 0]] [] fun r5=>
 ld (Addr.add ⟨n3,0,none⟩ 1) (.agg [.int .i64,.int .i64,.int .i64]) fun v9=>
 st ⟨n2,0,none⟩ [.i v9.1,.i v9.2.1,.i v9.2.2.1]<|
 ld ⟨n2,0,none⟩ (.agg [.int .i64,.int .i64,.int .i64]) fun v10=>
 K (.t #[.agg #[.i v10.1,.i v10.2.1,.i v10.2.2.1],.b ((v3.len:Int)==v4)])) fun j1=>
 ifB ((v3.len:Int)==v4) (
 A9 r2.1 fun a3=>
 ld a3 (.lf .sl) fun v5=>
 A9 v5.a fun a4=>
 ixn 0 v5.len<|
 ld (a4.add ((0:Int).toNat*5)) (.agg [.int .i64,.int .i64,.int .i64,.int .i64,.int .i64]) fun v6=>
 st ⟨n3,0,none⟩ [.i v6.1,.i v6.2.1,.i v6.2.2.1,.i v6.2.2.2.1,.i v6.2.2.2.2.1]<|
 A9 r2.1 fun a5=>
 ld a5 (.lf .sl) fun v7=>
 cl PP 229 #[.sv v7,.i 0,.i 1] [.lf .sl] fun r3=>
 A9 r2.1 fun a6=>
 st a6 [.slice r3.1.a r3.1.len r3.1.cap]<|
 j1 (())) (
 j1 (())))
theorem e173(x0:Option Addr)(x1:Int)(x2:ShV (.agg [.int .i64,.int .i64,.int .i64]))(K:Value->HP):A8 PP h173 Tryz.f173 [.q x0,.int .u64 x1,.agg #[.i x2.1,.i x2.2.1,.i x2.2.2.1]] K=t173 x0 x1 x2 K:=by kernel_rfl
def h174:D5:=⟨[(0,[(0,.lf (.int .u64)),(9,lI)])],[],[]⟩
def t174(x0:Int)(x1:SlV)(K:Value->HP):HP:=
 lp [.lf (.int .u64),lI] (x0,0,()) fun z1 go1=>
 ifB (decide ((z1.2.1:Int)<x1.len)) (
 A9 x1.a fun a1=>
 ixn z1.2.1 x1.len<|
 ld (a1.add (z1.2.1.toNat*1)) (.lf (.int .u8)) fun v1=>
 req ((0:Int)<=29)<|
 go1 (Ak8 .xor .u64 (IntKind.u64.wrap ((Ak8 .xor .u64 z1.1 (IntKind.u64.wrap v1))*1099511628211)) (Int.fdiv (IntKind.u64.wrap ((Ak8 .xor .u64 z1.1 (IntKind.u64.wrap v1))*1099511628211)) (2^(min (29:Int).toNat IntKind.u64.bits))),IntKind.i64.wrap (z1.2.1+1),())) (
 K (.int .u64 z1.1))
theorem e174(x0:Int)(x1:SlV)(K:Value->HP):A8 PP h174 Tryz.f174 [.int .u64 x0,.sv x1] K=t174 x0 x1 K:=by kernel_rfl
def h175:D5:=⟨[],[(3,[]),(6,[])],[(7,[0,1,2,4,5,6,7,3,8,9]),(6,[0,1,2,4,3,5,6,7,8,9]),(4,[0,1,2,4,5,6,3,7,8,9,10]),(1,[0,1,2,4,5,6,3,7,8,9,10])]⟩
def t175(x0:Option Addr)(x1:Option Addr)(K:Value->HP):HP:=
 jn (fun y1:RsV []=>
 jn (fun y2:RsV []=>
 A9 x0 fun a13=>
 ld (a13.add 1) (lI) fun v9=>
 cl PP 112 #[.q x1] [lI] fun r1=>
 keep (D4 (a13.add 1) [.i v9])<|
 A9 x0 fun a14=>
 st (a14.add 1) [.i (IntKind.i64.wrap (v9-r1.1))]<|
 A9 x0 fun a15=>
 A9 x1 fun a16=>
 ld (a15.add 4) (.lf .map) fun v10=>
 ld a16 (.lf .str) fun v11=>
 smW PP (Builtin.delete_ #[180,9] 0 #[.map v10,.w v11]) [] fun v12=>
 K (.t #[])) fun j2=>
 A9 x1 fun a7=>
 ld (a7.add 4) (.lf .ptr) fun v5=>
 ifB (!(Option.isNone v5)) (
 A9 x1 fun a8=>
 A9 x1 fun a9=>
 ld (a8.add 4) (.lf .ptr) fun v6=>
 ld (a9.add 3) (.lf .ptr) fun v7=>
 A9 v6 fun a10=>
 st (a10.add 3) [.q v7]<|
 j2 (())) (
 A9 x1 fun a11=>
 ld (a11.add 3) (.lf .ptr) fun v8=>
 A9 x0 fun a12=>
 st (a12.add 3) [.q v8]<|
 j2 (()))) fun j1=>
 A9 x1 fun a1=>
 ld (a1.add 3) (.lf .ptr) fun v1=>
 ifB (!(Option.isNone v1)) (
 A9 x1 fun a2=>
 A9 x1 fun a3=>
 ld (a2.add 3) (.lf .ptr) fun v2=>
 ld (a3.add 4) (.lf .ptr) fun v3=>
 A9 v2 fun a4=>
 st (a4.add 4) [.q v3]<|
 j1 (())) (
 A9 x1 fun a5=>
 ld (a5.add 4) (.lf .ptr) fun v4=>
 A9 x0 fun a6=>
 st (a6.add 2) [.q v4]<|
 j1 (()))
theorem e175(x0:Option Addr)(x1:Option Addr)(K:Value->HP):A8 PP h175 Tryz.f175 [.q x0,.q x1] K=t175 x0 x1 K:=by kernel_rfl
def h176:D5:=⟨[],[],[(3,[0,1,3,4,2,5,6,7,8])]⟩
def t176(x0:Option Addr)(x1:Int)(x2:ShV (.agg [.int .i64,.int .i64,.int .i64]))(K:Value->HP):HP:=
 nw (.cells #[.i x2.1,.i x2.2.1,.i x2.2.2.1] 102) fun n1=>
 nw (.cells #[.i 0,.i 0,.i 0,.i 0,.i 0] 204) fun n2=>
 ifB (Option.isNone x0) (
 st ⟨n2,0,none⟩ [.i 0,.i 0,.i 0,.i 0,.i 0]<|
 ld ⟨n2,0,none⟩ (.agg [.int .i64,.int .i64,.int .i64,.int .i64,.int .i64]) fun v1=>
 K (.t #[.agg #[.i v1.1,.i v1.2.1,.i v1.2.2.1,.i v1.2.2.2.1,.i v1.2.2.2.2.1],.b false])) (
 ld ⟨n1,0,none⟩ (.agg [.int .i64,.int .i64,.int .i64]) fun v2=>
 cl PP 137 #[.q x0,.int .u64 x1] [.lf .ptr] fun r1=>
 keep (D4 ⟨n1,0,none⟩ [.i v2.1,.i v2.2.1,.i v2.2.2.1])<|
 cl PP 184 #[.int .u64 x1,.agg #[.i v2.1,.i v2.2.1,.i v2.2.2.1]] [.agg [.int .i64,.int .i64,.int .i64,.int .i64]] fun r2=>
 nw (.cells #[.i 0,.i 0,.i 0,.i 0] 202) fun n3=>
 st ⟨n3,0,none⟩ [.i r2.1.1,.i r2.1.2.1,.i r2.1.2.2.1,.i r2.1.2.2.2.1]<|
 A9 r1.1 fun a1=>
 ld a1 (.lf .sl) fun v3=>
 cl PP 231 #[.sv v3,.func (.func 232) #[] #[.q (some ⟨n3,0,none⟩)]] [lI] fun r3=>
 ifB (decide ((r3.1:Int)<0)) (
 st ⟨n2,0,none⟩ [.i 0,.i 0,.i 0,.i 0,.i 0]<|
 ld ⟨n2,0,none⟩ (.agg [.int .i64,.int .i64,.int .i64,.int .i64,.int .i64]) fun v4=>
 K (.t #[.agg #[.i v4.1,.i v4.2.1,.i v4.2.2.1,.i v4.2.2.2.1,.i v4.2.2.2.2.1],.b false])) (
 A9 r1.1 fun a2=>
 ld a2 (.lf .sl) fun v5=>
 A9 v5.a fun a3=>
 ixn r3.1 v5.len<|
 ld (a3.add (r3.1.toNat*5)) (.agg [.int .i64,.int .i64,.int .i64,.int .i64,.int .i64]) fun v6=>
 nw (.cells #[.i 0,.i 0,.i 0,.i 0,.i 0] 204) fun n4=>
 st ⟨n4,0,none⟩ [.i v6.1,.i v6.2.1,.i v6.2.2.1,.i v6.2.2.2.1,.i v6.2.2.2.2.1]<|
 A9 r1.1 fun a4=>
 ld a4 (.lf .sl) fun v7=>
 cl PP 229 #[.sv v7,.i r3.1,.i (IntKind.i64.wrap (r3.1+1))] [.lf .sl] fun r4=>
 A9 r1.1 fun a5=>
 st a5 [.slice r4.1.a r4.1.len r4.1.cap]<|
 ld ⟨n4,0,none⟩ (.agg [.int .i64,.int .i64,.int .i64,.int .i64,.int .i64]) fun v8=>
 st ⟨n2,0,none⟩ [.i v8.1,.i v8.2.1,.i v8.2.2.1,.i v8.2.2.2.1,.i v8.2.2.2.2.1]<|
 ld ⟨n2,0,none⟩ (.agg [.int .i64,.int .i64,.int .i64,.int .i64,.int .i64]) fun v9=>
 K (.t #[.agg #[.i v9.1,.i v9.2.1,.i v9.2.2.1,.i v9.2.2.2.1,.i v9.2.2.2.2.1],.b true])))
theorem e176(x0:Option Addr)(x1:Int)(x2:ShV (.agg [.int .i64,.int .i64,.int .i64]))(K:Value->HP):A8 PP h176 Tryz.f176 [.q x0,.int .u64 x1,.agg #[.i x2.1,.i x2.2.1,.i x2.2.2.1]] K=t176 x0 x1 x2 K:=by kernel_rfl
def t177(x0:SlV)(x1:ByteArray)(K:Value->HP):HP:=
 ifB (decide ((x1.size:Int)>65536)) (
 K (.t #[.slice none 0 0,.i 4])) (
 cl PP 132 #[.sv x0,.i x1.size,.i 4] [.lf .sl,lI] fun r1=>
 smW PP (Builtin.append_ #[27,9] 27 #[.sv r1.1,.w x1]) [.lf .sl] fun v1=>
 K (.t #[.sv v1.1,.i r1.2.1]))
theorem e177(x0:SlV)(x1:ByteArray)(K:Value->HP):A8 PP Hn Tryz.f177 [.sv x0,.w x1] K=t177 x0 x1 K:=by kernel_rfl
def t178(x0:SlV)(K:Value->HP):HP:=
 cl PP 233 #[.sv x0] [.lf .sl] fun r1=>
 K (.sv r1.1)
theorem e178(x0:SlV)(K:Value->HP):A8 PP Hn Tryz.f178 [.sv x0] K=t178 x0 K:=by kernel_rfl
def t179(x0:SlV)(K:Value->HP):HP:=
 cl PP 234 #[.i 0,.sv x0] [lI] fun r1=>
 K (.i r1.1)
theorem e179(x0:SlV)(K:Value->HP):A8 PP Hn Tryz.f179 [.sv x0] K=t179 x0 K:=by kernel_rfl
def t180(x0:Int)(K:Value->HP):HP:=
 req ((0:Int)<=48)<|
 K (.i (IntKind.i64.wrap (Int.fdiv x0 (2^(min (48:Int).toNat IntKind.u64.bits)))))
theorem e180(x0:Int)(K:Value->HP):A8 PP Hn Tryz.f180 [.int .u64 x0] K=t180 x0 K:=by kernel_rfl
def t181(x0:Option Addr)(x1:Int)(x2:Int)(K:Value->HP):HP:=
 cl PP 235 #[.q x0,.i x1,.i x2] [.lf .ptr,lI] fun r1=>
 ifB ((r1.2.1:Int) !=0) (
 K (.t #[.slice none 0 0,.i r1.2.1])) (
 A9 r1.1 fun a1=>
 ld (a1.add 3) (.lf .bool) fun v1=>
 ifB v1 (
 A9 x0 fun a2=>
 ld (Addr.add (a2.add 3) 2) (lI) fun v2=>
 cl PP 163 #[.i v2] [.lf .sl] fun r2=>
 K (.t #[.sv r2.1,.i 0])) (
 nw (.cells #[] 5) fun n1=>
 A9 r1.1 fun a3=>
 ld a3 (.lf .sl) fun v3=>
 A9 v3.a fun a4=>
 ixn x2 v3.len<|
 ld (a4.add (x2.toNat*1)) (.lf .sl) fun v4=>
 smW PP (Builtin.append_ #[27,27] 27 #[.slice (some ⟨n1,0,none⟩) 0 0,.sv v4]) [.lf .sl] fun v5=>
 K (.t #[.sv v5.1,.i 0])))
theorem e181(x0:Option Addr)(x1:Int)(x2:Int)(K:Value->HP):A8 PP Hn Tryz.f181 [.q x0,.i x1,.i x2] K=t181 x0 x1 x2 K:=by kernel_rfl
def h182:D5:=⟨[(1,[(84,lI)])],[],[(19,[2,3,4,0,1,5,6,7,8]),(8,[0,1,4,5,8,9,12,14,15,2,3,6,7,10,11,16,17,13,18,19,20]),(6,[0,1,2,3,4,5,6,7])]⟩
def t182(x0:SlV)(K:Value->HP):HP:=
 nw (.cells #[.i 0,.i 0,.i 0,.i 0,.i 0] 272) fun n1=>
 cl PP 129 #[.i x0.len] [.lf .bool] fun r1=>
 ifB (!r1.1) (
 st ⟨n1,0,none⟩ [.i 0,.i 0,.i 0,.i 0,.i 0]<|
 ld ⟨n1,0,none⟩ (.agg [.int .i64,.int .i64,.int .i64,.int .i64,.int .i64]) fun v1=>
 K (.t #[.agg #[.i v1.1,.i v1.2.1,.i v1.2.2.1,.i v1.2.2.2.1,.i v1.2.2.2.2.1],.slice none 0 0,.i 2])) (
 cl PP 236 #[.sv x0] [.lf .bool] fun r2=>
 ifB r2.1 (
 st ⟨n1,0,none⟩ [.i 0,.i 0,.i 0,.i 0,.i 0]<|
 ld ⟨n1,0,none⟩ (.agg [.int .i64,.int .i64,.int .i64,.int .i64,.int .i64]) fun v2=>
 K (.t #[.agg #[.i v2.1,.i v2.2.1,.i v2.2.2.1,.i v2.2.2.2.1,.i v2.2.2.2.2.1],.slice none 0 0,.i 15])) (
 slc ⟨x0.a,x0.len,x0.cap⟩ 0 (IntKind.i64.wrap (x0.len-4)) x0.cap 1 fun s1=>
 cl PP 238 #[.sv x0,.i (IntKind.i64.wrap (x0.len-4)),.i 4] [lI] fun r3=>
 cl PP 237 #[.sv s1,.i r3.1] [.lf .bool] fun r4=>
 ifB (!r4.1) (
 st ⟨n1,0,none⟩ [.i 0,.i 0,.i 0,.i 0,.i 0]<|
 ld ⟨n1,0,none⟩ (.agg [.int .i64,.int .i64,.int .i64,.int .i64,.int .i64]) fun v3=>
 K (.t #[.agg #[.i v3.1,.i v3.2.1,.i v3.2.2.1,.i v3.2.2.2.1,.i v3.2.2.2.2.1],.slice none 0 0,.i 12])) (
 A9 x0.a fun a1=>
 ixn 0 x0.len<|
 A9 x0.a fun a2=>
 ixn 1 x0.len<|
 A9 x0.a fun a3=>
 ixn 2 x0.len<|
 A9 x0.a fun a4=>
 ixn 8 x0.len<|
 ld (a1.add ((0:Int).toNat*1)) (.lf (.int .u8)) fun v4=>
 ld (a2.add ((1:Int).toNat*1)) (.lf (.int .u8)) fun v5=>
 ld (a3.add ((2:Int).toNat*1)) (.lf (.int .u8)) fun v6=>
 ld (a4.add ((8:Int).toNat*1)) (.lf (.int .u8)) fun v7=>
 cl PP 238 #[.sv x0,.i 4,.i 4] [lI] fun r5=>
 keep (D4 (a4.add ((8:Int).toNat*1)) [.int .u8 v7])<|
 keep (D4 (a3.add ((2:Int).toNat*1)) [.int .u8 v6])<|
 keep (D4 (a2.add ((1:Int).toNat*1)) [.int .u8 v5])<|
 keep (D4 (a1.add ((0:Int).toNat*1)) [.int .u8 v4])<|
 nw (.cells #[.i 0,.i 0,.i 0,.i 0,.i 0] 272) fun n2=>
 st ⟨n2,0,none⟩ [.i (IntKind.i64.wrap v4),.i (IntKind.i64.wrap v5),.i (IntKind.i64.wrap v6),.i r5.1,.i (IntKind.i64.wrap v7)]<|
 cl PP 238 #[.sv x0,.i 10,.i 2] [lI] fun r6=>
 A9 x0.a fun a5=>
 ixn 3 x0.len<|
 ld (a5.add ((3:Int).toNat*1)) (.lf (.int .u8)) fun v8=>
 ifB ((v8:Int) !=165) (
 st ⟨n1,0,none⟩ [.i 0,.i 0,.i 0,.i 0,.i 0]<|
 ld ⟨n1,0,none⟩ (.agg [.int .i64,.int .i64,.int .i64,.int .i64,.int .i64]) fun v9=>
 K (.t #[.agg #[.i v9.1,.i v9.2.1,.i v9.2.2.1,.i v9.2.2.2.1,.i v9.2.2.2.2.1],.slice none 0 0,.i 5])) (
 A9 x0.a fun a6=>
 ixn 9 x0.len<|
 ld (a6.add ((9:Int).toNat*1)) (.lf (.int .u8)) fun v10=>
 ifB ((v10:Int) !=0) (
 st ⟨n1,0,none⟩ [.i 0,.i 0,.i 0,.i 0,.i 0]<|
 ld ⟨n1,0,none⟩ (.agg [.int .i64,.int .i64,.int .i64,.int .i64,.int .i64]) fun v11=>
 K (.t #[.agg #[.i v11.1,.i v11.2.1,.i v11.2.2.1,.i v11.2.2.2.1,.i v11.2.2.2.2.1],.slice none 0 0,.i 5])) (
 cl PP 62 #[.i x0.len] [lI] fun r7=>
 ifB (decide ((r6.1:Int)>r7.1)) (
 st ⟨n1,0,none⟩ [.i 0,.i 0,.i 0,.i 0,.i 0]<|
 ld ⟨n1,0,none⟩ (.agg [.int .i64,.int .i64,.int .i64,.int .i64,.int .i64]) fun v12=>
 K (.t #[.agg #[.i v12.1,.i v12.2.1,.i v12.2.2.1,.i v12.2.2.2.1,.i v12.2.2.2.2.1],.slice none 0 0,.i 5])) (
 ld ⟨n2,0,none⟩ (.agg [.int .i64,.int .i64,.int .i64,.int .i64,.int .i64]) fun v13=>
 cl PP 239 #[.agg #[.i v13.1,.i v13.2.1,.i v13.2.2.1,.i v13.2.2.2.1,.i v13.2.2.2.2.1]] [lI] fun r8=>
 ifB ((r8.1:Int) !=0) (
 st ⟨n1,0,none⟩ [.i 0,.i 0,.i 0,.i 0,.i 0]<|
 ld ⟨n1,0,none⟩ (.agg [.int .i64,.int .i64,.int .i64,.int .i64,.int .i64]) fun v14=>
 K (.t #[.agg #[.i v14.1,.i v14.2.1,.i v14.2.2.1,.i v14.2.2.2.1,.i v14.2.2.2.2.1],.slice none 0 0,.i 5])) (
 slc ⟨x0.a,x0.len,x0.cap⟩ (IntKind.i64.wrap (12+r6.1)) (IntKind.i64.wrap (x0.len-4)) x0.cap 1 fun s2=>
 lp [lI] (0,()) fun z1 go1=>
 ifB (decide ((z1.1:Int)<s2.len)) (
 A9 s2.a fun a7=>
 ixn z1.1 s2.len<|
 ld (a7.add (z1.1.toNat*1)) (.lf (.int .u8)) fun v15=>
 ifB ((v15:Int) !=0) (
 st ⟨n1,0,none⟩ [.i 0,.i 0,.i 0,.i 0,.i 0]<|
 ld ⟨n1,0,none⟩ (.agg [.int .i64,.int .i64,.int .i64,.int .i64,.int .i64]) fun v16=>
 K (.t #[.agg #[.i v16.1,.i v16.2.1,.i v16.2.2.1,.i v16.2.2.2.1,.i v16.2.2.2.2.1],.slice none 0 0,.i 5])) (
 go1 (IntKind.i64.wrap (z1.1+1),()))) (
 slc ⟨x0.a,x0.len,x0.cap⟩ 12 (IntKind.i64.wrap (12+r6.1)) x0.cap 1 fun s3=>
 ld ⟨n2,0,none⟩ (.agg [.int .i64,.int .i64,.int .i64,.int .i64,.int .i64]) fun v17=>
 nw (.cells #[] 5) fun n3=>
 smW PP (Builtin.append_ #[27,27] 27 #[.slice (some ⟨n3,0,none⟩) 0 0,.sv s3]) [.lf .sl] fun v18=>
 keep (D4 ⟨n2,0,none⟩ [.i v17.1,.i v17.2.1,.i v17.2.2.1,.i v17.2.2.2.1,.i v17.2.2.2.2.1])<|
 st ⟨n1,0,none⟩ [.i v17.1,.i v17.2.1,.i v17.2.2.1,.i v17.2.2.2.1,.i v17.2.2.2.2.1]<|
 ld ⟨n1,0,none⟩ (.agg [.int .i64,.int .i64,.int .i64,.int .i64,.int .i64]) fun v19=>
 K (.t #[.agg #[.i v19.1,.i v19.2.1,.i v19.2.2.1,.i v19.2.2.2.1,.i v19.2.2.2.2.1],.sv v18.1,.i 0])))))))))
theorem e182(x0:SlV)(K:Value->HP):A8 PP h182 Tryz.f182 [.sv x0] K=t182 x0 K:=by kernel_rfl
def t183(x0:SlV)(K:Value->HP):HP:=
 cl PP 178 #[.sv x0] [.lf .sl] fun r1=>
 cl PP 240 #[.sv r1.1] [.lf .ptr] fun r2=>
 cl PP 241 #[.q r2.1] [.lf .str,lI] fun r3=>
 ifB ((r3.2.1:Int) !=0) (
 K (.t #[.w (ByteArray.mk #[]),.slice none 0 0,.i r3.2.1])) (
 cl PP 241 #[.q r2.1] [.lf .str,lI] fun r4=>
 ifB ((r4.2.1:Int) !=0) (
 K (.t #[.w (ByteArray.mk #[]),.slice none 0 0,.i r4.2.1])) (
 cl PP 242 #[.q r2.1] [lI] fun r5=>
 cl PP 243 #[.q r2.1,.i 4] [lI,lI] fun r6=>
 ifB ((r6.2.1:Int) !=0) (
 K (.t #[.w (ByteArray.mk #[]),.slice none 0 0,.i r6.2.1])) (
 cl PP 242 #[.q r2.1] [lI] fun r7=>
 ifB (decide ((r7.1:Int)>0)) (
 K (.t #[.w (ByteArray.mk #[]),.slice none 0 0,.i 5])) (
 cl PP 107 #[.i r3.1.size] [.lf .bool] fun r8=>
 ifB (!r8.1) (
 K (.t #[.w (ByteArray.mk #[]),.slice none 0 0,.i 5])) (
 slc ⟨r1.1.a,r1.1.len,r1.1.cap⟩ 0 (IntKind.i64.wrap (r1.1.len-r5.1)) r1.1.cap 1 fun s1=>
 cl PP 237 #[.sv s1,.i r6.1] [.lf .bool] fun r9=>
 ifB (!r9.1) (
 K (.t #[.w (ByteArray.mk #[]),.slice none 0 0,.i 12])) (
 smA PP (Conv.stringToBytes 5 r4.1) (.lf .sl) fun v1=>
 K (.t #[.w r3.1,.sv v1,.i 0])))))))
theorem e183(x0:SlV)(K:Value->HP):A8 PP Hn Tryz.f183 [.sv x0] K=t183 x0 K:=by kernel_rfl
def h184:D5:=⟨[],[],[(1,[0,2,1,3,4])]⟩
def t184(x0:Int)(x1:ShV (.agg [.int .i64,.int .i64,.int .i64]))(K:Value->HP):HP:=
 nw (.cells #[.i x1.1,.i x1.2.1,.i x1.2.2.1] 102) fun n1=>
 nw (.cells #[.i 0,.i 0,.i 0,.i 0] 202) fun n2=>
 ld ⟨n1,0,none⟩ (.agg [.int .i64,.int .i64,.int .i64]) fun v1=>
 cl PP 180 #[.int .u64 x0] [lI] fun r1=>
 keep (D4 ⟨n1,0,none⟩ [.i v1.1,.i v1.2.1,.i v1.2.2.1])<|
 st ⟨n2,0,none⟩ [.i r1.1,.i v1.1,.i v1.2.1,.i v1.2.2.1]<|
 ld ⟨n2,0,none⟩ (.agg [.int .i64,.int .i64,.int .i64,.int .i64]) fun v2=>
 K (.agg #[.i v2.1,.i v2.2.1,.i v2.2.2.1,.i v2.2.2.2.1])
theorem e184(x0:Int)(x1:ShV (.agg [.int .i64,.int .i64,.int .i64]))(K:Value->HP):A8 PP h184 Tryz.f184 [.int .u64 x0,.agg #[.i x1.1,.i x1.2.1,.i x1.2.2.1]] K=t184 x0 x1 K:=by kernel_rfl
def t185(x0:Option Addr)(K:Value->HP):HP:=
 nw (.cells #[.i 0] 3) fun n1=>
 st ⟨n1,0,none⟩ [.i 0]<|
 cl PP 119 #[.q x0,.func (.func 172) #[.q x0] #[],.func (.func 244) #[] #[.q (some ⟨n1,0,none⟩)]] [] fun r1=>
 ld ⟨n1,0,none⟩ (lI) fun v1=>
 K (.i v1)
theorem e185(x0:Option Addr)(K:Value->HP):A8 PP Hn Tryz.f185 [.q x0] K=t185 x0 K:=by kernel_rfl
def h186:D5:=⟨[],[(4,[])],[]⟩
def t186(x0:Option Addr)(K:Value->HP):HP:=
 A9 x0 fun a1=>
 ld (a1.add 1) (.lf .ptr) fun v1=>
 cl PP 245 #[.q v1] [lI,.lf .bool] fun r1=>
 jn (fun y1:RsV []=>
 A9 x0 fun a5=>
 ld (a5.add 3) (.lf .map) fun v5=>
 smR PP (Instr.lookup 79 (.map v5) (.i r1.1) false) [.lf .ptr] fun v6=>
 K (.q v6.1)) fun j1=>
 ifB (!r1.2.1) (
 K (.q none)) (
 A9 x0 fun a2=>
 ld (a2.add 4) (.lf .ptr) fun v2=>
 ifB (!(Option.isNone v2)) (
 A9 x0 fun a3=>
 ld (a3.add 4) (.lf .ptr) fun v3=>
 A9 v3 fun a4=>
 ld a4 (lI) fun v4=>
 ifB ((v4:Int)==r1.1) (
 K (.q none)) (
 j1 (()))) (
 j1 (())))
theorem e186(x0:Option Addr)(K:Value->HP):A8 PP h186 Tryz.f186 [.q x0] K=t186 x0 K:=by kernel_rfl
def h187:D5:=⟨[(0,[(15,lI)])],[],[(10,[0,1,2,3,4,5,6,7,8]),(5,[0,5,13,1,2,3,4,6,7,8,9,10,11,12,14,15])]⟩
def t187(x0:Option Addr)(x1:Option Addr)(x2:Int)(K:Value->HP):HP:=
 nw (.cells #[.q x1] 80) fun n1=>
 ld ⟨n1,0,none⟩ (.lf .ptr) fun v1=>
 A9 v1 fun a1=>
 ld (a1.add 3) (.lf .sl) fun v2=>
 lp [lI] (0,()) fun z1 go1=>
 ifB (decide ((z1.1:Int)<v2.len)) (
 A9 v2.a fun a2=>
 ixn z1.1 v2.len<|
 ld (a2.add (z1.1.toNat*3)) (.agg [.int .i64,.int .i64,.int .i64]) fun v3=>
 nw (.cells #[.i 0,.i 0,.i 0] 215) fun n2=>
 st ⟨n2,0,none⟩ [.i v3.1,.i v3.2.1,.i v3.2.2.1]<|
 ld ⟨n2,0,none⟩ (lI) fun v4=>
 ifB ((v4:Int) !=2) (
 go1 (IntKind.i64.wrap (z1.1+1),())) (
 ld ⟨n1,0,none⟩ (.lf .ptr) fun v5=>
 A9 v5 fun a3=>
 ld a3 (lI) fun v6=>
 ld (Addr.add ⟨n2,0,none⟩ 1) (lI) fun v7=>
 ld ⟨n1,0,none⟩ (.lf .ptr) fun v8=>
 A9 v8 fun a4=>
 ld (a4.add 1) (lI) fun v9=>
 ld ⟨n2,0,none⟩ (.agg [.int .i64,.int .i64,.int .i64]) fun v10=>
 cl PP 246 #[.q x0,.agg #[.i v6,.i v7,.i v9],.agg #[.i v10.1,.i v10.2.1,.i v10.2.2.1],.i x2] [lI] fun r1=>
 ifB ((r1.1:Int) !=0) (
 K (.i r1.1)) (
 go1 (IntKind.i64.wrap (z1.1+1),())))) (
 A9 x0 fun a5=>
 ld (Addr.add (a5.add 11) 6) (.lf .sl) fun v11=>
 cl PP 247 #[.sv v11,.func (.func 248) #[] #[.q (some ⟨n1,0,none⟩)]] [.lf .sl] fun r2=>
 A9 x0 fun a6=>
 st (Addr.add (a6.add 11) 6) [.slice r2.1.a r2.1.len r2.1.cap]<|
 A9 x0 fun a7=>
 ld ⟨n1,0,none⟩ (.lf .ptr) fun v12=>
 A9 v12 fun a8=>
 ld a8 (lI) fun v13=>
 cl PP 190 #[.q (some (a7.add 11)),.i v13] [lI] fun r3=>
 K (.i r3.1))
theorem e187(x0:Option Addr)(x1:Option Addr)(x2:Int)(K:Value->HP):A8 PP h187 Tryz.f187 [.q x0,.q x1,.i x2] K=t187 x0 x1 x2 K:=by kernel_rfl
def h188:D5:=⟨[],[],[(6,[0,1,2,3,5,6,7,9,10,11,13,14,15,17,18,19,4,8,12,16,20,21,22,23]),(5,[0,1,2,4,3,5,6,7])]⟩
def t188(x0:Option Addr)(K:Value->HP):HP:=
 A9 x0 fun a1=>
 ld (a1.add 4) (.lf .ptr) fun v1=>
 ifB (Option.isNone v1) (
 K (.i 0)) (
 A9 x0 fun a2=>
 st (a2.add 4) [.q none]<|
 A9 x0 fun a3=>
 ld (a3.add 2) (.lf .ptr) fun v2=>
 nw (.cells #[.i 1] 3) fun n1=>
 cl PP 134 #[.q x0,.slice (some ⟨n1,0,none⟩) 1 1] [lI] fun r1=>
 keep (D4 (a3.add 2) [.q v2])<|
 cl PP 133 #[.q v2,.i r1.1] [.lf .bool] fun r2=>
 A9 x0 fun a4=>
 A9 v1 fun a5=>
 A9 v1 fun a6=>
 A9 v1 fun a7=>
 A9 v1 fun a8=>
 ld a4 (.lf .ptr) fun v3=>
 ld a5 (lI) fun v4=>
 ld (a6.add 1) (lI) fun v5=>
 ld (a7.add 2) (lI) fun v6=>
 ld (a8.add 3) (.lf .sl) fun v7=>
 cl PP 249 #[.q v3,.i v4,.i v5,.i v6,.sv v7] [lI] fun r3=>
 cl PP 136 #[.q x0,.i r3.1] [lI] fun r4=>
 K (.i r4.1))
theorem e188(x0:Option Addr)(K:Value->HP):A8 PP h188 Tryz.f188 [.q x0] K=t188 x0 K:=by kernel_rfl
def h189:D5:=⟨[],[],[(4,[1,0,4,2,5,3,6])]⟩
def t189(x0:Option Addr)(K:Value->HP):HP:=
 nw (.cells #[.i 0,.b false,.b false] 194) fun n1=>
 nw (.cells #[.i 0] 3) fun n2=>
 nw (.cells #[.b false] 4) fun n3=>
 st ⟨n2,0,none⟩ [.i 0]<|
 st ⟨n3,0,none⟩ [.b false]<|
 cl PP 119 #[.q x0,.func (.func 172) #[.q x0] #[],.func (.func 250) #[] #[.q (some ⟨n3,0,none⟩),.q (some ⟨n1,0,none⟩),.q (some ⟨n2,0,none⟩)]] [] fun r1=>
 ld ⟨n2,0,none⟩ (lI) fun v1=>
 ld (Addr.add ⟨n1,0,none⟩ 2) (.lf .bool) fun v2=>
 ld ⟨n3,0,none⟩ (.lf .bool) fun v3=>
 K (.t #[.i v1,.b v2,.b v3])
theorem e189(x0:Option Addr)(K:Value->HP):A8 PP h189 Tryz.f189 [.q x0] K=t189 x0 K:=by kernel_rfl
def t190(x0:Option Addr)(x1:Int)(K:Value->HP):HP:=
 A9 x0 fun a1=>
 ld a1 (.lf .ptr) fun v1=>
 cl PP 252 #[.q v1,.i x1] [lI] fun r1=>
 ifB ((r1.1:Int)==11) (
 cl PP 136 #[.q x0,.i r1.1] [lI] fun r2=>
 K (.i r2.1)) (
 A9 x0 fun a2=>
 ld (a2.add 1) (.lf .ptr) fun v2=>
 cl PP 253 #[.q v2,.i x1,.b ((r1.1:Int)==10)] [.lf .bool] fun r3=>
 A9 x0 fun a3=>
 ld (a3.add 3) (.lf .map) fun v3=>
 smW PP (Builtin.delete_ #[79,3] 0 #[.map v3,.i x1]) [] fun v4=>
 K (.i 0))
theorem e190(x0:Option Addr)(x1:Int)(K:Value->HP):A8 PP Hn Tryz.f190 [.q x0,.i x1] K=t190 x0 x1 K:=by kernel_rfl
def h191:D5:=⟨[],[],[(8,[0,1,2,4,5,6,7,3,8,9]),(2,[0,1,2,4,5,6,7,3,8,9,10,11]),(1,[0,1,2,4,3,5,6,7])]⟩
def t191(x0:Option Addr)(x1:Int)(K:Value->HP):HP:=
 A9 x0 fun a1=>
 ld (a1.add 2) (.lf .ptr) fun v1=>
 nw (.cells #[.i 1] 3) fun n1=>
 cl PP 134 #[.q x0,.slice (some ⟨n1,0,none⟩) 1 1] [lI] fun r1=>
 keep (D4 (a1.add 2) [.q v1])<|
 cl PP 133 #[.q v1,.i r1.1] [.lf .bool] fun r2=>
 A9 x0 fun a2=>
 A9 x0 fun a3=>
 ld a2 (.lf .ptr) fun v2=>
 ld (a3.add 5) (lI) fun v3=>
 cl PP 254 #[.q v2,.i x1,.i (IntKind.i64.wrap (v3+1))] [lI] fun r3=>
 ifB ((r3.1:Int) !=0) (
 cl PP 136 #[.q x0,.i r3.1] [lI] fun r4=>
 K (.i r4.1)) (
 A9 x0 fun a4=>
 ld (a4.add 5) (lI) fun v4=>
 A9 x0 fun a5=>
 st (a5.add 5) [.i (IntKind.i64.wrap (v4+1))]<|
 A9 x0 fun a6=>
 ld (a6.add 1) (.lf .ptr) fun v5=>
 cl PP 255 #[.q v5,.i x1] [.lf .bool] fun r5=>
 A9 x0 fun a7=>
 ld (a7.add 5) (lI) fun v6=>
 nw (.cells #[.i x1,.i v6,.i 1,.slice none 0 0] 156) fun n2=>
 A9 x0 fun a8=>
 st (a8.add 4) [.q (some ⟨n2,0,none⟩)]<|
 A9 x0 fun a9=>
 A9 x0 fun a10=>
 ld (a9.add 3) (.lf .map) fun v7=>
 ld (a10.add 4) (.lf .ptr) fun v8=>
 smU PP (Instr.mapUpdate 79 (.map v7) (.i x1) (.q v8))<|
 K (.i 0))
theorem e191(x0:Option Addr)(x1:Int)(K:Value->HP):A8 PP h191 Tryz.f191 [.q x0,.i x1] K=t191 x0 x1 K:=by kernel_rfl
def h192:D5:=⟨[(0,[(5,lI)])],[],[]⟩
def t192(x0:Int)(K:Value->HP):HP:=
 nw (.cells #[.int .u8 0,.int .u8 0,.int .u8 0,.int .u8 0,.int .u8 0,.int .u8 0,.int .u8 0,.int .u8 0] 282) fun n1=>
 nw (.cells #[.int .u8 0,.int .u8 0,.int .u8 0,.int .u8 0,.int .u8 0,.int .u8 0,.int .u8 0,.int .u8 0] 282) fun n2=>
 lp [lI] (0,()) fun z1 go1=>
 ifB (decide ((z1.1:Int)<8)) (
 req ((0:Int)<=(IntKind.i64.wrap (8*z1.1)))<|
 ixn z1.1 8<|
 st (Addr.add ⟨n2,0,none⟩ (z1.1.toNat*1)) [.int .u8 (IntKind.u8.wrap (Int.fdiv x0 (2^(min (IntKind.i64.wrap (8*z1.1):Int).toNat IntKind.i64.bits))))]<|
 go1 (IntKind.i64.wrap (z1.1+1),())) (
 ld ⟨n2,0,none⟩ (.agg [.int .u8,.int .u8,.int .u8,.int .u8,.int .u8,.int .u8,.int .u8,.int .u8]) fun v1=>
 st ⟨n1,0,none⟩ [.int .u8 v1.1,.int .u8 v1.2.1,.int .u8 v1.2.2.1,.int .u8 v1.2.2.2.1,.int .u8 v1.2.2.2.2.1,.int .u8 v1.2.2.2.2.2.1,.int .u8 v1.2.2.2.2.2.2.1,.int .u8 v1.2.2.2.2.2.2.2.1]<|
 ld ⟨n1,0,none⟩ (.agg [.int .u8,.int .u8,.int .u8,.int .u8,.int .u8,.int .u8,.int .u8,.int .u8]) fun v2=>
 K (.agg #[.int .u8 v2.1,.int .u8 v2.2.1,.int .u8 v2.2.2.1,.int .u8 v2.2.2.2.1,.int .u8 v2.2.2.2.2.1,.int .u8 v2.2.2.2.2.2.1,.int .u8 v2.2.2.2.2.2.2.1,.int .u8 v2.2.2.2.2.2.2.2.1]))
theorem e192(x0:Int)(K:Value->HP):A8 PP h192 Tryz.f192 [.i x0] K=t192 x0 K:=by kernel_rfl
def h193:D5:=⟨[],[],[(1,[1,2,0,3,4,5,6,7,8,9,10])]⟩
def t193(x0:Option Addr)(x1:Int)(x2:ShV (.agg [.int .i64,.int .i64,.int .i64,.int .i64,.int .i64]))(x3:SlV)(K:Value->HP):HP:=
 nw (.cells #[.i x2.1,.i x2.2.1,.i x2.2.2.1,.i x2.2.2.2.1,.i x2.2.2.2.2.1] 272) fun n1=>
 ld ⟨n1,0,none⟩ (.agg [.int .i64,.int .i64,.int .i64,.int .i64,.int .i64]) fun v1=>
 cl PP 93 #[.q x0] [.agg [.int .i64,.int .i64,.int .i64,.int .i64]] fun r1=>
 keep (D4 ⟨n1,0,none⟩ [.i v1.1,.i v1.2.1,.i v1.2.2.1,.i v1.2.2.2.1,.i v1.2.2.2.2.1])<|
 cl PP 256 #[.agg #[.i v1.1,.i v1.2.1,.i v1.2.2.1,.i v1.2.2.2.1,.i v1.2.2.2.2.1],.sv x3,.i r1.1.2.2.1] [.lf .sl,lI] fun r2=>
 ifB ((r2.2.1:Int) !=0) (
 K (.i r2.2.1)) (
 ld (Addr.add ⟨n1,0,none⟩ 4) (lI) fun v2=>
 cl PP 257 #[.q x0,.i x1,.i v2,.sv r2.1] [lI] fun r3=>
 K (.i r3.1))
theorem e193(x0:Option Addr)(x1:Int)(x2:ShV (.agg [.int .i64,.int .i64,.int .i64,.int .i64,.int .i64]))(x3:SlV)(K:Value->HP):A8 PP h193 Tryz.f193 [.q x0,.i x1,.agg #[.i x2.1,.i x2.2.1,.i x2.2.2.1,.i x2.2.2.2.1,.i x2.2.2.2.2.1],.sv x3] K=t193 x0 x1 x2 x3 K:=by kernel_rfl
def t194(x0:Int)(x1:Int)(K:Value->HP):HP:=
 ifB (decide ((x1:Int)<1)) (
 K (.i 0)) (
 req ((IntKind.u64.wrap x1:Int)≠0)<|
 K (.i (IntKind.i64.wrap (Int.tmod x0 (IntKind.u64.wrap x1)))))
theorem e194(x0:Int)(x1:Int)(K:Value->HP):A8 PP Hn Tryz.f194 [.int .u64 x0,.i x1] K=t194 x0 x1 K:=by kernel_rfl
set_option maxRecDepth 100000
def h223:D5:=⟨[(0,[(6,.lf .sl),(15,lI)])],[],[]⟩
def t223(x0:Option Addr)(x1:Int)(K:Value->HP):HP:=
 ifB (Option.isNone x0) (
 K (.t #[.slice none 0 0,.i 1])) (
 cl PP 93 #[.q x0] [.agg [.int .i64,.int .i64,.int .i64,.int .i64]] fun r1=>
 lp [.lf .sl,lI] (⟨none,0,0⟩,0,()) fun z1 go1=>
 ifB (decide ((z1.2.1:Int)<r1.1.2.1)) (
 cl PP 181 #[.q x0,.i x1,.i z1.2.1] [.lf .sl,lI] fun r2=>
 ifB ((r2.2.1:Int) !=0) (
 K (.t #[.slice none 0 0,.i r2.2.1])) (
 nw (.cells #[.slice r2.1.a r2.1.len r2.1.cap] 27) fun n1=>
 smW PP (Builtin.append_ #[96,96] 96 #[.sv z1.1,.slice (some ⟨n1,0,none⟩) 1 1]) [.lf .sl] fun v1=>
 go1 (⟨v1.1.a,v1.1.len,v1.1.cap⟩,IntKind.i64.wrap (z1.2.1+1),()))) (
 K (.t #[.sv z1.1,.i 0])))
theorem e223(x0:Option Addr)(x1:Int)(K:Value->HP):A8 PP h223 Tryz.f223 [.q x0,.i x1] K=t223 x0 x1 K:=by kernel_rfl
def h224:D5:=⟨[],[(12,[])],[(12,[0,1,2,4,5,6,3,7,8,9,10])]⟩
def t224(x0:SlV)(K:Value->HP):HP:=
 nw (.cells #[.i 0,.b false,.slice none 0 0] 319) fun n1=>
 cl PP 283 #[.sv x0] [.lf .ptr] fun r1=>
 A9 r1.1 fun a1=>
 ld a1 (.lf .sl) fun v1=>
 ifB ((v1.len:Int)==0) (
 st ⟨n1,0,none⟩ [.i 0,.b false,.slice none 0 0]<|
 ld ⟨n1,0,none⟩ (.agg [.int .i64,.bool,.sl]) fun v2=>
 K (.t #[.agg #[.i v2.1,.b v2.2.1,.sv v2.2.2.1],.b false])) (
 A9 r1.1 fun a2=>
 ld a2 (.lf .sl) fun v3=>
 A9 v3.a fun a3=>
 ixn 0 v3.len<|
 ld (Addr.add (a3.add ((0:Int).toNat*7)) 3) (lI) fun v4=>
 A9 r1.1 fun a4=>
 st (a4.add 1) [.i v4]<|
 cl PP 284 #[.q r1.1,.i 0,.agg #[.i 1,.i 0,.i 1,.i 0,.i 0]] [.lf .sl,.lf .bool] fun r2=>
 ifB (!r2.2.1) (
 st ⟨n1,0,none⟩ [.i 0,.b false,.slice none 0 0]<|
 ld ⟨n1,0,none⟩ (.agg [.int .i64,.bool,.sl]) fun v5=>
 K (.t #[.agg #[.i v5.1,.b v5.2.1,.sv v5.2.2.1],.b false])) (
 ifB (decide ((r2.1.len:Int)>0)) (
 st ⟨n1,0,none⟩ [.i 0,.b false,.slice none 0 0]<|
 ld ⟨n1,0,none⟩ (.agg [.int .i64,.bool,.sl]) fun v6=>
 K (.t #[.agg #[.i v6.1,.b v6.2.1,.sv v6.2.2.1],.b false])) (
 jn (fun y1:RsV []=>
 A9 r1.1 fun a7=>
 ld (a7.add 1) (lI) fun v10=>
 cl PP 286 #[.q r1.1,.func (.func 287) #[.q r1.1] #[]] [.lf .sl] fun r4=>
 keep (D4 (a7.add 1) [.i v10])<|
 st ⟨n1,0,none⟩ [.i v10,.b false,.slice r4.1.a r4.1.len r4.1.cap]<|
 ld ⟨n1,0,none⟩ (.agg [.int .i64,.bool,.sl]) fun v11=>
 K (.t #[.agg #[.i v11.1,.b v11.2.1,.sv v11.2.2.1],.b true])) fun j1=>
 A9 r1.1 fun a5=>
 ld (a5.add 2) (lI) fun v7=>
 ifB (decide ((v7:Int)>0)) (
 cl PP 285 #[.q r1.1] [.lf .sl,.lf .bool] fun r3=>
 ifB r3.2.1 (
 A9 r1.1 fun a6=>
 ld (a6.add 1) (lI) fun v8=>
 st ⟨n1,0,none⟩ [.i v8,.b true,.slice r3.1.a r3.1.len r3.1.cap]<|
 ld ⟨n1,0,none⟩ (.agg [.int .i64,.bool,.sl]) fun v9=>
 K (.t #[.agg #[.i v9.1,.b v9.2.1,.sv v9.2.2.1],.b true])) (
 j1 (()))) (
 j1 (())))))
theorem e224(x0:SlV)(K:Value->HP):A8 PP h224 Tryz.f224 [.sv x0] K=t224 x0 K:=by kernel_rfl
def t225(x0:SlV)(x1:FnV)(K:Value->HP):HP:=
 cl PP 288 #[.slice x0.a x0.len x0.cap,.i x0.len,.func x1.fn x1.first x1.captured] [] fun r1=>
 K (.t #[])
theorem e225(x0:SlV)(x1:FnV)(K:Value->HP):A8 PP Hn Tryz.f225 [.slice x0.a x0.len x0.cap,.func x1.fn x1.first x1.captured] K=t225 x0 x1 K:=by kernel_rfl
def t226(x0:ShV (.agg [.int .i64,.int .i64,.sl]))(x1:ShV (.agg [.int .i64,.int .i64,.sl]))(K:Value->HP):HP:=
 nw (.cells #[.i x0.1,.i x0.2.1,.slice x0.2.2.1.a x0.2.2.1.len x0.2.2.1.cap] 154) fun n1=>
 nw (.cells #[.i x1.1,.i x1.2.1,.slice x1.2.2.1.a x1.2.2.1.len x1.2.2.1.cap] 154) fun n2=>
 ld (Addr.add ⟨n1,0,none⟩ 1) (lI) fun v1=>
 ld (Addr.add ⟨n2,0,none⟩ 1) (lI) fun v2=>
 K (.i (IntKind.i64.wrap (v1-v2)))
theorem e226(x0:ShV (.agg [.int .i64,.int .i64,.sl]))(x1:ShV (.agg [.int .i64,.int .i64,.sl]))(K:Value->HP):A8 PP Hn Tryz.f226 [.agg #[.i x0.1,.i x0.2.1,.sv x0.2.2.1],.agg #[.i x1.1,.i x1.2.1,.sv x1.2.2.1]] K=t226 x0 x1 K:=by kernel_rfl
def h227:D5:=⟨[(1,[(8,lI),(9,lI),(36,lI)])],[],[]⟩
def t227(x0:SlV)(x1:Int)(x2:Int)(K:Value->HP):HP:=
 ifB (decide ((x2:Int)<1)) (
 K (.t #[.i 0,.i 2])) (
 ifB (decide ((x2:Int)>7)) (
 K (.t #[.i 0,.i 2])) (
 ifB (decide ((x1:Int)<0)) (
 K (.t #[.i 0,.i 6])) (
 ifB (decide ((x1:Int)>x0.len)) (
 K (.t #[.i 0,.i 6])) (
 ifB (decide ((x2:Int)>(IntKind.i64.wrap (x0.len-x1)))) (
 K (.t #[.i 0,.i 6])) (
 lp [lI,lI,lI] (0,1,0,()) fun z1 go1=>
 ifB (decide ((z1.2.2.1:Int)<x2)) (
 A9 x0.a fun a1=>
 ixn (IntKind.i64.wrap (x1+z1.2.2.1)) x0.len<|
 ld (a1.add ((IntKind.i64.wrap (x1+z1.2.2.1)).toNat*1)) (.lf (.int .u8)) fun v1=>
 go1 (IntKind.i64.wrap (z1.1+(IntKind.i64.wrap (z1.2.1*(IntKind.i64.wrap v1)))),IntKind.i64.wrap (z1.2.1*256),IntKind.i64.wrap (z1.2.2.1+1),())) (
 K (.t #[.i z1.1,.i 0])))))))
theorem e227(x0:SlV)(x1:Int)(x2:Int)(K:Value->HP):A8 PP h227 Tryz.f227 [.sv x0,.i x1,.i x2] K=t227 x0 x1 x2 K:=by kernel_rfl
def t228(x0:SlV)(x1:Int)(K:Value->HP):HP:=
 cl PP 289 #[.sv x0,.i x1] [lI] fun r1=>
 K (.b (decide ((r1.1:Int)≥0)))
theorem e228(x0:SlV)(x1:Int)(K:Value->HP):A8 PP Hn Tryz.f228 [.sv x0,.i x1] K=t228 x0 x1 K:=by kernel_rfl
def h229:D5:=⟨[],[],[(5,[0,1,2,3,4,5,6,7])]⟩
def t229(x0:SlV)(x1:Int)(x2:Int)(K:Value->HP):HP:=
 slc ⟨x0.a,x0.len,x0.cap⟩ x1 x2 x0.len 5 fun s1=>
 ifB ((x1:Int)==x2) (
 K (.sv x0)) (
 slc ⟨x0.a,x0.len,x0.cap⟩ 0 x1 x0.cap 5 fun s2=>
 slc ⟨x0.a,x0.len,x0.cap⟩ x2 x0.len x0.cap 5 fun s3=>
 smW PP (Builtin.append_ #[216,216] 216 #[.sv s2,.sv s3]) [.lf .sl] fun v1=>
 slc ⟨v1.1.a,v1.1.len,v1.1.cap⟩ v1.1.len x0.len v1.1.cap 5 fun s4=>
 smW PP (Builtin.clear_ #[216] 0 #[.sv s4]) [] fun v2=>
 K (.sv v1.1))
theorem e229(x0:SlV)(x1:Int)(x2:Int)(K:Value->HP):A8 PP h229 Tryz.f229 [.sv x0,.i x1,.i x2] K=t229 x0 x1 x2 K:=by kernel_rfl
def h230:D5:=⟨[],[],[(2,[0,1,2,3,4,5,6,7,8])]⟩
def t230(x0:Option Addr)(x1:Int)(x2:ShV (.agg [.int .i64,.int .i64,.int .i64,.int .i64,.int .i64]))(K:Value->HP):HP:=
 nw (.cells #[.i x2.1,.i x2.2.1,.i x2.2.2.1,.i x2.2.2.2.1,.i x2.2.2.2.2.1] 204) fun n1=>
 cl PP 137 #[.q x0,.int .u64 x1] [.lf .ptr] fun r1=>
 A9 r1.1 fun a1=>
 ld a1 (.lf .sl) fun v1=>
 ld ⟨n1,0,none⟩ (.agg [.int .i64,.int .i64,.int .i64,.int .i64,.int .i64]) fun v2=>
 nw (.cells #[.i v2.1,.i v2.2.1,.i v2.2.2.1,.i v2.2.2.2.1,.i v2.2.2.2.2.1] 204) fun n2=>
 smW PP (Builtin.append_ #[216,216] 216 #[.sv v1,.slice (some ⟨n2,0,none⟩) 1 1]) [.lf .sl] fun v3=>
 A9 r1.1 fun a2=>
 st a2 [.slice v3.1.a v3.1.len v3.1.cap]<|
 K (.t #[])
theorem e230(x0:Option Addr)(x1:Int)(x2:ShV (.agg [.int .i64,.int .i64,.int .i64,.int .i64,.int .i64]))(K:Value->HP):A8 PP h230 Tryz.f230 [.q x0,.int .u64 x1,.agg #[.i x2.1,.i x2.2.1,.i x2.2.2.1,.i x2.2.2.2.1,.i x2.2.2.2.2.1]] K=t230 x0 x1 x2 K:=by kernel_rfl
def h231:D5:=⟨[(0,[(8,lI)])],[],[]⟩
def t231(x0:SlV)(x1:FnV)(K:Value->HP):HP:=
 lp [lI] (0,()) fun z1 go1=>
 ifB (decide ((z1.1:Int)<x0.len)) (
 A9 x0.a fun a1=>
 ixn z1.1 x0.len<|
 ld (a1.add (z1.1.toNat*5)) (.agg [.int .i64,.int .i64,.int .i64,.int .i64,.int .i64]) fun v1=>
 clv PP x1.fn (x1.first++#[.agg #[.i v1.1,.i v1.2.1,.i v1.2.2.1,.i v1.2.2.2.1,.i v1.2.2.2.2.1]]) x1.captured [.lf .bool] fun r1=>
 ifB r1.1 (
 K (.i z1.1)) (
 go1 (IntKind.i64.wrap (z1.1+1),()))) (
 K (.i (-1)))
theorem e231(x0:SlV)(x1:FnV)(K:Value->HP):A8 PP h231 Tryz.f231 [.slice x0.a x0.len x0.cap,.func x1.fn x1.first x1.captured] K=t231 x0 x1 K:=by kernel_rfl
def t232(x0:ShV (.agg [.int .i64,.int .i64,.int .i64,.int .i64,.int .i64]))(x1:Option Addr)(K:Value->HP):HP:=
 nw (.cells #[.i x0.1,.i x0.2.1,.i x0.2.2.1,.i x0.2.2.2.1,.i x0.2.2.2.2.1] 204) fun n1=>
 ld ⟨n1,0,none⟩ (.agg [.int .i64,.int .i64,.int .i64,.int .i64]) fun v1=>
 A9 x1 fun a1=>
 ld a1 (.agg [.int .i64,.int .i64,.int .i64,.int .i64]) fun v2=>
 smP PP (binOp .eql 202 (.agg #[.i v1.1,.i v1.2.1,.i v1.2.2.1,.i v1.2.2.2.1]) (.agg #[.i v2.1,.i v2.2.1,.i v2.2.2.1,.i v2.2.2.2.1])) (.lf .bool) fun v3=>
 K (.b v3)
theorem e232(x0:ShV (.agg [.int .i64,.int .i64,.int .i64,.int .i64,.int .i64]))(x1:Option Addr)(K:Value->HP):A8 PP Hn Tryz.f232 [.agg #[.i x0.1,.i x0.2.1,.i x0.2.2.1,.i x0.2.2.2.1,.i x0.2.2.2.2.1],.q x1] K=t232 x0 x1 K:=by kernel_rfl
def h233:D5:=⟨[(0,[(3,lI),(11,lI)]),(2,[(6,.lf .sl),(27,lI)])],[],[]⟩
def t233(x0:SlV)(K:Value->HP):HP:=
 lp [lI,lI] (0,0,()) fun z1 go1=>
 ifB (decide ((z1.2.1:Int)<x0.len)) (
 A9 x0.a fun a1=>
 ixn z1.2.1 x0.len<|
 ld (a1.add (z1.2.1.toNat*1)) (.lf .sl) fun v1=>
 ifB (decide ((IntKind.i64.wrap (z1.1+v1.len):Int)<0)) (
 ff) (
 go1 (IntKind.i64.wrap (z1.1+v1.len),IntKind.i64.wrap (z1.2.1+1),()))) (
 cl PP 290 #[.slice none 0 0,.i z1.1] [.lf .sl] fun r1=>
 lp [.lf .sl,lI] (⟨r1.1.a,r1.1.len,r1.1.cap⟩,0,()) fun z2 go2=>
 ifB (decide ((z2.2.1:Int)<x0.len)) (
 A9 x0.a fun a2=>
 ixn z2.2.1 x0.len<|
 ld (a2.add (z2.2.1.toNat*1)) (.lf .sl) fun v2=>
 smW PP (Builtin.append_ #[27,27] 27 #[.sv z2.1,.sv v2]) [.lf .sl] fun v3=>
 go2 (⟨v3.1.a,v3.1.len,v3.1.cap⟩,IntKind.i64.wrap (z2.2.1+1),())) (
 K (.sv z2.1)))
theorem e233(x0:SlV)(K:Value->HP):A8 PP h233 Tryz.f233 [.sv x0] K=t233 x0 K:=by kernel_rfl
def t234(x0:Int)(x1:SlV)(K:Value->HP):HP:=
 cl PP 291 #[.int .u32 (Ak8 .xor .u32 IntKind.u32.max (IntKind.u32.wrap x0)),.sv x1] [.lf (.int .u32)] fun r1=>
 K (.i (IntKind.i64.wrap (Ak8 .xor .u32 IntKind.u32.max r1.1)))
theorem e234(x0:Int)(x1:SlV)(K:Value->HP):A8 PP Hn Tryz.f234 [.i x0,.sv x1] K=t234 x0 x1 K:=by kernel_rfl
def t235(x0:Option Addr)(x1:Int)(x2:Int)(K:Value->HP):HP:=
 ifB (Option.isNone x0) (
 K (.t #[.q none,.i 1])) (
 A9 x0 fun a1=>
 ld (a1.add 2) (.lf .bool) fun v1=>
 ifB v1 (
 K (.t #[.q none,.i 11])) (
 cl PP 45 #[.q x0,.i x1] [.lf .ptr] fun r1=>
 ifB (Option.isNone r1.1) (
 K (.t #[.q none,.i 2])) (
 A9 x0 fun a2=>
 ld (Addr.add (a2.add 3) 1) (lI) fun v2=>
 cl PP 90 #[.i x2,.i 0,.i (IntKind.i64.wrap (v2-1))] [.lf .bool] fun r2=>
 ifB (!r2.1) (
 K (.t #[.q none,.i 2])) (
 K (.t #[.q r1.1,.i 0])))))
theorem e235(x0:Option Addr)(x1:Int)(x2:Int)(K:Value->HP):A8 PP Hn Tryz.f235 [.q x0,.i x1,.i x2] K=t235 x0 x1 x2 K:=by kernel_rfl
def h236:D5:=⟨[(0,[(7,lI)])],[],[]⟩
def t236(x0:SlV)(K:Value->HP):HP:=
 lp [lI] (0,()) fun z1 go1=>
 ifB (decide ((z1.1:Int)<x0.len)) (
 A9 x0.a fun a1=>
 ixn z1.1 x0.len<|
 ld (a1.add (z1.1.toNat*1)) (.lf (.int .u8)) fun v1=>
 ifB ((v1:Int) !=255) (
 K (.b false)) (
 go1 (IntKind.i64.wrap (z1.1+1),()))) (
 K (.b true))
theorem e236(x0:SlV)(K:Value->HP):A8 PP h236 Tryz.f236 [.sv x0] K=t236 x0 K:=by kernel_rfl
def t237(x0:SlV)(x1:Int)(K:Value->HP):HP:=
 cl PP 179 #[.sv x0] [lI] fun r1=>
 K (.b ((r1.1:Int)==x1))
theorem e237(x0:SlV)(x1:Int)(K:Value->HP):A8 PP Hn Tryz.f237 [.sv x0,.i x1] K=t237 x0 x1 K:=by kernel_rfl
set_option maxRecDepth 100000
def t238(x0:SlV)(x1:Int)(x2:Int)(K:Value->HP):HP:=
 cl PP 227 #[.sv x0,.i x1,.i x2] [lI,lI] fun r1=>
 K (.i r1.1)
theorem e238(x0:SlV)(x1:Int)(x2:Int)(K:Value->HP):A8 PP Hn Tryz.f238 [.sv x0,.i x1,.i x2] K=t238 x0 x1 x2 K:=by kernel_rfl
def t239(x0:ShV (.agg [.int .i64,.int .i64,.int .i64,.int .i64,.int .i64]))(K:Value->HP):HP:=
 nw (.cells #[.i x0.1,.i x0.2.1,.i x0.2.2.1,.i x0.2.2.2.1,.i x0.2.2.2.2.1] 272) fun n1=>
 ld ⟨n1,0,none⟩ (lI) fun v1=>
 ifB (decide ((v1:Int)<1)) (
 K (.i 16)) (
 ld ⟨n1,0,none⟩ (lI) fun v2=>
 ifB (decide ((v2:Int)>4)) (
 K (.i 16)) (
 ld (Addr.add ⟨n1,0,none⟩ 2) (lI) fun v3=>
 ifB (decide ((v3:Int)<1)) (
 K (.i 3)) (
 ld (Addr.add ⟨n1,0,none⟩ 2) (lI) fun v4=>
 ifB (decide ((v4:Int)>16)) (
 K (.i 3)) (
 ld (Addr.add ⟨n1,0,none⟩ 1) (lI) fun v5=>
 ifB (decide ((v5:Int)<0)) (
 K (.i 3)) (
 ld (Addr.add ⟨n1,0,none⟩ 1) (lI) fun v6=>
 ld (Addr.add ⟨n1,0,none⟩ 2) (lI) fun v7=>
 ifB (decide ((v6:Int)≥v7)) (
 K (.i 3)) (
 ld (Addr.add ⟨n1,0,none⟩ 3) (lI) fun v8=>
 ifB (decide ((v8:Int)<1)) (
 K (.i 3)) (
 ld (Addr.add ⟨n1,0,none⟩ 3) (lI) fun v9=>
 ifB (decide ((v9:Int)>1073741824)) (
 K (.i 3)) (
 ld (Addr.add ⟨n1,0,none⟩ 4) (lI) fun v10=>
 ifB (decide ((v10:Int)<0)) (
 K (.i 3)) (
 ld (Addr.add ⟨n1,0,none⟩ 4) (lI) fun v11=>
 ifB (decide ((v11:Int)≥16)) (
 K (.i 3)) (
 K (.i 0)))))))))))
theorem e239(x0:ShV (.agg [.int .i64,.int .i64,.int .i64,.int .i64,.int .i64]))(K:Value->HP):A8 PP Hn Tryz.f239 [.agg #[.i x0.1,.i x0.2.1,.i x0.2.2.1,.i x0.2.2.2.1,.i x0.2.2.2.2.1]] K=t239 x0 K:=by kernel_rfl
def t240(x0:SlV)(K:Value->HP):HP:=
 nw (.cells #[] 5) fun n1=>
 smW PP (Builtin.append_ #[27,27] 27 #[.slice (some ⟨n1,0,none⟩) 0 0,.sv x0]) [.lf .sl] fun v1=>
 nw (.cells #[.slice v1.1.a v1.1.len v1.1.cap,.i 0] 389) fun n2=>
 K (.q (some ⟨n2,0,none⟩))
theorem e240(x0:SlV)(K:Value->HP):A8 PP Hn Tryz.f240 [.sv x0] K=t240 x0 K:=by kernel_rfl
def h241:D5:=⟨[],[],[(12,[0,1,2,4,5,6,7,3,8,9,10,11,12]),(3,[0,1,2,4,5,6,3,7,8,9,10,11,12,13])]⟩
def t241(x0:Option Addr)(K:Value->HP):HP:=
 ifB (Option.isNone x0) (
 K (.t #[.w (ByteArray.mk #[]),.i 1])) (
 A9 x0 fun a1=>
 A9 x0 fun a2=>
 ld a1 (.lf .sl) fun v1=>
 ld (a2.add 1) (lI) fun v2=>
 cl PP 227 #[.sv v1,.i v2,.i 4] [lI,lI] fun r1=>
 ifB ((r1.2.1:Int) !=0) (
 K (.t #[.w (ByteArray.mk #[]),.i r1.2.1])) (
 A9 x0 fun a3=>
 ld (a3.add 1) (lI) fun v3=>
 ifB (decide ((r1.1:Int)>65536)) (
 K (.t #[.w (ByteArray.mk #[]),.i 4])) (
 A9 x0 fun a4=>
 ld a4 (.lf .sl) fun v4=>
 ifB (decide ((r1.1:Int)>(IntKind.i64.wrap (v4.len-(IntKind.i64.wrap (v3+4)))))) (
 K (.t #[.w (ByteArray.mk #[]),.i 6])) (
 A9 x0 fun a5=>
 st (a5.add 1) [.i (IntKind.i64.wrap ((IntKind.i64.wrap (v3+4))+r1.1))]<|
 A9 x0 fun a6=>
 A9 x0 fun a7=>
 ld a6 (.lf .sl) fun v5=>
 ld (a7.add 1) (lI) fun v6=>
 slc ⟨v5.a,v5.len,v5.cap⟩ (IntKind.i64.wrap (v3+4)) v6 v5.cap 1 fun s1=>
 smR PP (Conv.bytesToString (.sv s1)) [.lf .str] fun v7=>
 K (.t #[.w v7.1,.i 0])))))
theorem e241(x0:Option Addr)(K:Value->HP):A8 PP h241 Tryz.f241 [.q x0] K=t241 x0 K:=by kernel_rfl
def h242:D5:=⟨[],[],[(3,[0,1,2,5,6,7,3,4,8,9,10])]⟩
def t242(x0:Option Addr)(K:Value->HP):HP:=
 ifB (Option.isNone x0) (
 K (.i 0)) (
 A9 x0 fun a1=>
 A9 x0 fun a2=>
 ld a1 (.lf .sl) fun v1=>
 ld (a2.add 1) (lI) fun v2=>
 K (.i (IntKind.i64.wrap (v1.len-v2))))
theorem e242(x0:Option Addr)(K:Value->HP):A8 PP h242 Tryz.f242 [.q x0] K=t242 x0 K:=by kernel_rfl
def h243:D5:=⟨[],[],[(3,[0,1,2,4,5,6,8,3,7,9,10,11,12,13,14])]⟩
def t243(x0:Option Addr)(x1:Int)(K:Value->HP):HP:=
 ifB (Option.isNone x0) (
 K (.t #[.i 0,.i 1])) (
 A9 x0 fun a1=>
 A9 x0 fun a2=>
 ld a1 (.lf .sl) fun v1=>
 ld (a2.add 1) (lI) fun v2=>
 cl PP 227 #[.sv v1,.i v2,.i x1] [lI,lI] fun r1=>
 ifB ((r1.2.1:Int)==0) (
 A9 x0 fun a3=>
 ld (a3.add 1) (lI) fun v3=>
 A9 x0 fun a4=>
 st (a4.add 1) [.i (IntKind.i64.wrap (v3+x1))]<|
 K (.t #[.i r1.1,.i r1.2.1])) (
 K (.t #[.i r1.1,.i r1.2.1])))
theorem e243(x0:Option Addr)(x1:Int)(K:Value->HP):A8 PP h243 Tryz.f243 [.q x0,.i x1] K=t243 x0 x1 K:=by kernel_rfl
def t244(x0:Int)(x1:ShV (.agg [.int .i64,.bool,.bool]))(x2:Option Addr)(K:Value->HP):HP:=
 nw (.cells #[.i x1.1,.b x1.2.1,.b x1.2.2.1] 194) fun n1=>
 A9 x2 fun a1=>
 ld a1 (lI) fun v1=>
 A9 x2 fun a2=>
 st a2 [.i (IntKind.i64.wrap (v1+1))]<|
 K (.t #[])
theorem e244(x0:Int)(x1:ShV (.agg [.int .i64,.bool,.bool]))(x2:Option Addr)(K:Value->HP):A8 PP Hn Tryz.f244 [.i x0,.agg #[.i x1.1,.b x1.2.1,.b x1.2.2.1],.q x2] K=t244 x0 x1 x2 K:=by kernel_rfl
def t245(x0:Option Addr)(K:Value->HP):HP:=
 ifB (Option.isNone x0) (
 K (.t #[.i 0,.b false])) (
 A9 x0 fun a1=>
 ld (a1.add 1) (.lf .sl) fun v1=>
 ifB ((v1.len:Int)==0) (
 K (.t #[.i 0,.b false])) (
 A9 x0 fun a2=>
 ld (a2.add 1) (.lf .sl) fun v2=>
 A9 v2.a fun a3=>
 ixn 0 v2.len<|
 ld (a3.add ((0:Int).toNat*1)) (lI) fun v3=>
 K (.t #[.i v3,.b true])))
theorem e245(x0:Option Addr)(K:Value->HP):A8 PP Hn Tryz.f245 [.q x0] K=t245 x0 K:=by kernel_rfl
def h246:D5:=⟨[],[(5,[]),(8,[])],[(13,[0,1,2,3,5,4,6,7,8]),(6,[0,1,2,3,5,4,6,7]),(5,[0,1,2,3,5,4,6,7,8,9,10,11,12,13,15,14,16,17,18,19,20,21,22,23,24,26,25,27,28,29,30]),(3,[0,1,2,3,4,5,6,8,7,10,9,11,12,13]),(1,[0,1,2,3,4,5,6,7,8,9,10,11,12,13])]⟩
def t246(x0:Option Addr)(x1:ShV (.agg [.int .i64,.int .i64,.int .i64]))(x2:ShV (.agg [.int .i64,.int .i64,.int .i64]))(x3:Int)(K:Value->HP):HP:=
 nw (.cells #[.i x1.1,.i x1.2.1,.i x1.2.2.1] 102) fun n1=>
 nw (.cells #[.i x2.1,.i x2.2.1,.i x2.2.2.1] 215) fun n2=>
 A9 x0 fun a1=>
 ld (a1.add 11) (.lf .ptr) fun v1=>
 ld ⟨n1,0,none⟩ (.agg [.int .i64,.int .i64,.int .i64]) fun v2=>
 cl PP 118 #[.q v1,.agg #[.i v2.1,.i v2.2.1,.i v2.2.2.1]] [.lf .str,.lf .sl,lI] fun r1=>
 cl PP 41 #[.q x0,.w r1.1] [.lf (.int .u64)] fun r2=>
 jn (fun y1:RsV []=>
 jn (fun y2:RsV []=>
 A9 x0 fun a9=>
 ld a9 (.agg [.int .i64,.int .i64,.int .i64,.int .i64]) fun v15=>
 cl PP 111 #[.w r1.1,.sv r1.2.1,.agg #[.i v15.1,.i v15.2.1,.i v15.2.2.1,.i v15.2.2.2.1]] [.lf .sl,lI] fun r11=>
 ifB ((r11.2.1:Int) !=0) (
 K (.i r11.2.1)) (
 A9 x0 fun a10=>
 cl PP 64 #[.q (some (a10.add 11)),.i 2,.sv r11.1] [.agg [.int .i64,.int .i64,.int .i64],lI] fun r12=>
 nw (.cells #[.i 0,.i 0,.i 0] 102) fun n5=>
 st ⟨n5,0,none⟩ [.i r12.1.1,.i r12.1.2.1,.i r12.1.2.2.1]<|
 ifB ((r12.2.1:Int)==0) (
 A9 x0 fun a11=>
 ld (Addr.add (a11.add 19) 2) (.lf .ptr) fun v16=>
 ld ⟨n1,0,none⟩ (.agg [.int .i64,.int .i64,.int .i64]) fun v17=>
 ld ⟨n5,0,none⟩ (.agg [.int .i64,.int .i64,.int .i64]) fun v18=>
 cl PP 294 #[.q v16,.int .u64 r2.1,.agg #[.i v17.1,.i v17.2.1,.i v17.2.2.1],.agg #[.i v18.1,.i v18.2.1,.i v18.2.2.1]] [.lf .bool] fun r13=>
 K (.i r12.2.1)) (
 K (.i r12.2.1)))) fun j2=>
 A9 x0 fun a3=>
 ld (Addr.add (a3.add 19) 2) (.lf .ptr) fun v5=>
 ld ⟨n1,0,none⟩ (.agg [.int .i64,.int .i64,.int .i64]) fun v6=>
 cl PP 293 #[.q v5,.int .u64 r2.1,.agg #[.i v6.1,.i v6.2.1,.i v6.2.2.1]] [lI] fun r5=>
 ifB ((r5.1:Int)==0) (
 A9 x0 fun a4=>
 ld (Addr.add (a4.add 19) 2) (.lf .ptr) fun v7=>
 ld ⟨n1,0,none⟩ (.agg [.int .i64,.int .i64,.int .i64]) fun v8=>
 cl PP 106 #[.q v7,.int .u64 r2.1,.agg #[.i v8.1,.i v8.2.1,.i v8.2.2.1]] [.lf .bool] fun r6=>
 K (.i 0)) (
 A9 x0 fun a5=>
 ld (Addr.add ⟨n2,0,none⟩ 2) (lI) fun v9=>
 nw (.cells #[.i v9,.i x3] 3) fun n3=>
 cl PP 126 #[.q (some (a5.add 11)),.slice (some ⟨n3,0,none⟩) 2 2] [.lf .bool] fun r7=>
 ifB (!r7.1) (
 A9 x0 fun a6=>
 ld (Addr.add (a6.add 19) 2) (.lf .ptr) fun v10=>
 ld ⟨n1,0,none⟩ (.agg [.int .i64,.int .i64,.int .i64]) fun v11=>
 cl PP 106 #[.q v10,.int .u64 r2.1,.agg #[.i v11.1,.i v11.2.1,.i v11.2.2.1]] [.lf .bool] fun r8=>
 K (.i 0)) (
 A9 x0 fun a7=>
 ld (Addr.add ⟨n2,0,none⟩ 2) (lI) fun v12=>
 nw (.cells #[.i v12,.i x3] 3) fun n4=>
 cl PP 128 #[.q (some (a7.add 11)),.slice (some ⟨n4,0,none⟩) 2 2] [.lf .bool] fun r9=>
 ifB (!r9.1) (
 A9 x0 fun a8=>
 ld (Addr.add (a8.add 19) 2) (.lf .ptr) fun v13=>
 ld ⟨n1,0,none⟩ (.agg [.int .i64,.int .i64,.int .i64]) fun v14=>
 cl PP 106 #[.q v13,.int .u64 r2.1,.agg #[.i v14.1,.i v14.2.1,.i v14.2.2.1]] [.lf .bool] fun r10=>
 K (.i 0)) (
 j2 (()))))) fun j1=>
 ifB ((r1.2.2.1:Int) !=0) (
 K (.i 0)) (
 A9 x0 fun a2=>
 ld (Addr.add (a2.add 19) 2) (.lf .ptr) fun v3=>
 ld ⟨n1,0,none⟩ (.agg [.int .i64,.int .i64,.int .i64]) fun v4=>
 cl PP 117 #[.q v3,.int .u64 r2.1] [.lf .sl] fun r3=>
 keep (D4 ⟨n1,0,none⟩ [.i v4.1,.i v4.2.1,.i v4.2.2.1])<|
 cl PP 292 #[.sv r3.1,.agg #[.i v4.1,.i v4.2.1,.i v4.2.2.1]] [.lf .bool] fun r4=>
 ifB (!r4.1) (
 K (.i 0)) (
 j1 (())))
theorem e246(x0:Option Addr)(x1:ShV (.agg [.int .i64,.int .i64,.int .i64]))(x2:ShV (.agg [.int .i64,.int .i64,.int .i64]))(x3:Int)(K:Value->HP):A8 PP h246 Tryz.f246 [.q x0,.agg #[.i x1.1,.i x1.2.1,.i x1.2.2.1],.agg #[.i x2.1,.i x2.2.1,.i x2.2.2.1],.i x3] K=t246 x0 x1 x2 x3 K:=by kernel_rfl
def h247:D5:=⟨[(0,[(5,lI),(6,lI)])],[],[]⟩
def t247(x0:SlV)(x1:FnV)(K:Value->HP):HP:=
 cl PP 295 #[.slice x0.a x0.len x0.cap,.func x1.fn x1.first x1.captured] [lI] fun r1=>
 ifB ((r1.1:Int)==(-1)) (
 K (.sv x0)) (
 lp [lI,lI] (r1.1,IntKind.i64.wrap (r1.1+1),()) fun z1 go1=>
 ifB (decide ((z1.2.1:Int)<x0.len)) (
 A9 x0.a fun a1=>
 ixn z1.2.1 x0.len<|
 ld (a1.add (z1.2.1.toNat*3)) (.agg [.int .i64,.int .i64,.int .i64]) fun v1=>
 nw (.cells #[.i 0,.i 0,.i 0] 102) fun n1=>
 st ⟨n1,0,none⟩ [.i v1.1,.i v1.2.1,.i v1.2.2.1]<|
 ld ⟨n1,0,none⟩ (.agg [.int .i64,.int .i64,.int .i64]) fun v2=>
 clv PP x1.fn (x1.first++#[.agg #[.i v2.1,.i v2.2.1,.i v2.2.2.1]]) x1.captured [.lf .bool] fun r2=>
 ifB (!r2.1) (
 ld ⟨n1,0,none⟩ (.agg [.int .i64,.int .i64,.int .i64]) fun v3=>
 A9 x0.a fun a2=>
 ixn z1.1 x0.len<|
 st (a2.add (z1.1.toNat*3)) [.i v3.1,.i v3.2.1,.i v3.2.2.1]<|
 go1 (IntKind.i64.wrap (z1.1+1),IntKind.i64.wrap (z1.2.1+1),())) (
 go1 (z1.1,IntKind.i64.wrap (z1.2.1+1),()))) (
 slc ⟨x0.a,x0.len,x0.cap⟩ z1.1 x0.len x0.cap 3 fun s1=>
 smW PP (Builtin.clear_ #[55] 0 #[.sv s1]) [] fun v4=>
 slc ⟨x0.a,x0.len,x0.cap⟩ 0 z1.1 x0.cap 3 fun s2=>
 K (.sv s2)))
theorem e247(x0:SlV)(x1:FnV)(K:Value->HP):A8 PP h247 Tryz.f247 [.slice x0.a x0.len x0.cap,.func x1.fn x1.first x1.captured] K=t247 x0 x1 K:=by kernel_rfl
def h248:D5:=⟨[],[],[(1,[0,1,2,3,4,5,6,7])]⟩
def t248(x0:ShV (.agg [.int .i64,.int .i64,.int .i64]))(x1:Option Addr)(K:Value->HP):HP:=
 nw (.cells #[.i x0.1,.i x0.2.1,.i x0.2.2.1] 102) fun n1=>
 ld ⟨n1,0,none⟩ (lI) fun v1=>
 A9 x1 fun a1=>
 ld a1 (.lf .ptr) fun v2=>
 A9 v2 fun a2=>
 ld a2 (lI) fun v3=>
 K (.b ((v1:Int)==v3))
theorem e248(x0:ShV (.agg [.int .i64,.int .i64,.int .i64]))(x1:Option Addr)(K:Value->HP):A8 PP h248 Tryz.f248 [.agg #[.i x0.1,.i x0.2.1,.i x0.2.2.1],.q x1] K=t248 x0 x1 K:=by kernel_rfl
def h249:D5:=⟨[(0,[(11,.lf .sl),(18,lI)])],[],[]⟩
def t249(x0:Option Addr)(x1:Int)(x2:Int)(x3:Int)(x4:SlV)(K:Value->HP):HP:=
 lp [.lf .sl,lI] (⟨none,0,0⟩,0,()) fun z1 go1=>
 ifB (decide ((z1.2.1:Int)<x4.len)) (
 A9 x4.a fun a1=>
 ixn z1.2.1 x4.len<|
 ld (a1.add (z1.2.1.toNat*3)) (.agg [.int .i64,.int .i64,.int .i64]) fun v1=>
 nw (.cells #[.i 0,.i 0,.i 0] 215) fun n1=>
 st ⟨n1,0,none⟩ [.i v1.1,.i v1.2.1,.i v1.2.2.1]<|
 ld ⟨n1,0,none⟩ (lI) fun v2=>
 ld (Addr.add ⟨n1,0,none⟩ 1) (lI) fun v3=>
 ld (Addr.add ⟨n1,0,none⟩ 2) (lI) fun v4=>
 nw (.cells #[.i v2,.i v3,.i v4] 3) fun n2=>
 cl PP 131 #[.sv z1.1,.slice (some ⟨n2,0,none⟩) 3 3] [.lf .sl,.lf .bool] fun r1=>
 ifB (!r1.2.1) (
 K (.i 3)) (
 go1 (⟨r1.1.a,r1.1.len,r1.1.cap⟩,IntKind.i64.wrap (z1.2.1+1),()))) (
 cl PP 193 #[.q x0,.i x1,.agg #[.i 4,.i 0,.i 1,.i x2,.i x3],.sv z1.1] [lI] fun r2=>
 K (.i r2.1))
theorem e249(x0:Option Addr)(x1:Int)(x2:Int)(x3:Int)(x4:SlV)(K:Value->HP):A8 PP h249 Tryz.f249 [.q x0,.i x1,.i x2,.i x3,.sv x4] K=t249 x0 x1 x2 x3 x4 K:=by kernel_rfl
def h250:D5:=⟨[],[],[(2,[0,1,2,3,4]),(1,[0,1,2,3,5,4,6,7,8])]⟩
def t250(x0:Int)(x1:ShV (.agg [.int .i64,.bool,.bool]))(x2:Option Addr)(x3:Option Addr)(x4:Option Addr)(K:Value->HP):HP:=
 nw (.cells #[.i x1.1,.b x1.2.1,.b x1.2.2.1] 194) fun n1=>
 A9 x2 fun a1=>
 ld a1 (.lf .bool) fun v1=>
 ifB (!v1) (
 ld ⟨n1,0,none⟩ (.agg [.int .i64,.bool,.bool]) fun v2=>
 A9 x4 fun a2=>
 st a2 [.i x0]<|
 keep (D4 ⟨n1,0,none⟩ [.i v2.1,.b v2.2.1,.b v2.2.2.1])<|
 A9 x3 fun a3=>
 st a3 [.i v2.1,.b v2.2.1,.b v2.2.2.1]<|
 A9 x2 fun a4=>
 st a4 [.b true]<|
 K (.t #[])) (
 ld ⟨n1,0,none⟩ (.agg [.int .i64,.bool,.bool]) fun v3=>
 A9 x3 fun a5=>
 ld a5 (.agg [.int .i64,.bool,.bool]) fun v4=>
 cl PP 251 #[.agg #[.i v3.1,.b v3.2.1,.b v3.2.2.1]] [lI] fun r1=>
 keep (D4 a5 [.i v4.1,.b v4.2.1,.b v4.2.2.1])<|
 cl PP 251 #[.agg #[.i v4.1,.b v4.2.1,.b v4.2.2.1]] [lI] fun r2=>
 ifB (decide ((r1.1:Int)<r2.1)) (
 ld ⟨n1,0,none⟩ (.agg [.int .i64,.bool,.bool]) fun v5=>
 A9 x4 fun a6=>
 st a6 [.i x0]<|
 keep (D4 ⟨n1,0,none⟩ [.i v5.1,.b v5.2.1,.b v5.2.2.1])<|
 A9 x3 fun a7=>
 st a7 [.i v5.1,.b v5.2.1,.b v5.2.2.1]<|
 A9 x2 fun a8=>
 st a8 [.b true]<|
 K (.t #[])) (
 K (.t #[])))
theorem e250(x0:Int)(x1:ShV (.agg [.int .i64,.bool,.bool]))(x2:Option Addr)(x3:Option Addr)(x4:Option Addr)(K:Value->HP):A8 PP h250 Tryz.f250 [.i x0,.agg #[.i x1.1,.b x1.2.1,.b x1.2.2.1],.q x2,.q x3,.q x4] K=t250 x0 x1 x2 x3 x4 K:=by kernel_rfl
def t251(x0:ShV (.agg [.int .i64,.bool,.bool]))(K:Value->HP):HP:=
 nw (.cells #[.i x0.1,.b x0.2.1,.b x0.2.2.1] 194) fun n1=>
 ld (Addr.add ⟨n1,0,none⟩ 2) (.lf .bool) fun v1=>
 ifB v1 (
 ld ⟨n1,0,none⟩ (lI) fun v2=>
 K (.i (IntKind.i64.wrap (v2+1)))) (
 ld ⟨n1,0,none⟩ (lI) fun v3=>
 K (.i v3))
theorem e251(x0:ShV (.agg [.int .i64,.bool,.bool]))(K:Value->HP):A8 PP Hn Tryz.f251 [.agg #[.i x0.1,.b x0.2.1,.b x0.2.2.1]] K=t251 x0 K:=by kernel_rfl
def h252:D5:=⟨[],[],[(10,[0,1,2,3,4,6,7,8,9,5,10,11]),(7,[0,1,2,3,4,5,6,7,10,11,12,13,8,14,9,15])]⟩
def t252(x0:Option Addr)(x1:Int)(K:Value->HP):HP:=
 cl PP 235 #[.q x0,.i x1,.i 0] [.lf .ptr,lI] fun r1=>
 ifB ((r1.2.1:Int) !=0) (
 K (.i r1.2.1)) (
 A9 r1.1 fun a1=>
 ld (a1.add 3) (.lf .bool) fun v1=>
 ifB v1 (
 K (.i 10)) (
 A9 x0 fun a2=>
 cl PP 296 #[.q (some a2)] [.lf .bool] fun r2=>
 ifB r2.1 (
 A9 x0 fun a3=>
 A9 x0 fun a4=>
 A9 x0 fun a5=>
 ld (Addr.add (a4.add 3) 1) (lI) fun v2=>
 ld (Addr.add (a5.add 3) 2) (lI) fun v3=>
 cl PP 297 #[.q (some a3),.i v2] [lI] fun r3=>
 keep (D4 (Addr.add (a5.add 3) 2) [.i v3])<|
 cl PP 91 #[.q r1.1,.i r3.1,.i v3] [] fun r4=>
 A9 x0 fun a6=>
 ld (Addr.add (a6.add 3) 1) (lI) fun v4=>
 A9 r1.1 fun a7=>
 st (a7.add 1) [.i v4]<|
 K (.i 11)) (
 A9 x0 fun a8=>
 A9 x0 fun a9=>
 ld (Addr.add (a8.add 3) 1) (lI) fun v5=>
 ld (Addr.add (a9.add 3) 2) (lI) fun v6=>
 cl PP 91 #[.q r1.1,.i v5,.i v6] [] fun r5=>
 A9 x0 fun a10=>
 ld (Addr.add (a10.add 3) 3) (lI) fun v7=>
 cl PP 298 #[.q r1.1,.i v7] [.lf .bool] fun r6=>
 ifB r6.1 (
 K (.i 10)) (
 K (.i 0)))))
theorem e252(x0:Option Addr)(x1:Int)(K:Value->HP):A8 PP h252 Tryz.f252 [.q x0,.i x1] K=t252 x0 x1 K:=by kernel_rfl
def t253(x0:Option Addr)(x1:Int)(x2:Bool)(K:Value->HP):HP:=
 nw (.cells #[.b x2] 4) fun n1=>
 cl PP 299 #[.q x0,.i x1,.func (.func 300) #[] #[.q (some ⟨n1,0,none⟩)]] [.lf .bool] fun r1=>
 K (.b r1.1)
theorem e253(x0:Option Addr)(x1:Int)(x2:Bool)(K:Value->HP):A8 PP Hn Tryz.f253 [.q x0,.i x1,.b x2] K=t253 x0 x1 x2 K:=by kernel_rfl
def t254(x0:Option Addr)(x1:Int)(x2:Int)(K:Value->HP):HP:=
 cl PP 193 #[.q x0,.i x1,.agg #[.i 1,.i 0,.i 1,.i x2,.i 0],.slice none 0 0] [lI] fun r1=>
 K (.i r1.1)
theorem e254(x0:Option Addr)(x1:Int)(x2:Int)(K:Value->HP):A8 PP Hn Tryz.f254 [.q x0,.i x1,.i x2] K=t254 x0 x1 x2 K:=by kernel_rfl
def t255(x0:Option Addr)(x1:Int)(K:Value->HP):HP:=
 cl PP 172 #[.q x0,.i x1] [.lf .bool] fun r1=>
 ifB (!r1.1) (
 K (.b false)) (
 A9 x0 fun a1=>
 ld a1 (.lf .sl) fun v1=>
 A9 v1.a fun a2=>
 ixn x1 v1.len<|
 ld (Addr.add (a2.add (x1.toNat*3)) 2) (.lf .bool) fun v2=>
 ifB v2 (
 K (.b false)) (
 A9 x0 fun a3=>
 ld (a3.add 1) (.lf .sl) fun v3=>
 nw (.cells #[.i x1] 3) fun n1=>
 smW PP (Builtin.append_ #[49,49] 49 #[.sv v3,.slice (some ⟨n1,0,none⟩) 1 1]) [.lf .sl] fun v4=>
 A9 x0 fun a4=>
 st (a4.add 1) [.slice v4.1.a v4.1.len v4.1.cap]<|
 K (.b true)))
theorem e255(x0:Option Addr)(x1:Int)(K:Value->HP):A8 PP Hn Tryz.f255 [.q x0,.i x1] K=t255 x0 x1 K:=by kernel_rfl
def t256(x0:ShV (.agg [.int .i64,.int .i64,.int .i64,.int .i64,.int .i64]))(x1:SlV)(x2:Int)(K:Value->HP):HP:=
 nw (.cells #[.i x0.1,.i x0.2.1,.i x0.2.2.1,.i x0.2.2.2.1,.i x0.2.2.2.2.1] 272) fun n1=>
 cl PP 129 #[.i x2] [.lf .bool] fun r1=>
 ifB (!r1.1) (
 K (.t #[.slice none 0 0,.i 2])) (
 ld ⟨n1,0,none⟩ (.agg [.int .i64,.int .i64,.int .i64,.int .i64,.int .i64]) fun v1=>
 cl PP 239 #[.agg #[.i v1.1,.i v1.2.1,.i v1.2.2.1,.i v1.2.2.2.1,.i v1.2.2.2.2.1]] [lI] fun r2=>
 ifB ((r2.1:Int) !=0) (
 K (.t #[.slice none 0 0,.i r2.1])) (
 cl PP 62 #[.i x2] [lI] fun r3=>
 ifB (decide ((x1.len:Int)>r3.1)) (
 K (.t #[.slice none 0 0,.i 4])) (
 ld ⟨n1,0,none⟩ (lI) fun v2=>
 ld (Addr.add ⟨n1,0,none⟩ 1) (lI) fun v3=>
 ld (Addr.add ⟨n1,0,none⟩ 2) (lI) fun v4=>
 ld (Addr.add ⟨n1,0,none⟩ 3) (lI) fun v5=>
 ld (Addr.add ⟨n1,0,none⟩ 4) (lI) fun v6=>
 nw (.cells #[.i v2,.i 1,.i v3,.i 1,.i v4,.i 1,.i 165,.i 1,.i v5,.i 4,.i v6,.i 1,.i 0,.i 1,.i x1.len,.i 2] 399) fun n2=>
 cl PP 301 #[.slice none 0 0,.slice (some ⟨n2,0,none⟩) 8 8] [.lf .sl] fun r4=>
 smA PP (Instr.makeSlice 27 (.i (IntKind.i64.wrap (x2-4))) (.i (IntKind.i64.wrap (x2-4)))) (.lf .sl) fun v7=>
 smW PP (Builtin.copy_ #[27,27] 3 #[.sv v7,.sv r4.1]) [lI] fun v8=>
 slc ⟨v7.a,v7.len,v7.cap⟩ v8.1 v7.len v7.cap 1 fun s1=>
 smW PP (Builtin.copy_ #[27,27] 3 #[.sv s1,.sv x1]) [lI] fun v9=>
 cl PP 179 #[.sv v7] [lI] fun r5=>
 nw (.cells #[.i r5.1,.i 4] 399) fun n3=>
 cl PP 301 #[.sv v7,.slice (some ⟨n3,0,none⟩) 1 1] [.lf .sl] fun r6=>
 K (.t #[.sv r6.1,.i 0]))))
theorem e256(x0:ShV (.agg [.int .i64,.int .i64,.int .i64,.int .i64,.int .i64]))(x1:SlV)(x2:Int)(K:Value->HP):A8 PP Hn Tryz.f256 [.agg #[.i x0.1,.i x0.2.1,.i x0.2.2.1,.i x0.2.2.2.1,.i x0.2.2.2.2.1],.sv x1,.i x2] K=t256 x0 x1 x2 K:=by kernel_rfl
def h257:D5:=⟨[],[],[(18,[0,1,2,3,5,6,8,11,4,7,9,10,12,13,14,15,16,17,18]),(17,[0,1,2,3,4,5,6,7,8,9,10,11,12]),(13,[0,1,2,4,5,6,7,3,8,9,10,11,12])]⟩
def t257(x0:Option Addr)(x1:Int)(x2:Int)(x3:SlV)(K:Value->HP):HP:=
 cl PP 235 #[.q x0,.i x1,.i x2] [.lf .ptr,lI] fun r1=>
 ifB ((r1.2.1:Int) !=0) (
 K (.i r1.2.1)) (
 A9 x0 fun a1=>
 ld (Addr.add (a1.add 3) 2) (lI) fun v1=>
 ifB ((x3.len:Int) !=v1) (
 K (.i 2)) (
 A9 r1.1 fun a2=>
 ld (a2.add 3) (.lf .bool) fun v2=>
 ifB v2 (
 K (.i 10)) (
 A9 r1.1 fun a3=>
 ld (a3.add 1) (lI) fun v3=>
 ifB ((v3:Int) !=x2) (
 K (.i 9)) (
 A9 x0 fun a4=>
 ld (Addr.add (a4.add 3) 2) (lI) fun v4=>
 cl PP 163 #[.i v4] [.lf .sl] fun r2=>
 A9 r1.1 fun a5=>
 ld a5 (.lf .sl) fun v5=>
 A9 v5.a fun a6=>
 ixn x2 v5.len<|
 st (a6.add (x2.toNat*1)) [.slice r2.1.a r2.1.len r2.1.cap]<|
 A9 r1.1 fun a7=>
 ld (a7.add 1) (lI) fun v6=>
 A9 r1.1 fun a8=>
 st (a8.add 1) [.i (IntKind.i64.wrap (v6+1))]<|
 A9 x0 fun a9=>
 A9 x0 fun a10=>
 ld (a9.add 8) (lI) fun v7=>
 ld (Addr.add (a10.add 3) 2) (lI) fun v8=>
 A9 x0 fun a11=>
 st (a11.add 8) [.i (IntKind.i64.wrap (v7+v8))]<|
 A9 x0 fun a12=>
 cl PP 296 #[.q (some a12)] [.lf .bool] fun r3=>
 ifB (!r3.1) (
 smW PP (Builtin.copy_ #[27,27] 3 #[.sv r2.1,.sv x3]) [lI] fun v9=>
 K (.i 0)) (
 A9 x0 fun a13=>
 A9 x0 fun a14=>
 ld (Addr.add (a14.add 3) 2) (lI) fun v10=>
 cl PP 297 #[.q (some a13),.i v10] [lI] fun r4=>
 slc ⟨x3.a,x3.len,x3.cap⟩ 0 r4.1 x3.cap 1 fun s1=>
 smW PP (Builtin.copy_ #[27,27] 3 #[.sv r2.1,.sv s1]) [lI] fun v11=>
 A9 x0 fun a15=>
 ld (a15.add 9) (.lf .sl) fun v12=>
 nw (.cells #[] 5) fun n1=>
 smW PP (Builtin.append_ #[27,27] 27 #[.slice (some ⟨n1,0,none⟩) 0 0,.sv x3]) [.lf .sl] fun v13=>
 keep (D4 (a15.add 9) [.sv v12])<|
 nw (.cells #[] 5) fun n2=>
 smW PP (Builtin.append_ #[27,27] 27 #[.slice (some ⟨n2,0,none⟩) 0 0,.sv r2.1]) [.lf .sl] fun v14=>
 keep (D4 (a15.add 9) [.sv v12])<|
 nw (.cells #[.i x1,.i x2,.slice v13.1.a v13.1.len v13.1.cap,.slice v14.1.a v14.1.len v14.1.cap] 401) fun n3=>
 smW PP (Builtin.append_ #[73,73] 73 #[.sv v12,.slice (some ⟨n3,0,none⟩) 1 1]) [.lf .sl] fun v15=>
 A9 x0 fun a16=>
 st (a16.add 9) [.slice v15.1.a v15.1.len v15.1.cap]<|
 K (.i 11))))))
theorem e257(x0:Option Addr)(x1:Int)(x2:Int)(x3:SlV)(K:Value->HP):A8 PP h257 Tryz.f257 [.q x0,.i x1,.i x2,.sv x3] K=t257 x0 x1 x2 x3 K:=by kernel_rfl
set_option maxRecDepth 100000
def h283:D5:=⟨[(0,[(17,lI)])],[],[(6,[0,1,2,3,6,7,8,4,5,9,10,11,12,13,14])]⟩
def t283(x0:SlV)(K:Value->HP):HP:=
 nw (.cells #[.slice none 0 0,.i 0,.i 0] 375) fun n1=>
 slc ⟨x0.a,x0.len,x0.cap⟩ 0 (Ab3 x0.len 16) x0.cap 1 fun s1=>
 lp [lI] (0,()) fun z1 go1=>
 ifB (decide ((z1.1:Int)<s1.len)) (
 A9 s1.a fun a1=>
 ixn z1.1 s1.len<|
 ld (a1.add (z1.1.toNat*1)) (.lf .sl) fun v1=>
 cl PP 182 #[.sv v1] [.agg [.int .i64,.int .i64,.int .i64,.int .i64,.int .i64],.lf .sl,lI] fun r1=>
 nw (.cells #[.i 0,.i 0,.i 0,.i 0,.i 0] 272) fun n2=>
 st ⟨n2,0,none⟩ [.i r1.1.1,.i r1.1.2.1,.i r1.1.2.2.1,.i r1.1.2.2.2.1,.i r1.1.2.2.2.2.1]<|
 ld ⟨n1,0,none⟩ (.lf .sl) fun v2=>
 ld ⟨n2,0,none⟩ (.agg [.int .i64,.int .i64,.int .i64,.int .i64,.int .i64]) fun v3=>
 nw (.cells #[.i v3.1,.i v3.2.1,.i v3.2.2.1,.i v3.2.2.2.1,.i v3.2.2.2.2.1,.slice r1.2.1.a r1.2.1.len r1.2.1.cap,.b ((r1.2.2.1:Int)==0)] 377) fun n3=>
 smW PP (Builtin.append_ #[373,373] 373 #[.sv v2,.slice (some ⟨n3,0,none⟩) 1 1]) [.lf .sl] fun v4=>
 st ⟨n1,0,none⟩ [.slice v4.1.a v4.1.len v4.1.cap]<|
 cl PP 236 #[.sv v1] [.lf .bool] fun r2=>
 ifB (!r2.1) (
 st (Addr.add ⟨n1,0,none⟩ 2) [.i z1.1]<|
 go1 (IntKind.i64.wrap (z1.1+1),())) (
 go1 (IntKind.i64.wrap (z1.1+1),()))) (
 K (.q (some ⟨n1,0,none⟩)))
theorem e283(x0:SlV)(K:Value->HP):A8 PP h283 Tryz.f283 [.sv x0] K=t283 x0 K:=by kernel_rfl
def h284:D5:=⟨[],[],[(2,[0,1,2,3,4,5,6,7,8,9,10,11,12,13,14,16,15,17,18,19,20,21,22,23,24,25,27,26,28,29,30,31,32,33])]⟩
def t284(x0:Option Addr)(x1:Int)(x2:ShV (.agg [.int .i64,.int .i64,.int .i64,.int .i64,.int .i64]))(K:Value->HP):HP:=
 nw (.cells #[.i x2.1,.i x2.2.1,.i x2.2.2.1,.i x2.2.2.2.1,.i x2.2.2.2.2.1] 272) fun n1=>
 A9 x0 fun a1=>
 ld (a1.add 1) (lI) fun v1=>
 st (Addr.add ⟨n1,0,none⟩ 3) [.i v1]<|
 st (Addr.add ⟨n1,0,none⟩ 4) [.i x1]<|
 ifB (decide ((x1:Int)<0)) (
 K (.t #[.slice none 0 0,.b false])) (
 A9 x0 fun a2=>
 ld a2 (.lf .sl) fun v2=>
 ifB (decide ((x1:Int)≥v2.len)) (
 K (.t #[.slice none 0 0,.b false])) (
 A9 x0 fun a3=>
 ld a3 (.lf .sl) fun v3=>
 A9 v3.a fun a4=>
 ixn x1 v3.len<|
 ld (Addr.add (a4.add (x1.toNat*7)) 6) (.lf .bool) fun v4=>
 ifB (!v4) (
 K (.t #[.slice none 0 0,.b false])) (
 A9 x0 fun a5=>
 ld a5 (.lf .sl) fun v5=>
 A9 v5.a fun a6=>
 ixn x1 v5.len<|
 ld (a6.add (x1.toNat*7)) (.agg [.int .i64,.int .i64,.int .i64,.int .i64,.int .i64]) fun v6=>
 ld ⟨n1,0,none⟩ (.agg [.int .i64,.int .i64,.int .i64,.int .i64,.int .i64]) fun v7=>
 smP PP (binOp .neq 272 (.agg #[.i v6.1,.i v6.2.1,.i v6.2.2.1,.i v6.2.2.2.1,.i v6.2.2.2.2.1]) (.agg #[.i v7.1,.i v7.2.1,.i v7.2.2.1,.i v7.2.2.2.1,.i v7.2.2.2.2.1])) (.lf .bool) fun v8=>
 ifB v8 (
 K (.t #[.slice none 0 0,.b false])) (
 A9 x0 fun a7=>
 ld a7 (.lf .sl) fun v9=>
 A9 v9.a fun a8=>
 ixn x1 v9.len<|
 ld (Addr.add (a8.add (x1.toNat*7)) 5) (.lf .sl) fun v10=>
 K (.t #[.sv v10,.b true])))))
theorem e284(x0:Option Addr)(x1:Int)(x2:ShV (.agg [.int .i64,.int .i64,.int .i64,.int .i64,.int .i64]))(K:Value->HP):A8 PP h284 Tryz.f284 [.q x0,.i x1,.agg #[.i x2.1,.i x2.2.1,.i x2.2.2.1,.i x2.2.2.2.1,.i x2.2.2.2.2.1]] K=t284 x0 x1 x2 K:=by kernel_rfl
def h285:D5:=⟨[(0,[(4,.lf .sl),(6,.lf .sl),(7,lI)])],[],[(13,[0,1,2,3,4,7,5,6,8]),(8,[0,1,4,5,8,9,2,3,6,7,10,11,12,13,14])]⟩
def t285(x0:Option Addr)(K:Value->HP):HP:=
 A9 x0 fun a1=>
 ld (a1.add 2) (lI) fun v1=>
 cl PP 284 #[.q x0,.i v1,.agg #[.i 4,.i 0,.i 1,.i 0,.i 0]] [.lf .sl,.lf .bool] fun r1=>
 ifB (!r1.2.1) (
 K (.t #[.slice none 0 0,.b false])) (
 req ((3:Int)≠0)<|
 ifB ((Int.tmod r1.1.len 3:Int) !=0) (
 K (.t #[.slice none 0 0,.b false])) (
 lp [.lf .sl,.lf .sl,lI] (⟨r1.1.a,r1.1.len,r1.1.cap⟩,⟨none,0,0⟩,1,()) fun z1 go1=>
 ifB (decide ((z1.1.len:Int)>0)) (
 A9 z1.1.a fun a2=>
 ixn 0 z1.1.len<|
 A9 z1.1.a fun a3=>
 ixn 1 z1.1.len<|
 A9 z1.1.a fun a4=>
 ixn 2 z1.1.len<|
 ld (a2.add ((0:Int).toNat*1)) (.lf (.int .u8)) fun v2=>
 ld (a3.add ((1:Int).toNat*1)) (.lf (.int .u8)) fun v3=>
 ld (a4.add ((2:Int).toNat*1)) (.lf (.int .u8)) fun v4=>
 nw (.cells #[.i 0,.i 0,.i 0] 215) fun n1=>
 st ⟨n1,0,none⟩ [.i (IntKind.i64.wrap v2),.i (IntKind.i64.wrap v3),.i (IntKind.i64.wrap v4)]<|
 ld ⟨n1,0,none⟩ (lI) fun v5=>
 cl PP 320 #[.i v5] [.lf .bool] fun r2=>
 ifB (!r2.1) (
 K (.t #[.slice none 0 0,.b false])) (
 ld (Addr.add ⟨n1,0,none⟩ 2) (lI) fun v6=>
 ifB ((v6:Int)==0) (
 K (.t #[.slice none 0 0,.b false])) (
 ld (Addr.add ⟨n1,0,none⟩ 1) (lI) fun v7=>
 ifB ((v7:Int) !=z1.2.2.1) (
 K (.t #[.slice none 0 0,.b false])) (
 ld (Addr.add ⟨n1,0,none⟩ 2) (lI) fun v8=>
 ld ⟨n1,0,none⟩ (.agg [.int .i64,.int .i64,.int .i64]) fun v9=>
 nw (.cells #[.i v9.1,.i v9.2.1,.i v9.2.2.1] 215) fun n2=>
 smW PP (Builtin.append_ #[152,152] 152 #[.sv z1.2.1,.slice (some ⟨n2,0,none⟩) 1 1]) [.lf .sl] fun v10=>
 slc ⟨z1.1.a,z1.1.len,z1.1.cap⟩ 3 z1.1.len z1.1.cap 1 fun s1=>
 go1 (⟨s1.a,s1.len,s1.cap⟩,⟨v10.1.a,v10.1.len,v10.1.cap⟩,IntKind.i64.wrap (z1.2.2.1+v8),()))))) (
 A9 x0 fun a5=>
 ld (a5.add 2) (lI) fun v11=>
 K (.t #[.sv z1.2.1,.b ((z1.2.2.1:Int)==v11)]))))
theorem e285(x0:Option Addr)(K:Value->HP):A8 PP h285 Tryz.f285 [.q x0] K=t285 x0 K:=by kernel_rfl
def h286:D5:=⟨[(0,[(5,.lf .sl),(6,lI)])],[],[]⟩
def t286(x0:Option Addr)(x1:FnV)(K:Value->HP):HP:=
 lp [.lf .sl,lI] (⟨none,0,0⟩,1,()) fun z1 go1=>
 A9 x0 fun a1=>
 ld (a1.add 2) (lI) fun v1=>
 ifB (decide ((z1.2.1:Int)<=v1)) (
 clv PP x1.fn (x1.first++#[.i z1.2.1]) x1.captured [.agg [.int .i64,.int .i64,.int .i64],.lf .bool] fun r1=>
 nw (.cells #[.i 0,.i 0,.i 0] 215) fun n1=>
 st ⟨n1,0,none⟩ [.i r1.1.1,.i r1.1.2.1,.i r1.1.2.2.1]<|
 ifB (!r1.2.1) (
 go1 (⟨z1.1.a,z1.1.len,z1.1.cap⟩,IntKind.i64.wrap (z1.2.1+1),())) (
 ld ⟨n1,0,none⟩ (.agg [.int .i64,.int .i64,.int .i64]) fun v2=>
 nw (.cells #[.i v2.1,.i v2.2.1,.i v2.2.2.1] 215) fun n2=>
 smW PP (Builtin.append_ #[152,152] 152 #[.sv z1.1,.slice (some ⟨n2,0,none⟩) 1 1]) [.lf .sl] fun v3=>
 ld (Addr.add ⟨n1,0,none⟩ 2) (lI) fun v4=>
 go1 (⟨v3.1.a,v3.1.len,v3.1.cap⟩,IntKind.i64.wrap ((IntKind.i64.wrap (z1.2.1+(IntKind.i64.wrap (v4-1))))+1),()))) (
 K (.sv z1.1))
theorem e286(x0:Option Addr)(x1:FnV)(K:Value->HP):A8 PP h286 Tryz.f286 [.q x0,.func x1.fn x1.first x1.captured] K=t286 x0 x1 K:=by kernel_rfl
def h287:D5:=⟨[(0,[(31,lI)])],[],[]⟩
def t287(x0:Option Addr)(x1:Int)(K:Value->HP):HP:=
 nw (.cells #[.i 0,.i 0,.i 0] 215) fun n1=>
 A9 x0 fun a1=>
 ld a1 (.lf .sl) fun v1=>
 A9 v1.a fun a2=>
 ixn x1 v1.len<|
 ld (a2.add (x1.toNat*7)) (.agg [.int .i64,.int .i64,.int .i64,.int .i64,.int .i64,.sl,.bool]) fun v2=>
 nw (.cells #[.i 0,.i 0,.i 0,.i 0,.i 0,.slice none 0 0,.b false] 377) fun n2=>
 st ⟨n2,0,none⟩ [.i v2.1,.i v2.2.1,.i v2.2.2.1,.i v2.2.2.2.1,.i v2.2.2.2.2.1,.slice v2.2.2.2.2.2.1.a v2.2.2.2.2.2.1.len v2.2.2.2.2.2.1.cap,.b v2.2.2.2.2.2.2.1]<|
 ld (Addr.add ⟨n2,0,none⟩ 6) (.lf .bool) fun v3=>
 ifB (!v3) (
 st ⟨n1,0,none⟩ [.i 0,.i 0,.i 0]<|
 ld ⟨n1,0,none⟩ (.agg [.int .i64,.int .i64,.int .i64]) fun v4=>
 K (.t #[.agg #[.i v4.1,.i v4.2.1,.i v4.2.2.1],.b false])) (
 ld ⟨n2,0,none⟩ (lI) fun v5=>
 cl PP 320 #[.i v5] [.lf .bool] fun r1=>
 ifB (!r1.1) (
 st ⟨n1,0,none⟩ [.i 0,.i 0,.i 0]<|
 ld ⟨n1,0,none⟩ (.agg [.int .i64,.int .i64,.int .i64]) fun v6=>
 K (.t #[.agg #[.i v6.1,.i v6.2.1,.i v6.2.2.1],.b false])) (
 ld (Addr.add ⟨n2,0,none⟩ 2) (lI) fun v7=>
 lp [lI] (0,()) fun z1 go1=>
 ifB (decide ((z1.1:Int)<v7)) (
 ld ⟨n2,0,none⟩ (lI) fun v8=>
 ld (Addr.add ⟨n2,0,none⟩ 2) (lI) fun v9=>
 cl PP 284 #[.q x0,.i (IntKind.i64.wrap (x1+z1.1)),.agg #[.i v8,.i z1.1,.i v9,.i 0,.i 0]] [.lf .sl,.lf .bool] fun r2=>
 ifB (!r2.2.1) (
 st ⟨n1,0,none⟩ [.i 0,.i 0,.i 0]<|
 ld ⟨n1,0,none⟩ (.agg [.int .i64,.int .i64,.int .i64]) fun v10=>
 K (.t #[.agg #[.i v10.1,.i v10.2.1,.i v10.2.2.1],.b false])) (
 go1 (IntKind.i64.wrap (z1.1+1),()))) (
 ld ⟨n2,0,none⟩ (lI) fun v11=>
 ld (Addr.add ⟨n2,0,none⟩ 2) (lI) fun v12=>
 st ⟨n1,0,none⟩ [.i v11,.i x1,.i v12]<|
 ld ⟨n1,0,none⟩ (.agg [.int .i64,.int .i64,.int .i64]) fun v13=>
 K (.t #[.agg #[.i v13.1,.i v13.2.1,.i v13.2.2.1],.b true]))))
theorem e287(x0:Option Addr)(x1:Int)(K:Value->HP):A8 PP h287 Tryz.f287 [.q x0,.i x1] K=t287 x0 x1 K:=by kernel_rfl
def h288:D5:=⟨[(0,[(7,lI),(8,lI)]),(2,[(6,lI)]),(4,[(7,lI),(8,lI)])],[],[]⟩
def t288(x0:SlV)(x1:Int)(x2:FnV)(K:Value->HP):HP:=
 lp [lI,lI] (0,20,()) fun z1 go1=>
 ifB (decide ((z1.2.1:Int)<=x1)) (
 cl PP 321 #[.slice x0.a x0.len x0.cap,.i z1.1,.i z1.2.1,.func x2.fn x2.first x2.captured] [] fun r1=>
 go1 (z1.2.1,IntKind.i64.wrap (z1.2.1+20),())) (
 cl PP 321 #[.slice x0.a x0.len x0.cap,.i z1.1,.i x1,.func x2.fn x2.first x2.captured] [] fun r2=>
 lp [lI] (20,()) fun z2 go2=>
 ifB (decide ((z2.1:Int)<x1)) (
 lp [lI,lI] (0,IntKind.i64.wrap (2*z2.1),()) fun z3 go3=>
 ifB (decide ((z3.2.1:Int)<=x1)) (
 cl PP 322 #[.slice x0.a x0.len x0.cap,.i z3.1,.i (IntKind.i64.wrap (z3.1+z2.1)),.i z3.2.1,.func x2.fn x2.first x2.captured] [] fun r3=>
 go3 (z3.2.1,IntKind.i64.wrap (z3.2.1+(IntKind.i64.wrap (2*z2.1))),())) (
 ifB (decide ((IntKind.i64.wrap (z3.1+z2.1):Int)<x1)) (
 cl PP 322 #[.slice x0.a x0.len x0.cap,.i z3.1,.i (IntKind.i64.wrap (z3.1+z2.1)),.i x1,.func x2.fn x2.first x2.captured] [] fun r4=>
 go2 (IntKind.i64.wrap (z2.1*2),())) (
 go2 (IntKind.i64.wrap (z2.1*2),())))) (
 K (.t #[])))
theorem e288(x0:SlV)(x1:Int)(x2:FnV)(K:Value->HP):A8 PP h288 Tryz.f288 [.slice x0.a x0.len x0.cap,.i x1,.func x2.fn x2.first x2.captured] K=t288 x0 x1 x2 K:=by kernel_rfl
def h289:D5:=⟨[(0,[(8,lI)])],[],[]⟩
def t289(x0:SlV)(x1:Int)(K:Value->HP):HP:=
 lp [lI] (0,()) fun z1 go1=>
 ifB (decide ((z1.1:Int)<x0.len)) (
 A9 x0.a fun a1=>
 ixn z1.1 x0.len<|
 ld (a1.add (z1.1.toNat*1)) (lI) fun v1=>
 ifB ((x1:Int)==v1) (
 K (.i z1.1)) (
 go1 (IntKind.i64.wrap (z1.1+1),()))) (
 K (.i (-1)))
theorem e289(x0:SlV)(x1:Int)(K:Value->HP):A8 PP h289 Tryz.f289 [.sv x0,.i x1] K=t289 x0 x1 K:=by kernel_rfl
def h290:D5:=⟨[],[(3,[])],[]⟩
def t290(x0:SlV)(x1:Int)(K:Value->HP):HP:=
 jn (fun y1:RsV []=>
 ifB (decide ((IntKind.i64.wrap (x1-(IntKind.i64.wrap (x0.cap-x0.len))):Int)>0)) (
 slc ⟨x0.a,x0.len,x0.cap⟩ 0 x0.cap x0.cap 1 fun s1=>
 smW PP (Builtin.append_ #[27,3] 27 #[.sv s1,.i (IntKind.i64.wrap (x1-(IntKind.i64.wrap (x0.cap-x0.len))))]) [.lf .sl] fun v1=>
 slc ⟨v1.1.a,v1.1.len,v1.1.cap⟩ 0 x0.len v1.1.cap 1 fun s2=>
 K (.sv s2)) (
 K (.sv x0))) fun j1=>
 ifB (decide ((x1:Int)<0)) (
 ff) (
 j1 (()))
theorem e290(x0:SlV)(x1:Int)(K:Value->HP):A8 PP h290 Tryz.f290 [.sv x0,.i x1] K=t290 x0 x1 K:=by kernel_rfl
def h291:D5:=⟨[(0,[(0,.lf (.int .u32)),(10,lI)]),(2,[(0,.lf (.int .u32)),(18,lI)])],[],[]⟩
def t291(x0:Int)(x1:SlV)(K:Value->HP):HP:=
 lp [.lf (.int .u32),lI] (x0,0,()) fun z1 go1=>
 ifB (decide ((z1.2.1:Int)<x1.len)) (
 A9 x1.a fun a1=>
 ixn z1.2.1 x1.len<|
 ld (a1.add (z1.2.1.toNat*1)) (.lf (.int .u8)) fun v1=>
 lp [.lf (.int .u32),lI] (Ak8 .xor .u32 z1.1 (IntKind.u32.wrap v1),0,()) fun z2 go2=>
 ifB (decide ((z2.2.1:Int)<8)) (
 req ((0:Int)<=1)<|
 go2 (Ak8 .xor .u32 (Int.fdiv z2.1 (2^(min (1:Int).toNat IntKind.u32.bits))) (Ak8 .and .u32 2197175160 (IntKind.u32.wrap (0-(Ak8 .and .u32 z2.1 1)))),IntKind.i64.wrap (z2.2.1+1),())) (
 go1 (z2.1,IntKind.i64.wrap (z1.2.1+1),()))) (
 K (.int .u32 z1.1))
theorem e291(x0:Int)(x1:SlV)(K:Value->HP):A8 PP h291 Tryz.f291 [.int .u32 x0,.sv x1] K=t291 x0 x1 K:=by kernel_rfl
def t292(x0:SlV)(x1:ShV (.agg [.int .i64,.int .i64,.int .i64]))(K:Value->HP):HP:=
 nw (.cells #[.i x1.1,.i x1.2.1,.i x1.2.2.1] 102) fun n1=>
 ld ⟨n1,0,none⟩ (.agg [.int .i64,.int .i64,.int .i64]) fun v1=>
 cl PP 323 #[.sv x0,.agg #[.i v1.1,.i v1.2.1,.i v1.2.2.1]] [lI] fun r1=>
 K (.b (decide ((r1.1:Int)≥0)))
theorem e292(x0:SlV)(x1:ShV (.agg [.int .i64,.int .i64,.int .i64]))(K:Value->HP):A8 PP Hn Tryz.f292 [.sv x0,.agg #[.i x1.1,.i x1.2.1,.i x1.2.2.1]] K=t292 x0 x1 K:=by kernel_rfl
def t293(x0:Option Addr)(x1:Int)(x2:ShV (.agg [.int .i64,.int .i64,.int .i64]))(K:Value->HP):HP:=
 nw (.cells #[.i x2.1,.i x2.2.1,.i x2.2.2.1] 102) fun n1=>
 nw (.cells #[.i 0] 3) fun n2=>
 st ⟨n2,0,none⟩ [.i 0]<|
 ld ⟨n1,0,none⟩ (.agg [.int .i64,.int .i64,.int .i64]) fun v1=>
 cl PP 124 #[.q x0,.int .u64 x1,.agg #[.i v1.1,.i v1.2.1,.i v1.2.2.1],.func (.func 324) #[] #[.q (some ⟨n2,0,none⟩)]] [.lf .bool] fun r1=>
 ld ⟨n2,0,none⟩ (lI) fun v2=>
 K (.i v2)
theorem e293(x0:Option Addr)(x1:Int)(x2:ShV (.agg [.int .i64,.int .i64,.int .i64]))(K:Value->HP):A8 PP Hn Tryz.f293 [.q x0,.int .u64 x1,.agg #[.i x2.1,.i x2.2.1,.i x2.2.2.1]] K=t293 x0 x1 x2 K:=by kernel_rfl
def h294:D5:=⟨[],[],[(4,[0,1,2,5,3,6,7,8,4,9,10])]⟩
def t294(x0:Option Addr)(x1:Int)(x2:ShV (.agg [.int .i64,.int .i64,.int .i64]))(x3:ShV (.agg [.int .i64,.int .i64,.int .i64]))(K:Value->HP):HP:=
 nw (.cells #[.i x2.1,.i x2.2.1,.i x2.2.2.1] 102) fun n1=>
 nw (.cells #[.i x3.1,.i x3.2.1,.i x3.2.2.1] 102) fun n2=>
 ld ⟨n1,0,none⟩ (.agg [.int .i64,.int .i64,.int .i64]) fun v1=>
 cl PP 176 #[.q x0,.int .u64 x1,.agg #[.i v1.1,.i v1.2.1,.i v1.2.2.1]] [.agg [.int .i64,.int .i64,.int .i64,.int .i64,.int .i64],.lf .bool] fun r1=>
 nw (.cells #[.i 0,.i 0,.i 0,.i 0,.i 0] 204) fun n3=>
 st ⟨n3,0,none⟩ [.i r1.1.1,.i r1.1.2.1,.i r1.1.2.2.1,.i r1.1.2.2.2.1,.i r1.1.2.2.2.2.1]<|
 ifB r1.2.1 (
 ld ⟨n2,0,none⟩ (.agg [.int .i64,.int .i64,.int .i64]) fun v2=>
 cl PP 176 #[.q x0,.int .u64 x1,.agg #[.i v2.1,.i v2.2.1,.i v2.2.2.1]] [.agg [.int .i64,.int .i64,.int .i64,.int .i64,.int .i64],.lf .bool] fun r2=>
 ld ⟨n2,0,none⟩ (.agg [.int .i64,.int .i64,.int .i64]) fun v3=>
 ld (Addr.add ⟨n3,0,none⟩ 4) (lI) fun v4=>
 cl PP 184 #[.int .u64 x1,.agg #[.i v3.1,.i v3.2.1,.i v3.2.2.1]] [.agg [.int .i64,.int .i64,.int .i64,.int .i64]] fun r3=>
 keep (D4 (Addr.add ⟨n3,0,none⟩ 4) [.i v4])<|
 cl PP 230 #[.q x0,.int .u64 x1,.agg #[.i r3.1.1,.i r3.1.2.1,.i r3.1.2.2.1,.i r3.1.2.2.2.1,.i (Z6 (IntKind.i64.wrap (v4-1)) 0)]] [] fun r4=>
 K (.b r1.2.1)) (
 K (.b r1.2.1))
theorem e294(x0:Option Addr)(x1:Int)(x2:ShV (.agg [.int .i64,.int .i64,.int .i64]))(x3:ShV (.agg [.int .i64,.int .i64,.int .i64]))(K:Value->HP):A8 PP h294 Tryz.f294 [.q x0,.int .u64 x1,.agg #[.i x2.1,.i x2.2.1,.i x2.2.2.1],.agg #[.i x3.1,.i x3.2.1,.i x3.2.2.1]] K=t294 x0 x1 x2 x3 K:=by kernel_rfl
def h295:D5:=⟨[(0,[(8,lI)])],[],[]⟩
def t295(x0:SlV)(x1:FnV)(K:Value->HP):HP:=
 lp [lI] (0,()) fun z1 go1=>
 ifB (decide ((z1.1:Int)<x0.len)) (
 A9 x0.a fun a1=>
 ixn z1.1 x0.len<|
 ld (a1.add (z1.1.toNat*3)) (.agg [.int .i64,.int .i64,.int .i64]) fun v1=>
 clv PP x1.fn (x1.first++#[.agg #[.i v1.1,.i v1.2.1,.i v1.2.2.1]]) x1.captured [.lf .bool] fun r1=>
 ifB r1.1 (
 K (.i z1.1)) (
 go1 (IntKind.i64.wrap (z1.1+1),()))) (
 K (.i (-1)))
theorem e295(x0:SlV)(x1:FnV)(K:Value->HP):A8 PP h295 Tryz.f295 [.slice x0.a x0.len x0.cap,.func x1.fn x1.first x1.captured] K=t295 x0 x1 K:=by kernel_rfl
def t296(x0:Option Addr)(K:Value->HP):HP:=
 A9 x0 fun a1=>
 ld a1 (lI) fun v1=>
 ifB ((v1:Int)==0) (
 K (.b false)) (
 A9 x0 fun a2=>
 ld a2 (lI) fun v2=>
 A9 x0 fun a3=>
 st a3 [.i (IntKind.i64.wrap (v2-1))]<|
 A9 x0 fun a4=>
 ld a4 (lI) fun v3=>
 A9 x0 fun a5=>
 st (a5.add 2) [.b ((v3:Int)==0)]<|
 A9 x0 fun a6=>
 ld (a6.add 2) (.lf .bool) fun v4=>
 K (.b v4))
theorem e296(x0:Option Addr)(K:Value->HP):A8 PP Hn Tryz.f296 [.q x0] K=t296 x0 K:=by kernel_rfl
def t297(x0:Option Addr)(x1:Int)(K:Value->HP):HP:=
 A9 x0 fun a1=>
 ld (a1.add 1) (lI) fun v1=>
 K (.i (Ab3 (Z6 v1 0) x1))
theorem e297(x0:Option Addr)(x1:Int)(K:Value->HP):A8 PP Hn Tryz.f297 [.q x0,.i x1] K=t297 x0 x1 K:=by kernel_rfl
def t298(x0:Option Addr)(x1:Int)(K:Value->HP):HP:=
 A9 x0 fun a1=>
 st (a1.add 1) [.i 0]<|
 A9 x0 fun a2=>
 ld (a2.add 2) (lI) fun v1=>
 A9 x0 fun a3=>
 st (a3.add 2) [.i (IntKind.i64.wrap (v1+1))]<|
 A9 x0 fun a4=>
 ld (a4.add 2) (lI) fun v2=>
 A9 x0 fun a5=>
 st (a5.add 3) [.b ((v2:Int)==x1)]<|
 A9 x0 fun a6=>
 ld (a6.add 3) (.lf .bool) fun v3=>
 K (.b v3)
theorem e298(x0:Option Addr)(x1:Int)(K:Value->HP):A8 PP Hn Tryz.f298 [.q x0,.i x1] K=t298 x0 x1 K:=by kernel_rfl
def h299:D5:=⟨[],[],[(4,[0,1,2,3,4,5,6,7])]⟩
def t299(x0:Option Addr)(x1:Int)(x2:FnV)(K:Value->HP):HP:=
 nw (.cells #[.i x1] 3) fun n1=>
 ld ⟨n1,0,none⟩ (lI) fun v1=>
 cl PP 120 #[.q x0,.i v1] [.lf .bool] fun r1=>
 ifB (!r1.1) (
 K (.b false)) (
 A9 x0 fun a1=>
 ld (a1.add 1) (.lf .sl) fun v2=>
 cl PP 325 #[.sv v2,.func (.func 326) #[] #[.q (some ⟨n1,0,none⟩)]] [.lf .sl] fun r2=>
 A9 x0 fun a2=>
 st (a2.add 1) [.slice r2.1.a r2.1.len r2.1.cap]<|
 A9 x0 fun a3=>
 ld a3 (.lf .sl) fun v3=>
 ld ⟨n1,0,none⟩ (lI) fun v4=>
 A9 v3.a fun a4=>
 ixn v4 v3.len<|
 clv PP x2.fn (x2.first++#[.q (some (a4.add (v4.toNat*3)))]) x2.captured [] fun r3=>
 K (.b true))
theorem e299(x0:Option Addr)(x1:Int)(x2:FnV)(K:Value->HP):A8 PP h299 Tryz.f299 [.q x0,.i x1,.func x2.fn x2.first x2.captured] K=t299 x0 x1 x2 K:=by kernel_rfl
def t300(x0:Option Addr)(x1:Option Addr)(K:Value->HP):HP:=
 A9 x0 fun a1=>
 ld a1 (lI) fun v1=>
 A9 x0 fun a2=>
 st a2 [.i (IntKind.i64.wrap (v1+1))]<|
 A9 x1 fun a3=>
 ld a3 (.lf .bool) fun v2=>
 A9 x0 fun a4=>
 st (a4.add 1) [.b v2]<|
 A9 x0 fun a5=>
 st (a5.add 2) [.b false]<|
 K (.t #[])
theorem e300(x0:Option Addr)(x1:Option Addr)(K:Value->HP):A8 PP Hn Tryz.f300 [.q x0,.q x1] K=t300 x0 x1 K:=by kernel_rfl
def h301:D5:=⟨[(0,[(0,.lf .sl),(9,lI)])],[],[]⟩
def t301(x0:SlV)(x1:SlV)(K:Value->HP):HP:=
 lp [.lf .sl,lI] (⟨x0.a,x0.len,x0.cap⟩,0,()) fun z1 go1=>
 ifB (decide ((z1.2.1:Int)<x1.len)) (
 A9 x1.a fun a1=>
 ixn z1.2.1 x1.len<|
 ld (a1.add (z1.2.1.toNat*2)) (.agg [.int .i64,.int .i64]) fun v1=>
 nw (.cells #[.i 0,.i 0] 399) fun n1=>
 st ⟨n1,0,none⟩ [.i v1.1,.i v1.2.1]<|
 ld ⟨n1,0,none⟩ (lI) fun v2=>
 ld (Addr.add ⟨n1,0,none⟩ 1) (lI) fun v3=>
 cl PP 132 #[.sv z1.1,.i v2,.i v3] [.lf .sl,lI] fun r1=>
 go1 (⟨r1.1.a,r1.1.len,r1.1.cap⟩,IntKind.i64.wrap (z1.2.1+1),())) (
 K (.sv z1.1))
theorem e301(x0:SlV)(x1:SlV)(K:Value->HP):A8 PP h301 Tryz.f301 [.sv x0,.sv x1] K=t301 x0 x1 K:=by kernel_rfl
set_option maxRecDepth 100000
def t320(x0:Int)(K:Value->HP):HP:=
 ifB ((x0:Int)==2) (
 K (.b true)) (
 K (.b ((x0:Int)==3)))
theorem e320(x0:Int)(K:Value->HP):A8 PP Hn Tryz.f320 [.i x0] K=t320 x0 K:=by kernel_rfl
def h321:D5:=⟨[(0,[(8,lI)]),(2,[(9,lI)])],[(6,[])],[(6,[0,1,2,3,4,5,6,7,8,10,11,12,9,13,14,15,16,17]),(4,[0,1,2,3,4,5,6,7,9,10,11,12,8,13,14,15,16])]⟩
def t321(x0:SlV)(x1:Int)(x2:Int)(x3:FnV)(K:Value->HP):HP:=
 lp [lI] (IntKind.i64.wrap (x1+1),()) fun z1 go1=>
 ifB (decide ((z1.1:Int)<x2)) (
 lp [lI] (z1.1,()) fun z2 go2=>
 jn (fun y1:RsV []=>
 A9 x0.a fun a3=>
 ixn (IntKind.i64.wrap (z2.1-1)) x0.len<|
 A9 x0.a fun a4=>
 ixn z2.1 x0.len<|
 ld (a3.add ((IntKind.i64.wrap (z2.1-1)).toNat*3)) (.agg [.int .i64,.int .i64,.sl]) fun v3=>
 ld (a4.add (z2.1.toNat*3)) (.agg [.int .i64,.int .i64,.sl]) fun v4=>
 A9 x0.a fun a5=>
 ixn z2.1 x0.len<|
 st (a5.add (z2.1.toNat*3)) [.i v3.1,.i v3.2.1,.slice v3.2.2.1.a v3.2.2.1.len v3.2.2.1.cap]<|
 A9 x0.a fun a6=>
 ixn (IntKind.i64.wrap (z2.1-1)) x0.len<|
 st (a6.add ((IntKind.i64.wrap (z2.1-1)).toNat*3)) [.i v4.1,.i v4.2.1,.slice v4.2.2.1.a v4.2.2.1.len v4.2.2.1.cap]<|
 go2 (IntKind.i64.wrap (z2.1-1),())) fun j1=>
 ifB (decide ((z2.1:Int)>x1)) (
 A9 x0.a fun a1=>
 ixn z2.1 x0.len<|
 A9 x0.a fun a2=>
 ixn (IntKind.i64.wrap (z2.1-1)) x0.len<|
 ld (a1.add (z2.1.toNat*3)) (.agg [.int .i64,.int .i64,.sl]) fun v1=>
 ld (a2.add ((IntKind.i64.wrap (z2.1-1)).toNat*3)) (.agg [.int .i64,.int .i64,.sl]) fun v2=>
 clv PP x3.fn (x3.first++#[.agg #[.i v1.1,.i v1.2.1,.slice v1.2.2.1.a v1.2.2.1.len v1.2.2.1.cap],.agg #[.i v2.1,.i v2.2.1,.slice v2.2.2.1.a v2.2.2.1.len v2.2.2.1.cap]]) x3.captured [lI] fun r1=>
 ifB (decide ((r1.1:Int)<0)) (
 j1 (())) (
 go1 (IntKind.i64.wrap (z1.1+1),()))) (
 go1 (IntKind.i64.wrap (z1.1+1),()))) (
 K (.t #[]))
theorem e321(x0:SlV)(x1:Int)(x2:Int)(x3:FnV)(K:Value->HP):A8 PP h321 Tryz.f321 [.slice x0.a x0.len x0.cap,.i x1,.i x2,.func x3.fn x3.first x3.captured] K=t321 x0 x1 x2 x3 K:=by kernel_rfl
def h323:D5:=⟨[(0,[(8,lI)])],[],[(4,[1,2,3,0,4,5])]⟩
def t323(x0:SlV)(x1:ShV (.agg [.int .i64,.int .i64,.int .i64]))(K:Value->HP):HP:=
 nw (.cells #[.i x1.1,.i x1.2.1,.i x1.2.2.1] 102) fun n1=>
 lp [lI] (0,()) fun z1 go1=>
 ifB (decide ((z1.1:Int)<x0.len)) (
 A9 x0.a fun a1=>
 ixn z1.1 x0.len<|
 ld ⟨n1,0,none⟩ (.agg [.int .i64,.int .i64,.int .i64]) fun v1=>
 ld (a1.add (z1.1.toNat*3)) (.agg [.int .i64,.int .i64,.int .i64]) fun v2=>
 smP PP (binOp .eql 102 (.agg #[.i v1.1,.i v1.2.1,.i v1.2.2.1]) (.agg #[.i v2.1,.i v2.2.1,.i v2.2.2.1])) (.lf .bool) fun v3=>
 ifB v3 (
 K (.i z1.1)) (
 go1 (IntKind.i64.wrap (z1.1+1),()))) (
 K (.i (-1)))
theorem e323(x0:SlV)(x1:ShV (.agg [.int .i64,.int .i64,.int .i64]))(K:Value->HP):A8 PP h323 Tryz.f323 [.sv x0,.agg #[.i x1.1,.i x1.2.1,.i x1.2.2.1]] K=t323 x0 x1 K:=by kernel_rfl
def t324(x0:Option Addr)(x1:Option Addr)(K:Value->HP):HP:=
 A9 x0 fun a1=>
 ld (a1.add 4) (lI) fun v1=>
 A9 x1 fun a2=>
 st a2 [.i v1]<|
 K (.t #[])
theorem e324(x0:Option Addr)(x1:Option Addr)(K:Value->HP):A8 PP Hn Tryz.f324 [.q x0,.q x1] K=t324 x0 x1 K:=by kernel_rfl
def h325:D5:=⟨[(0,[(5,lI),(6,lI)])],[],[]⟩
def t325(x0:SlV)(x1:FnV)(K:Value->HP):HP:=
 cl PP 335 #[.slice x0.a x0.len x0.cap,.func x1.fn x1.first x1.captured] [lI] fun r1=>
 ifB ((r1.1:Int)==(-1)) (
 K (.sv x0)) (
 lp [lI,lI] (r1.1,IntKind.i64.wrap (r1.1+1),()) fun z1 go1=>
 ifB (decide ((z1.2.1:Int)<x0.len)) (
 A9 x0.a fun a1=>
 ixn z1.2.1 x0.len<|
 ld (a1.add (z1.2.1.toNat*1)) (lI) fun v1=>
 clv PP x1.fn (x1.first++#[.i v1]) x1.captured [.lf .bool] fun r2=>
 ifB (!r2.1) (
 A9 x0.a fun a2=>
 ixn z1.1 x0.len<|
 st (a2.add (z1.1.toNat*1)) [.i v1]<|
 go1 (IntKind.i64.wrap (z1.1+1),IntKind.i64.wrap (z1.2.1+1),())) (
 go1 (z1.1,IntKind.i64.wrap (z1.2.1+1),()))) (
 slc ⟨x0.a,x0.len,x0.cap⟩ z1.1 x0.len x0.cap 1 fun s1=>
 smW PP (Builtin.clear_ #[49] 0 #[.sv s1]) [] fun v2=>
 slc ⟨x0.a,x0.len,x0.cap⟩ 0 z1.1 x0.cap 1 fun s2=>
 K (.sv s2)))
theorem e325(x0:SlV)(x1:FnV)(K:Value->HP):A8 PP h325 Tryz.f325 [.slice x0.a x0.len x0.cap,.func x1.fn x1.first x1.captured] K=t325 x0 x1 K:=by kernel_rfl
def t326(x0:Int)(x1:Option Addr)(K:Value->HP):HP:=
 A9 x1 fun a1=>
 ld a1 (lI) fun v1=>
 K (.b ((x0:Int)==v1))
theorem e326(x0:Int)(x1:Option Addr)(K:Value->HP):A8 PP Hn Tryz.f326 [.i x0,.q x1] K=t326 x0 x1 K:=by kernel_rfl
def h335:D5:=⟨[(0,[(8,lI)])],[],[]⟩
def t335(x0:SlV)(x1:FnV)(K:Value->HP):HP:=
 lp [lI] (0,()) fun z1 go1=>
 ifB (decide ((z1.1:Int)<x0.len)) (
 A9 x0.a fun a1=>
 ixn z1.1 x0.len<|
 ld (a1.add (z1.1.toNat*1)) (lI) fun v1=>
 clv PP x1.fn (x1.first++#[.i v1]) x1.captured [.lf .bool] fun r1=>
 ifB r1.1 (
 K (.i z1.1)) (
 go1 (IntKind.i64.wrap (z1.1+1),()))) (
 K (.i (-1)))
theorem e335(x0:SlV)(x1:FnV)(K:Value->HP):A8 PP h335 Tryz.f335 [.slice x0.a x0.len x0.cap,.func x1.fn x1.first x1.captured] K=t335 x0 x1 K:=by kernel_rfl
set_option linter.unusedSimpArgs false
abbrev tB:TypeId:=27
abbrev eB:TypeId:=5
theorem undB:PP.underlying tB=some (.slice eB):=by kernel_rfl
theorem An3:U8 PP tB eB 1 1 [.int .u8 0]:=M6 (by kernel_rfl) (by kernel_rfl) rfl (by decide) (by decide)
theorem Cp1:As9 PP tB:=.inl ⟨eB,by kernel_rfl⟩
theorem srcS:As9 PP 9:=.inr (by kernel_rfl)
theorem constB{L:A4}{b:Nat}{l:List UInt8}{T:TypeId}{fz:Nat×Nat}(cap:Nat)(hc:l.length<=cap)(hm:(b,Obj.cells (bvs l).toArray T fz)∈L):BSl L ⟨some ⟨b,0,none⟩,l.length,cap⟩ l:=
 ⟨by rw[E7];simp,hc,.inr ⟨_,rfl,.blk hm fun i v hv=>by simpa using hv⟩⟩
theorem Ag4{n:Nat}{e:TypeId}:Own ⟨some ⟨n,0,none⟩,0,0⟩ 1 e [] [(n,Obj.cells #[] e)]:=⟨rfl,Nat.le_refl _,.inr ⟨n,0,#[],(0,0),rfl,rfl,by simp,.inl (Nat.le_refl _),fun i u hu=>by simp at hu⟩⟩
theorem F4{sz:Nat}{e:TypeId}:Own ⟨none,0,0⟩ sz e [] []:=⟨by simp,Nat.le_refl _,.inl ⟨rfl,rfl,rfl⟩⟩
def dig(n i:Nat):UInt8:=UInt8.ofNat (n/256^i)
def P2(n w:Nat):List UInt8:=(List.range w).map (dig n)
theorem Aa6(n w:Nat):(P2 n w).length=w:=by simp[P2]
theorem Bk7(n w:Nat):P2 n (w+1)=P2 n w++[dig n w]:=by simp[P2,List.range_succ]
theorem Bk8(n w:Nat):P2 n (w+1)=UInt8.ofNat n::P2 (n/256) w:=by
 induction w with
 |zero=>simp[P2,dig]
 |succ w ih=>
  rw[Bk7 n (w+1),ih,Bk7 (n/256) w]
  have:dig n (w+1)=dig (n/256) w:=by
   unfold dig
   rw[Nat.pow_succ,Nat.mul_comm,Nat.div_div_eq_div_mul]
  rw[this];rfl
def num:List UInt8->Nat
 |[]=>0
 |x::r=>x.toNat+256*num r
theorem Cc4: ∀l:List UInt8,num l<256^l.length
 |[]=>by simp[num]
 |x::r=>by
  have h1:=Cc4 r
  have h2:=x.toNat_lt
  rw[List.length_cons,Nat.pow_succ]
  simp only[num]
  omega
theorem Ct0(l:List UInt8)(x:UInt8):num (l++[x])=num l+256^l.length*x.toNat:=by
 induction l with
 |nil=>simp[num]
 |cons y r ih=>
  rw[List.cons_append]
  simp only[num,ih,List.length_cons,Nat.pow_succ]
  rw[Nat.mul_add,<-Nat.add_assoc,Nat.mul_comm (256^r.length) 256,Nat.mul_assoc]
theorem At7(w:Nat): ∀n,n<256^w->num (P2 n w)=n:=by
 induction w with
 |zero=>intro n h;simp at h;subst h;rfl
 |succ w ih=>
  intro n h
  rw[Bk8]
  simp only[num]
  rw[ih (n/256) (by rw[Nat.pow_succ]at h;omega)]
  have:(UInt8.ofNat n).toNat=n%256:=by simp
  rw[this]
  exact Nat.mod_add_div n 256
def Au8(b:List UInt8)(n w:Int):List UInt8×Int:=
 if w<1\/7<w then([],2)else if n<0\/((256^w.toNat:Nat):Int)<=n then([],3)else(b++P2 n.toNat w.toNat,0)
theorem Cz8{b:List UInt8}{n w:Int}(h:w<1\/7<w):Au8 b n w=([],2):=by unfold Au8;rw[if_pos h]
theorem Cn6{b:List UInt8}{n w:Int}(h: ¬(w<1\/7<w))(h2:n<0):Au8 b n w=([],3):=by unfold Au8;rw[if_neg h,if_pos (Or.inl h2)]
theorem Cn8{b:List UInt8}{n w:Int}(h: ¬(w<1\/7<w))(h2:((256^w.toNat:Nat):Int)<=n):Au8 b n w=([],3):=by unfold Au8;rw[if_neg h,if_pos (Or.inr h2)]
theorem Ak0{b:List UInt8}{n w:Int}(h: ¬(w<1\/7<w))(h1: ¬n<0)(h2:n.toNat<256^w.toNat):Au8 b n w=(b++P2 n.toNat w.toNat,0):=by
 unfold Au8
 rw[if_neg h,if_neg]
 rintro(h3|h3)
 ·exact h1 h3
 ·generalize 256^w.toNat=q at h2 h3
  omega
def PutK(b:List UInt8)(n w:Int)(A:A4)(v:Value)(L':A4):Prop:= ∃(s:SlV) (seg:A4),v= .t #[.slice s.a s.len s.cap,.i (Au8 b n w).2]/\L'=seg++A/\Own s 1 eB (bvs (Au8 b n w).1) seg
theorem PutK.err{b:List UInt8}{n w:Int}{A:A4}{e:Int}(h:Au8 b n w=([],e)):PutK b n w A (.t #[.slice none 0 0,.i e]) A:=
 ⟨⟨none,0,0⟩,[],by rw[h],rfl,by rw[h];exact F4⟩
theorem B83(n:Nat)(i:Nat):Int.fdiv (n:Int) (2^(8*i))=((n/256^i:Nat):Int):=by
 rw[Int.fdiv_eq_ediv_of_nonneg _ (Int.le_of_lt (Int.pow_pos (by omega)))]
 have:(2:Int)^(8*i)=((256^i:Nat):Int):=by rw[Int.pow_mul,Int.natCast_pow];rfl
 rw[this,Int.natCast_ediv]
theorem Cn5(n i:Nat):IntKind.u8.wrap ((n/256^i:Nat):Int)=((dig n i).toNat:Int):=by
 rw[w8_bv,BitVec.toNat_ofInt]
 unfold dig
 have:(UInt8.ofNat (n/256^i)).toNat=n/256^i%256:=by simp
 rw[this]
 omega
theorem digs8(n:Nat):P2 n 8=[dig n 0,dig n 1,dig n 2,dig n 3,dig n 4,dig n 5,dig n 6,dig n 7]:=rfl
theorem wr8(c:Array Value)(hc:c.size=8)(a b c' d e f g h:UInt8):wr c 0 [.int .u8 a.toNat,.int .u8 b.toNat,.int .u8 c'.toNat,.int .u8 d.toNat,.int .u8 e.toNat,.int .u8 f.toNat,.int .u8 g.toNat,.int .u8 h.toNat]=(bvs [a,b,c',d,e,f,g,h]).toArray:=Cz7 _ _ (by rw[hc];rfl)
def digA(n k:Nat):Array Value:=((List.range 8).map fun j=>Value.int .u8 (if j<k then(dig n j).toNat else 0)).toArray
theorem of_rd(L:A4)(n:Nat):Reads PP 192 #[.i n] L (.agg (bvs (P2 n 8)).toArray):=by
 refine Reads.of (args:=[.i n]) B5 B6 Tryz.func192 (e192 n _) ?_
 unfold t192
 refine C3 fun n1 _=>C3 fun n2 _=>?_
 refine G0 (fun k z L'=> ∃i,i<=8/\k=8-i/\z=((i:Int),())/\L'=(n2,Obj.cells (digA n i) 282)::(n1,Obj.cells #[.int .u8 0,.int .u8 0,.int .u8 0,.int .u8 0,.int .u8 0,.int .u8 0,.int .u8 0,.int .u8 0] 282)::L) 8 ⟨0,by omega,by omega,rfl,rfl⟩ ?_
 rintro k z L' ⟨i,hi,rfl,rfl,rfl⟩
 refine C0 (fun(hlt:(i:Int)<8)=>?_) (fun(hge: ¬(i:Int)<8)=>?_)
 ·have hw:IntKind.i64.wrap (8*(i:Int))=((8*i:Nat):Int):=by rw[C2 (by omega) (by omega)];omega
  have hm:min (8*i) IntKind.i64.bits=8*i:=Nat.min_eq_left (show 8*i<=64 by omega)
  simp only[hw,Int.toNat_natCast,hm,B83,Cn5,Nat.mul_one]
  refine Ab9 (by omega) (E0 (by omega) hlt (E3 (n:=n2) (off:=i) [] _ (by rw[O3 (ad:=⟨n2,0,none⟩) rfl,Nat.zero_add]) rfl ?_ (.inl (Nat.le_refl _)) (digA n (i+1)) ?_ ?_))
  ·have:(digA n i).size=8:=by simp[digA]
   rw[this];simp only[List.length_cons,List.length_nil];omega
  ·rcases(show i=0\/i=1\/i=2\/i=3\/i=4\/i=5\/i=6\/i=7 by omega)with rfl|rfl|rfl|rfl|rfl|rfl|rfl|rfl<;>rfl
  ·refine⟨8-(i+1),by omega,i+1,by omega,rfl,?_,rfl⟩
   rw[C2 (by first|omega|(simp only;omega)) (by first|omega|(simp only;omega))]
   rfl
 ·obtain rfl:i=8:=by omega
  refine A6 ((dig n 0).toNat,(dig n 1).toNat,(dig n 2).toNat,(dig n 3).toNat,(dig n 4).toNat,(dig n 5).toNat,(dig n 6).toNat,(dig n 7).toNat,()) (ldB List.mem_cons_self rfl) ?_
  rw[digs8]
  refine E3 [(n2,Obj.cells (digA n 8) 282)] L rfl rfl (by simp) (.inl (Nat.le_refl _)) _ (wr8 _ rfl _ _ _ _ _ _ _ _) ?_
  refine A6 ((dig n 0).toNat,(dig n 1).toNat,(dig n 2).toNat,(dig n 3).toNat,(dig n 4).toNat,(dig n 5).toNat,(dig n 6).toNat,(dig n 7).toNat,()) (ldB (List.mem_cons_of_mem _ List.mem_cons_self) rfl) ?_
  exact .drop (A:=L) (J:=[_,_]) ⟨rfl,rfl⟩ (List.perm_append_comm (l₁:=[_,_]))
theorem Bp3{w:Nat}(h:w<=7):256^w<=72057594037927936:=Nat.pow_le_pow_right (n:=256) (by omega) h
theorem A70(A:A4)(v:SlV)(b:List UInt8)(hb:BSl A v b)(hl:b.length<=1000000)(n w:Int)(hn:n<=9223372036854775807):
  CallF PP 132 #[.slice v.a v.len v.cap,.i n,.i w] A (PutK b n w A):=by
 refine CallF.of (args:=[.slice v.a v.len v.cap,.i n,.i w]) B5 B6 Tryz.func132 (e132 v n w _) ?_
 unfold t132
 have hlen:=hb.len
 refine C0 (fun(h1:w<1)=>.of (.err (Cz8 (by omega)))) (fun(h1: ¬w<1)=>?_)
 refine C0 (fun(h2:w>7)=>.of (.err (Cz8 (by omega)))) (fun(h2: ¬w>7)=>?_)
 refine C0 (fun(h3:n<0)=>.of (.err (Cn6 (by omega) h3))) (fun(h3: ¬n<0)=>?_)
 obtain⟨m,rfl⟩: ∃m:Nat,n=m:=⟨n.toNat,by omega⟩
 obtain⟨u,rfl⟩: ∃u:Nat,w=u:=⟨w.toNat,by omega⟩
 have hp7:=Bp3 (w:=u) (by omega)
 have hw:IntKind.i64.wrap (8*(u:Int))=((8*u:Nat):Int):=by rw[C2 (by omega) (by omega)];omega
 have hm:min (8*u) IntKind.i64.bits=8*u:=Nat.min_eq_left (show 8*u<=64 by omega)
 simp only[hw,Int.toNat_natCast,hm,B83]
 refine Ab9 (by omega) (O2 (fun(h4:((m/256^u:Nat):Int)≠0)=>.of (.err ?_)) (fun(h4:((m/256^u:Nat):Int)=0)=>?_))
 ·refine Cn8 (by omega) ?_
  rw[Int.toNat_natCast]
  have:256^u<=m:=by
   refine Nat.le_of_not_lt fun hlt=>h4 ?_
   simp[Nat.div_eq_of_lt hlt]
  generalize 256^u=q at this
  omega
 ·have hlt:m<256^u:=by
   refine Nat.lt_of_not_le fun hle=>?_
   have:=Nat.div_pos hle (Nat.pow_pos (by omega))
   omega
  have hput:Au8 b m u=(b++P2 m u,0):=by
   have:=Ak0 (b:=b) (n:=m) (w:=u) (by omega) (by omega) (by simpa using hlt)
   simpa using this
  refine B7 (of_rd A m) (((dig m 0).toNat,(dig m 1).toNat,(dig m 2).toNat,(dig m 3).toNat,(dig m 4).toNat,(dig m 5).toNat,(dig m 6).toNat,(dig m 7).toNat,()),()) rfl ?_
  refine C3 fun n1 _=>E3 [] A rfl rfl (by simp) (.inl (Nat.le_refl _)) (bvs (P2 m 8)).toArray (by rw[digs8];exact wr8 _ rfl _ _ _ _ _ _ _ _) ?_
  have hc:IntKind.i64.wrap ((v.len:Int)+(u:Int))=((v.len+u:Nat):Int):=by rw[C2 (by omega) (by omega)];omega
  rw[hc]
  refine Ay3 (l:=0) (c:=v.len+u) An3 (by omega) (by omega) fun n2 ob own0 _ _=>?_
  have z0:Af3 [Value.int .u8 0] 0=[]:=rfl
  rw[z0]at own0
  refine E6 An3 Cp1 [] ([(n1,Obj.cells (bvs (P2 m 8)).toArray 282)]++A) own0 (by simp) (.sl (hb.mono fun p hp=>by simp[hp])) (K5 _) (by simp only;omega) fun s1 seg1 hs1 own1=>?_
  simp only at hs1
  refine K4 (l':=0) (h':=u) (m':=8) rfl rfl rfl (by omega) (by omega) (Nat.le_refl _) ?_
  have hd:BSl ([]++seg1++([(n1,Obj.cells (bvs (P2 m 8)).toArray 282)]++A)) ⟨some ⟨n1,0,none⟩,8,8⟩ (P2 m 8):=constB (l:=P2 m 8) (T:=282) (fz:=(0,0)) 8 (by rw[Aa6];exact Nat.le_refl _) (by simp)
  have hd2:=Sl.slc (l:=0) (h':=u) (m:=8) hd (by omega) (by omega) (by simp only;omega) (by omega)
  rw[Ah1]at hd2
  have e1:((P2 m 8).drop 0).take (u-0)=P2 m u:=by
   rcases(show u=1\/u=2\/u=3\/u=4\/u=5\/u=6\/u=7 by omega)with rfl|rfl|rfl|rfl|rfl|rfl|rfl<;>rfl
  rw[e1]at hd2
  refine E6 An3 Cp1 [] ([(n1,Obj.cells (bvs (P2 m 8)).toArray 282)]++A) own1 rfl (.sl hd2) (K5 _) (by simp only[P1,Int.toNat_natCast];omega) fun s2 seg2 hs2 own2=>?_
  rw[List.nil_append,<-Ai4]at own2
  refine .drop (A:=seg2++A) (J:=[(n1,Obj.cells (bvs (P2 m 8)).toArray 282)]) ⟨s2,seg2,by rw[hput],rfl,by rw[hput];exact own2⟩ ?_
  have h1:([(n1,Obj.cells (bvs (P2 m 8)).toArray 282)]++A).Perm (A++[(n1,Obj.cells (bvs (P2 m 8)).toArray 282)]):=List.perm_append_comm
  simpa[List.append_assoc]using List.Perm.append_left seg2 h1
abbrev tPs:TypeId:=96
theorem Bk4:U8 PP tPs tB 1 24 [.slice none 0 0]:=M6 (by kernel_rfl) (by kernel_rfl) rfl (by decide) (by decide)
theorem Cp0:As9 PP tPs:=.inl ⟨tB,by kernel_rfl⟩
structure PG where
 v:SlV
 seg:A4
 l:List UInt8
def PG.Ok(g:PG):Prop:=Own g.v 1 eB (bvs g.l) g.seg
def PG.val(g:PG):Value:=.slice g.v.a g.v.len g.v.cap
def pgs(l:List PG):A4:=l.flatMap PG.seg
theorem P7(a b:List PG):pgs (a++b)=pgs a++pgs b:=List.flatMap_append
theorem Am0(a:PG)(b:List PG):pgs (a::b)=a.seg++pgs b:=rfl
theorem Ax6(a:PG):pgs [a]=a.seg:=by simp[pgs]
def pg0:PG:=⟨⟨none,0,0⟩,[],[]⟩
theorem Bg6:pg0.Ok:=F4
abbrev PV:=SlV×List UInt8
def pvV(x:PV):Value:=.slice x.1.a x.1.len x.1.cap
def pvs(l:List PG):List PV:=l.map fun g=>(g.v,g.l)
theorem C91(l:List PG):(pvs l).map pvV=l.map PG.val:=by unfold pvs;rw[List.map_map];rfl
def Aj0(l:List PV):List UInt8:=l.flatMap Prod.snd
structure Y1(L:A4)(v:SlV)(l:List PV):Prop where
 sl:Sl L v 1 (l.map pvV)
 val: ∀x∈l,BSl L x.1 x.2
theorem Y1.mono{L R:A4}{v:SlV}{l:List PV}(h:Y1 L v l)(hs: ∀p∈L,p∈R):Y1 R v l:=⟨h.sl.mono hs,fun x hx=>Sl.mono (h.val x hx) hs⟩
theorem Y1.len{L:A4}{v:SlV}{l:List PV}(h:Y1 L v l):v.len=l.length:=by have:=h.sl.len;rw[List.length_map]at this;omega
theorem Y1.at'{L:A4}{v:SlV}{l:List PV}(h:Y1 L v l){i:Nat}(hi:i<l.length): ∃a,v.a=some a/\D4 (a.add ((i:Int).toNat*1)) [pvV l[i]] L:=by
 have hl:=h.len
 obtain⟨a,ha,hld⟩:=h.sl.at' (i:=i) (by omega) (by decide)
 refine⟨a,ha,?_⟩
 rw[Int.toNat_natCast,Nat.mul_one]
 exact hld.one i (by rw[List.getElem?_map,List.getElem?_eq_getElem hi];rfl)
theorem A85{L:A4}{v:SlV}{gs:List PG}{seg:A4}(own:Own v 1 tB (gs.map PG.val) seg)(hg: ∀g∈gs,g.Ok)(h1: ∀x∈seg,x∈L)(h2: ∀x∈pgs gs,x∈L):Y1 L v (pvs gs):=by
 refine⟨by rw[C91];exact own.sl.mono h1,fun x hx=>?_⟩
 obtain⟨g,hgm,rfl⟩:=List.mem_map.1 hx
 exact Sl.mono (hg g hgm).sl fun y hy=>h2 y (List.mem_flatMap.2 ⟨g,hgm,hy⟩)
theorem Ar7(l:List PV)(i:Nat):(Aj0 (l.take i)).length<=(Aj0 l).length:=by
 conv=>rhs;rw[<-List.take_append_drop i l]
 unfold Aj0
 rw[List.flatMap_append,List.length_append];omega
theorem Bl6(l:List PV){i:Nat}(hi:i<l.length):Aj0 (l.take (i+1))=Aj0 (l.take i)++l[i].2:=by
 unfold Aj0
 rw[List.take_succ_eq_append_getElem hi,List.flatMap_append,List.flatMap_singleton]
def V9(b:List UInt8)(at' w:Int):Int×Int:=
 if w<1\/7<w then(0,2)else if at'<0\/(b.length:Int)<at'+w then(0,6)else((num ((b.drop at'.toNat).take w.toNat):Int),0)
theorem C00{b:List UInt8}{a w:Int}(h:w<1\/7<w):V9 b a w=(0,2):=by unfold V9;rw[if_pos h]
theorem An8{b:List UInt8}{a w:Int}(h: ¬(w<1\/7<w))(h2:a<0\/(b.length:Int)<a+w):V9 b a w=(0,6):=by unfold V9;rw[if_neg h,if_pos h2]
theorem Bn4{b:List UInt8}{a w:Nat}(h:1<=w)(h7:w<=7)(h2:a+w<=b.length):V9 b a w=((num ((b.drop a).take w):Int),0):=by
 unfold V9
 rw[if_neg (by omega),if_neg (by omega),Int.toNat_natCast,Int.toNat_natCast]
theorem C16(w:Nat)(h:w<=7):0<256^w/\256^w<=72057594037927936:=⟨Nat.pow_pos (by omega),Bp3 h⟩
theorem C20{l:List UInt8}{w:Nat}(hl:l.length<=w)(hw:w<=7):num l<256^w:=Nat.lt_of_lt_of_le (Cc4 l) (Nat.pow_le_pow_right (by omega) hl)
theorem Ah5(b:List UInt8)(a w:Int):0<=(V9 b a w).1/\(V9 b a w).1<72057594037927936/\((V9 b a w).2=0\/(V9 b a w).2=2\/(V9 b a w).2=6)/\((V9 b a w).2=0->0<=a/\1<=w/\w<=7/\a+w<=b.length):=by
 unfold V9
 split
 ·exact⟨by simp,by simp,.inr (.inl rfl),fun h=>absurd h (by decide)⟩
 ·split
  ·exact⟨by simp,by simp,.inr (.inr rfl),fun h=>absurd h (by decide)⟩
  ·have h1:=C20 (l:=(b.drop a.toNat).take w.toNat) (w:=w.toNat) (List.length_take_le _ _) (by omega)
   have h2:=Bp3 (w:=w.toNat) (by omega)
   refine⟨by simp only;omega,by simp only;omega,.inl rfl,fun _=>⟨by omega,by omega,by omega,by omega⟩⟩
theorem B70(b:List UInt8)(a i:Nat)(h:a+i<b.length):(b.drop a).take (i+1)=(b.drop a).take i++[b[a+i]]:=by
 rw[List.take_succ_eq_append_getElem (by rw[List.length_drop];omega)]
 congr 2
 simp
theorem A71(L:A4)(v:SlV)(b:List UInt8)(hb:BSl L v b)(hl:b.length<=1000000000)(a w:Int):
  Reads PP 227 #[.slice v.a v.len v.cap,.i a,.i w] L (.t #[.i (V9 b a w).1,.i (V9 b a w).2]):=by
 refine Reads.of (args:=[.slice v.a v.len v.cap,.i a,.i w]) B5 B6 Tryz.func227 (e227 v a w _) ?_
 unfold t227
 have hlen:=hb.len
 refine C0 (fun(h1:w<1)=>.of ⟨by rw[C00 (by omega)],rfl⟩) (fun(h1: ¬w<1)=>?_)
 refine C0 (fun(h2:w>7)=>.of ⟨by rw[C00 (by omega)],rfl⟩) (fun(h2: ¬w>7)=>?_)
 refine C0 (fun(h3:a<0)=>.of ⟨by rw[An8 (by omega) (.inl h3)],rfl⟩) (fun(h3: ¬a<0)=>?_)
 refine C0 (fun(h4:a>v.len)=>.of ⟨by rw[An8 (by omega) (.inr (by omega))],rfl⟩) (fun(h4: ¬a>v.len)=>?_)
 rw[C2 (n:=(v.len:Int)-a) (by omega) (by omega)]
 refine C0 (fun(h5:w>(v.len:Int)-a)=>.of ⟨by rw[An8 (by omega) (.inr (by omega))],rfl⟩) (fun(h5: ¬w>(v.len:Int)-a)=>?_)
 obtain⟨a,rfl⟩: ∃u:Nat,a=u:=⟨a.toNat,by omega⟩
 obtain⟨w,rfl⟩: ∃u:Nat,w=u:=⟨w.toNat,by omega⟩
 have hfit:a+w<=b.length:=by omega
 rw[Bn4 (by omega) (by omega) hfit]
 refine G0 (fun k z L'=>L'=L/\ ∃i:Nat,i<=w/\k=w-i/\z=((num ((b.drop a).take i):Int),((256^i:Nat):Int),(i:Int),())) w ⟨rfl,0,by omega,by omega,rfl⟩ ?_
 rintro k z L ⟨rfl,i,hi,rfl,rfl⟩
 refine C0 (fun(hlt:(i:Int)<w)=>?_) (fun(hge: ¬(i:Int)<w)=>?_)
 ·have hai:a+i<b.length:=by omega
  obtain⟨ad,ha⟩:=hb.some hai
  have e1:IntKind.i64.wrap ((a:Int)+i)=((a+i:Nat):Int):=by rw[C2 (by omega) (by omega)];omega
  simp only[e1]
  refine A5 ha (E0 (by omega) (by omega) (A6 (b[a+i].toNat:Int) (hb.rd hai ha _ (by omega)) ?_))
  have hp:=C16 i (by omega)
  have hx:=b[a+i].toNat_lt
  have hn:=C20 (l:=(b.drop a).take i) (w:=i) (List.length_take_le _ _) (by omega)
  have hlt6:256^i<=281474976710656:=Nat.le_trans (Nat.pow_le_pow_right (by omega) (show i<=6 by omega)) (by decide)
  have hm:256^i*b[a+i].toNat<=281474976710656*255:=Nat.mul_le_mul hlt6 (by omega)
  refine⟨w-(i+1),by omega,rfl,i+1,by omega,rfl,?_⟩
  have hli:((b.drop a).take i).length=i:=by rw[List.length_take,List.length_drop];omega
  rw[B70 b a i hai,Ct0,hli]
  have e2:((256^i:Nat):Int)*(b[a+i].toNat:Int)=((256^i*b[a+i].toNat:Nat):Int):=by rw[Int.natCast_mul]
  have e3:((256^i:Nat):Int)*256=((256^(i+1):Nat):Int):=by rw[Nat.pow_succ,Int.natCast_mul];rfl
  have hp1:=C16 (i+1) (by omega)
  simp only[C2 (n:=(b[a+i].toNat:Int)) (by omega) (by omega),e2,e3]
  generalize 256^i*b[a+i].toNat=q at hm⊢
  generalize 256^(i+1)=q2 at hp1⊢
  generalize 256^i=q3 at hn hlt6
  rw[C2 (n:=(q:Int)) (by omega) (by omega),C2 (n:=(num ((b.drop a).take i):Int)+q) (by omega) (by omega),C2 (n:=(q2:Int)) (by omega) (by omega),C2 (n:=(i:Int)+1) (by omega) (by omega)]
  simp only[Int.natCast_add,Int.cast_ofNat_Int]
 ·obtain rfl:i=w:=by omega
  exact .of ⟨rfl,rfl⟩
def C41(c:BitVec 32):BitVec 32:=(c>>>1)^^^(2197175160#32&&& -(c&&&1#32))
def Bs3:Nat->BitVec 32->BitVec 32
 |0,c=>c
 |n+1,c=>C41 (Bs3 n c)
def Cj9(c:BitVec 32)(b:UInt8):BitVec 32:=Bs3 8 (c^^^BitVec.ofNat 32 b.toNat)
def W8(c:BitVec 32)(l:List UInt8):BitVec 32:=l.foldl Cj9 c
theorem Bb8(c:BitVec 32)(l:List UInt8)(b:UInt8):W8 c (l++[b])=Cj9 (W8 c l) b:=by simp[W8]
theorem shr1(d:BitVec 32):Int.fdiv (d.toNat:Int) (2^(min (1:Int).toNat IntKind.u32.bits))=((d>>>1).toNat:Int):=by
 have:(2:Int)^(min (1:Int).toNat IntKind.u32.bits)=2:=rfl
 rw[this,BitVec.toNat_ushiftRight,Nat.shiftRight_eq_div_pow,Int.fdiv_eq_ediv_of_nonneg _ (by omega)]
 rfl
theorem neg32(d:BitVec 32):IntKind.u32.wrap (0-(d.toNat:Int))=((-d).toNat:Int):=by
 rw[Bt4]
 congr 2
 rw[Int.zero_sub,BitVec.ofInt_neg,Ar9]
theorem B50(d:BitVec 32):Ak8 .xor .u32 (Int.fdiv (d.toNat:Int) (2^(min (1:Int).toNat IntKind.u32.bits))) (Ak8 .and .u32 2197175160 (IntKind.u32.wrap (0-Ak8 .and .u32 d.toNat 1)))=((C41 d).toNat:Int):=by
 rw[shr1,show(1:Int)=((1#32:BitVec 32).toNat:Int)from rfl,(Cl0 _ _).2.1,neg32,show(2197175160:Int)=((2197175160#32:BitVec 32).toNat:Int)from rfl,(Cl0 _ _).2.1,(Cl0 _ _).1]
 rfl
theorem Co6(L:A4)(v:SlV)(l:List UInt8)(h:BSl L v l)(hb:l.length<=1000000)(c:BitVec 32):Reads PP 291 #[.int .u32 c.toNat,.slice v.a v.len v.cap] L (.int .u32 (W8 c l).toNat):=by
 refine Reads.of (args:=[.int .u32 c.toNat,.slice v.a v.len v.cap]) B5 B6 Tryz.func291 (e291 c.toNat v _) ?_
 unfold t291
 have hlen:=h.len
 refine G0 (fun k z L'=>L'=L/\ ∃i,i<=l.length/\k=l.length-i/\z=(((W8 c (l.take i)).toNat:Int),(i:Int),())) l.length ⟨rfl,0,by omega,by omega,rfl⟩ ?_
 rintro k z L ⟨rfl,i,hi,rfl,rfl⟩
 refine C0 (fun(hlt:(i:Int)<v.len)=>?_) (fun(hge: ¬(i:Int)<v.len)=>?_)
 ·have hlt':i<l.length:=by omega
  obtain⟨ad,ha⟩:=h.some hlt'
  refine A5 ha (E0 (show(0:Int)<=i by omega) hlt (A6 (l[i].toNat:Int) (h.rd hlt' ha _ (by simp)) ?_))
  refine G0 (fun k z L'=>L'=L/\ ∃j,j<=8/\k=8-j/\z=(((Bs3 j (W8 c (l.take i)^^^BitVec.ofNat 32 l[i].toNat)).toNat:Int),(j:Int),())) 8 ⟨rfl,0,by omega,by omega,?_⟩ ?_
  ·simp only[Bt4]
   rw[show(BitVec.ofInt 32 (l[i].toNat:Int))=BitVec.ofNat 32 l[i].toNat from rfl,(Cl0 _ _).1]
   rfl
  ·rintro k z L ⟨rfl,j,hj,rfl,rfl⟩
   refine C0 (fun(hlt:(j:Int)<8)=>?_) (fun(hge: ¬(j:Int)<8)=>?_)
   ·refine Ab9 (by decide) ⟨8-(j+1),by omega,rfl,j+1,by omega,rfl,?_⟩
    rw[C2 (by simp only;omega) (by simp only;omega)]
    exact Prod.ext (B50 _) rfl
   ·refine⟨l.length-(i+1),by omega,rfl,i+1,by omega,rfl,?_⟩
    obtain rfl:j=8:=by omega
    rw[C2 (by simp only;omega) (by simp only;omega),List.take_succ_eq_append_getElem hlt',Bb8]
    rfl
 ·refine .of ⟨?_,rfl⟩
  obtain rfl:i=l.length:=by omega
  rw[List.take_length]
def Ct6(n:Int):BitVec 32:=BitVec.ofInt 32 n
def Ag9(n:Int)(l:List UInt8):Int:=((~~~ W8 (~~~ Ct6 n) l).toNat:Int)
def H7(l:List UInt8):Int:=Ag9 0 l
theorem U0(n:Int)(l:List UInt8):0<=Ag9 n l/\Ag9 n l<4294967296:=by
 unfold Ag9
 have:=(~~~ W8 (~~~ Ct6 n) l).isLt
 omega
theorem not32(d:BitVec 32):Ak8 .xor .u32 IntKind.u32.max (d.toNat:Int)=((~~~ d).toNat:Int):=by
 rw[show(IntKind.u32.max:Int)=((BitVec.allOnes 32).toNat:Int)from rfl,(Cl0 _ _).1,BitVec.allOnes_xor]
theorem Db3(L:A4)(v:SlV)(l:List UInt8)(h:BSl L v l)(hb:l.length<=1000000)(n:Int):Reads PP 234 #[.i n,.slice v.a v.len v.cap] L (.i (Ag9 n l)):=by
 refine Reads.of (args:=[.i n,.slice v.a v.len v.cap]) B5 B6 Tryz.func234 (e234 n v _) ?_
 unfold t234
 rw[Bt4,not32]
 refine B7 (Co6 L v l h hb (~~~ Ct6 n)) (((W8 (~~~ Ct6 n) l).toNat:Int),()) rfl ?_
 refine .of ⟨?_,rfl⟩
 have:=U0 n l
 simp only[not32]
 rw[C2 (by have:=U0 n l;unfold Ag9 at this;omega) (by have:=U0 n l;unfold Ag9 at this;omega)]
 rfl
theorem B74(L:A4)(v:SlV)(l:List UInt8)(h:BSl L v l)(hb:l.length<=1000000):Reads PP 179 #[.slice v.a v.len v.cap] L (.i (H7 l)):=by
 refine Reads.of (args:=[.slice v.a v.len v.cap]) B5 B6 Tryz.func179 (e179 v _) ?_
 unfold t179
 refine B7 (Db3 L v l h hb 0) (Ag9 0 l,()) rfl ?_
 exact .of ⟨rfl,rfl⟩
theorem Bz3(L:A4)(v:SlV)(l:List UInt8)(h:BSl L v l)(hb:l.length<=1000000)(n:Int):Reads PP 237 #[.slice v.a v.len v.cap,.i n] L (.b (H7 l==n)):=by
 refine Reads.of (args:=[.slice v.a v.len v.cap,.i n]) B5 B6 Tryz.func237 (e237 v n _) ?_
 unfold t237
 refine B7 (B74 L v l h hb) (H7 l,()) rfl ?_
 exact .of ⟨rfl,rfl⟩
def szd(n:Int):Bool:=decide (64<=n/\n<=512)
def C7(n:Int):Int:=if 64<=n/\n<=512 then n-16 else 0
theorem Ax3(L:A4)(n:Int):Reads PP 129 #[.i n] L (.b (szd n)):=by
 refine Reads.of (args:=[.i n]) B5 B6 Tryz.func129 (e129 n _) ?_
 unfold t129
 refine C0 (fun(h:n≥64)=>.of ⟨?_,rfl⟩) (fun(h: ¬n≥64)=>.of ⟨?_,rfl⟩)
 ·unfold szd;congr 1;rw[decide_eq_decide];omega
 ·unfold szd;rw[decide_eq_false (by omega)]
theorem C60{n:Int}(h:szd n=true):64<=n/\n<=512:=of_decide_eq_true h
theorem C61{n:Int}(h:szd n=false): ¬(64<=n/\n<=512):=of_decide_eq_false h
theorem Ah9(L:A4)(n:Int):Reads PP 62 #[.i n] L (.i (C7 n)):=by
 refine Reads.of (args:=[.i n]) B5 B6 Tryz.func62 (e62 n _) ?_
 unfold t62
 refine B7 (Ax3 _ n) (szd n,()) rfl ?_
 cases h:szd n with
 |false=>exact ifT rfl (.of ⟨by unfold C7;rw[if_neg (C61 h)],rfl⟩)
 |true=>
  have:=C60 h
  refine ifF rfl (.of ⟨?_,rfl⟩)
  unfold C7;rw[if_pos this,C2 (by omega) (by omega)]
abbrev Hd:=Int×Int×Int×Int×Int×Unit
def hEnc(h:Hd):List Value:=[.i h.1,.i h.2.1,.i h.2.2.1,.i h.2.2.2.1,.i h.2.2.2.2.1]
def Ae9(h:Hd):Int:=if h.1<1\/h.1>4 then 16 else if h.2.2.1<1\/h.2.2.1>16\/h.2.1<0\/h.2.1≥h.2.2.1\/h.2.2.2.1<1\/h.2.2.2.1>1073741824\/h.2.2.2.2.1<0\/h.2.2.2.2.1>15 then 3 else 0
theorem C30{h:Hd}(c:h.1<1\/h.1>4):Ae9 h=16:=by unfold Ae9;rw[if_pos c]
theorem Ar2{h:Hd}(c: ¬(h.1<1\/h.1>4))(d:h.2.2.1<1\/h.2.2.1>16\/h.2.1<0\/h.2.1≥h.2.2.1\/h.2.2.2.1<1\/h.2.2.2.1>1073741824\/h.2.2.2.2.1<0\/h.2.2.2.2.1>15):Ae9 h=3:=by unfold Ae9;rw[if_neg c,if_pos d]
theorem hErr_0{h:Hd}(c: ¬(h.1<1\/h.1>4))(d: ¬(h.2.2.1<1\/h.2.2.1>16\/h.2.1<0\/h.2.1≥h.2.2.1\/h.2.2.2.1<1\/h.2.2.2.1>1073741824\/h.2.2.2.2.1<0\/h.2.2.2.2.1>15)):Ae9 h=0:=by unfold Ae9;rw[if_neg c,if_neg d]
theorem Ab1{h:Hd}(e:Ae9 h=0):1<=h.1/\h.1<=4/\1<=h.2.2.1/\h.2.2.1<=16/\0<=h.2.1/\h.2.1<h.2.2.1/\1<=h.2.2.2.1/\h.2.2.2.1<=1073741824/\0<=h.2.2.2.2.1/\h.2.2.2.2.1<=15:=by
 unfold Ae9 at e
 split at e
 ·cases e
 ·split at e
  ·cases e
  ·omega
theorem Bg7(L:A4)(h:Hd):Reads PP 239 #[.agg #[.i h.1,.i h.2.1,.i h.2.2.1,.i h.2.2.2.1,.i h.2.2.2.2.1]] L (.i (Ae9 h)):=by
 refine Reads.of (args:=[.agg #[.i h.1,.i h.2.1,.i h.2.2.1,.i h.2.2.2.1,.i h.2.2.2.2.1]]) B5 B6 Tryz.func239 (e239 h _) ?_
 unfold t239
 refine C3 fun n1 _=>?_
 generalize ho:(n1,Obj.cells #[.i h.1,.i h.2.1,.i h.2.2.1,.i h.2.2.2.1,.i h.2.2.2.2.1] 272)=o1
 have l0:D4 ⟨n1,0,none⟩ [.i h.1] (o1::L):=by subst ho;exact ldB List.mem_cons_self rfl
 have l1:D4 (Addr.add ⟨n1,0,none⟩ 1) [.i h.2.1] (o1::L):=by subst ho;exact ldB List.mem_cons_self rfl
 have l2:D4 (Addr.add ⟨n1,0,none⟩ 2) [.i h.2.2.1] (o1::L):=by subst ho;exact ldB List.mem_cons_self rfl
 have l3:D4 (Addr.add ⟨n1,0,none⟩ 3) [.i h.2.2.2.1] (o1::L):=by subst ho;exact ldB List.mem_cons_self rfl
 have l4:D4 (Addr.add ⟨n1,0,none⟩ 4) [.i h.2.2.2.2.1] (o1::L):=by subst ho;exact ldB List.mem_cons_self rfl
 clear ho
 refine A6 h.1 l0 (C0 (fun(c:h.1<1)=>.cons (.of ⟨by rw[C30 (.inl c)],rfl⟩)) (fun(c1: ¬h.1<1)=>?_))
 refine A6 h.1 l0 (C0 (fun(c:h.1>4)=>.cons (.of ⟨by rw[C30 (.inr c)],rfl⟩)) (fun(c2: ¬h.1>4)=>?_))
 refine A6 h.2.2.1 l2 (C0 (fun(c:h.2.2.1<1)=>.cons (.of ⟨by rw[Ar2 (by omega) (by omega)],rfl⟩)) (fun(c3: ¬h.2.2.1<1)=>?_))
 refine A6 h.2.2.1 l2 (C0 (fun(c:h.2.2.1>16)=>.cons (.of ⟨by rw[Ar2 (by omega) (by omega)],rfl⟩)) (fun(c4: ¬h.2.2.1>16)=>?_))
 refine A6 h.2.1 l1 (C0 (fun(c:h.2.1<0)=>.cons (.of ⟨by rw[Ar2 (by omega) (by omega)],rfl⟩)) (fun(c5: ¬h.2.1<0)=>?_))
 refine A6 h.2.1 l1 (A6 h.2.2.1 l2 (C0 (fun(c:h.2.1≥h.2.2.1)=>.cons (.of ⟨by rw[Ar2 (by omega) (by omega)],rfl⟩)) (fun(c6: ¬h.2.1≥h.2.2.1)=>?_)))
 refine A6 h.2.2.2.1 l3 (C0 (fun(c:h.2.2.2.1<1)=>.cons (.of ⟨by rw[Ar2 (by omega) (by omega)],rfl⟩)) (fun(c7: ¬h.2.2.2.1<1)=>?_))
 refine A6 h.2.2.2.1 l3 (C0 (fun(c:h.2.2.2.1>1073741824)=>.cons (.of ⟨by rw[Ar2 (by omega) (by omega)],rfl⟩)) (fun(c8: ¬h.2.2.2.1>1073741824)=>?_))
 refine A6 h.2.2.2.2.1 l4 (C0 (fun(c:h.2.2.2.2.1<0)=>.cons (.of ⟨by rw[Ar2 (by omega) (by omega)],rfl⟩)) (fun(c9: ¬h.2.2.2.2.1<0)=>?_))
 refine A6 h.2.2.2.2.1 l4 (C0 (fun(c:h.2.2.2.2.1≥16)=>.cons (.of ⟨by rw[Ar2 (by omega) (by omega)],rfl⟩)) (fun(c10: ¬h.2.2.2.2.1≥16)=>.cons (.of ⟨by rw[hErr_0 (by omega) (by omega)],rfl⟩)))
abbrev Cz4:=Int×Int×Unit
def Cs4(x:Cz4):List Value:=[.i x.1,.i x.2.1]
theorem Bg3(x:Cz4):(Cs4 x).length=2:=rfl
def Ao7(b:List UInt8)(l:List Cz4):List UInt8:=l.foldl (fun b x=>(Au8 b x.1 x.2.1).1) b
theorem B24(b:List UInt8)(l:List Cz4)(x:Cz4):Ao7 b (l++[x])=(Au8 (Ao7 b l) x.1 x.2.1).1:=by simp[Ao7]
theorem Cn7(b:List UInt8)(n w:Int):(Au8 b n w).1.length<=b.length+7:=by
 unfold Au8
 split
 ·simp
 ·split
  ·simp
  ·simp only[List.length_append,Aa6];omega
theorem Ca9(b:List UInt8)(l:List Cz4):(Ao7 b l).length<=b.length+7*l.length:=by
 induction l generalizing b with
 |nil=>simp[Ao7]
 |cons x r ih=>
  have h1:=ih (Au8 b x.1 x.2.1).1
  have h2:=Cn7 b x.1 x.2.1
  have h3:Ao7 b (x::r)=Ao7 (Au8 b x.1 x.2.1).1 r:=rfl
  rw[h3,List.length_cons];omega
theorem Cb3(A:A4)(v:SlV)(b:List UInt8)(hb:BSl A v b)(hl:b.length<=1000)(u:SlV)(l:List Cz4)(hu:Sl A u 2 (l.flatMap Cs4))(hne:0<l.length)(hl2:l.length<=100)(hn: ∀x∈l,x.1<=9223372036854775807):
  CallF PP 301 #[.slice v.a v.len v.cap,.slice u.a u.len u.cap] A fun r L'=> ∃(s:SlV) (seg:A4),r= .slice s.a s.len s.cap/\L'=seg++A/\Own s 1 eB (bvs (Ao7 b l)) seg:=by
 refine CallF.of (args:=[.slice v.a v.len v.cap,.slice u.a u.len u.cap]) B5 B6 Tryz.func301 (e301 v u _) ?_
 unfold t301
 have hul:=hu.els_len Bg3 (by decide)
 refine G0 (fun k z L'=> ∃(i:Nat) (s:SlV) (J:A4),i<=l.length/\k=l.length-i/\z=(s,(i:Int),())/\L'=J++A/\BSl L' s (Ao7 b (l.take i))/\(0<i-> ∃(seg J':A4),J=seg++J'/\Own s 1 eB (bvs (Ao7 b (l.take i))) seg)) l.length
  ⟨0,v,[],by omega,by omega,rfl,rfl,hb,fun h=>by omega⟩ ?_
 rintro k z L' ⟨i,s,J,hi,rfl,rfl,rfl,hs,hown⟩
 refine C0 (fun(hlt:(i:Int)<u.len)=>?_) (fun(hge: ¬(i:Int)<u.len)=>?_)
 ·have hi':i<l.length:=by omega
  obtain⟨a,ha,la⟩:=(hu.right (R:=J)).el Bg3 (by decide) hi'
  refine A5 ha (E0 (show(0:Int)<=(i:Int) by omega) hlt (A6 l[i] (by rw[Int.toNat_natCast];exact la) ?_))
  have hbl:=Ca9 b (l.take i)
  rw[List.length_take,Nat.min_eq_left hi]at hbl
  have hsn:=B24 b (l.take i) l[i]
  rw[<-List.take_succ_eq_append_getElem hi']at hsn
  have hnx:=hn _ (List.getElem_mem hi')
  generalize l[i]=x at hsn hnx⊢
  refine C3 fun n1 _=>E3 [] _ rfl rfl (by simp) (.inl (Nat.le_refl _)) #[.i x.1,.i x.2.1] rfl ?_
  rw[List.nil_append]
  refine A6 x.1 (ldB List.mem_cons_self rfl) (A6 x.2.1 (ldB List.mem_cons_self rfl) ?_)
  generalize (n1,Obj.cells #[.i x.1,.i x.2.1] 399)=o1
  refine J5 [] [] (A70 (o1::(J++A)) s _ hs.cons (by omega) x.1 x.2.1 hnx) (by simp) ?_
  rintro _ _-⟨s',seg,rfl,rfl,own⟩
  rw[List.append_nil,List.nil_append]
  rw[<-hsn]at own
  refine⟨(s',_,()),rfl,l.length-(i+1),by omega,i+1,s',seg++(o1::J),by omega,rfl,?_,by simp,own.sl.left,fun _=>⟨seg,o1::J,rfl,own⟩⟩
  show(s',IntKind.i64.wrap ((i:Int)+1),())=_
  rw[C2 (by omega) (by omega)]
  rfl
 ·obtain rfl:i=l.length:=by omega
  rw[List.take_length]at hown
  obtain⟨seg,J',rfl,own⟩:=hown hne
  refine .drop (A:=seg++A) (J:=J') ⟨s,seg,rfl,rfl,own⟩ ?_
  rw[List.append_assoc,List.append_assoc]
  exact List.Perm.append_left _ List.perm_append_comm
def Aj6(h:Hd)(n:Nat):List UInt8:=P2 h.1.toNat 1++P2 h.2.1.toNat 1++P2 h.2.2.1.toNat 1++P2 165 1++P2 h.2.2.2.1.toNat 4++P2 h.2.2.2.2.1.toNat 1++P2 0 1++P2 n 2
theorem S7(h:Hd)(n:Nat):(Aj6 h n).length=12:=by simp[Aj6,Aa6]
def Ab0(h:Hd)(p:List UInt8)(size:Nat):List UInt8:=Aj6 h p.length++p++List.replicate (size-16-p.length) 0
theorem Y9{h:Hd}{p:List UInt8}{size:Nat}(h1:16<=size)(h2:p.length<=size-16):(Ab0 h p size).length=size-4:=by
 unfold Ab0
 rw[List.length_append,List.length_append,S7,List.length_replicate];omega
def U1(h:Hd)(p:List UInt8)(size:Nat):List UInt8:=Ab0 h p size++P2 (H7 (Ab0 h p size)).toNat 4
def Ai8(h:Hd)(p:List UInt8)(size:Int):List UInt8×Int:=
 if¬(64<=size/\size<=512)then([],2)else if Ae9 h≠0 then([],Ae9 h)else if(p.length:Int)>size-16 then([],4)else(U1 h p size.toNat,0)
def Dg7(h:Hd)(p:List UInt8)(size:Int)(A:A4)(v:Value)(L':A4):Prop:= ∃(s:SlV) (seg:A4),v= .t #[.slice s.a s.len s.cap,.i (Ai8 h p size).2]/\L'=seg++A/\Own s 1 eB (bvs (Ai8 h p size).1) seg
theorem Dg7.err{h:Hd}{p:List UInt8}{size:Int}{A:A4}{e:Int}(he:Ai8 h p size=([],e)):Dg7 h p size A (.t #[.slice none 0 0,.i e]) A:=⟨⟨none,0,0⟩,[],by rw[he],rfl,by rw[he];exact F4⟩
theorem Aq0(l:List UInt8):0<=H7 l/\H7 l<4294967296:=U0 0 l
def nums(h:Hd)(n:Nat):List Cz4:=[(h.1,1,()),(h.2.1,1,()),(h.2.2.1,1,()),(165,1,()),(h.2.2.2.1,4,()),(h.2.2.2.2.1,1,()),(0,1,()),((n:Int),2,())]
theorem A29(b:List UInt8){n:Int}(h0:0<=n)(h1:n<256):(Au8 b n 1).1=b++P2 n.toNat 1:=by
 rw[Ak0 (by decide) (by omega) (by show n.toNat<256;omega)];rfl
theorem Cz9(b:List UInt8){n:Int}(h0:0<=n)(h1:n<4294967296):(Au8 b n 4).1=b++P2 n.toNat 4:=by
 rw[Ak0 (by decide) (by omega) (by show n.toNat<4294967296;omega)];rfl
theorem wput_2(b:List UInt8){n:Int}(h0:0<=n)(h1:n<65536):(Au8 b n 2).1=b++P2 n.toNat 2:=by
 rw[Ak0 (by decide) (by omega) (by show n.toNat<65536;omega)];rfl
theorem Ca8{h:Hd}(e:Ae9 h=0){n:Nat}(hn:n<65536):Ao7 [] (nums h n)=Aj6 h n:=by
 have:=Ab1 e
 unfold nums Ao7
 simp only[List.foldl_cons,List.foldl_nil]
 rw[A29 (n:=h.1) _ (by omega) (by omega),A29 (n:=h.2.1) _ (by omega) (by omega),A29 (n:=h.2.2.1) _ (by omega) (by omega),A29 (n:=165) _ (by omega) (by omega),Cz9 (n:=h.2.2.2.1) _ (by omega) (by omega),A29 (n:=h.2.2.2.2.1) _ (by omega) (by omega),A29 (n:=0) _ (by omega) (by omega),wput_2 (n:=(n:Int)) _ (by omega) (by omega)]
 unfold Aj6
 simp
theorem Cs0(b:List UInt8):Ao7 b [(H7 b,4,())]=b++P2 (H7 b).toNat 4:=by
 have:=Aq0 b
 exact Cz9 (n:=H7 b) b (by omega) (by omega)
theorem Cy3{h:Hd}{p:List UInt8}{S:Nat}(h1:64<=S)(h2:p.length<=S-16):
  A18 (A18 (Af3 [.int .u8 0] (S-4)) 0 (bvs (Aj6 h p.length))) (12*1) (bvs p)=bvs (Ab0 h p S):=by
 rw[Bd3,Bc1,Bc1]
 congr 1
 unfold Ab0
 rw[List.take_zero,List.nil_append,S7,Nat.zero_add,Nat.mul_one,List.take_left' (S7 h _),<-List.drop_drop,List.drop_left' (S7 h _),List.drop_drop,List.drop_replicate]
 congr 2
 omega
theorem Cb5(A:A4)(h:Hd)(v:SlV)(p:List UInt8)(hv:BSl A v p)(size:Int)(hs: -9223372036854775808<=size/\size<=9223372036854775807):
  CallF PP 256 #[.agg #[.i h.1,.i h.2.1,.i h.2.2.1,.i h.2.2.2.1,.i h.2.2.2.2.1],.slice v.a v.len v.cap,.i size] A (Dg7 h p size A):=by
 refine CallF.of (args:=[.agg #[.i h.1,.i h.2.1,.i h.2.2.1,.i h.2.2.2.1,.i h.2.2.2.2.1],.slice v.a v.len v.cap,.i size]) B5 B6 Tryz.func256 (e256 h v size _) ?_
 unfold t256
 have hvl:=hv.len
 refine C3 fun n1 _=>?_
 generalize ho:(n1,Obj.cells #[.i h.1,.i h.2.1,.i h.2.2.1,.i h.2.2.2.1,.i h.2.2.2.2.1] 272)=o1
 have lh:D4 ⟨n1,0,none⟩ (hEnc h) (o1::A):=by subst ho;exact ldB List.mem_cons_self rfl
 clear ho
 refine B7 (Ax3 _ size) (szd size,()) rfl ?_
 cases hsz:szd size with
 |false=>exact ifT rfl (.cons (.of (Dg7.err (by unfold Ai8;rw[if_pos (C61 hsz)]))))
 |true=>
  have hS:=C60 hsz
  refine ifF rfl (A6 h lh (B7 (Bg7 _ h) (Ae9 h,()) rfl ?_))
  refine O2 (fun(he:Ae9 h≠0)=>.cons (.of (Dg7.err (by unfold Ai8;rw[if_neg (by simpa using hS),if_pos he])))) (fun(he:Ae9 h=0)=>?_)
  refine B7 (Ah9 _ size) (C7 size,()) rfl ?_
  have hroom:C7 size=size-16:=by unfold C7;rw[if_pos hS]
  rw[hroom]
  refine C0 (fun(hl:(v.len:Int)>size-16)=>.cons (.of (Dg7.err (by unfold Ai8;rw[if_neg (by simpa using hS),if_neg (by simpa using he),if_pos (by omega)])))) (fun(hl: ¬(v.len:Int)>size-16)=>?_)
  obtain⟨S,rfl⟩: ∃S:Nat,size=S:=⟨size.toNat,by omega⟩
  have himg:Ai8 h p S=(U1 h p S,0):=by
   unfold Ai8
   rw[if_neg (by simpa using hS),if_neg (by simpa using he),if_neg (by omega),Int.toNat_natCast]
  unfold Dg7
  rw[himg]
  refine A6 h.1 (lh.pre fun i u hu=>by cases i with|zero=>exact hu|succ i=>exact absurd (show(none:Option Value)=some u from hu) (by simp)) (A6 h.2.1 (lh.one 1 rfl) (A6 h.2.2.1 (lh.one 2 rfl) (A6 h.2.2.2.1 (lh.one 3 rfl) (A6 h.2.2.2.2.1 (lh.one 4 rfl) (C3 fun n2 _=>?_)))))
  have hvl':((v.len:Nat):Int)=((p.length:Nat):Int):=by omega
  rw[hvl']
  have hnsl:Sl ((n2,Obj.cells #[.i h.1,.i 1,.i h.2.1,.i 1,.i h.2.2.1,.i 1,.i 165,.i 1,.i h.2.2.2.1,.i 4,.i h.2.2.2.2.1,.i 1,.i 0,.i 1,.i ((p.length:Nat):Int),.i 2] 399)::o1::A) ⟨some ⟨n2,0,none⟩,8,8⟩ 2 ((nums h p.length).flatMap Cs4):=
   ⟨rfl,Nat.le_refl _,.inr ⟨_,rfl,ldB List.mem_cons_self rfl⟩⟩
  have hok:=Ab1 he
  generalize (n2,Obj.cells #[.i h.1,.i 1,.i h.2.1,.i 1,.i h.2.2.1,.i 1,.i 165,.i 1,.i h.2.2.2.1,.i 4,.i h.2.2.2.2.1,.i 1,.i 0,.i 1,.i ((p.length:Nat):Int),.i 2] 399)=o2 at hnsl⊢
  refine J5 [] [] (Cb3 (o2::o1::A) ⟨none,0,0⟩ [] (Sl.nil 1) (by decide) ⟨some ⟨n2,0,none⟩,8,8⟩ (nums h p.length) hnsl (by show 0<8;decide) (by show 8<=100;decide) ?_) (by simp) ?_
  ·intro x hx
   unfold nums at hx
   simp only[List.mem_cons,List.not_mem_nil,or_false]at hx
   rcases hx with rfl|rfl|rfl|rfl|rfl|rfl|rfl|rfl<;>simp only<;>omega
  rintro _ _-⟨s4,seg4,rfl,rfl,own4⟩
  rw[Ca8 he (by omega)]at own4
  rw[List.append_nil,List.nil_append]
  have hs4:=own4.sl.len
  rw[E7,S7]at hs4
  refine⟨(s4,()),rfl,?_⟩
  have hw:IntKind.i64.wrap ((S:Int)-4)=((S-4:Nat):Int):=by rw[C2 (by omega) (by omega)];omega
  simp only[hw]
  refine Ay3 An3 (l:=S-4) (c:=S-4) (Nat.le_refl _) (by omega) fun n7 ob own7 _ _=>?_
  refine Au3 (T:=eB) (sz:=1) (l:=0) (a:=⟨n7,0,none⟩) undB (by kernel_rfl) [] (seg4++(o2::o1::A)) own7 rfl rfl rfl (by simp) (.cons (own4.sl.left)) (K5 _) fun seg7 own7'=>?_
  have hm1:min s4.len (S-4)=12:=by omega
  simp only[hm1,Nat.mul_one,List.nil_append]at own7'⊢
  rw[List.take_of_length_le (by rw[E7,S7];omega)]at own7'
  refine K4 (l':=12) (h':=S-4) (m':=S-4) rfl rfl rfl (by omega) (by omega) (Nat.le_refl _) ?_
  have hd:(P1 ⟨some ⟨n7,0,none⟩,S-4,S-4⟩ ((12:Nat):Int) ((S-4:Nat):Int) ((S-4:Nat):Int) 1).a=some (Addr.add ⟨n7,0,none⟩ (12*1)):=by
   simp only[P1,Int.toNat_natCast]
   rw[if_neg (by omega)]
   rfl
  have hdl:(P1 ⟨some ⟨n7,0,none⟩,S-4,S-4⟩ ((12:Nat):Int) ((S-4:Nat):Int) ((S-4:Nat):Int) 1).len=S-16:=by
   simp only[P1,Int.toNat_natCast];omega
  generalize P1 ⟨some ⟨n7,0,none⟩,S-4,S-4⟩ ((12:Nat):Int) ((S-4:Nat):Int) ((S-4:Nat):Int) 1=d at hd hdl⊢
  refine Au3 (T:=eB) (sz:=1) (l:=12) (a:=⟨n7,0,none⟩) undB (by kernel_rfl) [] (seg4++(o2::o1::A)) own7' rfl rfl hd (by simp only;omega) (hv.cons.cons.right.right) (K5 _) fun seg8 own8=>?_
  have hm2:min v.len d.len=p.length:=by omega
  simp only[hm2,Nat.mul_one,List.nil_append]at own8⊢
  rw[List.take_of_length_le (by rw[E7];omega),Cy3 (by omega) (by omega)]at own8
  have hbl:=Y9 (h:=h) (p:=p) (size:=S) (by omega) (by omega)
  have hallE:U1 h p S=Ab0 h p S++P2 (H7 (Ab0 h p S)).toNat 4:=rfl
  rw[hallE]
  generalize Ab0 h p S=body at own8 hbl⊢
  refine B7 (B74 _ ⟨some ⟨n7,0,none⟩,S-4,S-4⟩ body own8.sl.left (by omega)) (H7 body,()) rfl (C3 fun n3 _=>?_)
  have hcs:=Aq0 body
  have hsl3:Sl ((n3,Obj.cells #[.i (H7 body),.i 4] 399)::(seg8++(seg4++(o2::o1::A)))) ⟨some ⟨n3,0,none⟩,1,1⟩ 2 ([((H7 body,4,()):Cz4)].flatMap Cs4):=⟨rfl,Nat.le_refl _,.inr ⟨_,rfl,ldB List.mem_cons_self rfl⟩⟩
  refine J5 [] [] (Cb3 ((n3,Obj.cells #[.i (H7 body),.i 4] 399)::(seg8++(seg4++(o2::o1::A)))) ⟨some ⟨n7,0,none⟩,S-4,S-4⟩ body own8.sl.left.cons (by omega) ⟨some ⟨n3,0,none⟩,1,1⟩ _ hsl3 (by show 0<1;decide) (by show 1<=100;decide) (fun x hx=>by rw[List.mem_singleton.1 hx];simp only;omega)) (by simp) ?_
  rintro _ _-⟨s9,seg9,rfl,rfl,own9⟩
  rw[Cs0]at own9
  rw[List.append_nil,List.nil_append]
  refine⟨(s9,()),rfl,.drop (A:=seg9++A) (J:=(n3,Obj.cells #[.i (H7 body),.i 4] 399)::(seg8++(seg4++[o2,o1]))) ⟨s9,seg9,rfl,rfl,own9⟩ ?_⟩
  classical
  rw[List.perm_iff_count]
  intro x
  simp only[List.append_eq,List.cons_append,List.count_append,List.count_cons,List.count_nil]
  omega
theorem digs1(k:Nat):P2 k 1=[dig k 0]:=rfl
theorem An4: ∀l:List UInt8,P2 (num l) l.length=l
 |[]=>rfl
 |x::r=>by
  rw[List.length_cons,Bk8]
  have h1:UInt8.ofNat (num (x::r))=x:=by
   show UInt8.ofNat (x.toNat+256*num r)=x
   apply UInt8.toNat_inj.1
   have:=x.toNat_lt
   simp
  have h2:num (x::r)/256=num r:=by
   show(x.toNat+256*num r)/256=num r
   have:=x.toNat_lt
   omega
  rw[h1,h2,An4 r]
def hOf(b:List UInt8):Hd:=((b.getD 0 0).toNat,(b.getD 1 0).toNat,(b.getD 2 0).toNat,num ((b.drop 4).take 4),(b.getD 8 0).toNat,())
def nOf(b:List UInt8):Nat:=num ((b.drop 10).take 2)
def U5(b:List UInt8):List UInt8:=(b.drop (12+nOf b)).take (b.length-4-(12+nOf b))
def Ac0(b:List UInt8):List UInt8:=(b.drop 12).take (nOf b)
def C99(b:List UInt8):Bool:=decide (b.getD 3 0≠165)||decide (b.getD 9 0≠0)||decide (nOf b>b.length-16)||decide (Ae9 (hOf b)≠0)||(U5 b).any fun x=>decide (x≠0)
def O6(b:List UInt8):Bool:=b.all fun x=>decide (x=255)
def hz:Hd:=(0,0,0,0,0,())
def E5(b:List UInt8):Hd×List UInt8×Int:=
 if¬(64<=b.length/\b.length<=512)then(hz,[],2)else if O6 b=true then(hz,[],15)else if H7 (b.take (b.length-4))≠(num (b.drop (b.length-4)):Int)then(hz,[],12)else if C99 b=true then(hz,[],5)else(hOf b,Ac0 b,0)
theorem cons12{b:List UInt8}(h:12<=b.length): ∃b0 b1 b2 b3 b4 b5 b6 b7 b8 b9 b10 b11 r,b=b0::b1::b2::b3::b4::b5::b6::b7::b8::b9::b10::b11::r:=by
 match b,h with
 |b0::b1::b2::b3::b4::b5::b6::b7::b8::b9::b10::b11::r,_=>exact⟨b0,b1,b2,b3,b4,b5,b6,b7,b8,b9,b10,b11,r,rfl⟩
theorem dig_b(x:UInt8):P2 x.toNat 1=[x]:=by
 have:=An4 [x]
 simpa[num]using this
theorem Cg9(b0 b1 b2 b3 b4 b5 b6 b7 b8 b9 b10 b11:UInt8)(r:List UInt8):Aj6 (hOf (b0::b1::b2::b3::b4::b5::b6::b7::b8::b9::b10::b11::r)) (nOf (b0::b1::b2::b3::b4::b5::b6::b7::b8::b9::b10::b11::r))=[b0,b1,b2,165,b4,b5,b6,b7,b8,0,b10,b11]:=by
 have h4:P2 (num [b4,b5,b6,b7]) 4=[b4,b5,b6,b7]:=An4 _
 have h2:P2 (num [b10,b11]) 2=[b10,b11]:=An4 _
 show P2 ((b0.toNat:Int)).toNat 1++P2 ((b1.toNat:Int)).toNat 1++P2 ((b2.toNat:Int)).toNat 1++P2 165 1++P2 ((num [b4,b5,b6,b7]:Int)).toNat 4++P2 ((b8.toNat:Int)).toNat 1++P2 0 1++P2 (num [b10,b11]) 2=_
 simp only[Int.toNat_natCast,dig_b,h4,h2]
 rfl
theorem nOf_lt(b:List UInt8):nOf b<65536:=by
 have h1:=Cc4 ((b.drop 10).take 2)
 have h2:256^((b.drop 10).take 2).length<=256^2:=Nat.pow_le_pow_right (by omega) (by rw[List.length_take];omega)
 unfold nOf
 omega
theorem Bg9{b:List UInt8}(h:12+nOf b<=b.length):(Ac0 b).length=nOf b:=by
 unfold Ac0;rw[List.length_take,List.length_drop];omega
theorem Dg1{b:List UInt8}(h1:64<=b.length)(hc:H7 (b.take (b.length-4))=(num (b.drop (b.length-4)):Int))(hn:nOf b<=b.length-16):
  U1 (hOf b) (Ac0 b) b.length=b↔b.getD 3 0=165/\b.getD 9 0=0/\ ∀x∈U5 b,x=0:=by
 have hpl:=Bg9 (b:=b) (by omega)
 obtain⟨b0,b1,b2,b3,b4,b5,b6,b7,b8,b9,b10,b11,r,rfl⟩:=cons12 (b:=b) (by omega)
 have hb:=Cg9 b0 b1 b2 b3 b4 b5 b6 b7 b8 b9 b10 b11 r
 generalize hB:b0::b1::b2::b3::b4::b5::b6::b7::b8::b9::b10::b11::r=b at*
 have hlen:b.length=r.length+12:=by subst hB;simp
 have hpay:Ac0 b=r.take (nOf b):=by unfold Ac0;subst hB;rfl
 have hpad:U5 b=(r.drop (nOf b)).take (b.length-16-nOf b):=by
  unfold U5
  rw[show b.length-4-(12+nOf b)=b.length-16-nOf b by omega]
  congr 1
  subst hB
  rw[<-List.drop_drop];rfl
 have hlast:b.drop (b.length-4)=r.drop (b.length-16):=by
  rw[show b.length-4=12+(b.length-16) by omega,<-List.drop_drop]
  congr 1
  subst hB;rfl
 have hpadl:(U5 b).length=b.length-16-nOf b:=by rw[hpad,List.length_take,List.length_drop];omega
 have hr:r=Ac0 b++U5 b++b.drop (b.length-4):=by
  rw[hpay,hpad,hlast]
  have e1:r.drop (b.length-16)=(r.drop (nOf b)).drop (b.length-16-nOf b):=by rw[List.drop_drop];congr 1;omega
  rw[e1,List.append_assoc,List.take_append_drop,List.take_append_drop]
 have hg3:b.getD 3 0=b3:=by subst hB;rfl
 have hg9:b.getD 9 0=b9:=by subst hB;rfl
 have hbt:b.take (b.length-4)=[b0,b1,b2,b3,b4,b5,b6,b7,b8,b9,b10,b11]++(Ac0 b++U5 b):=by
  have:b=([b0,b1,b2,b3,b4,b5,b6,b7,b8,b9,b10,b11]++(Ac0 b++U5 b))++b.drop (b.length-4):=by
   rw[List.append_assoc,<-hr,<-hB];rfl
  have e:=congrArg (List.take (b.length-4)) this
  rw[List.take_left' (by
   rw[List.length_append,List.length_append,hpl,hpadl]
   simp only[List.length_cons,List.length_nil]
   omega)]at e
  exact e
 have hll:(b.drop (b.length-4)).length=4:=by rw[List.length_drop];omega
 have hbody:Ab0 (hOf b) (Ac0 b) b.length=[b0,b1,b2,165,b4,b5,b6,b7,b8,0,b10,b11]++(Ac0 b++List.replicate (b.length-16-nOf b) 0):=by
  unfold Ab0
  rw[hpl,hb,List.append_assoc]
 have hpad0:(∀x∈U5 b,x=0)↔List.replicate (b.length-16-nOf b) 0=U5 b:=by
  rw[<-hpadl]
  constructor
  ·intro h;exact(List.eq_replicate_iff.2 ⟨rfl,h⟩).symm
  ·intro h x hx;rw[<-h]at hx;exact List.eq_of_mem_replicate hx
 rw[hg3,hg9,hpad0]
 have hB2:b=[b0,b1,b2,b3,b4,b5,b6,b7,b8,b9,b10,b11]++(Ac0 b++(U5 b++b.drop (b.length-4))):=by
  rw[<-List.append_assoc (Ac0 b),<-hr,<-hB];rfl
 constructor
 ·intro h
  unfold U1 at h
  rw[hbody,List.append_assoc,List.append_assoc]at h
  have h':=h.trans hB2
  obtain⟨e1,e2⟩:=List.append_inj h' rfl
  obtain⟨e3,e4⟩:=List.append_inj e2 rfl
  obtain⟨e5,e6⟩:=List.append_inj e4 (by rw[List.length_replicate,hpadl])
  simp only[List.cons.injEq,and_true,true_and]at e1
  exact⟨e1.1.symm,e1.2.symm,e5⟩
 ·rintro⟨rfl,rfl,e5⟩
  have:Ab0 (hOf b) (Ac0 b) b.length=b.take (b.length-4):=by rw[hbody,e5,hbt]
  unfold U1
  rw[this,hc,Int.toNat_natCast]
  have h4:=An4 (b.drop (b.length-4))
  rw[hll]at h4
  rw[h4,List.take_append_drop]
theorem ne255(x:UInt8):((x.toNat:Int)≠255)↔x≠255:=by
 constructor
 ·rintro h rfl;exact h rfl
 ·intro h e
  apply h
  apply UInt8.toNat_inj.1
  show x.toNat=255
  omega
theorem De6(x:UInt8)(n:Nat)(hn:n<256):((x.toNat:Int)=n)↔x=UInt8.ofNat n:=by
 constructor
 ·intro h;apply UInt8.toNat_inj.1;simp;omega
 ·rintro rfl;simp;omega
theorem Bg8(L:A4)(v:SlV)(b:List UInt8)(hb:BSl L v b)(hl:b.length<=1000000):Reads PP 236 #[.slice v.a v.len v.cap] L (.b (O6 b)):=by
 refine Reads.of (args:=[.slice v.a v.len v.cap]) B5 B6 Tryz.func236 (e236 v _) ?_
 unfold t236
 have hlen:=hb.len
 refine G0 (fun k z L'=>L'=L/\ ∃i:Nat,i<=b.length/\k=b.length-i/\z=((i:Int),())/\ ∀x∈b.take i,x=255) b.length ⟨rfl,0,by omega,by omega,rfl,by simp⟩ ?_
 rintro k z L' ⟨rfl,i,hi,rfl,rfl,hall⟩
 refine C0 (fun(hlt:(i:Int)<v.len)=>?_) (fun(hge: ¬(i:Int)<v.len)=>?_)
 ·have hi':i<b.length:=by omega
  obtain⟨a,ha⟩:=hb.some hi'
  refine A5 ha (E0 (show(0:Int)<=i by omega) hlt (A6 (b[i].toNat:Int) (hb.rd hi' ha _ (by simp)) ?_))
  refine O2 (fun hne=>.of ⟨?_,rfl⟩) (fun he=>⟨b.length-(i+1),by omega,rfl,i+1,by omega,rfl,?_,fun x hx=>?_⟩)
  ·have:O6 b=false:=by
    unfold O6
    rw[List.all_eq_false]
    exact⟨b[i],List.getElem_mem hi',by simpa using(ne255 _).1 hne⟩
   rw[this]
  ·rw[C2 (by first|omega|(simp only;omega)) (by first|omega|(simp only;omega))]
   rfl
  ·rw[List.take_succ_eq_append_getElem hi']at hx
   rcases List.mem_append.1 hx with hx|hx
   ·exact hall x hx
   ·rw[List.mem_singleton.1 hx]
    exact Decidable.byContradiction fun hc=>(ne255 _).2 hc he
 ·obtain rfl:i=b.length:=by omega
  rw[List.take_length]at hall
  refine .of ⟨?_,rfl⟩
  have:O6 b=true:=by
   unfold O6
   rw[List.all_eq_true]
   intro x hx
   simpa using hall x hx
  rw[this]
theorem Cb8(L:A4)(v:SlV)(b:List UInt8)(hb:BSl L v b)(hl:b.length<=1000000)(a w:Int):Reads PP 238 #[.slice v.a v.len v.cap,.i a,.i w] L (.i (V9 b a w).1):=by
 refine Reads.of (args:=[.slice v.a v.len v.cap,.i a,.i w]) B5 B6 Tryz.func238 (e238 v a w _) ?_
 unfold t238
 exact B7 (A71 _ v b hb (by omega) a w) ((V9 b a w).1,(V9 b a w).2,()) rfl (.of ⟨rfl,rfl⟩)
def ParK(b:List UInt8)(A:A4)(v:Value)(L':A4):Prop:= ∃(s:SlV) (seg:A4),v= .t #[.agg #[.i (E5 b).1.1,.i (E5 b).1.2.1,.i (E5 b).1.2.2.1,.i (E5 b).1.2.2.2.1,.i (E5 b).1.2.2.2.2.1],.slice s.a s.len s.cap,.i (E5 b).2.2]/\L'=seg++A/\Own s 1 eB (bvs (E5 b).2.1) seg
theorem ParK.err{b:List UInt8}{A:A4}{e:Int}(he:E5 b=(hz,[],e)):ParK b A (.t #[.agg #[.i 0,.i 0,.i 0,.i 0,.i 0],.slice none 0 0,.i e]) A:=⟨⟨none,0,0⟩,[],by rw[he];rfl,rfl,by rw[he];exact F4⟩
theorem Bn5{b:List UInt8}{a w:Nat}(h:1<=w)(h7:w<=7)(h2:a+w<=b.length):(V9 b (a:Int) (w:Int)).1=(num ((b.drop a).take w):Int):=by rw[Bn4 h h7 h2]
theorem Ad8{b:List UInt8}{i:Nat}(h:i<b.length):b.getD i 0=b[i]:=by simp[List.getD_eq_getElem?_getD,h]
theorem Bh0{b:List UInt8}(h: ¬(64<=b.length/\b.length<=512)):E5 b=(hz,[],2):=by unfold E5;rw[if_pos h]
theorem A43{b:List UInt8}(h:64<=b.length/\b.length<=512)(h2:O6 b=true):E5 b=(hz,[],15):=by unfold E5;rw[if_neg (by simpa using h),if_pos h2]
theorem Bv8{b:List UInt8}(h:64<=b.length/\b.length<=512)(h2:O6 b=false)(h3:H7 (b.take (b.length-4))≠(num (b.drop (b.length-4)):Int)):E5 b=(hz,[],12):=by
 unfold E5;rw[if_neg (by simpa using h),if_neg (by rw[h2];decide),if_pos h3]
theorem Ai0{b:List UInt8}(h:64<=b.length/\b.length<=512)(h2:O6 b=false)(h3:H7 (b.take (b.length-4))=(num (b.drop (b.length-4)):Int))(h4:C99 b=true):E5 b=(hz,[],5):=by
 unfold E5;rw[if_neg (by simpa using h),if_neg (by rw[h2];decide),if_neg (by simpa using h3),if_pos h4]
theorem Bq0{b:List UInt8}(h:64<=b.length/\b.length<=512)(h2:O6 b=false)(h3:H7 (b.take (b.length-4))=(num (b.drop (b.length-4)):Int))(h4:C99 b=false):E5 b=(hOf b,Ac0 b,0):=by
 unfold E5;rw[if_neg (by simpa using h),if_neg (by rw[h2];decide),if_neg (by simpa using h3),if_neg (by rw[h4];decide)]
theorem Aa1(b:List UInt8):C99 b=true↔b.getD 3 0≠165\/b.getD 9 0≠0\/nOf b>b.length-16\/Ae9 (hOf b)≠0\/ ∃x∈U5 b,x≠0:=by
 unfold C99
 simp only[Bool.or_eq_true,decide_eq_true_iff,List.any_eq_true]
 constructor
 ·rintro((((h|h)|h)|h)|h)
  ·exact .inl h
  ·exact .inr (.inl h)
  ·exact .inr (.inr (.inl h))
  ·exact .inr (.inr (.inr (.inl h)))
  ·exact .inr (.inr (.inr (.inr h)))
 ·rintro(h|h|h|h|h)
  ·exact .inl (.inl (.inl (.inl h)))
  ·exact .inl (.inl (.inl (.inr h)))
  ·exact .inl (.inl (.inr h))
  ·exact .inl (.inr h)
  ·exact .inr h
theorem C17{b:List UInt8}(h1:b.getD 3 0=165)(h2:b.getD 9 0=0)(h3:nOf b<=b.length-16)(h4:Ae9 (hOf b)=0)(h5: ∀x∈U5 b,x=0):C99 b=false:=by
 rw[Bool.eq_false_iff]
 intro h
 rcases(Aa1 b).1 h with h|h|h|h|⟨x,hx,h⟩
 ·exact h h1
 ·exact h h2
 ·omega
 ·exact h h4
 ·exact h (h5 x hx)
section
variable {b:List UInt8} {A:A4} {n1:Nat} {e:Int}
theorem Ag3(X:A4)(he:E5 b=(hz,[],e)):
  (st ⟨n1,0,none⟩ [.i 0,.i 0,.i 0,.i 0,.i 0]<|
   ld ⟨n1,0,none⟩ (.agg [.int .i64,.int .i64,.int .i64,.int .i64,.int .i64]) fun v1=>
   HL.Ends (ParK b A) (.t #[.agg #[.i v1.1,.i v1.2.1,.i v1.2.2.1,.i v1.2.2.2.1,.i v1.2.2.2.2.1],.slice none 0 0,.i e])) (X++(n1,Obj.cells #[.i 0,.i 0,.i 0,.i 0,.i 0] 272)::A):=by
 refine E3 X A rfl rfl (by simp) (.inl (Nat.le_refl _)) #[.i 0,.i 0,.i 0,.i 0,.i 0] rfl ?_
 exact A6 (0,0,0,0,0,()) (ldB (n:=n1) (c:=#[.i 0,.i 0,.i 0,.i 0,.i 0]) (T:=272) (fz:=(0,0)) (by simp) rfl) (.app (.cons (.of (ParK.err he))))
end
theorem Da1{b:List UInt8}{A:A4}{n1:Nat}{h:Hd}{q:List UInt8}(hok:E5 b=(h,q,0)){s:SlV}{seg:A4}(own:Own s 1 eB (bvs q) seg)(Y X:A4):
  (st ⟨n1,0,none⟩ [.i h.1,.i h.2.1,.i h.2.2.1,.i h.2.2.2.1,.i h.2.2.2.2.1]<|
   ld ⟨n1,0,none⟩ (.agg [.int .i64,.int .i64,.int .i64,.int .i64,.int .i64]) fun v1=>
   HL.Ends (ParK b A) (.t #[.agg #[.i v1.1,.i v1.2.1,.i v1.2.2.1,.i v1.2.2.2.1,.i v1.2.2.2.2.1],.slice s.a s.len s.cap,.i 0])) (Y++seg++(X++(n1,Obj.cells #[.i 0,.i 0,.i 0,.i 0,.i 0] 272)::A)):=by
 obtain⟨k,pa,ps,ep,pg,u⟩:=h
 simp only
 refine E3 (n:=n1) (off:=0) (c:=#[.i 0,.i 0,.i 0,.i 0,.i 0]) (T:=272) (fz:=(0,0)) (Y++seg++X) A rfl (by simp) (by simp) (.inl (Nat.le_refl _)) #[.i k,.i pa,.i ps,.i ep,.i pg] rfl ?_
 have lh:D4 ⟨n1,0,none⟩ [.i k,.i pa,.i ps,.i ep,.i pg] (Y++seg++X++(n1,Obj.cells #[.i k,.i pa,.i ps,.i ep,.i pg] 272)::A):=ldB (n:=n1) (c:=#[.i k,.i pa,.i ps,.i ep,.i pg]) (T:=272) (fz:=(0,0)) (by simp) rfl
 refine A6 (k,pa,ps,ep,pg,()) lh ?_
 refine .drop (A:=seg++A) (J:=Y++X++[(n1,Obj.cells #[.i k,.i pa,.i ps,.i ep,.i pg] 272)]) ⟨s,seg,by rw[hok],rfl,by rw[hok];exact own⟩ ?_
 classical
 rw[List.perm_iff_count]
 intro x
 simp only[List.append_eq,List.cons_append,List.count_append,List.count_cons,List.count_nil]
 omega
theorem Ax5(A:A4)(v:SlV)(b:List UInt8)(hb:BSl A v b)(hl:b.length<=1000000):
  CallF PP 182 #[.slice v.a v.len v.cap] A (ParK b A):=by
 refine CallF.of (args:=[.slice v.a v.len v.cap]) B5 B6 Tryz.func182 (e182 v _) ?_
 unfold t182
 have hlen:=hb.len
 have hcap:=hb.cap
 refine C3 fun n1 _=>?_
 have hb1: ∀{X:A4},BSl (X++(n1,Obj.cells #[.i 0,.i 0,.i 0,.i 0,.i 0] 272)::A) v b:=fun{X}=>hb.cons.right
 have hvl:((v.len:Nat):Int)=((b.length:Nat):Int):=by omega
 refine B7 (Ax3 _ v.len) (szd v.len,()) rfl ?_
 cases hsz:szd v.len with
 |false=>exact ifT rfl (Ag3 [] (Bh0 (b:=b) (by have:=C61 hsz;omega)))
 |true=>
  have hS:64<=b.length/\b.length<=512:=by have:=C60 hsz;omega
  refine ifF rfl (B7 (Bg8 _ v b (hb1 (X:=[])) hl) (O6 b,()) rfl ?_)
  cases hbk:O6 b with
  |true=>exact ifT rfl (Ag3 [] (A43 hS hbk))
  |false=>
   refine ifF rfl ?_
   have hw:IntKind.i64.wrap ((v.len:Int)-4)=((b.length-4:Nat):Int):=by rw[C2 (by omega) (by omega)];omega
   simp only[hw]
   refine K4 (l':=0) (h':=b.length-4) (m':=v.cap) rfl rfl rfl (by omega) (by omega) (Nat.le_refl _) ?_
   have hs1:BSl ((n1,Obj.cells #[.i 0,.i 0,.i 0,.i 0,.i 0] 272)::A) (P1 v ((0:Nat):Int) ((b.length-4:Nat):Int) v.cap 1) (b.take (b.length-4)):=by
    have:=Sl.slc (m:=v.cap) (hb1 (X:=[])) (by omega) (l:=0) (h':=b.length-4) (by omega) (by omega) (by omega)
    rw[Ah1]at this
    simpa using this
   have hnum:(V9 b ((b.length-4:Nat):Int) 4).1=(num (b.drop (b.length-4)):Int):=by
    have e:=Bn5 (b:=b) (a:=b.length-4) (w:=4) (by decide) (by decide) (by omega)
    rw[List.take_of_length_le (by rw[List.length_drop];omega)]at e
    exact e
   refine B7 (Cb8 _ v b (hb1 (X:=[])) hl _ 4) ((V9 b ((b.length-4:Nat):Int) 4).1,()) rfl ?_
   rw[hnum]
   refine B7 (Bz3 _ _ _ hs1 (by rw[List.length_take];omega) _) (H7 (b.take (b.length-4))==(num (b.drop (b.length-4)):Int),()) rfl ?_
   clear hs1
   by_cases hcs:H7 (b.take (b.length-4))=(num (b.drop (b.length-4)):Int)
   ·refine ifF (by simp[hcs]) ?_
    obtain⟨a,ha⟩:=hb.some (show 0<b.length by omega)
    have hrd: ∀{X:A4} (i:Nat) (hi:i<b.length) (j:Nat),j=i*1->D4 (a.add j) [.int .u8 (b[i].toNat:Int)] (X++(n1,Obj.cells #[.i 0,.i 0,.i 0,.i 0,.i 0] 272)::A):=fun{X} i hi j hj=>(hb1 (X:=X)).rd hi ha j hj
    refine A5 ha (E0 (by decide) (by omega) (A5 ha (E0 (by decide) (by omega) (A5 ha (E0 (by decide) (by omega) (A5 ha (E0 (by decide) (by omega) ?_)))))))
    refine A6 (b[0].toNat:Int) (hrd (X:=[]) 0 (by omega) _ rfl) (A6 (b[1].toNat:Int) (hrd (X:=[]) 1 (by omega) _ rfl) (A6 (b[2].toNat:Int) (hrd (X:=[]) 2 (by omega) _ rfl) (A6 (b[8].toNat:Int) (hrd (X:=[]) 8 (by omega) _ rfl) ?_)))
    refine B7 (Cb8 _ v b (hb1 (X:=[])) hl 4 4) ((num ((b.drop 4).take 4):Int),()) (by rw[<-Bn5 (by decide) (by decide) (by omega)];rfl) ?_
    refine F5 (hrd (X:=[]) 8 (by omega) _ rfl) (F5 (hrd (X:=[]) 2 (by omega) _ rfl) (F5 (hrd (X:=[]) 1 (by omega) _ rfl) (F5 (hrd (X:=[]) 0 (by omega) _ rfl) ?_)))
    have hu: ∀x:UInt8,IntKind.i64.wrap (x.toNat:Int)=(x.toNat:Int):=fun x=>by have:=x.toNat_lt;exact C2 (by omega) (by omega)
    have hh:hOf b=((b[0].toNat:Int),(b[1].toNat:Int),(b[2].toNat:Int),(num ((b.drop 4).take 4):Int),(b[8].toNat:Int),()):=by
     unfold hOf
     rw[Ad8 (show 0<b.length by omega),Ad8 (show 1<b.length by omega),Ad8 (show 2<b.length by omega),Ad8 (show 8<b.length by omega)]
    simp only[hu]
    refine C3 fun n2 _=>E3 [] _ rfl rfl (by simp) (.inl (Nat.le_refl _)) #[.i b[0].toNat,.i b[1].toNat,.i b[2].toNat,.i (num ((b.drop 4).take 4)),.i b[8].toNat] rfl ?_
    rw[List.nil_append]
    have l2: ∀{X:A4},D4 ⟨n2,0,none⟩ (hEnc (hOf b)) (X++(n2,Obj.cells #[.i b[0].toNat,.i b[1].toNat,.i b[2].toNat,.i (num ((b.drop 4).take 4)),.i b[8].toNat] 272)::(n1,Obj.cells #[.i 0,.i 0,.i 0,.i 0,.i 0] 272)::A):=fun{X}=>by
     rw[hh]
     exact ldB (n:=n2) (c:=#[.i b[0].toNat,.i b[1].toNat,.i b[2].toNat,.i (num ((b.drop 4).take 4)),.i b[8].toNat]) (T:=272) (fz:=(0,0)) (by simp) rfl
    generalize (n2,Obj.cells #[.i b[0].toNat,.i b[1].toNat,.i b[2].toNat,.i (num ((b.drop 4).take 4)),.i b[8].toNat] 272)=o2 at l2⊢
    clear hu hh
    have hn:nOf b<65536:=nOf_lt b
    refine B7 (Cb8 _ v b (hb1 (X:=[o2])) hl 10 2) ((nOf b:Int),()) (by unfold nOf;rw[<-Bn5 (by decide) (by decide) (by omega)];rfl) ?_
    refine A5 ha (E0 (by decide) (by omega) (A6 (b[3].toNat:Int) (hrd (X:=[o2]) 3 (by omega) _ rfl) ?_))
    refine O2 (fun hne=>Ag3 [o2] (Ai0 hS hbk hcs ((Aa1 b).2 (.inl ?_)))) (fun h3=>?_)
    ·rw[Ad8 (show 3<b.length by omega)]
     rintro e
     rw[e]at hne
     exact hne rfl
    have h3':b.getD 3 0=165:=by rw[Ad8 (show 3<b.length by omega)];exact(De6 _ 165 (by decide)).1 h3
    refine A5 ha (E0 (by decide) (by omega) (A6 (b[9].toNat:Int) (hrd (X:=[o2]) 9 (by omega) _ rfl) ?_))
    refine O2 (fun hne=>Ag3 [o2] (Ai0 hS hbk hcs ((Aa1 b).2 (.inr (.inl ?_))))) (fun h9=>?_)
    ·rw[Ad8 (show 9<b.length by omega)]
     rintro e
     rw[e]at hne
     exact hne rfl
    have h9':b.getD 9 0=0:=by rw[Ad8 (show 9<b.length by omega)];exact(De6 _ 0 (by decide)).1 h9
    clear h3 h9
    have hroom:C7 (v.len:Int)=((b.length-16:Nat):Int):=by unfold C7;rw[if_pos (by omega)];omega
    refine B7 (Ah9 _ v.len) (C7 v.len,()) rfl ?_
    rw[hroom]
    refine C0 (fun(hbig:(nOf b:Int)>((b.length-16:Nat):Int))=>Ag3 [o2] (Ai0 hS hbk hcs ((Aa1 b).2 (.inr (.inr (.inl (by omega))))))) (fun(hsm: ¬(nOf b:Int)>((b.length-16:Nat):Int))=>?_)
    refine A6 (hOf b) (l2 (X:=[])) (B7 (Bg7 _ (hOf b)) (Ae9 (hOf b),()) rfl ?_)
    refine O2 (fun(he:Ae9 (hOf b)≠0)=>Ag3 [o2] (Ai0 hS hbk hcs ((Aa1 b).2 (.inr (.inr (.inr (.inl he))))))) (fun(he:Ae9 (hOf b)=0)=>?_)
    have hwn:IntKind.i64.wrap (12+(nOf b:Int))=((12+nOf b:Nat):Int):=by rw[C2 (by omega) (by omega)];omega
    simp only[hwn]
    refine K4 (l':=12+nOf b) (h':=b.length-4) (m':=v.cap) rfl rfl rfl (by omega) (by omega) (Nat.le_refl _) ?_
    have hs2:BSl (o2::(n1,Obj.cells #[.i 0,.i 0,.i 0,.i 0,.i 0] 272)::A) (P1 v ((12+nOf b:Nat):Int) ((b.length-4:Nat):Int) v.cap 1) (U5 b):=by
     have:=Sl.slc (m:=v.cap) (hb1 (X:=[o2])) (by omega) (l:=12+nOf b) (h':=b.length-4) (by omega) (by omega) (by omega)
     rw[Ah1]at this
     exact this
    generalize P1 v ((12+nOf b:Nat):Int) ((b.length-4:Nat):Int) v.cap 1=s2 at hs2⊢
    have hl2:=hs2.len
    have hpl:(U5 b).length<=b.length:=by unfold U5;rw[List.length_take,List.length_drop];omega
    refine G0 (fun k z L'=>L'=o2::(n1,Obj.cells #[.i 0,.i 0,.i 0,.i 0,.i 0] 272)::A/\ ∃i:Nat,i<=(U5 b).length/\k=(U5 b).length-i/\z=((i:Int),())/\ ∀x∈(U5 b).take i,x=0) (U5 b).length ⟨rfl,0,by omega,by omega,rfl,by simp⟩ ?_
    rintro k z L' ⟨rfl,i,hi,rfl,rfl,hall⟩
    refine C0 (fun(hlt:(i:Int)<s2.len)=>?_) (fun(hge: ¬(i:Int)<s2.len)=>?_)
    ·have hi':i<(U5 b).length:=by omega
     obtain⟨a2,ha2⟩:=hs2.some hi'
     refine A5 ha2 (E0 (show(0:Int)<=i by omega) hlt (A6 ((U5 b)[i].toNat:Int) (hs2.rd hi' ha2 _ (by simp)) ?_))
     refine O2 (fun hne=>Ag3 [o2] (Ai0 hS hbk hcs ((Aa1 b).2 (.inr (.inr (.inr (.inr ⟨(U5 b)[i],List.getElem_mem hi',?_⟩))))))) (fun h0=>⟨(U5 b).length-(i+1),by omega,rfl,i+1,by omega,rfl,?_,fun x hx=>?_⟩)
     ·rintro e
      rw[e]at hne
      exact hne rfl
     ·rw[C2 (by first|omega|(simp only;omega)) (by first|omega|(simp only;omega))]
      rfl
     ·rw[List.take_succ_eq_append_getElem hi']at hx
      rcases List.mem_append.1 hx with hx|hx
      ·exact hall x hx
      ·rw[List.mem_singleton.1 hx]
       exact(De6 _ 0 (by decide)).1 h0
    ·obtain rfl:i=(U5 b).length:=by omega
     rw[List.take_length]at hall
     have hok:=Bq0 hS hbk hcs (C17 h3' h9' (by omega) he hall)
     refine K4 (l':=12) (h':=12+nOf b) (m':=v.cap) rfl rfl rfl (by omega) (by omega) (Nat.le_refl _) ?_
     have hs3: ∀{o:Nat×Obj},BSl (o::o2::(n1,Obj.cells #[.i 0,.i 0,.i 0,.i 0,.i 0] 272)::A) (P1 v ((12:Nat):Int) ((12+nOf b:Nat):Int) v.cap 1) (Ac0 b):=by
      intro o
      have:=Sl.slc (m:=v.cap) (hb1 (X:=[o,o2])) (by omega) (l:=12) (h':=12+nOf b) (by omega) (by omega) (by omega)
      rw[Ah1,Nat.add_sub_cancel_left]at this
      exact this
     have hsl3:(P1 v ((12:Nat):Int) ((12+nOf b:Nat):Int) v.cap 1).len=nOf b:=by simp only[P1,Int.toNat_natCast];omega
     generalize P1 v ((12:Nat):Int) ((12+nOf b:Nat):Int) v.cap 1=s3 at hs3 hsl3⊢
     refine A6 (hOf b) (l2 (X:=[])) (C3 fun n3 _=>E6 An3 Cp1 [] (o2::(n1,Obj.cells #[.i 0,.i 0,.i 0,.i 0,.i 0] 272)::A) Ag4 rfl (.sl hs3) (K5 _) (by first|omega|(simp only;omega)) fun s4 seg4 hs4 own4=>F5 l2 ?_)
     rw[List.nil_append]at own4
     exact Da1 hok own4 [] [o2]
   ·exact ifT (by simp[hcs]) (Ag3 [] (Bv8 hS hbk hcs))
theorem Dc7{h:Hd}{p:List UInt8}{S:Nat}(h1:64<=S/\S<=512)(h2:Ae9 h=0)(h3:p.length<=S-16):Ai8 h p (S:Int)=(U1 h p S,0):=by
 unfold Ai8
 rw[if_neg (by omega),if_neg (by simpa using h2),if_neg (by omega),Int.toNat_natCast]
theorem Cv1{h:Hd}{p:List UInt8}{S:Nat}(h1:64<=S/\S<=512)(h2:Ae9 h≠0):Ai8 h p (S:Int)=([],Ae9 h):=by
 unfold Ai8
 rw[if_neg (by omega),if_pos h2]
abbrev It:=Int×Int×Int×Unit
def O9(x:It):List Value:=[.i x.1,.i x.2.1,.i x.2.2.1]
theorem E1(x:It):(O9 x).length=3:=rfl
def itV(x:It):Value:=.agg #[.i x.1,.i x.2.1,.i x.2.2.1]
theorem Bi4(l:List It):(l.flatMap O9).all S5=true:=by
 induction l with
 |nil=>rfl
 |cons e r ih=>rw[List.flatMap_cons,List.all_append,ih];rfl
abbrev tItm:TypeId:=152
abbrev B48:TypeId:=215
abbrev tPlc:TypeId:=55
abbrev A12:TypeId:=102
theorem Bs2:U8 PP tItm B48 3 24 [.i 0,.i 0,.i 0]:=M6 (by kernel_rfl) (by kernel_rfl) rfl (by decide) (by decide)
theorem B78:As9 PP tItm:=.inl ⟨B48,by kernel_rfl⟩
theorem Ap8:U8 PP tPlc A12 3 24 [.i 0,.i 0,.i 0]:=M6 (by kernel_rfl) (by kernel_rfl) rfl (by decide) (by decide)
theorem Bt9:As9 PP tPlc:=.inl ⟨A12,by kernel_rfl⟩
theorem C02:A22 PP A12=true:=by kernel_rfl
def A14(n:Int):UInt8:=UInt8.ofNat n.toNat
def inB(l:List Int):Prop:= ∀n∈l,0<=n/\n<=255
theorem B65{n:Int}(h0:0<=n)(h1:n<=255):IntKind.u8.wrap n=((A14 n).toNat:Int):=by
 rw[w8_id h0 h1]
 unfold A14
 rw[UInt8.toNat_ofNat',Nat.mod_eq_of_lt (by omega)]
 omega
theorem Bz4(A:A4)(v:SlV)(b:List UInt8)(seg:A4)(own:Own v 1 eB (bvs b) seg)(hb:b.length<=1000000)(u:SlV)(l:List Int)(hu:ISl A u .i64 l)(hl:l.length<=1000):
  CallF PP 131 #[.slice v.a v.len v.cap,.slice u.a u.len u.cap] (seg++A) fun r L'=> ∃seg',L'=seg'++A/\((inB l/\ ∃v':SlV,r= .t #[.slice v'.a v'.len v'.cap,.b true]/\Own v' 1 eB (bvs (b++l.map A14)) seg')\/(¬inB l/\r= .t #[.slice none 0 0,.b false])):=by
 refine CallF.of (args:=[.slice v.a v.len v.cap,.slice u.a u.len u.cap]) B5 B6 Tryz.func131 (e131 v u _) ?_
 unfold t131
 have hul:=hu.len
 refine G0 (fun z' z L'=> ∃(i:Nat) (s:SlV) (sg J:A4),i<=l.length/\z'=l.length-i/\z=(s,(i:Int),())/\L'=J++(sg++A)/\Own s 1 eB (bvs (b++(l.take i).map A14)) sg/\inB (l.take i)) l.length ⟨0,v,seg,[],by omega,by omega,rfl,rfl,by simpa using own,by intro n hn;simp at hn⟩ ?_
 rintro z' z _ ⟨i,s,sg,J,hi,rfl,rfl,rfl,owns,hin⟩
 refine C0 (fun(hlt:(i:Int)<(u.len:Int))=>?_) (fun(hge: ¬(i:Int)<(u.len:Int))=>?_)
 ·have hi':i<l.length:=by omega
  obtain⟨a,ha⟩:=hu.some hi'
  have hld:=hu.rd hi' ha ((i:Int).toNat*1) (by rw[Int.toNat_natCast])
  have hsl:=owns.sl.len
  rw[E7,List.length_append,List.length_map,List.length_take]at hsl
  refine A5 ha (E0 (show(0:Int)<=(i:Int) by omega) hlt (A6 l[i] (hld.mono fun x hx=>by simp[hx]) ?_))
  have hno: ¬(0<=l[i]/\l[i]<=255)->HL.Ends (fun r L'=> ∃seg',L'=seg'++A/\((inB l/\ ∃v':SlV,r= .t #[.slice v'.a v'.len v'.cap,.b true]/\Own v' 1 eB (bvs (b++l.map A14)) seg')\/(¬inB l/\r= .t #[.slice none 0 0,.b false]))) (.t #[.slice none 0 0,.b false]) (J++(sg++A)):=
   fun h=>.app (.of ⟨sg,rfl,.inr ⟨fun hh=>h (hh _ (List.getElem_mem hi')),rfl⟩⟩)
  refine C0 (fun(h1:l[i]<0)=>hno (by omega)) (fun(h1: ¬l[i]<0)=>C0 (fun(h2:l[i]>255)=>hno (by omega)) (fun(h2: ¬l[i]>255)=>?_))
  refine C3 fun n1 _=>?_
  rw[B65 (by omega) (by omega)]
  refine E6 An3 Cp1 ((n1,Obj.cells #[.int .u8 ((A14 l[i]).toNat:Int)] 5)::J) A owns (by simp) (n:=1) (ws:=bvs [A14 l[i]]) (x:=.slice (some ⟨n1,0,none⟩) 1 1) (Src.sl (v:=⟨some ⟨n1,0,none⟩,1,1⟩) ⟨rfl,Nat.le_refl _,.inr ⟨_,rfl,ldB List.mem_cons_self rfl⟩⟩) rfl (by omega) fun s' sg' hs' own'=>?_
  refine⟨l.length-(i+1),by omega,i+1,s',sg',_,by omega,rfl,?_,List.append_assoc ..,?_,?_⟩
  ·rw[C2 (by first|omega|(simp only;omega)) (by first|omega|(simp only;omega))]
   rfl
  ·rw[<-Ai4]at own'
   rw[List.take_succ_eq_append_getElem hi',List.map_append,<-List.append_assoc]
   exact own'
  ·intro n hn
   rw[List.take_succ_eq_append_getElem hi']at hn
   rcases List.mem_append.1 hn with h3|h3
   ·exact hin n h3
   ·rw[List.mem_singleton.1 h3];omega
 ·obtain rfl:i=l.length:=by omega
  rw[List.take_length]at owns hin
  exact .app (.of ⟨sg,rfl,.inl ⟨hin,s,rfl,owns⟩⟩)
def W1(x:It):Prop:=0<=x.1/\x.1<=15/\0<=x.2.1/\x.2.1<=15/\1<=x.2.2.1/\x.2.2.1<=1073741824
instance (x:It):Decidable (W1 x):=by unfold W1;infer_instance
theorem Bf7(L:A4)(x:It):Reads PP 130 #[.agg #[.i x.1,.i x.2.1,.i x.2.2.1]] L (.b (decide (W1 x))):=by
 refine Reads.of (args:=[.agg #[.i x.1,.i x.2.1,.i x.2.2.1]]) B5 B6 Tryz.func130 (e130 x _) ?_
 unfold t130
 refine C3 fun n1 _=>?_
 generalize ho:(n1,Obj.cells #[.i x.1,.i x.2.1,.i x.2.2.1] 102)=o1
 have lc:D4 ⟨n1,0,none⟩ [.i x.1,.i x.2.1,.i x.2.2.1] (o1::L):=ldB (by rw[<-ho];exact List.mem_cons_self) rfl
 clear ho
 have lB:D4 ⟨n1,0,none⟩ [.i x.1] (o1::L):=lc.pre fun i u hu=>by cases i with|zero=>exact hu|succ i=>exact absurd (show(none:Option Value)=some u from hu) (by simp)
 have hno: ¬W1 x->HL.Ends (fun v' L'=>v'=Value.b (decide (W1 x))/\L'=L) (.b false) (o1::L):=fun h=>.cons (.of ⟨by rw[decide_eq_false h],rfl⟩)
 refine A6 x.1 lB (C0 (fun(h1:x.1≥0)=>?_) (fun(h1: ¬x.1≥0)=>hno (by unfold W1;omega)))
 refine A6 x.1 lB (C0 (fun(h2:x.1<16)=>?_) (fun(h2: ¬x.1<16)=>hno (by unfold W1;omega)))
 refine A6 x.2.1 (lc.one 1 rfl) (C0 (fun(h3:x.2.1≥0)=>?_) (fun(h3: ¬x.2.1≥0)=>hno (by unfold W1;omega)))
 refine A6 x.2.1 (lc.one 1 rfl) (C0 (fun(h4:x.2.1<16)=>?_) (fun(h4: ¬x.2.1<16)=>hno (by unfold W1;omega)))
 refine A6 x.2.2.1 (lc.one 2 rfl) (C0 (fun(h5:x.2.2.1≥1)=>?_) (fun(h5: ¬x.2.2.1≥1)=>hno (by unfold W1;omega)))
 refine A6 x.2.2.1 (lc.one 2 rfl) (.cons (.of ⟨?_,rfl⟩))
 congr 1
 rw[decide_eq_decide]
 exact⟨fun h=>⟨by omega,by omega,by omega,by omega,by omega,h⟩,fun h=>h.2.2.2.2.2⟩
def kb(x:It):List UInt8:=[A14 x.1,A14 x.2.1]++P2 x.2.2.1.toNat 4
theorem kb_len(x:It):(kb x).length=6:=by simp[kb,Aa6]
def allR(l:List It):Prop:= ∀x∈l,W1 x
instance (l:List It):Decidable (allR l):=by unfold allR;infer_instance
def S2(l:List It):List UInt8×Int:=if allR l then(l.flatMap kb,0)else([],3)
theorem Db8(l:List It):(l.flatMap kb).length=l.length*6:=by
 induction l with
 |nil=>rfl
 |cons x r ih=>rw[List.flatMap_cons,List.length_append,kb_len,ih,List.length_cons];omega
def C50(p:List UInt8×Int)(A:A4)(r:Value)(L':A4):Prop:= ∃g:PG,r= .t #[g.val,.i p.2]/\L'=g.seg++A/\g.Ok/\g.l=p.1
theorem Br2(A:A4)(v:SlV)(l:List It)(h:Sl A v 3 (l.flatMap O9))(hl:l.length<=1000):CallF PP 63 #[.slice v.a v.len v.cap] A (C50 (S2 l) A):=by
 refine CallF.of (args:=[.slice v.a v.len v.cap]) B5 B6 Tryz.func63 (e63 v _) ?_
 unfold t63
 have hvl:=h.els_len E1 (by decide)
 refine G0 (fun z' z L'=> ∃(i:Nat) (s:SlV) (sg J:A4),i<=l.length/\z'=l.length-i/\z=(s,(i:Int),())/\L'=sg++(J++A)/\Own s 1 eB (bvs ((l.take i).flatMap kb)) sg/\allR (l.take i)) l.length ⟨0,⟨none,0,0⟩,[],[],by omega,by omega,rfl,rfl,F4,by intro n hn;simp at hn⟩ ?_
 rintro z' z _ ⟨i,s,sg,J,hi,rfl,rfl,rfl,own,hall⟩
 refine C0 (fun(hlt:(i:Int)<(v.len:Int))=>?_) (fun(hge: ¬(i:Int)<(v.len:Int))=>?_)
 ·have hi':i<l.length:=by omega
  obtain⟨a,ha,l1⟩:=h.el E1 (by decide) hi'
  refine A5 ha (E0 (show(0:Int)<=(i:Int) by omega) hlt (A6 (l[i]:It) (by rw[Int.toNat_natCast];exact l1.mono fun x hx=>by simp[hx]) (C3 fun n1 _=>?_)))
  refine E3 (n:=n1) (off:=0) (c:=#[.i 0,.i 0,.i 0]) (T:=A12) (fz:=(0,0)) [] (sg++(J++A)) rfl rfl (by simp) (.inl (Nat.le_refl _)) #[.i l[i].1,.i l[i].2.1,.i l[i].2.2.1] rfl ?_
  rw[List.nil_append]
  generalize ho:((n1,Obj.cells #[.i l[i].1,.i l[i].2.1,.i l[i].2.2.1] A12):Nat×Obj)=o1
  have lc: ∀L:A4,o1∈L->D4 ⟨n1,0,none⟩ [.i l[i].1,.i l[i].2.1,.i l[i].2.2.1] L:=fun L hm=>ldB (by rw[<-ho]at hm;exact hm) rfl
  clear ho
  refine A6 (l[i]:It) (lc _ List.mem_cons_self) (B7 (Bf7 _ l[i]) (decide (W1 l[i]),()) rfl ?_)
  by_cases hr:W1 l[i]
  case neg=>
   rw[decide_eq_false hr]
   have hk:S2 l=([],3):=by unfold S2;rw[if_neg (fun hh=>hr (hh _ (List.getElem_mem hi')))]
   refine ifT rfl (.cons (.app (.app (.of ⟨pg0,by rw[hk];rfl,rfl,Bg6,by rw[hk];rfl⟩))))
  rw[decide_eq_true hr]
  have hr':=hr
  unfold W1 at hr'
  have hkl:=Db8 (l.take i)
  rw[List.length_take]at hkl
  refine ifF rfl (A6 l[i].1 ((lc _ List.mem_cons_self).pre fun i u hu=>by cases i with|zero=>exact hu|succ i=>exact absurd (show(none:Option Value)=some u from hu) (by simp)) (A6 l[i].2.1 ((lc _ List.mem_cons_self).one 1 rfl) (C3 fun n2 _=>?_)))
  generalize ho2:((n2,Obj.cells #[.i l[i].1,.i l[i].2.1] 3):Nat×Obj)=o2
  have hi2:ISl (o2::o1::(J++A)) ⟨some ⟨n2,0,none⟩,2,2⟩ .i64 [l[i].1,l[i].2.1]:=⟨rfl,Nat.le_refl _,.inr ⟨_,rfl,ldB (n:=n2) (off:=0) (T:=3) (fz:=(0,0)) (c:=#[.i l[i].1,.i l[i].2.1]) (by rw[ho2];exact List.mem_cons_self) rfl⟩⟩
  refine G5 (Bz4 (o2::o1::(J++A)) s _ sg own (by omega) ⟨some ⟨n2,0,none⟩,2,2⟩ [l[i].1,l[i].2.1] hi2 (by simp)) (R:=[]) ?_ ?_
  ·classical
   rw[List.perm_iff_count]
   intro x
   simp only[List.append_eq,List.cons_append,List.count_append,List.count_cons,List.count_nil]
   omega
  rintro _ _ ⟨sg2,rfl,⟨-,s2,rfl,own2⟩|⟨hn,-⟩⟩
  case inr=>exact absurd (show inB [l[i].1,l[i].2.1] by intro n hn;simp at hn;omega) hn
  refine⟨sg2++(o2::o1::(J++A)),by rw[List.append_nil],(s2,true,()),rfl,A6 l[i].2.2.1 ((lc _ (by simp)).one 2 rfl) ?_⟩
  have hl2:=own2.sl.len
  rw[E7,List.length_append,List.length_map]at hl2
  refine J5 [] [] (A70 (sg2++(o2::o1::(J++A))) s2 _ own2.sl.left (by rw[List.length_append,List.length_map];simp only[List.length_cons,List.length_nil];omega) l[i].2.2.1 4 (by omega)) (by simp) ?_
  rintro _ _-⟨s3,sg3,rfl,rfl,own3⟩
  rw[Ak0 (by decide) (by omega) (by show l[i].2.2.1.toNat<4294967296;omega)]at own3⊢
  rw[List.nil_append,List.append_nil]
  refine⟨(s3,0,()),rfl,l.length-(i+1),by omega,i+1,s3,sg3,sg2++(o2::o1::J),by omega,rfl,?_,by simp,?_,?_⟩
  ·rw[C2 (by first|omega|(simp only;omega)) (by first|omega|(simp only;omega))]
   rfl
  ·rw[List.take_succ_eq_append_getElem hi',List.flatMap_append,List.flatMap_singleton]
   unfold kb
   rw[<-List.append_assoc]
   exact own3
  ·intro n hn
   rw[List.take_succ_eq_append_getElem hi']at hn
   rcases List.mem_append.1 hn with h3|h3
   ·exact hall n h3
   ·rw[List.mem_singleton.1 h3];exact hr
 ·obtain rfl:i=l.length:=by omega
  rw[List.take_length]at own hall
  have hk:S2 l=(l.flatMap kb,0):=by unfold S2;rw[if_pos hall]
  unfold C50
  rw[hk]
  refine .drop (A:=sg++A) (J:=J) ⟨⟨s,sg,_⟩,rfl,rfl,own,rfl⟩ ?_
  classical
  rw[List.perm_iff_count]
  intro x
  simp only[List.append_eq,List.cons_append,List.count_append,List.count_cons,List.count_nil]
  omega
def Bg4(p:List UInt8)(i:Nat):It:=(((p.getD (i*6) 0).toNat:Int),((p.getD (i*6+1) 0).toNat:Int),(num ((p.drop (i*6+2)).take 4):Int),())
def pls(p:List UInt8)(n:Nat):List It:=(List.range n).map (Bg4 p)
theorem Bv5(p:List UInt8)(n:Nat):pls p (n+1)=pls p n++[Bg4 p n]:=by simp[pls,List.range_succ]
theorem Cb4(p:List UInt8)(n:Nat):(pls p n).length=n:=by simp[pls]
def Ac3(p:List UInt8):List It×Int:=if p.length%6≠0 then([],5)else if allR (pls p (p.length/6))then(pls p (p.length/6),0)else([],5)
def ItsK(e:TypeId)(q:List It×Int)(A:A4)(r:Value)(L':A4):Prop:= ∃(v:SlV) (seg:A4),r= .t #[.slice v.a v.len v.cap,.i q.2]/\L'=seg++A/\Own v 3 e (q.1.flatMap O9) seg
theorem ItsK.err{e:TypeId}{q:List It×Int}{A:A4}{z:Int}(h:q=([],z)):ItsK e q A (.t #[.slice none 0 0,.i z]) A:=⟨⟨none,0,0⟩,[],by rw[h],rfl,by rw[h];exact F4⟩
theorem Az5{b:List UInt8}{i:Nat}(h:i<b.length):b.getD i 0=b[i]:=by simp[List.getD_eq_getElem?_getD,h]
theorem B66(x:UInt8):IntKind.i64.wrap (x.toNat:Int)=(x.toNat:Int):=by
 have:=x.toNat_lt
 exact C2 (by omega) (by omega)
theorem Cu3(A:A4)(v:SlV)(p:List UInt8)(h:BSl A v p)(hl:p.length<=10000):CallF PP 170 #[.slice v.a v.len v.cap] A (ItsK A12 (Ac3 p) A):=by
 refine CallF.of (args:=[.slice v.a v.len v.cap]) B5 B6 Tryz.func170 (e170 v _) ?_
 unfold t170
 have hvl:=h.len
 have htm:Int.tmod (v.len:Int) 6=((p.length%6:Nat):Int):=by rw[Int.tmod_eq_emod_of_nonneg (by omega),hvl];omega
 refine Ab9 (by decide) ?_
 rw[htm]
 refine O2 (fun(h6:((p.length%6:Nat):Int)≠0)=>.of (ItsK.err (by unfold Ac3;rw[if_pos (by omega)]))) (fun(h6:((p.length%6:Nat):Int)=0)=>?_)
 obtain⟨n,hn⟩: ∃n,p.length=n*6:=⟨p.length/6,by omega⟩
 have hdiv:p.length/6=n:=by omega
 refine G0 (fun z' z L'=> ∃(i:Nat) (s b:SlV) (sg J:A4),i<=n/\z'=n-i/\z=(s,b,())/\L'=J++(sg++A)/\Own s 3 A12 ((pls p i).flatMap O9) sg/\allR (pls p i)/\BSl A b (p.drop (i*6))) n ⟨0,⟨none,0,0⟩,v,[],[],by omega,by omega,rfl,rfl,F4,by intro n hn;simp[pls]at hn,by simpa using h⟩ ?_
 rintro z' z _ ⟨i,s,b,sg,J,hi,rfl,rfl,rfl,own,hall,hb⟩
 have hbl:=hb.len
 rw[List.length_drop]at hbl
 have hbcap:=hb.cap
 have hs1:=own.sl.els_len E1 (by decide)
 rw[Cb4]at hs1
 refine C0 (fun(hgt:(b.len:Int)>0)=>?_) (fun(hle: ¬(b.len:Int)>0)=>?_)
 ·have hi':i<n:=by omega
  have hB:BSl (J++(sg++A)) b (p.drop (i*6)):=hb.right.right
  have hlen6:6<=(p.drop (i*6)).length:=by rw[List.length_drop];omega
  refine B7 (A71 _ b _ hB (by rw[List.length_drop];omega) 2 4) ((V9 (p.drop (i*6)) 2 4).1,(V9 (p.drop (i*6)) 2 4).2,()) rfl ?_
  have hwg:(V9 (p.drop (i*6)) 2 4).1=(num ((p.drop (i*6+2)).take 4):Int):=by
   have:=Bn4 (b:=p.drop (i*6)) (a:=2) (w:=4) (by decide) (by decide) (by omega)
   rw[List.drop_drop]at this
   exact congrArg Prod.fst this
  rw[hwg]
  obtain⟨a,ha⟩:=hB.some (i:=0) (by omega)
  have e0:(p.drop (i*6))[0]'(by omega)=p.getD (i*6) 0:=by rw[Az5 (by omega),List.getElem_drop];simp
  have e1:(p.drop (i*6))[1]'(by omega)=p.getD (i*6+1) 0:=by rw[Az5 (by omega),List.getElem_drop]
  have l0:=hB.rd (i:=0) (by omega) ha ((0:Int).toNat*1) rfl
  have l1:=hB.rd (i:=1) (by omega) ha ((1:Int).toNat*1) rfl
  rw[e0]at l0
  rw[e1]at l1
  refine A5 ha (E0 (by decide) (show(0:Int)<(b.len:Int) by omega) (A5 ha (E0 (by decide) (show(1:Int)<(b.len:Int) by omega) (A6 ((p.getD (i*6) 0).toNat:Int) l0 (A6 ((p.getD (i*6+1) 0).toNat:Int) l1 (C3 fun n1 _=>?_))))))
  rw[B66,B66]
  refine E3 (n:=n1) (off:=0) (c:=#[.i 0,.i 0,.i 0]) (T:=A12) (fz:=(0,0)) [] (J++(sg++A)) rfl rfl (by simp) (.inl (Nat.le_refl _)) #[.i (Bg4 p i).1,.i (Bg4 p i).2.1,.i (Bg4 p i).2.2.1] rfl ?_
  rw[List.nil_append]
  refine A6 (Bg4 p i) (ldB List.mem_cons_self rfl) (B7 (Bf7 _ (Bg4 p i)) (decide (W1 (Bg4 p i)),()) rfl ?_)
  by_cases hr:W1 (Bg4 p i)
  case neg=>
   rw[decide_eq_false hr]
   have hk:Ac3 p=([],5):=by
    unfold Ac3
    rw[if_neg (by omega),hdiv,if_neg (fun hh=>hr (hh _ (List.mem_map.2 ⟨i,List.mem_range.2 hi',rfl⟩)))]
   exact ifT rfl (.cons (.app (.app (.of (ItsK.err hk)))))
  rw[decide_eq_true hr]
  refine ifF rfl (A6 (Bg4 p i) (ldB List.mem_cons_self rfl) (C3 fun n2 _=>?_))
  generalize ((n1,Obj.cells #[.i (Bg4 p i).1,.i (Bg4 p i).2.1,.i (Bg4 p i).2.2.1] A12):Nat×Obj)=o1
  refine E6 Ap8 Bt9 ((n2,Obj.cells #[.i (Bg4 p i).1,.i (Bg4 p i).2.1,.i (Bg4 p i).2.2.1] A12)::o1::J) A own (by simp) (n:=1) (ws:=O9 (Bg4 p i)) (x:=.slice (some ⟨n2,0,none⟩) 1 1) (Src.sl (v:=⟨some ⟨n2,0,none⟩,1,1⟩) ⟨rfl,Nat.le_refl _,.inr ⟨_,rfl,ldB List.mem_cons_self rfl⟩⟩) rfl (by omega) fun s2 sg2 hs2 own2=>?_
  refine K4 (l':=6) (h':=b.len) (m':=b.cap) rfl rfl rfl (by omega) (by omega) (Nat.le_refl _) ?_
  have hcut:BSl A (P1 b ((6:Nat):Int) (b.len:Int) (b.cap:Int) 1) (p.drop ((i+1)*6)):=by
   have h0:=Sl.slc (m:=b.cap) hb (by decide) (l:=6) (h':=b.len) (by omega) (by omega) (by omega)
   rw[Ah1,List.take_of_length_le (by rw[List.length_drop,List.length_drop];omega),List.drop_drop]at h0
   rw[show(i+1)*6=i*6+6 by omega]
   exact h0
  refine⟨n-(i+1),by omega,i+1,s2,_,sg2,_,by omega,rfl,rfl,List.append_assoc ..,?_,?_,hcut⟩
  ·rw[Bv5,List.flatMap_append,List.flatMap_singleton];exact own2
  ·intro x hx
   rw[Bv5]at hx
   rcases List.mem_append.1 hx with h3|h3
   ·exact hall x h3
   ·rw[List.mem_singleton.1 h3];exact hr
 ·obtain rfl:i=n:=by omega
  have hk:Ac3 p=(pls p i,0):=by unfold Ac3;rw[if_neg (by omega),hdiv,if_pos hall]
  exact .app (.of ⟨s,sg,by rw[hk],rfl,by rw[hk];exact own⟩)
end Go.Proofs.YtbaoieipijmakaaGreatDoor
