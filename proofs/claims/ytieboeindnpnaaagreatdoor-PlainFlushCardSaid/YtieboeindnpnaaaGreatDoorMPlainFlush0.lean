/-
  It is proved what the functions that the law PlainFlush reaches compute, part 0. There are no further conditions than those that each theorem names.
-/
import Derived.Orders
import Derived.LoopN
import Derived.Below
import Derived.KernelRfl
import Derived.Laws.Cells
import Derived.Scope
import Derived.Laws.AppendOwn
import Derived.IntWalk
import Derived.Laws.BytesString
import Derived.Laws.MakeOwn
import Derived.Deep.Slices
import Derived.ChangeArms
import Derived.WideShapes
import Derived.Laws.StructEq
import Derived.ChangeKeysEq
import Derived.SizedLaws
set_option linter.defProp false
set_option linter.unusedSimpArgs false
namespace Go.HL
variable{a a' a0:Act}{ad:Addr}{es:Array MapEntry}{ops:Array Oper}{args c captured new ys:Array Value}{op:BinOp}{held:Bool}{y:Code}{fn:Func}{f:FuncId}{h:Int}{ik k:IntKind}{ps:List MemPlace}{S:List Nat}{l:List UInt8}{vs ws xs:List Value}{b b0 clock h' i m n off r sCap sLen sz:Nat}{sp:Nat->Bool}{fz:Nat×Nat}{p:Nat×Obj}{ob:Obj}{o x:Oper}{base:Option Addr}{dst:Option Tmp}{P:Program}{s:Sem Value}{α:Type}{d:TypeDesc}{e et kt t t2 ty:TypeId}{v z:Value}{E w w':World}
def ND:= @if_neg
def NE:= @if_pos
def NF:= @Nat.le_refl
def NG:= @List.mem_cons_self
def NH:= @List.Perm.refl
def NI:= @Option.some.inj
def NJ:= @List.mem_append
def NK:= @Int.toNat_natCast
def NL:= @List.length_map
def NM:= @List.mem_singleton
def NN:= @List.mem_cons_of_mem
def NO:= @List.getElem_mem
def NP:= @List.append_nil
def NQ:= @List.map_append
def NR:= @List.length_append
def NS:= @List.map_cons
def NT:= @List.nil_append
def NU:= @List.length_cons
def NV:= @List.getElem?_eq_getElem
def NW:= @List.length_take
def NX:= @List.getD_eq_getElem?_getD
def NY:= @List.mem_map
def NZ:= @List.append_assoc
def OA:= @List.mem_append_left
def OB:= @List.take_succ_eq_append_getElem
def OC:= @List.mem_cons
def OD:= @List.flatMap_append
def OE:= @List.take_length
def OF:= @decide_eq_false
def OG:= @List.mem_append_right
def OH:= @decide_eq_true
def OI:= @List.mem_filter
def OJ:= @List.length_drop
def OK:= @Nat.le_trans
def OL:= @List.flatMap_cons
def OM:= @List.cons_append
def ON:= @List.perm_iff_count
def OO:= @List.map_map
def OP:= @List.count_append
def OQ:= @List.mem_map_of_mem
def OS:= @Nat.mul_one
def OT:= @List.perm_append_comm
def OU:= @List.getElem?_map
def OV:= @List.count_cons
def OW:= @List.nodup_cons
def OX:= @List.length_nil
def OY:= @List.mem_flatMap
def OZ:= @List.drop_eq_getElem_cons
def PA:= @Decidable.not_not
def PC:= @List.perm_middle
def PD:= @Nat.mul_le_mul_right
def PE:= @List.length_replicate
def PF:= @of_decide_eq_true
def PJ:= @List.count_nil
def PL:= @List.getElem?_eq_some_iff
def PM:= @List.append_eq
def PO:= @Bool.and_eq_true
def PQ:= @Nat.zero_le
def PR:= @List.take_append_drop
def PS:= @not_or
def PU:= @List.flatMap_singleton
def PW:= @List.eq_of_mem_replicate
def PY:= @Nat.lt_or_ge
def PZ:= @List.take_of_length_le
def QA:= @List.nodup_append
def QB:= @List.drop_drop
def QC:= @Prod.mk.injEq
def QF:= @Nat.min_eq_left
def QG:= @List.getElem_map
def QI:= @List.mem_of_getElem?
def QJ:= @Int.le_refl
def QK:= @Nat.sub_zero
def QM:= @List.all_eq_true
def QN:= @Bool.false_eq_true
def QO:= @Nat.zero_add
def QP:= @Nat.mod_lt
def QQ:= @Decidable.byContradiction
def QR:= @decide_eq_true_eq
def QS:= @List.filter_cons
def QT:= @List.mem_range
def QU:= @Nat.add_zero
def QV:= @Nat.succ_mul
def QW:= @List.pairwise_cons
def QX:= @List.getElem?_append_left
def QY:= @List.getElem?_append_right
def QZ:= @List.filter_append
def RA:= @List.filter_eq_self
def RB:= @List.append_of_mem
def RC:= @List.map_singleton
def RE:= @List.getElem?_modify
def RF:= @List.getElem?_take
def RG:= @List.length_eq_zero_iff
def RH:= @Nat.eq_of_beq_eq_true
def RJ:= @Option.some.injEq
def RL:= @Nat.zero_mul
def RM:= @List.replicate_succ
def RO:= @Option.map_some
def RP:= @List.mem_of_mem_take
def RQ:= @List.length_set
def RR:= @List.find?_eq_none
def RS:= @List.length_filter_le
def RT:= @List.Sublist.refl
def RU:= @List.foldl_cons
def RV:= @Nat.add_mul
def RW:= @List.getElem?_drop
def RX:= @List.getElem?_set
def RY:= @List.drop_zero
def RZ:= @Option.toList_some
def SA:= @List.findIdx?_eq_some_iff_getElem
def SD:= @List.findIdx?_eq_none_iff
def SE:= @List.getElem?_replicate
def SF:= @Array.getElem?_eq_some_iff
def SI:= @List.getElem?_eq_none
def SJ:= @List.nodup_nil
def SM:= @Array.length_toList
def SN:= @List.map_take
def SQ:= @Nat.sub_self
def SR:= @List.take_left'
def SS:= @List.length_singleton
def SV:= @List.mem_of_mem_drop
def SW:= @List.length_range
def SY:= @List.mem_take_iff_getElem
def SZ:= @List.pairwise_map
def TA:= @List.map_congr_left
def TB:= @Array.getElem?_setIfInBounds_ne
def TC:= @List.getElem?_cons_succ
def TD:= @Int.natCast_mul
def TE:= @List.getElem?_toArray
def TF:= @List.find?_cons_of_pos
def TG:= @List.drop_left'
def TH:= @List.perm_cons
def TI:= @Int.tmod_eq_emod_of_nonneg
def TJ:= @Int.toNat_of_nonneg
def TK:= @List.length_erase_le
def TL:= @List.pairwise_iff_getElem
def TM:= @List.getElem_of_mem
def TO:= @List.Perm.swap
def TP:= @Bool.or_eq_true
def TQ:= @Array.ext_getElem?
def TR:= @Nat.add_assoc
def TS:= @List.Perm.cons
def TT:= @BitVec.toNat_ofInt
def TU:= @List.Perm.append_right
def TV:= @List.find?_cons_of_neg
def TW:= @List.drop_of_length_le
def TX:= @List.range_succ
def TY:= @Nat.pow_succ
def TZ:= @Int.tdiv_eq_ediv_of_nonneg
def UA:= @List.getElem_drop
def UB:= @Int.add_mul
def UC:= @List.eraseP_sublist
def UD:= @Option.isSome_map
def UE:= @Option.getD_some
def UF:= @List.mem_filterMap
def UG:= @of_decide_eq_false
def UH:= @Array.size_append
def UI:= @Int.fdiv_eq_ediv_of_nonneg
def UJ:= @Int.le_of_lt
def UK:= @Nat.pow_le_pow_right
def UL:= @List.ext_getElem?
def UM:= @List.map_drop
def UN:= @List.cons.injEq
def UO:= @beq_eq_false_iff_ne
def UP:= @List.flatten_cons
def UQ:= @UInt8.toNat_inj
def UR:= @decide_eq_decide
def US:= @List.all_eq_false
def UT:= @Bool.eq_iff_iff
def UU:= @Nat.le_succ
def UV:= @List.map_nil
def UW:= @List.length_eraseP_le
def UX:= @List.mem_of_find?_eq_some
def UY:= @List.length_modify
def UZ:= @List.ext_getElem
def VA:= @List.filter_map
def VB:= @Array.size_setIfInBounds
def VC:= @Array.ext'
def VD:= @Int.not_lt
def VE:= @List.mapM_cons
def VF:= @Option.bind_eq_some_iff
def VG:= @Nat.ne_of_beq_eq_false
def VH:= @List.size_toArray
def VI:= @Nat.eq_zero_or_pos
def VJ:= @List.length_take_le
def VK:= @Nat.mul_comm
def VL:= @Nat.div_eq_of_lt
def VM:= @Nat.sub_mul
def VN:= @Array.toList_push
def VO:= @Array.toList_modify
def VP:= @Nat.add_sub_cancel_left
def VQ:= @Option.map_eq_some_iff
def VR:= @List.take_zero
def VS:= @List.not_mem_nil
def VT:= @List.replicate_succ'
def VU:= @List.all_append
def VV:= @Option.map_map
def VW:= @List.set_append
def VX:= @List.set_cons_zero
def VY:= @List.mem_or_eq_of_mem_set
def VZ:= @List.getElem_append_right
def WA:= @List.filterMap_append
def WB:= @List.length_filterMap_le
def WC:= @List.filterMap_cons
def WE:= @List.getElem?_set_self
def WF:= @Int.mul_nonneg
def WG:= @List.getElem?_set_ne
def WH:= @Int.le_trans
def WI:= @List.length_pos_of_mem
def WJ:= @Array.getElem?_push
def WL:= @Nat.le_of_not_lt
def WM:= @Array.getElem?_eq_none
def WN:= @Array.all_eq_true_iff_forall_mem
def WO:= @Bool.not_eq_true'
def WP:= @List.perm_ext_iff_of_nodup
def WQ:= @decide_eq_false_iff_not
def WT:= @Array.mem_of_getElem?
def WU:= @Nat.le_of_ble_eq_true
def WV:= @Array.getElem?_append_left
def WW:= @List.getElem?_append
def WX:= @Bool.false_and
def WY:= @Array.size_map
def WZ:= @Array.size_replicate
def XA:= @Array.getElem?_toList
def XB:= @Nat.lt_of_lt_of_le
def XC:= @List.getElem?_cons_zero
def XD:= @List.mem_iff_getElem
def XE:= @BitVec.toNat_ushiftRight
def XF:= @Nat.shiftRight_eq_div_pow
def XG:= @Array.toList_inj
def XH:= @Nat.pow_pos
def XI:= @List.Perm.append_left
def XJ:= @Int.natCast_nonneg
def XK:= @Int.natCast_add
def XL:= @List.append_inj
def XM:= @Bool.eq_false_iff
def XN:= @Classical.not_not
def XO:= @List.drop_length
def XP:= @Int.natCast_zero
def XQ:= @Int.add_zero
def XR:= @List.foldl_append
def XS:= @List.reverse_append
def XT:= @List.reverse_cons
def XU:= @List.set_append_right
def XV:= @List.flatMap_map
def XW:= @List.eraseP_of_forall_not
def XX:= @List.length_erase_of_mem
def XY:= @List.erase_of_not_mem
def XZ:= @List.sum_cons
def YA:= @List.getElem_range
def YB:= @List.filter_congr
def YC:= @List.find?_append
def YD:= @List.map_id
def YE:= @Option.map_eq_map
def YF:= @List.perm_append_comm_assoc
def YG:= @Array.getD_eq_getD_getElem?
def YH:= @Array.getElem?_modify
def YI:= @Array.mapM_eq_mapM_toList
def YJ:= @Array.getElem?_eq_getElem
def YK:= @List.mem_zipIdx_iff_getElem?
def YL:= @List.modify_succ_cons
def YM:= @Nat.div_div_eq_div_mul
def YN:= @List.drop_replicate
def YO:= @List.getElem?_take_of_lt
def YP:= @Int.mul_le_mul_of_nonneg_right
def YQ:= @List.drop_eq_nil_of_le
def YR:= @List.getElem?_range
def YS:= @List.find?_eq_some_iff_append
def YT:= @List.eraseP_append_right
def YU:= @List.eraseP_cons_of_pos
def YV:= @List.modify_eq_take_cons_drop
def YW:= @List.take_set_of_le
def YX:= @List.getElem_set_self
def YY:= @List.drop_set_of_lt
def YZ:= @List.take_append_of_le_length
def ZA:= @List.pairwise_append
def ZB:= @List.getD_cons_zero
def ZC:= @List.Pairwise.of_map
def ZD:= @List.range_succ_eq_map
def ZE:= @List.getElem_modify
def ZF:= @Int.ediv_lt_of_lt_mul
def ZG:= @List.filter_eq_nil_iff
def ZH:= @List.mem_of_mem_head?
def ZI:= @UInt8.lt_iff_toNat_lt
set_option linter.unusedVariables false
abbrev B1:=List (Nat×Obj)
variable{A F J L L' R X Y seg:B1}
abbrev HP:=B1->Prop
variable{Q:Exit->Act->HP}{B N φ:HP}{K:Value->HP}
structure J4(E w:World)(L:B1):Prop where
 nd:(L.map Prod.fst).Nodup
 blk: ∀p,p∈L->w.heap[p.1]?=some p.2
 os:w.os=E.os
 tape:w.tape=E.tape
 output:w.output=E.output
def O3(L:B1):Prop:= ∃E F w,J4 E w (L++F)
def J4.perm(h:J4 E w L)(p:L.Perm L'):J4 E w L':=
 ⟨(p.map Prod.fst).nodup_iff.1 h.nd,fun q hq=>h.blk q (p.mem_iff.2 hq),h.os,h.tape,h.output⟩
def J4.left{B:B1}(h:J4 E w (A++B)):J4 E w A:=by
 refine⟨?_,fun q hq=>h.blk q (OA _ hq),h.os,h.tape,h.output⟩;have:=h.nd;rw[NQ,QA]at this;exact this.1
def J4.drew(h:J4 E w L)(d:Nat):J4 E {w with drawn:=d} L:=⟨h.nd,h.blk,h.os,h.tape,h.output⟩
def J4.lt(h:J4 E w L)(hp:p∈L):p.1<w.heap.size:=
 (SF.1 (h.blk p hp)).1
def J4.push(h:J4 E w L)(o:Obj):J4 E {w with heap:=w.heap.push o} ((w.heap.size,o)::L):=by
 refine⟨?_,?_,h.os,h.tape,h.output⟩
 ·rw[NS,OW];refine⟨fun hm=>?_,h.nd⟩;obtain⟨q,hq,he⟩:=NY.1 hm;have:=h.lt hq;simp at he;omega
 ·intro p hp;rcases OC.1 hp with rfl|hp
  ·simp
  ·have:=h.lt hp;simp only[WJ];rw[ND (by omega)];exact h.blk p hp
def J4.put{B:B1}{o:Obj}(h:J4 E w (A++(b,o)::B))(o':Obj):
  J4 E {w with heap:=w.heap.setIfInBounds b o'} (A++(b,o')::B):=by
 have hb:b<w.heap.size:=h.lt (p:=(b,o)) (by simp);have aZ:=h.nd;refine⟨by simpa using aZ,?_,h.os,h.tape,h.output⟩;rw[NQ,NS,QA,OW]at aZ;intro p hp;by_cases nR:p.1=b
 ·have:p=(b,o'):=by
   rcases NJ.1 hp with hp|hp
   ·exact absurd nR (aZ.2.2 p.1 (NY.2 ⟨p,hp,rfl⟩) b (by simp))
   ·rcases OC.1 hp with hp|hp
    ·exact hp
    ·exact absurd (NY.2 ⟨p,hp,nR⟩) aZ.2.1.1
  subst this;simp[hb]
 ·have hZ:b≠p.1:=fun e=>nR e.symm;simp only[TB hZ];refine h.blk p ?_;rcases NJ.1 hp with hp|hp
  ·exact OA _ hp
  ·rcases OC.1 hp with rfl|hp
   ·exact absurd rfl nR
   ·exact OG _ (NN _ hp)
def Ko:Exit->Act->World->Prop:=fun _ _ _=>False
def W8(P:Program)(o:Oper)(a:Act)(L:B1)(K:Act->HP):Prop:=
 ∀E F w next,J4 E w (L++F)->(∀a' w' L',J4 E w' (L'++F)->K a' L'->next a' w')->o.wp P a w next Ko
def N7(P:Program)(c:Code)(Q:Exit->Act->HP)(a:Act)(L:B1):Prop:=
 ∀E F w,J4 E w (L++F)->c.wp P (fun e a' w'=> ∃L',J4 E w' (L'++F)/\Q e a' L') a w
def CallF(P:Program)(f:FuncId)(args:Array Value)(L:B1)(K:Value->HP):Prop:=
 ∀E F w,J4 E w (L++F)->Calls P f args w fun e w'=> ∃v L',e= .returned v/\J4 E w' (L'++F)/\K v L'
section
variable {P:Program}
def Ay7{K:Act->World->Prop}{Q:Exit->Act->World->Prop}(h:o.wp P a w K Ko):o.wp P a w K Q:=by
  unfold Oper.wp at*;generalize (execOp a.eval o).run P w=r at*;cases r with
  |ok n w'=>
    cases n<;>simp only[Oper.upon]at h⊢ <;>
      first
        |exact h
        | (refine Calls.mono h fun e w'' he=>?_
           cases e
           · exact he
           · exact he.elim
           · obtain⟨_,_,hf⟩:=he;exact hf.elim)
  |halt x w'=>cases x<;>simp only[Oper.upon]at h⊢ <;>exact h.elim
def Ay4{K:Act->World->Prop}(h:o.wp P a w K Ko): ∃a' w',K a' w':=by
  unfold Oper.wp at h;generalize (execOp a.eval o).run P w=r at h;cases r with
  |ok n w'=>
    cases n<;>simp only[Oper.upon]at h<;>
      first
        |exact⟨_,_,h⟩
        | (obtain⟨e,w'',fr,he,_⟩:=h []
           cases e
           · exact⟨_,_,he⟩
           · exact he.elim
           · obtain⟨_,_,hf⟩:=he;exact hf.elim)
        | (obtain⟨v,w'',he,_⟩:=h default []
           exact⟨_,_,he⟩)
  |halt x w'=>cases x<;>simp only[Oper.upon]at h<;>exact h.elim
def Ay6(aF:x.apart ops o=true)(hs: ∀cs b,o.op≠ .select cs b){K:Act->World->Prop}
  (h:o.wp P (a.put x.dst v) w K Ko):o.wp P a w (fun a' w'=>(∃u,a'.tmps=(a.put o.dst u).tmps)/\K (a'.put x.dst v) w') Ko:=by
 obtain⟨h1,h2,h3⟩:=Oper.apart_spec aF;unfold Oper.wp at*;rw[execOp_put o hs a x.dst v h1]at h;generalize (execOp a.eval o).run P w=r at*;cases r with
 |ok n w'=>
  cases n<;>simp only[Oper.upon]at h⊢
  case value u=>exact⟨⟨u,rfl⟩,by rw[<-Act.put_comm a v u h2];exact h⟩
  case skip=>exact⟨⟨undef,rfl⟩,by rw[<-Act.put_comm a v undef h2];exact h⟩
  case defer d=>
   refine⟨⟨undef,?_⟩,?_⟩
   ·cases o.dst<;>rfl
   ·rw[<-Act.put_comm _ v undef h2,<-Act.put_defers];exact h
  case enter f args=>
   refine Calls.mono h fun e w'' he=>?_;cases e with
   |returned u=>exact⟨⟨u,rfl⟩,by rw[<-Act.put_comm a v u h2];exact he⟩
   |panicked c=>exact he
   |outgrown=>obtain⟨_,_,hf⟩:=he;exact hf.elim
  case row row args=>exact Rows.mono h fun u w'' he=>⟨⟨u,rfl⟩,by rw[<-Act.put_comm a v u h2];exact he⟩
 |halt x w'=>cases x<;>simp only[Oper.upon]at h⊢ <;>exact h
def W8.mono{K K':Act->HP}(h:W8 P o a L K)(hk: ∀a' L',O3 L'->K a' L'->K' a' L'):W8 P o a L K':=
 fun E F w next hw hn=>h E F w next hw fun a' w' L' aI hK=>hn a' w' L' aI (hk a' L' ⟨E,F,w',aI⟩ hK)
def W8.perm{K:Act->HP}(p:L.Perm L')(h:W8 P o a L K):W8 P o a L' K:=
 fun E F w next hw hn=>h E F w next (hw.perm (p.symm.append_right F)) hn
def W8.some{K:Act->HP}(hs:O3 L)(h:W8 P o a L K): ∃a' L',K a' L':=by
 obtain⟨E,F,w,hw⟩:=hs;obtain⟨a',w',L',hK⟩:=Ay4 (h E F w (fun a' w'=> ∃L',K a' L') hw fun a' w' L' _ hK=>⟨L',hK⟩);exact⟨a',L',hK⟩
def N7.mono{c:Code}{Q':Exit->Act->HP}(h:N7 P c Q a L)(hq: ∀e a' L',Q e a' L'->Q' e a' L'):N7 P c Q' a L:=
 fun E F w hw=>wp_mono (h E F w hw) fun e a' w' ⟨L',aI,hQ⟩=>⟨L',aI,hq _ _ _ hQ⟩
def CallF.mono{K':Value->HP}(h:CallF P f args L K)(hk: ∀v L',O3 L'->K v L'->K' v L'):CallF P f args L K':=
 fun E F w hw=>Calls.mono (h E F w hw) fun e w' ⟨v,L',he,aI,hK⟩=>⟨v,L',he,aI,hk v L' ⟨E,F,w',aI⟩ hK⟩
def CallF.perm(p:L.Perm L')(h:CallF P f args L K):CallF P f args L' K:=
 fun E F w hw=>h E F w (hw.perm (p.symm.append_right F))
def CallF.frame(h:CallF P f args L K):CallF P f args (L++R) fun v L'=> ∃L1,L'=L1++R/\K v L1:=
 fun E F w hw=>Calls.mono (h E (R++F) w (by rw[<-NZ];exact hw)) fun e w' ⟨v,L',he,aI,hK⟩=>
  ⟨v,L'++R,he,by rw[NZ];exact aI,L',rfl,hK⟩
def IZ(next:Act->HP)(Q:Exit->Act->HP):Exit->Act->HP
 | .normal,a,L=>next a L
 |e,a,L=>Q e a L
def N7.seq{x:Code}(h:N7 P x (IZ (N7 P y Q) Q) a L):N7 P (x.seq y) Q a L:=
 fun E F w hw=>wp_seq (wp_mono (h E F w hw) fun e a' w' ⟨L',aI,hQ⟩=>by
  cases e with
  |normal=>exact hQ E F w' aI
  |exit id=>exact⟨L',aI,hQ⟩
  |goto l=>exact⟨L',aI,hQ⟩
  |ret=>exact⟨L',aI,hQ⟩
  |panic c=>exact⟨L',aI,hQ⟩
  |outgrown=>exact⟨L',aI,hQ⟩)
def N7.skip(h:Q .normal a L):N7 P .skip Q a L:=fun _ _ _ hw=>wp_skip ⟨L,hw,h⟩
def N7.exit{id:Nat}(h:Q (.exit id) a L):N7 P (.exit id) Q a L:=fun _ _ _ hw=>wp_exit ⟨L,hw,h⟩
def N7.ret(h:Q .ret a L):N7 P .ret Q a L:=fun _ _ _ hw=>wp_ret ⟨L,hw,h⟩
def N7.cond{c:Operand}{x:Code}{t:Bool}(hc:a.eval c= .bool t)(h:N7 P (if t then x else y) Q a L):
 N7 P (.cond c x y) Q a L:=fun E F w hw=>wp_cond hc (h E F w hw)
def GT(id:Nat)(Q:Exit->Act->HP):Exit->Act->HP
 | .exit id',a,L=>if id'=id then Q .normal a L else Q (.exit id') a L
 |e,a,L=>Q e a L
def N7.block{id:Nat}{c:Code}(h:N7 P c (GT id Q) a L):N7 P (.block id c) Q a L:=
 fun E F w hw=>wp_block (wp_mono (h E F w hw) fun e a' w' ⟨L',aI,hQ⟩=>by
  cases e with
  |exit id'=>
   simp only[GT]at hQ;simp only[Exit.inBlock];split
   ·rename_i e;subst e;simp only[if_true]at hQ;exact⟨L',aI,hQ⟩
   ·rename_i e;rw[ND e]at hQ;exact⟨L',aI,hQ⟩
  |normal=>exact⟨L',aI,hQ⟩
  |goto l=>exact⟨L',aI,hQ⟩
  |ret=>exact⟨L',aI,hQ⟩
  |panic c=>exact⟨L',aI,hQ⟩
  |outgrown=>exact⟨L',aI,hQ⟩)
def N7.loop{c:Code}(I:Nat->Act->HP){k:Nat}(h0:I k a L)
  (round: ∀k a L,I k a L->N7 P c (IZ (fun a' L'=> ∃k',k'<k/\I k' a' L') Q) a L):N7 P (.loop c) Q a L:=by
 intro E F w hw;refine wp_loop_rounds (k+1) ?_;have key: ∀n k a L w,k<n->I k a L->J4 E w (L++F)->Code.rounds P c (fun e a' w'=> ∃L',J4 E w' (L'++F)/\Q e a' L') n a w:=by
  intro n;induction n with
  |zero=>intro k a L w hk;omega
  |succ n ih=>
   intro k a L w hk hI hw;rw[rounds_succ];refine wp_mono (round k a L hI E F w hw) fun e a' w' ⟨L',aI,hQ⟩=>?_;cases e with
   |normal=>
    obtain⟨k',cA,oV⟩:=hQ;exact ih k' a' L' w' (by omega) oV aI
   |exit id=>exact⟨L',aI,hQ⟩
   |goto l=>exact⟨L',aI,hQ⟩
   |ret=>exact⟨L',aI,hQ⟩
   |panic c=>exact⟨L',aI,hQ⟩
   |outgrown=>exact⟨L',aI,hQ⟩
 exact key (k+1) k a L w (by omega) h0 hw
end
inductive Cls where|P|R|A|W
 deriving DecidableEq
def Hb(P:Program)(s:Sem Next)(L:B1)(v:Value):Prop:= ∀E F w,J4 E w (L++F)->s.run P w= .ok (.value v) w
abbrev Bg:=List (Nat×Sem Next×Value)
variable{T:Bg}
abbrev KT:=Act->Bg->HP
variable{K':KT}
def Ax5(P:Program)(s:Sem Next)(n:Nat)(ob:Obj)(v:Value):Prop:=
 ∃(w:World) (d:Nat),w.heap.size=n/\s.run P w= .ok (.value v) {w with heap:=w.heap.push ob,drawn:=d}
def Ax6(P:Program)(s:Sem Next):Prop:= ∀w:World,∃ob v d,s.run P w= .ok (.value v) {w with heap:=w.heap.push ob,drawn:=d}
section
variable {P:Program} {ops:Array Oper} {anc:Nat->Nat->Bool}
def Hb.mono{s:Sem Next}(h:Hb P s L v):Hb P s (R++L) v:=fun E F w hw=>
 h E (R++F) w (hw.perm (by rw[NZ];exact(YF R L F)))
def Hb.perm{s:Sem Next}(p:L.Perm L')(h:Hb P s L v):Hb P s L' v:=
 fun E F w hw=>h E F w (hw.perm (p.symm.append_right F))
def O3.perm(p:L.Perm L')(h:O3 L):O3 L':=by
 obtain⟨E,F,w,hw⟩:=h;exact⟨E,F,w,hw.perm (p.append_right F)⟩
def Q5(ops:Array Oper)(o:Oper)(a:Act):Bool:=Region.wanted o (yielded ops a.tmps)
def N5(P:Program)(ops:Array Oper)(o:Oper)(K:KT):KT:=fun a T L=> ∃v,Yields P ops o v a/\K (a.put o.dst v) T L
def V5(P:Program)(ops:Array Oper)(i:Nat)(o:Oper)(K:KT):KT:=fun a T L=>
 Q5 ops o a=true/\ ∃v,Hb P (execOp a.eval o) L v/\K (a.put o.dst v) ((i,execOp a.eval o,v)::T) L
def T4(P:Program)(ops:Array Oper)(o:Oper)(K:KT):KT:=fun a T L=>
 Q5 ops o a=true/\Ax6 P (execOp a.eval o)/\ ∀n ob v,Ax5 P (execOp a.eval o) n ob v->O3 ((n,ob)::L)->K (a.put o.dst v) T ((n,ob)::L)
def Ot(P:Program)(anc:Nat->Nat->Bool)(i:Nat)(T:Bg):HP:=fun L'=> ∀q∈T,anc q.1 i=false->Hb P q.2.1 L' q.2.2
def Bl(P:Program)(ops:Array Oper)(anc:Nat->Nat->Bool)(i:Nat)(o:Oper)(K:KT):KT:=fun a T L=>
 Q5 ops o a=true/\W8 P o a L fun a' L'=>Ot P anc i T L'/\K a' T L'
def Y7(ops:Array Oper)(o:Oper)(K:KT):KT:=fun a T L=>Q5 ops o a=false/\K (a.put o.dst undef) T L
def R5(P:Program)(ops:Array Oper)(anc:Nat->Nat->Bool)(c:Cls)(i:Nat)(o:Oper)(K:KT):KT:=fun a T L=>
 match c with
 | .P=>N5 P ops o K a T L
 | .R=>Y7 ops o K a T L\/V5 P ops i o K a T L
 | .A=>Y7 ops o K a T L\/T4 P ops o K a T L
 | .W=>Y7 ops o K a T L\/Bl P ops anc i o K a T L
def U8(P:Program)(ops:Array Oper)(anc:Nat->Nat->Bool)(H9:Nat->Cls)(Q:Act->HP):List Nat->KT
 |[]=>fun a _ L=> ∃L',L.Perm L'/\Q a L'
 |i::r=>fun a T L=>match ops[i]? with
  |some o=>R5 P ops anc (H9 i) i o (U8 P ops anc H9 Q r) a T L
  |none=>False
def Vi(K:KT):Prop:= ∀a T L L',L.Perm L'->K a T L->K a T L'
def Vh(K:KT):Prop:= ∀a (T T':Bg) L,(∀q∈T',q∈T)->K a T L->K a T' L
def Ot.sub{T':Bg}(hs: ∀q∈T',q∈T)(h:Ot P anc i T L):Ot P anc i T' L:=fun q hq ha=>h q (hs q hq) ha
def Ot.cons(h:Ot P anc i T L):Ot P anc i T (p::L):=fun q hq ha=>Hb.mono (R:=[p]) (h q hq ha)
def N5.mono{K:KT}(hs:O3 L)(hk: ∀v T L,O3 L->K (a.put o.dst v) T L->K' (a.put o.dst v) T L)(h:N5 P ops o K a T L):N5 P ops o K' a T L:=by
 obtain⟨v,hy,hK⟩:=h;exact⟨v,hy,hk _ _ _ hs hK⟩
def Y7.mono{K:KT}(hs:O3 L)(hk: ∀v T L,O3 L->K (a.put o.dst v) T L->K' (a.put o.dst v) T L)(h:Y7 ops o K a T L):Y7 ops o K' a T L:=
 ⟨h.1,hk _ _ _ hs h.2⟩
def Y7.toP{K:KT}(h:Y7 ops o K a T L):N5 P ops o K a T L:=⟨undef,.inr ⟨h.1,rfl⟩,h.2⟩
def N5.toS{K:KT}(hw:Q5 ops o a=false)(h:N5 P ops o K a T L):Y7 ops o K a T L:=by
 obtain⟨v,hy,hK⟩:=h;rcases hy with⟨h1,_⟩|⟨_,rfl⟩
 ·unfold Q5 at hw;rw[hw]at h1;cases h1
 ·exact⟨hw,hK⟩
def V5.mono{K:KT}(hs:O3 L)(hk: ∀v T L,O3 L->K (a.put o.dst v) T L->K' (a.put o.dst v) T L)(h:V5 P ops i o K a T L):V5 P ops i o K' a T L:=by
 obtain⟨hw,v,hy,hK⟩:=h;exact⟨hw,v,hy,hk _ _ _ hs hK⟩
def T4.mono{K:KT}(hk: ∀v T L,O3 L->K (a.put o.dst v) T L->K' (a.put o.dst v) T L)(h:T4 P ops o K a T L):T4 P ops o K' a T L:=by
 obtain⟨hw,cT,hK⟩:=h;exact⟨hw,cT,fun n ob v hg hs=>hk _ _ _ hs (hK n ob v hg hs)⟩
def Ay3{K:Act->World->Prop}(h:o.wp P a w K Ko):o.wp P a w (fun a' w'=>(∃u,a'.tmps=(a.put o.dst u).tmps)/\K a' w') Ko:=by
 unfold Oper.wp at*;generalize (execOp a.eval o).run P w=r at*;cases r with
 |ok n w'=>
  cases n<;>simp only[Oper.upon]at h⊢
  case value u=>exact⟨⟨u,rfl⟩,h⟩
  case skip=>exact⟨⟨undef,rfl⟩,h⟩
  case defer d=>exact⟨⟨undef,by cases o.dst<;>rfl⟩,h⟩
  case enter f args=>
   refine Calls.mono h fun e w'' he=>?_;cases e with
   |returned u=>exact⟨⟨u,rfl⟩,he⟩
   |panicked c=>exact he
   |outgrown=>obtain⟨_,_,hf⟩:=he;exact hf.elim
  case row row args=>exact Rows.mono h fun u w'' he=>⟨⟨u,rfl⟩,he⟩
 |halt x w'=>cases x<;>simp only[Oper.upon]at h⊢ <;>exact h
def W8.tmps{K:Act->HP}(h:W8 P o a L K):W8 P o a L fun a' L'=>(∃u,a'.tmps=(a.put o.dst u).tmps)/\K a' L':=by
 intro E F w next hw hn
 have h1:=Ay3 (h E F w (fun a' w'=> ∃L',J4 E w' (L'++F)/\K a' L') hw fun a' w' L' aI hk=>⟨L',aI,hk⟩);exact Oper.wp_mono (fun a' w' ⟨ht,L',aI,hk⟩=>hn a' w' L' aI ⟨ht,hk⟩) h1
def Bl.mono{K:KT}(hk: ∀a' v T L,a'.tmps=(a.put o.dst v).tmps->O3 L->K a' T L->K' a' T L)(h:Bl P ops anc i o K a T L):Bl P ops anc i o K' a T L:=by
 obtain⟨hw,hK⟩:=h;exact⟨hw,hK.tmps.mono fun a' L' hs ⟨⟨u,hu⟩,ho,cA⟩=>⟨ho,hk _ _ _ _ hu hs cA⟩⟩
def R5.mono{c:Cls}{K:KT}(hs:O3 L)(hk: ∀a' v T L,a'.tmps=(a.put o.dst v).tmps->O3 L->K a' T L->K' a' T L)(h:R5 P ops anc c i o K a T L):R5 P ops anc c i o K' a T L:=by
 have cA: ∀v T L,O3 L->K (a.put o.dst v) T L->K' (a.put o.dst v) T L:=fun v T L=>hk _ v T L rfl;cases c
 ·exact N5.mono hs cA h
 ·exact h.imp (Y7.mono hs cA) (V5.mono hs cA)
 ·exact h.imp (Y7.mono hs cA) (T4.mono cA)
 ·exact h.imp (Y7.mono hs cA) (Bl.mono hk)
def R5.kperm{c:Cls}{K:KT}(hK:Vi K):Vi (R5 P ops anc c i o K):=by
 intro a T L L' p h;have hS:Y7 ops o K a T L->Y7 ops o K a T L':=fun⟨hw,h⟩=>⟨hw,hK _ _ _ _ p h⟩;cases c
 ·obtain⟨v,hy,h⟩:=h;exact⟨v,hy,hK _ _ _ _ p h⟩
 ·exact h.imp hS fun⟨hw,v,hy,h⟩=>⟨hw,v,hy.perm p,hK _ _ _ _ p h⟩
 ·exact h.imp hS fun⟨hw,cT,h⟩=>⟨hw,cT,fun n ob v hg hs=>hK _ _ _ _ (p.cons _) (h n ob v hg (hs.perm (p.symm.cons _)))⟩
 ·exact h.imp hS fun⟨hw,h⟩=>⟨hw,h.perm p⟩
def R5.ktmono{c:Cls}{K:KT}(hK:Vh K):Vh (R5 P ops anc c i o K):=by
 intro a T T' L hs h;have hS:Y7 ops o K a T L->Y7 ops o K a T' L:=fun⟨hw,h⟩=>⟨hw,hK _ _ _ _ hs h⟩;cases c
 ·obtain⟨v,hy,h⟩:=h;exact⟨v,hy,hK _ _ _ _ hs h⟩
 ·exact h.imp hS fun⟨hw,v,hy,h⟩=>⟨hw,v,hy,hK _ _ _ _ (fun q hq=>by
   rcases OC.1 hq with rfl|hq
   ·exact NG
   ·exact NN _ (hs q hq)) h⟩
 ·exact h.imp hS fun⟨hw,cT,h⟩=>⟨hw,cT,fun n ob v hg fJ=>hK _ _ _ _ hs (h n ob v hg fJ)⟩
 ·exact h.imp hS fun⟨hw,h⟩=>⟨hw,h.mono fun a' L' _ ⟨ho,hk⟩=>⟨ho.sub hs,hK _ _ _ _ hs hk⟩⟩
def U8.kperm{H9:Nat->Cls}{Q:Act->HP}(l:List Nat):Vi (U8 P ops anc H9 Q l):=by
 induction l with
 |nil=>exact fun a T L L' p ⟨L1,p1,h⟩=>⟨L1,p.symm.trans p1,h⟩
 |cons i r ih=>
  intro a T L L' p h;simp only[U8]at h⊢;cases ho:ops[i]? with
  |none=>simp[ho]at h
  |some o=>simp only[ho]at h⊢;exact R5.kperm ih a T L L' p h
def U8.ktmono{H9:Nat->Cls}{Q:Act->HP}(l:List Nat):Vh (U8 P ops anc H9 Q l):=by
 induction l with
 |nil=>exact fun a T T' L _ h=>h
 |cons i r ih=>
  intro a T T' L hs h;simp only[U8]at h⊢;cases ho:ops[i]? with
  |none=>simp[ho]at h
  |some o=>simp only[ho]at h⊢;exact R5.ktmono ih a T T' L hs h
def Im(aF:x.apart ops o=true)(hs: ∀cs b,o.op≠ .select cs b)(a:Act)(v:Value):execOp (a.put x.dst v).eval o=execOp a.eval o:=
 execOp_put o hs a x.dst v (Oper.apart_spec aF).1
def Gi(aF:x.apart ops o=true)(a:Act)(v:Value):Q5 ops o (a.put x.dst v)=Q5 ops o a:=
 wanted_put o a x.dst v (Oper.apart_spec aF).1
def Fb(aF:x.apart ops o=true)(hs: ∀cs b,x.op≠ .select cs b)(a:Act)(v:Value):execOp (a.put o.dst v).eval x=execOp a.eval x:=
 execOp_put x hs a o.dst v (Oper.apart_spec aF).2.2
def Fj(aF:x.apart ops o=true)(a:Act)(v:Value):Q5 ops x (a.put o.dst v)=Q5 ops x a:=
 wanted_put x a o.dst v (Oper.apart_spec aF).2.2
def Ln(aF:x.apart ops o=true)(a:Act)(v u:Value):(a.put x.dst v).put o.dst u=(a.put o.dst u).put x.dst v:=
 Act.put_comm a v u (Oper.apart_spec aF).2.1
def Yl(h:a'.tmps=a.tmps):a'.eval=a.eval:=by
 funext x;cases x<;>simp[Act.eval,h]
def HQ{u:Value}(h:Yields P ops o u a)(k:Yields P ops o v a):u=v:=by
 rcases h with⟨hw,h⟩|⟨hw,rfl⟩<;>rcases k with⟨kw,k⟩|⟨kw,rfl⟩
 ·have h1:=h default;have k1:=k default;rw[h1]at k1;injection k1 with e;injection e
 ·rw[hw]at kw;cases kw
 ·rw[hw]at kw;cases kw
 ·rfl
def Le(h:Yields P ops o v a)(he:execOp a'.eval o=execOp a.eval o)(hw:Q5 ops o a'=Q5 ops o a):Yields P ops o v a':=
 h.of_same he hw
def Ay5(aF:x.apart ops o=true)(hs: ∀cs b,o.op≠ .select cs b){K:Act->World->Prop}
  (h:o.wp P a w (fun a' w'=>K (a'.put x.dst v) w') Ko):o.wp P (a.put x.dst v) w K Ko:=by
 obtain⟨h1,h2,h3⟩:=Oper.apart_spec aF;unfold Oper.wp at*;rw[execOp_put o hs a x.dst v h1];generalize (execOp a.eval o).run P w=r at*;cases r with
 |ok n w'=>
  cases n<;>simp only[Oper.upon]at h⊢
  case value u=>rw[Act.put_comm a v u h2];exact h
  case skip=>rw[Act.put_comm a v undef h2];exact h
  case defer d=>
   rw[Act.put_defers,Act.put_comm _ v undef h2];exact h
  case enter f args=>
   refine Calls.mono h fun e w'' he=>?_;cases e with
   |returned u=>simp only at he⊢;rw[Act.put_comm a v u h2];exact he
   |panicked c=>exact he
   |outgrown=>obtain⟨_,_,hf⟩:=he;exact hf.elim
  case row row args=>exact Rows.mono h fun u w'' he=>by rw[Act.put_comm a v u h2];exact he
 |halt x w'=>cases x<;>simp only[Oper.upon]at h⊢ <;>exact h
def W8.put(aF:x.apart ops o=true)(hs: ∀cs b,o.op≠ .select cs b){K:Act->HP}
  (h:W8 P o (a.put x.dst v) L K):W8 P o a L fun a' L'=>(∃u,a'.tmps=(a.put o.dst u).tmps)/\K (a'.put x.dst v) L':=by
 intro E F w next hw hn
 have h1:=Ay6 aF hs (h E F w (fun a' w'=> ∃L',J4 E w' (L'++F)/\K a' L') hw fun a' w' L' aI hk=>⟨L',aI,hk⟩);exact Oper.wp_mono (fun a' w' ⟨ht,L',aI,hk⟩=>hn a' w' L' aI ⟨ht,hk⟩) h1
def W8.put_rev(aF:x.apart ops o=true)(hs: ∀cs b,o.op≠ .select cs b){K:Act->HP}
  (h:W8 P o a L fun a' L'=>K (a'.put x.dst v) L'):W8 P o (a.put x.dst v) L K:=
 fun E F w next hw hn=>Ay5 aF hs (h E F w (fun a' w'=>next (a'.put x.dst v) w') hw fun a' w' L' aI hk=>hn _ w' L' aI hk)
end
section
variable {P:Program} {ops:Array Oper} {anc:Nat->Nat->Bool}
section swaps
variable {x i:Nat} {ox oi:Oper} (aF:ox.apart ops oi=true) (dD: ∀cs b,ox.op≠ .select cs b) (dN: ∀cs b,oi.op≠ .select cs b)
 {K:KT} {a:Act} {T:Bg} {L:B1}
include aF dD dN
def JQ(h:N5 P ops ox (N5 P ops oi K) a T L):N5 P ops oi (N5 P ops ox K) a T L:=by
 obtain⟨v,hy,u,hu,hK⟩:=h;refine⟨u,Le hu (Im aF dN a v).symm (Gi aF a v).symm,v,Le hy (Fb aF dD a u) (Fj aF a u),?_⟩;rw[<-Ln aF];exact hK
def Bc2(h:N5 P ops ox (V5 P ops i oi K) a T L):V5 P ops i oi (N5 P ops ox K) a T L:=by
 obtain⟨v,hy,hw,u,hu,hK⟩:=h;rw[Im aF dN]at hu hK;refine⟨by rw[<-Gi aF a v];exact hw,u,hu,v,Le hy (Fb aF dD a u) (Fj aF a u),?_⟩;rw[<-Ln aF];exact hK
def Bc3(h:N5 P ops ox (T4 P ops oi K) a T L):T4 P ops oi (N5 P ops ox K) a T L:=by
 obtain⟨v,hy,hw,cT,hK⟩:=h;rw[Im aF dN]at cT hK;refine⟨by rw[<-Gi aF a v];exact hw,cT,fun n ob u hg hs=>⟨v,Le hy (Fb aF dD a u) (Fj aF a u),?_⟩⟩;rw[<-Ln aF];exact hK n ob u hg hs
def Bc1(h:N5 P ops ox (Bl P ops anc i oi K) a T L):Bl P ops anc i oi (N5 P ops ox K) a T L:=by
 obtain⟨v,hy,hw,hK⟩:=h;refine⟨by rw[<-Gi aF a v];exact hw,(W8.put aF dN hK).mono fun a' L' _ ⟨⟨u,hu⟩,ho,hk⟩=>⟨ho,v,?_,hk⟩⟩;refine Le hy ?_ ?_
 ·rw[Yl hu];exact Fb aF dD a u
 ·unfold Q5;rw[hu];exact Fj aF a u
def JP(h:V5 P ops x ox (N5 P ops oi K) a T L):N5 P ops oi (V5 P ops x ox K) a T L:=by
 obtain⟨hw,v,hv,u,hu,hK⟩:=h;refine⟨u,Le hu (Im aF dN a v).symm (Gi aF a v).symm,by rw[Fj aF];exact hw,v,by rw[Fb aF dD];exact hv,?_⟩;rw[Fb aF dD,<-Ln aF];exact hK
def Bb9(zH:Vh K)(h:V5 P ops x ox (V5 P ops i oi K) a T L):V5 P ops i oi (V5 P ops x ox K) a T L:=by
 obtain⟨hw,v,hv,gR,u,hu,hK⟩:=h;rw[Im aF dN]at hu hK;refine⟨by rw[<-Gi aF a v];exact gR,u,hu,by rw[Fj aF];exact hw,v,by rw[Fb aF dD];exact hv,?_⟩;rw[Fb aF dD,<-Ln aF];refine zH _ _ _ _ ?_ hK;intro q hq;simp only[OC]at hq⊢;rcases hq with h|h|h
 ·exact .inr (.inl h)
 ·exact .inl h
 ·exact .inr (.inr h)
def Bc0(h:V5 P ops x ox (T4 P ops oi K) a T L):T4 P ops oi (V5 P ops x ox K) a T L:=by
 obtain⟨hw,v,hv,gR,cT,hK⟩:=h;rw[Im aF dN]at cT hK;refine⟨by rw[<-Gi aF a v];exact gR,cT,fun n ob u hg hs=>⟨by rw[Fj aF];exact hw,v,by rw[Fb aF dD];exact Hb.mono (R:=[(n,ob)]) hv,?_⟩⟩;rw[Fb aF dD,<-Ln aF];exact hK n ob u hg hs
def Bb8(nK:anc x i=false)(h:V5 P ops x ox (Bl P ops anc i oi K) a T L):Bl P ops anc i oi (V5 P ops x ox K) a T L:=by
 obtain⟨hw,v,hv,gR,hK⟩:=h;refine⟨by rw[<-Gi aF a v];exact gR,(W8.put aF dN hK).mono fun a' L' _ ⟨⟨u,hu⟩,ho,hk⟩=>?_⟩;have he:execOp a'.eval ox=execOp a.eval ox:=by rw[Yl hu];exact Fb aF dD a u
 refine⟨ho.sub fun q hq=>NN _ hq,?_,v,?_,?_⟩
 ·unfold Q5;rw[hu];exact(Fj aF a u).trans hw
 ·rw[he];exact ho _ NG nK
 ·rw[he];exact hk
def JO(hs:O3 L)(h:Bl P ops anc x ox (N5 P ops oi K) a T L):N5 P ops oi (Bl P ops anc x ox K) a T L:=by
 obtain⟨hw,hK⟩:=h;have back: ∀{a':Act} {w u:Value},a'.tmps=(a.put ox.dst w).tmps->Yields P ops oi u a'->Yields P ops oi u a:=by
  intro a' w u ht hu;refine Le hu ?_ ?_
  ·rw[Yl ht];exact(Im aF dN a w).symm
  ·unfold Q5;rw[ht];exact(Gi aF a w).symm
 obtain⟨a',L',⟨w,ht⟩,_,u,hu,_⟩:=W8.some hs hK.tmps;have bn:=back ht hu;refine⟨u,bn,by rw[Fj aF];exact hw,?_⟩;have rT:oi.apart ops ox=true:=by
  obtain⟨h1,h2,h3⟩:=Oper.apart_spec aF;have pZ: ∀d,oi.dst=some d->ox.dst≠some d:=fun d hd hx=>h2 d hx hd;unfold Oper.apart;cases eD:oi.dst with
  |none=>
   cases nC:ox.dst with
   |none=>rfl
   |some d=>simpa[nC]using h1 d nC
  |some e=>
   cases nC:ox.dst with
   |none=>simpa[eD]using h3 e eD
   |some d=>
    have g1:=h1 d nC;have g2:=pZ e eD;have g3:=h3 e eD;rw[nC]at g2;simp at g2;simp[g1,g3,g2]
 refine W8.put_rev rT dD ?_;refine hK.tmps.mono fun a'' L'' _ ⟨⟨w',yB⟩,ho,u',gU,hk⟩=>⟨ho,?_⟩;obtain rfl:=HQ bn (back yB gU);exact hk
def Bb7(hs:O3 L)(h:Bl P ops anc x ox (T4 P ops oi K) a T L):T4 P ops oi (Bl P ops anc x ox K) a T L:=by
 obtain⟨hw,hK⟩:=h;have exi: ∀{a':Act} {w:Value},a'.tmps=(a.put ox.dst w).tmps->execOp a'.eval oi=execOp a.eval oi:=by
  intro a' w ht;rw[Yl ht];exact Im aF dN a w
 have rT:oi.apart ops ox=true:=by
  obtain⟨h1,h2,h3⟩:=Oper.apart_spec aF;have pZ: ∀d,oi.dst=some d->ox.dst≠some d:=fun d hd hx=>h2 d hx hd;unfold Oper.apart;cases eD:oi.dst with
  |none=>
   cases nC:ox.dst with
   |none=>rfl
   |some d=>simpa[nC]using h1 d nC
  |some e=>
   cases nC:ox.dst with
   |none=>simpa[eD]using h3 e eD
   |some d=>
    have g1:=h1 d nC;have g2:=pZ e eD;have g3:=h3 e eD;rw[nC]at g2;simp at g2;simp[g1,g3,g2]
 obtain⟨a',L',⟨w,ht⟩,_,gR,cT,_⟩:=W8.some hs hK.tmps;rw[exi ht]at cT;refine⟨?_,cT,fun n ob u hg fJ=>⟨by rw[Fj aF];exact hw,?_⟩⟩
 ·unfold Q5 at gR;rw[ht]at gR;exact(Gi aF a w).symm.trans gR
 ·refine W8.put_rev rT dD ?_;intro E F w1 next gS hn
  refine hK.tmps E ((n,ob)::F) w1 next (gS.perm PC.symm) fun a2 w2 L2 lU ⟨⟨w',yB⟩,ho,hwi',hal',hk⟩=>?_
  rw[exi yB]at hk;have tA:J4 E w2 (((n,ob)::L2)++F):=lU.perm PC;exact hn a2 w2 ((n,ob)::L2) tA ⟨ho.cons,hk n ob u hg ⟨E,F,w2,tA⟩⟩
def JR(hs:O3 L)(h:T4 P ops ox (N5 P ops oi K) a T L):N5 P ops oi (T4 P ops ox K) a T L:=by
 obtain⟨hw,cT,hK⟩:=h;obtain⟨E,F,w,iP⟩:=hs;obtain⟨ob,v,d,dP⟩:=cT w;have fJ:O3 ((w.heap.size,ob)::L):=⟨E,F,_,iP.push ob⟩;obtain⟨u,hu,_⟩:=hK w.heap.size ob v ⟨w,d,rfl,dP⟩ fJ;have back: ∀{v u:Value},Yields P ops oi u (a.put ox.dst v)->Yields P ops oi u a:=fun{v u} h=>Le h (Im aF dN a v).symm (Gi aF a v).symm;refine⟨u,back hu,by rw[Fj aF];exact hw,by rw[Fb aF dD];exact cT,fun n ob v hg fJ=>?_⟩;rw[Fb aF dD]at hg;obtain⟨u',gU,hk⟩:=hK n ob v hg fJ;obtain rfl:=HQ (back hu) (back gU);rw[<-Ln aF];exact hk
def Bc4(oM:Vi K)(hs:O3 L)(h:T4 P ops ox (T4 P ops oi K) a T L):T4 P ops oi (T4 P ops ox K) a T L:=by
 obtain⟨hw,cT,hK⟩:=h;obtain⟨E,F,w,iP⟩:=hs;obtain⟨ob,v,d,dP⟩:=cT w;have fJ:O3 ((w.heap.size,ob)::L):=⟨E,F,_,iP.push ob⟩;obtain⟨gR,wE,_⟩:=hK w.heap.size ob v ⟨w,d,rfl,dP⟩ fJ;rw[Im aF dN]at wE;refine⟨by rw[<-Gi aF a v];exact gR,wE,fun n2 ob2 u jJ bw=>⟨by rw[Fj aF];exact hw,by rw[Fb aF dD];exact cT,fun n1 ob1 v1 eM tS=>?_⟩⟩;rw[Fb aF dD]at eM;have pB:O3 ((n2,ob2)::(n1,ob1)::L):=tS.perm (TO ..);have qN:O3 ((n1,ob1)::L):=by
  obtain⟨E,F,w,hw⟩:=pB;exact⟨E,(n2,ob2)::F,w,hw.perm (by simpa using(PC (l₁:=(n1,ob1)::L)).symm)⟩
 obtain⟨_,_,hk⟩:=hK n1 ob1 v1 eM qN;rw[Im aF dN]at hk;have:=hk n2 ob2 u jJ pB;rw[Ln aF]at this;exact oM _ _ _ _ (TO ..) this
end swaps
def Aw3:Cls->Cls->Bool
 | .P,_| .R,_=>true
 | .W,.P| .W,.A| .A,.P| .A,.A=>true
 |_,_=>false
def R5.swap{x:Nat}{ox oi:Oper}{cx ci:Cls}(cT:Aw3 cx ci=true)(aF:ox.apart ops oi=true)(dD: ∀cs b,ox.op≠ .select cs b)(dN: ∀cs b,oi.op≠ .select cs b)
  (nK:anc x i=false) {K:KT} (oM:Vi K) (zH:Vh K)    (hs:O3 L)
  (h0:R5 P ops anc cx x ox (R5 P ops anc ci i oi K) a T L):R5 P ops anc ci i oi (R5 P ops anc cx x ox K) a T L:=by
 have bh: ∀{a':Act} {v:Value},a'.tmps=(a.put ox.dst v).tmps->Q5 ops oi a'=Q5 ops oi a:=by
  intro a' v ht;unfold Q5;rw[ht];exact Gi aF a v
 have toS: ∀{K:KT} {a T L},cx≠ .P->Y7 ops ox K a T L->R5 P ops anc cx x ox K a T L:=by
  intro K a T L hc h;clear h0;cases cx
  ·exact absurd rfl hc
  ·exact .inl h
  ·exact .inl h
  ·exact .inl h
 have first: ∀{M:KT},R5 P ops anc cx x ox M a T L->N5 P ops ox M a T L\/(cx= .R/\V5 P ops x ox M a T L)\/
   (cx= .A/\T4 P ops ox M a T L)\/(cx= .W/\Bl P ops anc x ox M a T L):=by
  intro M h;clear h0;cases cx
  ·exact .inl h
  ·exact h.imp Y7.toP fun h=>.inl ⟨rfl,h⟩
  ·exact h.imp Y7.toP fun h=>.inr (.inl ⟨rfl,h⟩)
  ·exact h.imp Y7.toP fun h=>.inr (.inr ⟨rfl,h⟩)
 by_cases hp:ci= .P\/Q5 ops oi a=false
 ·have h':R5 P ops anc cx x ox (N5 P ops oi K) a T L:=by
   refine R5.mono hs (fun a' v T L ht _ h=>?_) h0;clear h0;rcases hp with rfl|hw
   ·exact h
   ·have aI:=(bh ht).trans hw;cases ci
    ·exact h
    ·rcases h with h|h
     ·exact h.toP
     ·exact absurd h.1 (by rw[aI];decide)
    ·rcases h with h|h
     ·exact h.toP
     ·exact absurd h.1 (by rw[aI];decide)
    ·rcases h with h|h
     ·exact h.toP
     ·exact absurd h.1 (by rw[aI];decide)
  have back: ∀{M:KT},N5 P ops oi M a T L->R5 P ops anc ci i oi M a T L:=by
   intro M h;clear h0 h';rcases hp with rfl|hw
   ·exact h
   ·have hS:=h.toS hw;cases ci
    ·exact h
    ·exact .inl hS
    ·exact .inl hS
    ·exact .inl hS
  refine back ?_;clear back;rcases first h' with h|⟨rfl,h⟩|⟨rfl,h⟩|⟨rfl,h⟩
  ·clear h0 first
   by_cases hc:cx= .P
   ·subst hc;exact JQ aF dD dN h
   ·--'x' is skipped,or it yields:then it is no P:it must have been skipped
    by_cases qC:Q5 ops ox a=true
    ·--wanted:the disjunct of its kind ct as well
     rcases(show Y7 ops ox (N5 P ops oi K) a T L\/V5 P ops x ox (N5 P ops oi K) a T L\/T4 P ops ox (N5 P ops oi K) a T L\/Bl P ops anc x ox (N5 P ops oi K) a T L by
      cases cx
      ·exact absurd rfl hc
      ·exact h'.imp id .inl
      ·exact h'.imp id fun h=>.inr (.inl h)
      ·exact h'.imp id fun h=>.inr (.inr h))with h1|h1
     ·exact absurd h1.1 (by rw[qC];decide)
     ·cases cx
      ·exact absurd rfl hc
      ·rcases h' with h'|h'
       ·exact absurd h'.1 (by rw[qC];decide)
       ·exact N5.mono hs (fun _ _ _ _ h=>.inr h) (JP aF dD dN h')
      ·rcases h' with h'|h'
       ·exact absurd h'.1 (by rw[qC];decide)
       ·exact N5.mono hs (fun _ _ _ _ h=>.inr h) (JR aF dD dN hs h')
      ·rcases h' with h'|h'
       ·exact absurd h'.1 (by rw[qC];decide)
       ·exact N5.mono hs (fun _ _ _ _ h=>.inr h) (JO aF dD dN hs h')
    ·refine N5.mono hs (fun v T L _ h=>toS hc (h.toS ?_)) (JQ aF dD dN h);rw[Fj aF];simpa using qC
  ·exact N5.mono hs (fun _ _ _ _ h=>.inr h) (JP aF dD dN h)
  ·exact N5.mono hs (fun _ _ _ _ h=>.inr h) (JR aF dD dN hs h)
  ·exact N5.mono hs (fun _ _ _ _ h=>.inr h) (JO aF dD dN hs h)
 ·have hc:ci≠ .P:=fun e=>hp (.inl e);have hw:Q5 ops oi a=true:=by simpa using fun e=>hp (.inr e)
  have wrapP: ∀{a':Act} {T L},(cx= .P\/Q5 ops ox a'=false)->N5 P ops ox K a' T L->R5 P ops anc cx x ox K a' T L:=by
   intro a' T L nG h;clear h0 first toS
   rcases nG with rfl|nG
   ·exact h
   ·cases cx
    ·exact h
    ·exact .inl (h.toS nG)
    ·exact .inl (h.toS nG)
    ·exact .inl (h.toS nG)
  have kinds:(N5 P ops ox (R5 P ops anc ci i oi K) a T L/\(cx= .P\/Q5 ops ox a=false))\/(cx= .R/\V5 P ops x ox (R5 P ops anc ci i oi K) a T L)\/
    (cx= .A/\T4 P ops ox (R5 P ops anc ci i oi K) a T L)\/(cx= .W/\Bl P ops anc x ox (R5 P ops anc ci i oi K) a T L):=by
   clear first toS wrapP
   cases cx
   ·exact .inl ⟨h0,.inl rfl⟩
   ·exact h0.elim (fun h=>.inl ⟨h.toP,.inr h.1⟩) fun h=>.inr (.inl ⟨rfl,h⟩)
   ·exact h0.elim (fun h=>.inl ⟨h.toP,.inr h.1⟩) fun h=>.inr (.inr (.inl ⟨rfl,h⟩))
   ·exact h0.elim (fun h=>.inl ⟨h.toP,.inr h.1⟩) fun h=>.inr (.inr (.inr ⟨rfl,h⟩))
  have nos: ∀{a':Act} {v:Value} {T L},a'.tmps=(a.put ox.dst v).tmps-> ¬Y7 ops oi K a' T L:=by
   intro a' v T L ht hS;have:=hS.1;rw[bh ht,hw]at this;cases this
  have qB: ∀{a':Act} {v:Value},a'.tmps=(a.put oi.dst v).tmps->Q5 ops ox a'=Q5 ops ox a:=by
   intro a' v ht;unfold Q5;rw[ht];exact Fj aF a v
  clear h0;cases ci
  ·exact absurd rfl hc
  ·--R
   rcases kinds with⟨h,nG⟩|⟨rfl,h⟩|⟨rfl,h⟩|⟨rfl,h⟩
   ·have h2:=N5.mono (K':=V5 P ops i oi K) hs (fun v T L _ h=>h.resolve_left (nos (v:=v) rfl)) h;exact .inr (V5.mono hs (fun v T L _ h=>wrapP (nG.imp id fun e=>(qB (v:=v) rfl).trans e) h) (Bc2 aF dD dN h2))
   ·have h2:=V5.mono (K':=V5 P ops i oi K) hs (fun v T L _ h=>h.resolve_left (nos (v:=v) rfl)) h;exact .inr (V5.mono hs (fun v T L _ h=>.inr h) (Bb9 aF dD dN zH h2))
   ·cases cT
   ·cases cT
  ·--A
   rcases kinds with⟨h,nG⟩|⟨rfl,h⟩|⟨rfl,h⟩|⟨rfl,h⟩
   ·have h2:=N5.mono (K':=T4 P ops oi K) hs (fun v T L _ h=>h.resolve_left (nos (v:=v) rfl)) h;exact .inr (T4.mono (fun v T L _ h=>wrapP (nG.imp id fun e=>(qB (v:=v) rfl).trans e) h) (Bc3 aF dD dN h2))
   ·have h2:=V5.mono (K':=T4 P ops oi K) hs (fun v T L _ h=>h.resolve_left (nos (v:=v) rfl)) h;exact .inr (T4.mono (fun v T L _ h=>.inr h) (Bc0 aF dD dN h2))
   ·have h2:=T4.mono (K':=T4 P ops oi K) (fun v T L _ h=>h.resolve_left (nos (v:=v) rfl)) h;exact .inr (T4.mono (fun v T L _ h=>.inr h) (Bc4 aF dD dN oM hs h2))
   ·have h2:=Bl.mono (K':=T4 P ops oi K) (fun a' v T L ht _ h=>h.resolve_left (nos ht)) h;exact .inr (T4.mono (fun v T L _ h=>.inr h) (Bb7 aF dD dN hs h2))
  ·--W
   rcases kinds with⟨h,nG⟩|⟨rfl,h⟩|⟨rfl,h⟩|⟨rfl,h⟩
   ·have h2:=N5.mono (K':=Bl P ops anc i oi K) hs (fun v T L _ h=>h.resolve_left (nos (v:=v) rfl)) h;exact .inr (Bl.mono (fun a' v T L ht _ h=>wrapP (nG.imp id fun e=>(qB ht).trans e) h) (Bc1 aF dD dN h2))
   ·have h2:=V5.mono (K':=Bl P ops anc i oi K) hs (fun v T L _ h=>h.resolve_left (nos (v:=v) rfl)) h;exact .inr (Bl.mono (fun a' v T L ht _ h=>.inr h) (Bb8 aF dD dN nK h2))
   ·cases cT
   ·cases cT
end
section
variable {P:Program} {ops:Array Oper} {anc:Nat->Nat->Bool}
def Tm(ops:Array Oper)(anc:Nat->Nat->Bool)(H9:Nat->Cls)(x i:Nat):Bool:=
 match ops[x]?,ops[i]? with
 |some ox,some oi=>Aw3 (H9 x) (H9 i)&&ox.apart ops oi
 |_,_=>false
theorem U8.bubble{H9:Nat->Cls}{Q:Act->HP}(cN:Region.noSelect ops=true){i:Nat}{B:List Nat}: ∀(A:List Nat) (a:Act) (T:Bg) (L:B1),
  (∀x∈A,Tm ops anc H9 x i=true/\anc x i=false)->O3 L->U8 P ops anc H9 Q (A++i::B) a T L->U8 P ops anc H9 Q (i::(A++B)) a T L
 |[],_,_,_,_,_,h=>h
 |x::A,a,T,L,hp,hs,h=>by
  obtain⟨hx,hax⟩:=hp x NG;unfold Tm at hx;cases lD:ops[x]? with
  |none=>simp[lD]at hx
  |some ox=>
   cases mP:ops[i]? with
   |none=>simp[lD,mP]at hx
   |some oi=>
    simp only[lD,mP,PO]at hx;simp only[OM,U8,lD,mP]at h⊢;refine R5.swap hx.1 hx.2 (fun cs b=>Region.noSelect_spec cN x ox cs b lD) (fun cs b=>Region.noSelect_spec cN i oi cs b mP) hax (U8.kperm _) (U8.ktmono _) hs ?_;refine R5.mono hs (fun a' v T L _ hs h=>?_) h;have:=U8.bubble cN A a' T L (fun y hy=>hp y (NN _ hy)) hs h;simpa only[U8,mP]using this
def R5.wp{c:Cls}(ho:ops[i]?=some o){K:KT}(h:R5 P ops anc c i o K a T L)
     (hw:J4 E w (L++F)) {Q:Exit->Act->World->Prop} {next:Act->World->Prop} (hn: ∀a' T' L' w',J4 E w' (L'++F)->K a' T' L'->next a' w'):
  wpOp P ops Q i next a w:=by
 have hP:N5 P ops o K a T L->wpOp P ops Q i next a w:=fun⟨v,hy,hk⟩=>hy.wpOp ho (hn _ _ _ _ hw hk)
 have hS:Y7 ops o K a T L->wpOp P ops Q i next a w:=fun h=>hP h.toP
 have wanted: ∀{o:Oper},ops[i]?=some o->Q5 ops o a=true->o.wp P a w next Q->wpOp P ops Q i next a w:=by
  intro o ho hw h;unfold wpOp;simp only[ho];unfold Q5 at hw;simp only[hw,if_true];exact .inl h
 cases c
 ·exact hP h
 ·refine h.elim hS fun⟨lT,v,hr,hk⟩=>wanted ho lT ?_;unfold Oper.wp;rw[hr E F w hw];exact hn _ _ _ _ hw hk
 ·refine h.elim hS fun⟨lT,cT,hk⟩=>wanted ho lT ?_;obtain⟨ob,v,d,hr⟩:=cT w;unfold Oper.wp;rw[hr];have aI:J4 E {w with heap:=w.heap.push ob,drawn:=d} (((w.heap.size,ob)::L)++F):=(hw.push ob).drew d;exact hn _ _ _ _ aI (hk _ ob v ⟨w,d,rfl,hr⟩ ⟨E,F,_,aI⟩)
 ·refine h.elim hS fun⟨lT,hk⟩=>wanted ho lT ?_;exact Ay7 (hk E F w next hw fun a' w' L' aI ⟨_,cA⟩=>hn _ _ _ _ aI cA)
def Jk(acc:List Nat)(o:Oper):Nat:=
 o.after.toList.foldl (fun s e=>if Region.binds .any e then s|||2^e.on|||acc.getD e.on 0 else s) 0
def U6:List Oper->List Nat->List Nat
 |[],acc=>acc
 |o::r,acc=>U6 r (acc++[Jk acc o])
def Dj(M:List Nat)(x i:Nat):Bool:=(M.getD i 0).testBit x
def Bx0(acc:List Nat)(o:Oper)(x:Nat)(h:(Jk acc o).testBit x=true): ∃e∈o.after,Region.binds .any e=true/\(e.on=x\/(acc.getD e.on 0).testBit x=true):=by
 unfold Jk at h;have key: ∀(l:List Edge) (s:Nat),(l.foldl (fun s e=>if Region.binds .any e then s|||2^e.on|||acc.getD e.on 0 else s) s).testBit x=true->
   s.testBit x=true\/ ∃e∈l,Region.binds .any e=true/\(e.on=x\/(acc.getD e.on 0).testBit x=true):=by
  intro l;induction l with
  |nil=>exact fun s h=>.inl h
  |cons e l ih=>
   intro s h;rw[RU]at h;rcases ih _ h with h|⟨e',lM,h⟩
   ·split at h
    ·rename_i hb;simp only[Nat.testBit_or,TP,Nat.testBit_two_pow,QR]at h;rcases h with(h|h)|h
     ·exact .inl h
     ·exact .inr ⟨e,NG,hb,.inl h⟩
     ·exact .inr ⟨e,NG,hb,.inr h⟩
    ·exact .inl h
   ·exact .inr ⟨e',NN _ lM,h⟩
 rcases key _ 0 h with h|⟨e,he,h⟩
 ·simp at h
 ·exact⟨e,by simpa using he,h⟩
theorem HB: ∀(l:List Oper) (acc:List Nat) (j:Nat),(U6 l acc).getD j 0=if j<acc.length then acc.getD j 0 else
   match l[j-acc.length]? with
   |some o=>Jk ((U6 l acc).take j) o
   |none=>0
 |[],acc,j=>by
  simp only[U6];split
  ·rfl
  ·rename_i h;simp[NX,SI (WL h)]
 |o::r,acc,j=>by
  simp only[U6];rw[HB r (acc++[Jk acc o]) j];have eF:(U6 r (acc++[Jk acc o])).take (acc.length)=acc:=by
   have: ∀(l:List Oper) (acc:List Nat),∃t,U6 l acc=acc++t:=by
    intro l;induction l with
    |nil=>exact fun acc=>⟨[],by simp[U6]⟩
    |cons o r ih=>
     intro acc;obtain⟨t,ht⟩:=ih (acc++[Jk acc o]);exact⟨Jk acc o::t,by rw[U6,ht];simp⟩
   obtain⟨t,ht⟩:=this r (acc++[Jk acc o]);rw[ht];simp
  by_cases h1:j<acc.length
  ·rw[NE (by simp;omega),NE h1];simp[NX,QX h1]
  ·rw[ND h1];by_cases h2:j=acc.length
   ·subst h2;rw[NE (by simp)];simp[eF]
   ·rw[ND (by simp;omega)];have:j-acc.length=(j-(acc++[Jk acc o]).length)+1:=by simp;omega
    rw[this,TC]
def Ct0{listed:Array Bool}(down: ∀(j:Nat) (o:Oper),listed.getD j false=true->ops[j]?=some o-> ∀e∈o.after,Region.binds .any e=true->listed.getD e.on false=true):
  ∀(j:Nat) (o:Oper),ops[j]?=some o->(∀e∈o.after,Region.binds .any e=true->listed.getD e.on false=true)-> ∀x,Dj (U6 ops.toList []) x j=true->listed.getD x false=true:=by
 intro j;induction j using Nat.strongRecOn with
 |_ j ih=>
  intro o ho aA x hx;unfold Dj at hx;rw[HB]at hx;simp only[OX,Nat.not_lt_zero,if_false,QK]at hx;have lE:ops.toList[j]?=some o:=by simpa using ho
  rw[lE]at hx;obtain⟨e,he,hb,h⟩:=Bx0 _ _ _ hx;have bV:=aA e he hb;rcases h with rfl|h
  ·exact bV
  ·by_cases hO:e.on<j
   ·have hM:((U6 ops.toList []).take j).getD e.on 0=(U6 ops.toList []).getD e.on 0:=by
     simp[NX,hO]
    rw[hM]at h;cases sH:ops[e.on]? with
    |none=>
     rw[HB]at h;have:ops.toList[e.on]?=none:=by simpa using sH
     simp[this]at h
    |some oe=>exact ih e.on hO oe sH (down e.on oe bV sH) x h
   ·have:((U6 ops.toList []).take j).getD e.on 0=0:=by
     rw[NX,RF,ND hO];rfl
    rw[this]at h;simp at h
def Fp(ops:Array Oper)(anc:Nat->Nat->Bool)(H9:Nat->Cls):List Nat->Bool
 |[]=>true
 |x::r=>(match ops[x]? with
   |none=>false
   |some ox=>ox.after.all fun e=> !Region.binds .any e||(decide (e.on<ops.size)&& !(e.on==x)&& !r.contains e.on))&&
  r.all (fun i=> !(i==x)&&(anc x i||Tm ops anc H9 x i))&&Fp ops anc H9 r
def DN(ops:Array Oper)(anc:Nat->Nat->Bool)(H9:Nat->Cls)(π:List Nat):Bool:=
 Region.noSelect ops&&(List.range ops.size).all π.contains&&Fp ops anc H9 π
def Bl2{H9:Nat->Cls}{Q:Act->HP}{Qw:Exit->Act->World->Prop}(cN:Region.noSelect ops=true)
  (hQ: ∀a L w,J4 E w (L++F)->Q a L->Qw .normal a w): ∀(k:Nat) (rem:List Nat) (listed:Array Bool) (a:Act) (T:Bg) (L:B1) (w:World),
  rem.length=k->listed.size=ops.size->(∀j,j<ops.size->(j∈rem↔listed.getD j true=false))->rem.Nodup->Fp ops (Dj (U6 ops.toList [])) H9 rem=true->
  (∀(j:Nat) (o:Oper),listed.getD j false=true->ops[j]?=some o-> ∀e∈o.after,Region.binds .any e=true->listed.getD e.on false=true)->
  J4 E w (L++F)->U8 P ops (Dj (U6 ops.toList [])) H9 Q rem a T L->wpAny P .any ops Qw k listed a w:=by
 have unl: ∀(listed:Array Bool) (j:Nat),listed.getD j true=false->listed.getD j false=false:=by
  intro listed j h;rcases PY j listed.size with h'|h'
  ·simpa[h']using h
  ·simp[WM h']at h
 intro k;induction k with
 |zero=>
  intro rem listed a T L w hk aE jB _ _ _ hw h;have:rem=[]:=RG.1 hk;subst this;obtain⟨L',p,hq⟩:=h;refine⟨?_,hQ a L' w (hw.perm (p.append_right F)) hq⟩;refine List.eq_nil_iff_forall_not_mem.2 fun j hj=>?_;obtain⟨xZ,o,ho,_⟩:=mem_ready.1 hj;have hO:j<ops.size:=(SF.1 ho).1;exact absurd ((jB j hO).2 xZ) (by simp)
 |succ k ih=>
  intro rem listed a T L w hk aE jB aZ gG down hw h;have listed_of: ∀j,j<ops.size->j∉rem->listed.getD j false=true:=by
   intro j hO hj;have h1:listed.getD j true≠false:=fun e=>hj ((jB j hO).2 e);have hl:j<listed.size:=by omega
   simpa[hl]using h1
  refine⟨fun qV=>?_,fun i hi=>?_⟩
  ·--the first that is left may come up
   exfalso;cases rem with
   |nil=>simp at hk
   |cons x r=>
    simp only[Fp,PO]at gG;obtain⟨⟨hx,_⟩,_⟩:=gG;cases lD:ops[x]? with
    |none=>simp[lD]at hx
    |some ox=>
     simp only[lD,WN,TP,PO,QR,WO]at hx;have hO:x<ops.size:=(SF.1 lD).1;have:x∈Region.ready .any ops listed:=mem_ready.2 ⟨(jB x hO).1 NG,ox,lD,fun e he hb=>by
      rcases hx e he with h|⟨⟨h1,h2⟩,h3⟩
      ·rw[hb]at h;cases h
      ·refine listed_of e.on h1 fun hm=>?_;rcases OC.1 hm with hm|hm
       ·simp[hm]at h2
       ·simp[hm]at h3⟩
     rw[qV]at this;cases this
  ·obtain⟨xZ,oi,mP,aA⟩:=mem_ready.1 hi;have hO:i<ops.size:=(SF.1 mP).1;have rE:i∈rem:=(jB i hO).2 xZ;obtain⟨A,B,rfl⟩:=RB rE;have uD: ∀x∈A,Tm ops (Dj (U6 ops.toList [])) H9 x i=true/\Dj (U6 ops.toList []) x i=false:=by
    intro x hx;have wZ:Dj (U6 ops.toList []) x i=false:=by
     cases hb:Dj (U6 ops.toList []) x i with
     |false=>rfl
     |true=>
      have:=Ct0 down i oi mP aA x hb;have wQ:x∈A++i::B:=OA _ hx;by_cases sW:x<ops.size
      ·have h2:=(jB x sW).1 wQ;rw[unl _ _ h2]at this;cases this
      ·have:x≥listed.size:=by omega
       simp[WM this]at*
    refine⟨?_,wZ⟩;have: ∀(A:List Nat),Fp ops (Dj (U6 ops.toList [])) H9 (A++i::B)=true->x∈A->Dj (U6 ops.toList []) x i=true\/Tm ops (Dj (U6 ops.toList [])) H9 x i=true:=by
     intro A;induction A with
     |nil=>intro _ h;cases h
     |cons y A ihA=>
      intro hp hx;simp only[OM,Fp,PO,QM,TP]at hp;rcases OC.1 hx with rfl|hx
      ·exact(hp.1.2 i (by simp)).2
      ·exact ihA hp.2 hx
    exact(this A gG hx).resolve_left (by rw[wZ];decide)
   have hb:=U8.bubble cN A a T L uD ⟨E,F,w,hw⟩ h;simp only[U8,mP]at hb;refine R5.wp mP hb hw fun a' T' L' w' aI cA=>?_;have uT:(A++B).Nodup/\i∉A++B:=by
    rw[QA,OW]at aZ;refine⟨by rw[QA];exact⟨aZ.1,aZ.2.1.2,fun a ha b hb=>aZ.2.2 a ha b (NN _ hb)⟩,fun hm=>?_⟩;rcases NJ.1 hm with hm|hm
    ·exact aZ.2.2 i hm i NG rfl
    ·exact aZ.2.1.1 hm
   refine ih (A++B) (listed.setIfInBounds i true) a' T' L' w' (by simp at hk⊢;omega) (by simp[aE]) (fun j hj=>?_) uT.1 ?_ ?_ aI cA
   ·by_cases fV:j=i
    ·subst fV;have:j<listed.size:=by omega
     simp only[YG,Array.getElem?_setIfInBounds_self_of_lt this,UE,Bool.true_eq_false,iff_false];exact uT.2
    ·rw[getD_set_ne true (Ne.symm fV),<-jB j hj];simp[fV]
   ·have: ∀(A:List Nat),Fp ops (Dj (U6 ops.toList [])) H9 (A++i::B)=true->Fp ops (Dj (U6 ops.toList [])) H9 (A++B)=true:=by
     intro A;induction A with
     |nil=>
      intro h;simp only[NT,Fp,PO]at h⊢;exact h.2
     |cons y A ihA=>
      intro hp;simp only[OM,Fp,PO,QM]at hp⊢;refine⟨⟨?_,fun z hz=>hp.1.2 z (by
       rcases NJ.1 hz with hz|hz
       ·exact OA _ hz
       ·exact OG _ (NN _ hz))⟩,ihA hp.2⟩
      cases cn:ops[y]? with
      |none=>simp[cn]at hp
      |some oy=>
       have h1:=hp.1.1;simp only[cn,WN,TP,PO,WO]at h1⊢;intro e he;refine(h1 e he).imp id fun h=>⟨h.1,?_⟩;have:=h.2;simp at this⊢;exact⟨this.1,this.2.2⟩
    exact this A gG
   ·intro j o hj pD e he eE;by_cases fV:j=i
    ·subst fV;rw[mP]at pD;obtain rfl:=NI pD;exact getD_set_true (aA e he eE)
    ·exact getD_set_true (down j o (by rw[getD_set_ne false (Ne.symm fV)]at hj;exact hj) pD e he eE)
theorem DA{H9:Nat->Cls}: ∀{l:List Nat},Fp ops anc H9 l=true->l.Nodup
 |[],_=>SJ
 |x::r,h=>by
  simp only[Fp,PO,QM]at h;refine OW.2 ⟨fun hm=>?_,DA h.2⟩;have:=(h.1.2 x hm).1;simp at this
def N7.region_any{id:Nat}(hm:P.follows .mixedOrders=true)(H9:Nat->Cls)(π:List Nat)(aC:DN ops (Dj (U6 ops.toList [])) H9 π=true)
     (h:U8 P ops (Dj (U6 ops.toList [])) H9 (fun a L=>Q .normal a L) π a [] L):N7 P (.region id ops true) Q a L:=by
 intro E F w hw;simp only[DN,PO,QM,QT,List.contains_iff_mem]at aC;obtain⟨⟨cN,aA⟩,hp⟩:=aC;refine wp_region_any hm ?_;have hC:π.length=ops.size:=by
  have aZ:=DA hp;have hO: ∀x∈π,x<ops.size:=by
   intro x hx;have: ∀(l:List Nat),Fp ops (Dj (U6 ops.toList [])) H9 l=true->x∈l->x<ops.size:=by
    intro l;induction l with
    |nil=>intro _ h;cases h
    |cons y r ih=>
     intro hp hx;simp only[Fp,PO]at hp;rcases OC.1 hx with rfl|hx
     ·cases ho:ops[x]? with
      |none=>simp[ho]at hp
      |some o=>exact(SF.1 ho).1
     ·exact ih hp.2 hx
   exact this π hp hx
  have h1:π.Perm (List.range ops.size):=by
   refine(WP aZ List.nodup_range).2 fun j=>⟨fun hj=>QT.2 (hO j hj),fun hj=>aA j (QT.1 hj)⟩
  simpa using h1.length_eq
 rw[<-hC];refine Bl2 (Qw:=fun e a' w'=> ∃L',J4 E w' (L'++F)/\Q e a' L') cN (fun a L w hw hq=>⟨L,hw,hq⟩) π.length π _ a [] L _ rfl (by simp[hC]) (fun j hj=>?_) (DA hp) hp ?_ (hw.drew _) h
 ·have:j<π.length:=by omega
  simp[this,aA j hj]
 ·intro j o hj;exfalso;by_cases h:j<π.length<;>simp[h]at hj
def N7.region{id:Nat}(H9:Nat->Cls)(h:U8 P ops (fun _ _=>true) H9 (fun a L=>Q .normal a L) (List.range ops.size) a [] L):N7 P (.region id ops false) Q a L:=by
 intro E F w hw;refine wp_region ?_;have: ∀(l:List Nat) (a:Act) (T:Bg) (L:B1) (w:World),J4 E w (L++F)->U8 P ops (fun _ _=>true) H9 (fun a L=>Q .normal a L) l a T L->
   wpOps P ops (fun e a' w'=> ∃L',J4 E w' (L'++F)/\Q e a' L') l a w:=by
  intro l;induction l with
  |nil=>exact fun a T L w hw ⟨L',p,hq⟩=>⟨L',hw.perm (p.append_right F),hq⟩
  |cons i r ih=>
   intro a T L w hw h;rw[wpOps_cons];simp only[U8]at h;cases ho:ops[i]? with
   |none=>simp[ho]at h
   |some o=>
    simp only[ho]at h;exact R5.wp ho h hw fun a' T' L' w' aI hk=>ih a' T' L' w' aI hk
 exact this _ a [] L w hw h
end
structure B6 where
 a:Option Addr
 len:Nat
 cap:Nat
structure Y5 where
 fn:Fn
 first:Array Value
 captured:Array Value
inductive Lf where|int (k:IntKind)|bool|str|ptr|sl|map|fn
@[reducible] def Vg : Lf -> Type
 | .int _=>Int| .bool=>Bool| .str=>ByteArray| .ptr=>Option Addr| .sl=>B6| .map=>Option Nat| .fn=>Y5
def Lf.val:(l:Lf)->Vg l->Value
 | .int k,n=>.int k n
 | .bool,b=>.bool b
 | .str,s=>.string s
 | .ptr,p=>.pointer p
 | .sl,v=>.slice v.a v.len v.cap
 | .map,r=>.map r
 | .fn,f=>.func f.fn f.first f.captured
inductive Sh where|lf (l:Lf)|agg (ls:List Lf)
variable{rs:List Sh}{sh:Sh}
@[reducible] def Rn : List Lf -> Type
 |[]=>Unit
 |l::r=>Vg l×Rn r
@[reducible] def F7 : Sh -> Type
 | .lf l=>Vg l
 | .agg ls=>Rn ls
def Lt:(ls:List Lf)->Rn ls->List Value
 |[],_=>[]
 |l::r,x=>l.val x.1::Lt r x.2
def Sh.val:(s:Sh)->F7 s->Value
 | .lf l,x=>l.val x
 | .agg ls,x=>.agg (Lt ls x).toArray
def Sh.vals:(s:Sh)->F7 s->List Value
 | .lf l,x=>[l.val x]
 | .agg ls,x=>Lt ls x
@[reducible] def D2 : List Sh -> Type
 |[]=>Unit
 |s::r=>F7 s×D2 r
def MB:(ss:List Sh)->D2 ss->List Value
 |[],_=>[]
 |s::r,x=>s.val x.1::MB r x.2
def Dt(ss:List Sh)(x:D2 ss):Value:=
 match ss,x with
 |[s],x=>s.val x.1
 |ss,x=>.tuple (MB ss x).toArray
def Xn:IntKind->IntKind->Bool
 | .i8,.i8| .i16,.i16| .i32,.i32| .i64,.i64| .u8,.u8| .u16,.u16| .u32,.u32| .u64,.u64=>true
 |_,_=>false
def Lf.of:(l:Lf)->Value->Option (Vg l)
 | .int k,.int k' n=>match Xn k k' with|true=>some n|false=>none
 | .bool,.bool b=>some b
 | .str,.string s=>some s
 | .ptr,.pointer p=>some p
 | .sl,.slice a n c=>some ⟨a,n,c⟩
 | .map,.map r=>some r
 | .fn,.func f a b=>some ⟨f,a,b⟩
 |_,_=>none
def Tu:(ls:List Lf)->List Value->Option (Rn ls)
 |[],[]=>some ()
 |l::r,v::vs=>match l.of v,Tu r vs with
  |some x,some y=>some (x,y)
  |_,_=>none
 |_,_=>none
def Sh.of:(s:Sh)->Value->Option (F7 s)
 | .lf l,v=>l.of v
 | .agg ls,.agg cs=>Tu ls cs.toList
 | .agg _,_=>none
def By4:TypeDesc->Option Lf
 | .int k=>some (.int k)| .bool=>some .bool| .string=>some .str| .pointer _=>some .ptr| .slice _=>some .sl| .map _ _=>some .map| .func _ _ _=>some .fn
 |_=>none
def EO(P:Program):Nat->TypeId->Option (List Lf)
 |0,_=>none
 |d+1,t=>match P.underlying t with
  |some (.struct fs)=>fs.toList.foldr (fun f acc=>match EO P d f.type,acc with|some x,some y=>some (x++y)|_,_=>none) (some [])
  |some (.array n e)=>match EO P d e with
   |some x=>some (List.replicate n x).flatten
   |none=>none
  |some d=>match By4 d with|some l=>some [l]|none=>none
  |none=>none
def Dq(P:Program)(t:TypeId):Option Nat:=match P.info? t with|some i=>some i.size|none=>none
def Gk(P:Program)(t:TypeId):Option Sh:=
 match EO P 8 t,Dq P t,P.underlying t with
 |some ls,some n,some d=>match Nat.beq ls.length n,d with
  |true,.struct _|true,.array _ _=>some (.agg ls)
  |true,_=>match ls with|[l]=>some (.lf l)|_=>none
  |false,_=>none
 |_,_,_=>none
def Po(P:Program):List TypeId->Option (List Sh)
 |[]=>some []
 |t::r=>match Gk P t,Po P r with|some s,some ss=>some (s::ss)|_,_=>none
def ff:HP:=fun _=>False
def B3(t:Bool)(A B:HP):HP:=match t with|true=>A|false=>B
def B4(p:Option Addr)(k:Addr->HP):HP:=match p with|some a=>k a|none=>ff
def Q7(p:Prop)(k:HP):HP:=fun L=>p/\k L
def keep(φ:HP)(k:HP):HP:=fun L=>φ L/\k L
def Ks:List HP->HP->HP
 |[],k=>k
 |φ::r,k=>keep φ (Ks r k)
def C0(ad:Addr)(vs:List Value):HP:=fun L=>
 ∃c T fz,(ad.block,Obj.cells c T fz)∈L/\ad.spot=none/\ ∀i v,vs[i]?=some v->c[ad.off+i]?=some v
def ld(ad:Addr)(sh:Sh)(k:F7 sh->HP):HP:=fun L=> ∃x,C0 ad (sh.vals x) L/\k x L
def wr:Array Value->Nat->List Value->Array Value
 |c,_,[]=>c
 |c,o,v::r=>wr (c.setIfInBounds o v) (o+1) r
def st(ad:Addr)(vs:List Value)(k:HP):HP:=fun L=>
 ∃A B c T fz,L=A++(ad.block,Obj.cells c T fz)::B/\ad.spot=none/\ad.off+vs.length<=c.size/\
  (∀i,i<vs.length-> ¬(fz.1<=ad.off+i/\ad.off+i<fz.2))/\k (A++(ad.block,Obj.cells (wr c ad.off vs) T fz)::B)
def nw(o:Obj)(k:Nat->HP):HP:=fun L=> ∀n,O3 ((n,o)::L)->k n ((n,o)::L)
def Oe(P:Program)(f:FuncId):Bool:=match P.funcs[f]? with|some fn=>fn.body.isSome|none=>false
def cl(P:Program)(f:FuncId)(args:Array Value)(rs:List Sh)(k:D2 rs->HP):HP:=fun L=>
 CallF P f args L fun v L'=> ∃r,v=Dt rs r/\k r L'
def U5(P:Program)(fn:Fn)(args captured:Array Value)(rs:List Sh)(k:D2 rs->HP):HP:=fun L=>
 ∃f,fn= .func f/\Oe P f=true/\CallF P f (args++captured) L fun v L'=> ∃r,v=Dt rs r/\k r L'
def Y3(P:Program)(s:Sem Value)(K:Value->HP):HP:=fun L=>
 ∀E F w,J4 E w (L++F)-> ∃v w' L',s.run P w= .ok v w'/\J4 E w' (L'++F)/\K v L'
def Cc(P:Program)(s:Sem Value)(v:Value):HP:=fun L=> ∀E F w,J4 E w (L++F)->s.run P w= .ok v w
def Zt(P:Program)(s:Sem Value):Prop:= ∀w:World,∃ob v d,s.run P w= .ok v {w with heap:=w.heap.push ob,drawn:=d}
def Ax4(P:Program)(s:Sem Value)(n:Nat)(ob:Obj)(v:Value):Prop:= ∃(w:World) (d:Nat),w.heap.size=n/\s.run P w= .ok v {w with heap:=w.heap.push ob,drawn:=d}
def Y8(P:Program)(s:Sem Value)(sh:Sh)(k:F7 sh->HP):HP:=fun L=> ∃r,(∀w,s.run P w= .ok (sh.val r) w)/\k r L
def S4(P:Program)(s:Sem Value)(sh:List Sh)(k:D2 sh->HP):HP:=fun L=> ∃r,Cc P s (Dt sh r) L/\k r L
def Hz(P:Program)(s:Sem Value)(sh:Sh)(k:F7 sh->HP):HP:=fun L=>
 Zt P s/\ ∀n ob v,Ax4 P s n ob v->O3 ((n,ob)::L)-> ∃r,v=sh.val r/\k r ((n,ob)::L)
def F3(P:Program)(s:Sem Value)(sh:List Sh)(k:D2 sh->HP):HP:=Y3 P s fun v L'=> ∃r,v=Dt sh r/\k r L'
def Aw(P:Program)(s:Sem Unit)(k:HP):HP:=fun L=>
 ∀E F w,J4 E w (L++F)-> ∃w' L',s.run P w= .ok () w'/\J4 E w' (L'++F)/\k L'
@[reducible] def Iy : Option Sh -> Type
 |none=>Value
 |some s=>F7 s
def Ji:(o:Option Sh)->Iy o->Value
 |none,v=>v
 |some s,x=>s.val x
def Pm(P:Program)(s:Sem Value)(a b:Option Sh)(kE:HP)(kM:Iy a->Iy b->HP):HP:=
 Y3 P s fun v L'=>(v= .tuple #[.bool false]/\kE L')\/ ∃x y,v= .tuple #[.bool true,Ji a x,Ji b y]/\kM x y L'
def Se(P:Program)(s:Sem Value)(a b:Option Sh)(k:Iy a->Iy b->HP):HP:=fun L=> ∃x y,Cc P s (.tuple #[Ji a x,Ji b y]) L/\k x y L
def jn{α:Type}(b:α->HP)(r:(α->HP)->HP):HP:=r b
def lp(sh:List Sh)(x0:D2 sh)(body:D2 sh->(D2 sh->HP)->HP):HP:=fun L=>
 ∃I:Nat->D2 sh->HP,(∃k,I k x0 L)/\ ∀k x L',I k x L'->body x (fun x' L''=> ∃k',k'<k/\I k' x' L'') L'
abbrev K4:=List (Nat×Value)
variable{env:K4}
def Ci:K4->Nat->Option Value
 |[],_=>none
 |(s,v)::r,t=>match Nat.beq s t with|true=>some v|false=>Ci r t
def N0(env:K4):Operand->Option Value
 | .tmp t=>Ci env t
 | .const v=>some v
 | .global g=>some (.pointer (some ⟨g,0,none⟩))
 | .func f=>some (.func (.func f) #[] #[])
def Us(env:K4):List Operand->Option (List Value)
 |[]=>some []
 |x::r=>match N0 env x,Us env r with|some v,some vs=>some (v::vs)|_,_=>none
def Nz(env:K4):List (Nat×Operand)->Option (List (Nat×Value))
 |[]=>some []
 |(i,x)::r=>match N0 env x,Nz env r with|some v,some vs=>some ((i,v)::vs)|_,_=>none
def Qt(env:K4):Option Operand->Option (Option Value)
 |none=>some none
 |some x=>match N0 env x with|some v=>some (some v)|none=>none
def Qu(env:K4)(xs:Array Operand):Option (Array Value):=match Us env xs.toList with|some vs=>some vs.toArray|none=>none
def Ox(P:Program)(t:TypeId):Option Value:=match P.info? t with|some i=>i.zero|none=>none
def Bt:Value->Bool| .agg _| .tuple _=>false|_=>true
def FR(P:Program)(s:TypeId)(f:Nat):Option Nat:=
 match P.underlying s with
 |some (.struct fs)=>match fs[f]? with
  |some fd=>match Dq P fd.type with
   |some (_+1)=>some fd.offset
   |_=>none
  |none=>none
 |_=>none
def CW(P:Program)(t:TypeId)(cs:Array Value)(off:Nat):Option Value:=
 match P.underlying t,Dq P t with
 |some (.struct _),some n|some (.array _ _),some n=>some (.agg (cs.extract off (off+n)))
 |some _,some _=>cs[off]?
 |_,_=>none
def Ua:Operand->Bool
 | .const (.pointer none)| .const (.slice none _ _)| .const (.map none)=>true
 |_=>false
def P9(op:BinOp)(k:IntKind)(x y:Int):Int:=
 let a:=BitVec.ofInt k.bits x
 let b:=BitVec.ofInt k.bits y
 k.wrap (match op with| .and=>(a&&&b).toNat| .or=>(a|||b).toNat| .xor=>(a^^^b).toNat|_=>(a&&& ~~~b).toNat)
def N8(x y:Int):Int:=if y<x then y else x
def L9(x y:Int):Int:=if y>x then y else x
def Og(s:ByteArray)(i:Int):Int:=((s.data.getD i.toNat 0).toNat:Int)
def G7(v:B6)(l h m:Int)(size:Nat):B6:=⟨if m.toNat=l.toNat then v.a else v.a.map (·.add (l.toNat*size)),h.toNat-l.toNat,m.toNat-l.toNat⟩
def slc(v:B6)(l h m:Int)(size:Nat)(k:B6->HP):HP:=Q7 (0<=l/\l<=h/\h<=m/\m<=v.cap) (k (G7 v l h m size))
def sls(s:ByteArray)(l h:Int)(k:ByteArray->HP):HP:=Q7 (0<=l/\l<=h/\h<=s.size) (k (s.extract l.toNat h.toNat))
def D5(i:Int)(n:Int)(k:HP):HP:=Q7 (0<=i/\i<n) k
def Ev:List Value->Option (IntKind×List Int)
 |[]=>none
 |[.int k n]=>some (k,[n])
 | .int k n::r=>match Ev r with|some (_,ns)=>some (k,n::ns)|none=>none
 |_=>none
section
variable (P:Program)
def FM(op:BinOp)(kx:IntKind)(a b:Int)(k:Value->List HP->HP):HP:=
 match op with
 | .add=>k (.int kx (kx.wrap (a+b))) []
 | .sub=>k (.int kx (kx.wrap (a-b))) []
 | .mul=>k (.int kx (kx.wrap (a*b))) []
 | .quo=>Q7 (b≠0) (k (.int kx (kx.wrap (a.tdiv b))) [])
 | .rem=>Q7 (b≠0) (k (.int kx (a.tmod b)) [])
 | .and=>k (.int kx (P9 .and kx a b)) []
 | .or=>k (.int kx (P9 .or kx a b)) []
 | .xor=>k (.int kx (P9 .xor kx a b)) []
 | .andNot=>k (.int kx (P9 .andNot kx a b)) []
 | .eql=>k (.bool (a==b)) []
 | .neq=>k (.bool (a !=b)) []
 | .lss=>k (.bool (decide (a<b))) []
 | .leq=>k (.bool (decide (a<=b))) []
 | .gtr=>k (.bool (decide (a>b))) []
 | .geq=>k (.bool (decide (a≥b))) []
 |_=>ff
def Ql(t:TypeId):Bool:=match P.underlying t with|some (.int _)=>true|_=>false
def Ty(t:TypeId):Bool:=match P.underlying t with|some .string=>true|_=>false
def Ub(t:TypeId):Bool:=match P.underlying t with|some .bool=>true|_=>false
def Eg(t:TypeId):Bool:=match P.underlying t with|some (.pointer _)=>true|_=>false
def Tz(t:TypeId):Bool:=match P.underlying t with|some (.slice _)=>true|_=>false
def Am9(op:BinOp)(xt:TypeId)(nl:Bool)(x y:Value)(k:Value->List HP->HP):HP:=
 match x,y with
 | .int kx a,.int ky b=>match Ql P xt,op,Xn kx ky with
  |true,.shl,_=>Q7 (0<=b) (k (.int kx (kx.wrap (a*2^(min b.toNat kx.bits)))) [])
  |true,.shr,_=>Q7 (0<=b) (k (.int kx (a.fdiv (2^(min b.toNat kx.bits)))) [])
  |true,op,true=>FM op kx a b k
  |_,_,_=>ff
 | .string a,.string b=>match Ty P xt,op with
  |true,.add=>Q7 (((a.size+b.size:Nat):Int)<=IntKind.i64.max) (k (.string (a++b)) [])
  |true,.eql=>k (.bool (a.toList==b.toList)) []
  |true,.neq=>k (.bool (!(a.toList==b.toList))) []
  |true,.lss=>k (.bool (Op.bytesLess a.toList b.toList)) []
  |true,.leq=>k (.bool (Op.bytesLess a.toList b.toList||a.toList==b.toList)) []
  |true,.gtr=>k (.bool (!(Op.bytesLess a.toList b.toList||a.toList==b.toList))) []
  |true,.geq=>k (.bool (!(Op.bytesLess a.toList b.toList))) []
  |_,_=>ff
 | .bool a,.bool b=>match Ub P xt,op with
  |true,.eql=>k (.bool (a==b)) []
  |true,.neq=>k (.bool (!(a==b))) []
  |_,_=>ff
 | .pointer a,.pointer b=>match Eg P xt,nl,op with
  |true,true,.eql=>(match b with|none=>k (.bool a.isNone) []|_=>ff)
  |true,true,.neq=>(match b with|none=>k (.bool (!a.isNone)) []|_=>ff)
  |true,false,.eql=>S4 P (binOp .eql xt (.pointer a) (.pointer b)) [.lf .bool] fun r=>k (.bool r.1) [Cc P (binOp .eql xt (.pointer a) (.pointer b)) (.bool r.1)]
  |true,false,.neq=>S4 P (binOp .neq xt (.pointer a) (.pointer b)) [.lf .bool] fun r=>k (.bool r.1) [Cc P (binOp .neq xt (.pointer a) (.pointer b)) (.bool r.1)]
  |_,_,_=>ff
 | .slice a n c,.slice b m d=>match Tz P xt,op,b with
  |true,.eql,none=>k (.bool a.isNone) []
  |true,.neq,none=>k (.bool (!a.isNone)) []
  |_,_,_=>ff
 | .agg a,.agg b=>match op,Eg P xt,P.eqGuardType P.depth xt with
  | .eql,false,false=>Y8 P (binOp .eql xt (.agg a) (.agg b)) (.lf .bool) fun r=>k (.bool r) []
  | .neq,false,false=>Y8 P (binOp .neq xt (.agg a) (.agg b)) (.lf .bool) fun r=>k (.bool r) []
  |_,_,_=>ff
 |_,_=>ff
def FO(o:Oper)(env:K4)(op:BinOp)(xt:TypeId)(x y:Operand)(k:Value->List HP->HP):HP:=
 match N0 env x with
 |some vx=>match N0 env y with
  |some vy=>Am9 P op xt (Ua y) vx vy k
  |none=>ff
 |none=>ff
def Hh(d:Int):Option Value->Option Int
 |none=>some d
 |some (.int _ n)=>some n
 |_=>none
def FN(o:Oper)(env:K4)(c:Call)(W:HP->HP)(k:Value->List HP->HP):HP:=
 match Qu env c.args with
 |none=>ff
 |some args=>
  match c.callee with
  | .value (.func f)=>match P.funcs[f]? with
   |some fn=>match fn.body.isSome,Po P fn.resultTypes.toList with
    |true,some rs=>cl P f args rs fun r=>W (k (Dt rs r) [])
    |_,_=>ff
   |none=>ff
  | .value x=>match N0 env x with
   |some (.func fn first captured)=>match P.underlying o.type with
    |some (.tuple ts)=>match Po P ts.toList with
     |some rs=>U5 P fn (first++args) captured rs fun r=>W (k (Dt rs r) [])
     |none=>ff
    |_=>match Gk P o.type with
     |some s=>U5 P fn (first++args) captured [s] fun r=>W (k (s.val r.1) [])
     |none=>ff
   |_=>ff
  | .builtin b=>
   match b,args.toList,c.argTypes.toList with
   | .len,[.string s],[t]=>match P.underlying t with|some .string=>k (.int .i64 s.size) []|_=>ff
   | .len,[.slice _ n _],[t]=>match P.underlying t with|some (.slice _)=>k (.int .i64 n) []|_=>ff
   | .len,[.map r],[t]=>match P.underlying t with
    |some (.map _ _)=>S4 P (Builtin.len_ c.argTypes o.type args) [.lf (.int .i64)] fun r=>k (.int .i64 r.1) [Cc P (Builtin.len_ c.argTypes o.type args) (.int .i64 r.1)]
    |_=>ff
   | .len,[x],[t]=>match P.underlying t with
    |some (.array n _)=>k (.int .i64 n) []
    |some (.pointer u)=>match P.underlying u with|some (.array n _)=>k (.int .i64 n) []|_=>ff
    |_=>ff
   | .cap,[.slice _ _ n],[t]=>match P.underlying t with|some (.slice _)=>k (.int .i64 n) []|_=>ff
   | .min,vs,_=>match Ev vs with|some (kd,n::ns)=>k (.int kd (ns.foldl N8 n)) []|_=>ff
   | .max,vs,_=>match Ev vs with|some (kd,n::ns)=>k (.int kd (ns.foldl L9 n)) []|_=>ff
   | .append,_,_=>F3 P (Builtin.append_ c.argTypes o.type args) [.lf .sl] fun r=>W (k (.slice r.1.a r.1.len r.1.cap) [])
   | .copy,_,_=>F3 P (Builtin.copy_ c.argTypes o.type args) [.lf (.int .i64)] fun r=>W (k (.int .i64 r.1) [])
   | .clear,_,_=>F3 P (Builtin.clear_ c.argTypes o.type args) [] fun _=>W (k (.tuple #[]) [])
   | .delete,_,_=>F3 P (Builtin.delete_ c.argTypes o.type args) [] fun _=>W (k (.tuple #[]) [])
   |_,_,_=>ff
  |_=>ff
def E6(o:Oper):Cls:=
 match o.op with
 | .load _ _| .lookup _ _ _ _| .entry _=>.R
 | .binOp op xt x y _=>match op,Ua y,Eg P xt with
  | .eql,false,true=>.R
  | .neq,false,true=>.R
  |_,_,_=>.P
 | .alloc _| .box _ _| .buildSlice _ _ _| .makeMap _ _| .makeSlice _ _ _=>.A
 | .convert src dst _=>match P.underlying src,P.underlying dst with
  |some .string,some (.slice _)=>.A
  |some (.slice _),some .string=>.R
  |some (.slice _),some (.slice _)=>.W
  |_,_=>.P
 | .store _ _ _| .mapUpdate _ _ _ _| .insert _ _ _ _| .range _ _| .next _ _| .mapEntry _ _ _| .entryStore _ _ _ _=>.W
 | .call c=>match c.callee with
  | .builtin .len=>match c.argTypes.toList with
   |[t]=>match P.underlying t with|some (.map _ _)=>.R|_=>.P
   |_=>.P
  | .builtin .cap| .builtin .min| .builtin .max=>.P
  |_=>.W
 |_=>.P
def M9(X:Nat->Option Sh)(o:Oper)(env:K4)(W:HP->HP)(k:Value->List HP->HP):HP:=
 match o.op with
 | .move x| .assign x=>match N0 env x with|some v=>k v []|none=>ff
 | .pick c a b=>match N0 env c,N0 env a,N0 env b with
  |some (.bool t),some va,some vb=>B3 t (k va []) (k vb [])
  |_,_,_=>ff
 | .alloc t=>match Ox P t with|some z=>nw (.cells z.cells t) fun n=>k (.pointer (some ⟨n,0,none⟩)) []|none=>ff
 | .box t x=>match N0 env x with|some v=>nw (.cells v.cells t) fun n=>k (.pointer (some ⟨n,0,none⟩)) []|none=>ff
 | .build t parts=>match Nz env parts.toList,Ox P t,P.underlying t with
  |some ps,some z,some (.struct fs)=>match fs.toList.mapM (fun f=>match Dq P f.type with|some n=>some (f.offset,n)|none=>none)with
   |some pl=>match Instr.fill (pl[·]?) z.cells ps with|some cs=>k (.agg cs) []|none=>ff
   |none=>ff
  |some ps,some z,some (.array _ e)=>match Dq P e with
   |some n=>match Instr.fill (fun i=>some (i*n,n)) z.cells ps with|some cs=>k (.agg cs) []|none=>ff
   |none=>ff
  |_,_,_=>ff
 | .buildSlice t len parts=>match Nz env parts.toList,P.underlying t with
  |some ps,some (.slice e)=>match Dq P e,Ox P e with
   |some n,some z=>match Nat.ble (len*n) (2^24),Nat.beq (len*n) 0,Instr.fill (fun i=>some (i*n,n)) ((Array.range (len*n)).map (z.cells[· %z.cells.size]!)) ps with
    |true,false,some cs=>nw (.cells cs e) fun b=>k (.slice (some ⟨b,0,none⟩) len len) []
    |_,_,_=>match Nat.beq len 0,ps with
     |true,[]=>nw (.cells #[] e) fun b=>k (.slice (some ⟨b,0,none⟩) 0 0) []
     |_,_=>ff
   |_,_=>ff
  |_,_=>ff
 | .load t x=>match N0 env x,Gk P t with
  |some (.pointer p),some sh=>B4 p fun ad=>ld ad sh fun y=>k (sh.val y) [C0 ad (sh.vals y)]
  |_,_=>ff
 | .store t a x=>match N0 env a,N0 env x,Dq P t with
  |some (.pointer p),some v,some n=>match v.cells.toList.all Bt&&Nat.beq v.cells.toList.length n with
   |true=>B4 p fun ad=>st ad v.cells.toList (W (k undef []))
   |false=>ff
  |_,_,_=>ff
 | .nilCheck x=>match N0 env x with
  |some (.pointer p)=>B4 p fun a=>k (.pointer (some a)) []
  |_=>ff
 | .binOp op xt x y _=>FO P o env op xt x y k
 | .unOp op _ x=>match op,N0 env x with
  | .not,some (.bool b)=>k (.bool (!b)) []
  | .neg,some (.int kd n)=>k (.int kd (kd.wrap (0-n))) []
  | .xor,some (.int kd n)=>k (.int kd (P9 .xor kd (if kd.signed then-1 else kd.max) n)) []
  |_,_=>ff
 | .convert src dst x=>match N0 env x,P.underlying src,P.underlying dst with
  |some (.int _ n),some (.int _),some (.int kd)=>k (.int kd (kd.wrap n)) []
  |some (.string s),some .string,some .string=>k (.string s) []
  |some (.string s),some .string,some (.slice e)=>match P.underlying e with
   |some (.int .u8)=>Hz P (Conv.stringToBytes e s) (.lf .sl) fun r=>k (.slice r.a r.len r.cap) []
   |_=>ff
  |some (.slice a n c),some (.slice _),some (.slice _)=>F3 P (convert src dst (.slice a n c)) [.lf .sl] fun r=>W (k (.slice r.1.a r.1.len r.1.cap) [])
  |some (.slice a n c),some (.slice e),some .string=>match P.underlying e with
   |some (.int .u8)=>S4 P (Conv.bytesToString (.slice a n c)) [.lf .str] fun r=>k (.string r.1) [Cc P (Conv.bytesToString (.slice a n c)) (.string r.1)]
   |_=>ff
  |_,_,_=>ff
 | .makeFunc fn first captured=>match Qu env first,Qu env captured with
  |some a,some b=>k (.func fn a b) []
  |_,_=>ff
 | .makeMap t none=>nw (.map #[] 0) fun n=>k (.map (some n)) []
 | .makeSlice t l c=>match N0 env l,N0 env c with
  |some (.int kl nl),some (.int kc nc)=>Hz P (Instr.makeSlice t (.int kl nl) (.int kc nc)) (.lf .sl) fun r=>k (.slice r.a r.len r.cap) []
  |_,_=>ff
 | .slice t x lo hi mx=>match N0 env x,Qt env lo,Qt env hi,Qt env mx,P.underlying t with
  |some (.string s),some lo,some hi,some none,some .string=>match Hh 0 lo,Hh s.size hi with
   |some l,some h=>sls s l h fun r=>k (.string r) []
   |_,_=>ff
  |some (.slice a n c),some lo,some hi,some mx,some (.slice e)=>match Dq P e,Hh 0 lo,Hh n hi,Hh c mx,hi,mx with
   |_,_,_,_,none,some _=>ff
   |some sz,some l,some h,some m,_,_=>slc ⟨a,n,c⟩ l h m sz fun r=>k (.slice r.a r.len r.cap) []
   |_,_,_,_,_,_=>ff
  |some (.pointer p),some lo,some hi,some none,some (.array n e)=>match Dq P e,Hh 0 lo,Hh n hi with
   |some sz,some l,some h=>B4 p fun a=>slc ⟨some a,n,n⟩ l h n sz fun r=>k (.slice r.a r.len r.cap) []
   |_,_,_=>ff
  |_,_,_,_,_=>ff
 | .fieldAddr s x f=>match N0 env x,FR P s f with
  |some (.pointer p),some off=>B4 p fun a=>k (.pointer (some (a.add off))) []
  |_,_=>ff
 | .field s x f=>match N0 env x,P.underlying s with
  |some (.agg cs),some (.struct fs)=>match fs[f]? with
   |some fd=>match CW P fd.type cs fd.offset with|some v=>k v []|none=>ff
   |none=>ff
  |_,_=>ff
 | .indexAddr t x i=>match N0 env x,N0 env i,P.underlying t with
  |some (.slice a n _),some (.int _ j),some (.slice e)=>match Dq P e with
   |some sz=>B4 a fun ad=>D5 j n (k (.pointer (some (ad.add (j.toNat*sz)))) [])
   |none=>ff
  |some (.pointer p),some (.int _ j),some (.array n e)=>match Dq P e with
   |some sz=>B4 p fun ad=>D5 j n (k (.pointer (some (ad.add (j.toNat*sz)))) [])
   |none=>ff
  |_,_,_=>ff
 | .index t x i=>match N0 env x,N0 env i,P.underlying t with
  |some (.string s),some (.int _ j),some .string=>D5 j s.size (k (.int .u8 (Og s j)) [])
  |some (.agg cs),some (.int kk j),some (.array _ _)=>match Gk P o.type with
   |some sh=>Y8 P (Instr.index t (.agg cs) (.int kk j)) sh fun r=>k (sh.val r) []
   |none=>ff
  |_,_,_=>ff
 | .lookup t x i ok=>match N0 env x,N0 env i,P.underlying t with
  |some vm,some vi,some (.map _ e)=>match Gk P e,ok with
   |some s,false=>S4 P (Instr.lookup t vm vi false) [s] fun r=>k (s.val r.1) [Cc P (Instr.lookup t vm vi false) (s.val r.1)]
   |some s,true=>S4 P (Instr.lookup t vm vi true) [s,.lf .bool] fun r=>k (.tuple #[s.val r.1,.bool r.2.1]) [Cc P (Instr.lookup t vm vi true) (.tuple #[s.val r.1,.bool r.2.1])]
   |_,_=>ff
  |_,_,_=>ff
 | .mapUpdate t m i x| .insert t m i x=>match N0 env m,N0 env i,N0 env x with
  |some vm,some vi,some vx=>Aw P (Instr.mapUpdate t vm vi vx) (W (k undef []))
  |_,_,_=>ff
 | .range t x=>match N0 env x with
  |some v=>F3 P (Instr.range t v) [.lf .ptr] fun r=>W (k (.pointer r.1) [])
  |none=>ff
 | .next it str=>match N0 env it with
  |some (.pointer p)=>Pm P (Instr.next (.pointer p) str o.type) (match str with|true=>some (.lf (.int .i64))|false=>none) (match str with|true=>some (.lf (.int .i32))|false=>none)
    (W (k (.tuple #[.bool false]) [])) fun x y=>W (k (.tuple #[.bool true,Ji _ x,Ji _ y]) [])
  |_=>ff
 | .entry it=>match N0 env it with
  |some (.pointer p)=>Se P (Instr.entry (.pointer p)) (X 0) (X 1) fun x y=>k (.tuple #[Ji _ x,Ji _ y]) [Cc P (Instr.entry (.pointer p)) (.tuple #[Ji _ x,Ji _ y])]
  |_=>ff
 | .extract x i=>match N0 env x with
  |some (.tuple vs)=>match vs[i]? with|some v=>k v []|none=>ff
  |_=>ff
 | .call c=>FN P o env c W k
 |_=>ff
def Ni(n:Nat)(env:K4)(dst:Option Tmp)(v:Value)(k:K4->HP):HP:=
 match dst with
 |none=>k env
 |some d=>match Nat.blt d n with|true=>k ((d,v)::env)|false=>ff
def CN(drawn:Bool)(i:Nat)(φs:List HP)(T:List (Nat×HP)):List (Nat×HP):=match drawn with|true=>φs.map (i, ·)++T|false=>T
def Yk(ops:List Oper)(d:Option Tmp)(j:Nat):Option Sh:=
 match ops with
 |[]=>none
 |o::r=>match o.op with
  | .extract (.tmp t) i=>match(match d with|some d=>Nat.beq t d&&Nat.beq i j|none=>false)with
   |true=>Gk P o.type
   |false=>Yk r d j
  |_=>Yk r d j
def Kt(n:Nat)(ops:Array Oper)(anc:Nat->Nat->Bool)(drawn:Bool):List Nat->K4->List (Nat×HP)->(K4->HP)->HP
 |[],env,_,K=>K env
 |i::r,env,T,K=>match ops[i]? with
  |none=>ff
  |some o=>
   let run:K4->HP:=fun env=>M9 P (Yk P ops.toList o.dst) o env (Ks ((T.filter fun q=> !anc q.1 i).map (·.2))) fun v φs=>
    Ni n env o.dst v fun env'=>Kt n ops anc drawn r env' (CN drawn i φs T) K
   let skip:K4->HP:=fun env=>Ni n env o.dst undef fun env'=>Kt n ops anc drawn r env' T K
   match o.guard with
   |none=>run env
   |some (j,want)=>match(match ops[j]? with|some oj=>oj.dst|none=>none)with
    |none=>ff
    |some d=>match Ci env d with
     |some (.bool t)=>B3 t (match want with|true=>run ((d,.bool true)::env)|false=>skip ((d,.bool true)::env))
       (match want with|true=>skip ((d,.bool false)::env)|false=>run ((d,.bool false)::env))
     |some (.tuple _)=>skip env
     |_=>ff
structure D4 where
 loops:List (Nat×List (Nat×Sh))
 joins:List (Nat×List (Nat×Sh))
 plans:List (Nat×List Nat)
def Qs{α:Type}:List (Nat×α)->Nat->Option α
 |[],_=>none
 |(i,x)::r,j=>match Nat.beq i j with|true=>some x|false=>Qs r j
def Ma(ops:Array Oper):List Nat:=ops.toList.filterMap (·.dst)
def Fq:Code->List Nat
 | .region _ ops _=>Ma ops
 | .seq a b=>Fq a++Fq b
 | .cond _ a b=>Fq a++Fq b
 | .block _ c=>Fq c
 | .loop c=>Fq c
 | .scope c=>Fq c
 |_=>[]
def Qd:List Nat->Nat->Bool
 |[],_=>false
 |x::r,y=>match Nat.beq x y with|true=>true|false=>Qd r y
def FP:Code->Option Nat
 | .region id _ _=>some id
 | .seq a _=>FP a
 | .block _ c=>FP c
 |_=>none
def Ah2(H:List (Nat×List (Nat×Sh)))(y:Code):Option (List (Nat×Sh)):=match FP y with|some r=>Qs H r|none=>none
def Lr(env:K4):(cs:List (Nat×Sh))->Option (D2 (cs.map (·.2)))
 |[]=>some ()
 |(t,s)::r=>match(match Ci env t with|some v=>s.of v|none=>none),Lr env r with
  |some x,some y=>some (x,y)
  |_,_=>none
def Lh:(cs:List (Nat×Sh))->D2 (cs.map (·.2))->K4
 |[],_=>[]
 |(t,s)::r,x=>(t,s.val x.1)::Lh r x.2
def Md(mods:List Nat):K4->K4
 |[]=>[]
 |(t,v)::r=>match Qd mods t with|true=>Md mods r|false=>(t,v)::Md mods r
def AH(env:K4)(c:Operand)(b:Bool):K4:=match c with| .tmp t=>(t,.bool b)::env|_=>env
def Bq(H:D4)(n:Nat):Code->Nat->(K4->HP)->(Nat->K4->HP)->(K4->HP)->K4->HP
 | .skip,_,Kn,_,_,env=>Kn env
 | .region id ops false,_,Kn,_,_,env=>Kt P n ops (fun _ _=>true) false (List.range ops.size) env [] Kn
 | .region id ops true,_,Kn,_,_,env=>match Qs H.plans id with
  |none=>ff
  |some π=>match DN ops (Dj (U6 ops.toList [])) (fun i=>match ops[i]? with|some o=>E6 P o|none=>.P) π with
   |true=>Kt P n ops (Dj (U6 ops.toList [])) true π env [] Kn
   |false=>ff
 | .seq x y,b,Kn,Kx,Kr,env=>match Ah2 H.joins y with
  |none=>Bq H n x b (fun env'=>Bq H n y b Kn Kx Kr env') Kx Kr env
  |some cs=>
   let j:D2 (cs.map (·.2))->HP:=fun v=>Bq H n y b Kn Kx Kr (Lh cs v++Md (Fq x) env)
   Bq H n x b (fun env'=>match Lr env' cs with|some v=>j v|none=>ff) Kx Kr env
 | .cond c x y,b,Kn,Kx,Kr,env=>match N0 env c with
  |some (.bool t)=>B3 t (Bq H n x b Kn Kx Kr (AH env c true)) (Bq H n y b Kn Kx Kr (AH env c false))
  |_=>ff
 | .block id c,_,Kn,Kx,Kr,env=>Bq H n c id Kn (fun e env'=>match Nat.beq e id with|true=>Kn env'|false=>Kx e env') Kr env
 | .loop c,b,_,Kx,Kr,env=>match Qs H.loops b with
  |none=>ff
  |some cs=>match Lr env cs with
   |none=>ff
   |some x0=>lp (cs.map (·.2)) x0 fun x Zn=>
    Bq H n c b (fun env'=>match Lr env' cs with|some x'=>Zn x'|none=>ff) Kx Kr (Lh cs x++Md (Fq c) env)
 | .exit id,_,_,Kx,_,env=>Kx id env
 | .ret,_,_,_,Kr,env=>Kr env
 | .scope c,b,Kn,Kx,Kr,env=>Bq H n c b Kn Kx Kr env
 | .label _,_,Kn,_,_,env=>Kn env
 |_,_,_,_,_,_=>ff
def Nf(env:K4):List ResultVar->(List Value->HP)->HP
 |[],K=>K []
 | .tmp t::r,K=>match Ci env t with|some v=>Nf env r fun vs=>K (v::vs)|none=>ff
 | .cell t ty::r,K=>match Ci env t,Gk P ty with
  |some (.pointer p),some sh=>B4 p fun ad=>ld ad sh fun x=>Nf env r fun vs=>K (sh.val x::vs)
  |_,_=>ff
def DJ:List Value->Value
 |[v]=>v
 |vs=>.tuple vs.toArray
def Rs:Nat->List Value->K4
 |_,[]=>[]
 |i,v::r=>(i,v)::Rs (i+1) r
def Nw(H:D4)(fn:Func)(args:List Value)(K:Value->HP):HP:=
 match fn.body,Nat.ble args.length fn.ntmps with
 |some c,true=>
  let R:K4->HP:=fun env=>Nf P env fn.results.toList fun vs=>K (DJ vs)
  Bq P H fn.ntmps c 0 R (fun _ _=>ff) R (Rs 0 args)
 |_,_=>ff
end
variable{H:D4}
structure O0(n:Nat)(env:K4)(a:Act):Prop where
 size:a.tmps.size=n
 defers:a.defers=[]
 at': ∀t v,Ci env t=some v->a.tmps[t]?=some v
def Iz (P : Program) : Prop := P.funcs.all (fun fn => !(fn.name == "runtime.NumGoroutine")) = true
section
variable {P:Program} {n:Nat} {env:K4} {a:Act} (aB:O0 n env a)
include aB
def O0.ev{x:Operand}(h:N0 env x=some v):a.eval x=v:=by
 cases x with
 |tmp t=>
  have:=aB.at' t v h;simp[Act.eval,this]
 |const v=>simpa[N0,Act.eval]using h
 |global g=>simpa[N0,Act.eval]using h
 |func f=>simpa[N0,Act.eval]using h
theorem O0.evs: ∀{xs:List Operand} {vs:List Value},Us env xs=some vs->xs.map a.eval=vs
 |[],vs,h=>by simp[Us]at h;simp[h]
 |x::r,vs,h=>by
  simp only[Us]at h;split at h
  ·rename_i v vs' hv kW;obtain rfl:=NI h;simp[aB.ev hv,O0.evs kW]
  ·cases h
theorem O0.evps: ∀{xs:List (Nat×Operand)} {vs:List (Nat×Value)},Nz env xs=some vs->xs.map (fun(i,x)=>(i,a.eval x))=vs
 |[],vs,h=>by simp[Nz]at h;simp[h]
 |(i,x)::r,vs,h=>by
  simp only[Nz]at h;split at h
  ·rename_i v vs' hv kW;obtain rfl:=NI h;simp[aB.ev hv,O0.evps kW]
  ·cases h
def O0.eva{xs:Array Operand}{vs:Array Value}(h:Qu env xs=some vs):xs.map a.eval=vs:=by
 unfold Qu at h;split at h
 ·rename_i l hl;obtain rfl:=NI h;rw[<-aB.evs hl];exact VC (by simp)
 ·cases h
def O0.evpa{xs:Array (Nat×Operand)}{vs:List (Nat×Value)}(h:Nz env xs.toList=some vs):(xs.map fun(i,x)=>(i,a.eval x)).toList=vs:=by
 rw[<-aB.evps h];simp
def O0.evo{x:Option Operand}{v:Option Value}(h:Qt env x=some v):x.map a.eval=v:=by
 cases x with
 |none=>simpa[Qt]using h
 |some x=>
  simp only[Qt]at h;split at h
  ·rename_i v' hv;obtain rfl:=NI h;simp[aB.ev hv]
  ·cases h
end
def Cd(P:Program)(c:Cls)(o:Oper)(a:Act)(L:B1)(φs:List HP)(k:Value->List HP->HP):Prop:=
 match c with
 | .P=> ∃v,(∀w,(execOp a.eval o).run P w= .ok (.value v) w)/\k v [] L
 | .R=> ∃v φ,Hb P (execOp a.eval o) L v/\(∀L',φ L'->Hb P (execOp a.eval o) L' v)/\k v [φ] L
 | .A=>Ax6 P (execOp a.eval o)/\ ∀n ob v,Ax5 P (execOp a.eval o) n ob v->O3 ((n,ob)::L)->k v [] ((n,ob)::L)
 | .W=>W8 P o a L fun a' L'=> ∃v,a'=a.put o.dst v/\(∀φ∈φs,φ L')/\k v [] L'
def Ft{φs:List HP}{k:HP}(h:Ks φs k L):(∀φ∈φs,φ L)/\k L:=by
 induction φs with
 |nil=>exact⟨by simp,h⟩
 |cons φ r ih=>
  obtain⟨h1,h2⟩:=h;obtain⟨h3,h4⟩:=ih h2;refine⟨fun ψ hψ=>?_,h4⟩;rcases OC.1 hψ with rfl|hψ
  ·exact h1
  ·exact h3 ψ hψ
def Ls{p:Option Addr}{k:Addr->HP}(h:B4 p k L): ∃a,p=some a/\k a L:=by
 cases p with
 |none=>exact h.elim
 |some a=>exact⟨a,rfl,h⟩
def EZ{t:Bool}{A:HP}(h:B3 t A B L):(t=true/\A L)\/(t=false/\B L):=by
 cases t
 ·exact .inr ⟨rfl,h⟩
 ·exact .inl ⟨rfl,h⟩
def Ag4{k':IntKind}(h:Xn k k'=true):k=k':=by cases k<;>cases k'<;>first|rfl|cases h
def Fl(h:Dq P t=some n)(w:World):(sizeOf t).run P w= .ok n w:=by
 unfold Dq at h;split at h
 ·rename_i i hi;obtain rfl:=NI h;simp[sizeOf,typeInfo,hi]
 ·cases h
def Vk(h:Ox P t=some z)(w:World):(zeroValue t).run P w= .ok z w:=by
 unfold Ox at h;split at h
 ·rename_i i hi;simp[zeroValue,typeInfo,hi,h]
 ·cases h
def K5(h:P.underlying t=some d)(w:World):(underlying t).run P w= .ok d w:=run_underlying h w
def Ml:TypeDesc->Bool| .struct _| .array _ _=>true|_=>false
def Sm(h:P.underlying t=some d)(w:World):(isAgg t).run P w= .ok (Ml d) w:=by
 simp only[isAgg,Sem.run_bind,run_underlying h,Result.andThen_ok];cases d<;>rfl
def J4.cell(h:J4 E w L){T:TypeId}(hm:(b,Obj.cells c T fz)∈L)(i:Nat):w.cell? ⟨b,i,none⟩=c[i]?:=by
 have:=h.blk _ hm;simp only at this;simp[World.cell?,this]
def Fh(hs:ad.spot=none)(i:Nat):ad.add i=⟨ad.block,ad.off+i,none⟩:=by
 obtain⟨b,o,s⟩:=ad;simp only at hs;subst hs;unfold Addr.add;split
 ·rename_i h;subst h;rfl
 ·rfl
def C0.cells(h:J4 E w (L++F))(hl:C0 ad vs L): ∀i v,vs[i]?=some v->w.cell? (ad.add i)=some v:=by
 obtain⟨c,T,fz,hm,hs,hc⟩:=hl;intro i v hv;rw[Fh hs,h.cell (OA _ hm)];exact hc i v hv
theorem Af7: ∀(ls:List Lf) (x:Rn ls),(Lt ls x).length=ls.length
 |[],_=>rfl
 |l::r,x=>by simp[Lt,Af7 r]
def Bf7(h:Gk P t=some sh): ∃d n,P.underlying t=some d/\Dq P t=some n/\
    ((∃ls,sh= .agg ls/\ls.length=n/\Ml d=true)\/
     (∃l,sh= .lf l/\n=1/\Ml d=false)):=by
  unfold Gk at h;split at h
  · rename_i ls n d hl hn hd
    refine⟨d,n,hd,hn,?_⟩;split at h
    · rename_i fs hb
      obtain rfl:=NI h;exact .inl ⟨ls,rfl,RH hb,rfl⟩
    · rename_i k e hb
      obtain rfl:=NI h;exact .inl ⟨ls,rfl,RH hb,rfl⟩
    · rename_i hb cN wZ
      split at h
      · rename_i l
        obtain rfl:=NI h;refine .inr ⟨l,rfl,(RH hb).symm,?_⟩;unfold Ml;split
        · exact(cN _ rfl).elim
        · exact(wZ _ _ rfl).elim
        · rfl
      · cases h
    · cases h
  · cases h
def Af0(h:Gk P t=some sh)(x:F7 sh)(hc: ∀i v,(sh.vals x)[i]?=some v->w.cell? (ad.add i)=some v):
  (loadVar t ad).run P w= .ok (sh.val x) w:=by
 obtain⟨d,n,hd,hn,h⟩:=Bf7 h;unfold loadVar;rcases h with⟨ls,rfl,rfl,hb⟩|⟨l,rfl,rfl,hb⟩
 ·simp only[Sem.run_bind,Sm hd,Result.andThen_ok,hb,if_true,Fl hn];have:=run_loadCells_list (P:=P) w ad (Lt ls x) hc;rw[Af7]at this;simp[this,Sh.val]
 ·simp only[Sem.run_bind,Sm hd,Result.andThen_ok,hb,QN,if_false];have:=hc 0 (l.val x) rfl;simp only[Addr.add,if_true]at this;simp[this,Sh.val]
def Bq9(h:Bt v=true):v.oneCell'=true:=by cases v<;>first|rfl|cases h
def Bg1{T:TypeId}(h:w.heap[b]?=some (.cells c T fz)):
  w.setCell ⟨b,i,none⟩ v={w with heap:=w.heap.setIfInBounds b (.cells (c.setIfInBounds i v) T fz)}:=by
 unfold World.setCell;congr 1;apply TQ;intro j;rw[YH];obtain⟨hb,hg⟩:=SF.1 h;by_cases hj:b=j
 ·subst hj;simp[hb,hg]
 ·rw[ND hj,TB hj]
theorem Sk{P:Program}{E:World}{F:B1}{A B:B1}{b:Nat}{T:TypeId}{fz:Nat×Nat}: ∀(vs:List Value) (c:Array Value) (o i:Nat) (w:World),
  vs.all Bt=true->J4 E w ((A++(b,Obj.cells c T fz)::B)++F)->o+i+vs.length<=c.size->(∀j,j<vs.length-> ¬(fz.1<=o+i+j/\o+i+j<fz.2))->
  ∃w',(storeCells ⟨b,o,none⟩ vs i).run P w= .ok () w'/\J4 E w' ((A++(b,Obj.cells (wr c (o+i) vs) T fz)::B)++F)
 |[],c,o,i,w,_,hw,_,_=>⟨w,rfl,hw⟩
 |v::r,c,o,i,w,hp,hw,aE,eS=>by
  simp only[List.all_cons,PO]at hp;simp only[NU]at aE;have hm:(b,Obj.cells c T fz)∈(A++(b,Obj.cells c T fz)::B)++F:=by simp
  have dR:=hw.blk _ hm;simp only at dR;have dX:w.cell? ⟨b,o+i,none⟩=some c[o+i]:=by
   rw[hw.cell hm];simp[show o+i<c.size by omega]
  have cD:w.frozen? ⟨b,o+i,none⟩=false:=by
   have:=eS 0 (by simp);obtain⟨lo,hi⟩:=fz;simp only[World.frozen?,dR];simp only[QU]at this;rw[Bool.and_eq_false_iff,WQ,WQ];omega
  have gS:J4 E (w.setCell ⟨b,o+i,none⟩ v) ((A++(b,Obj.cells (c.setIfInBounds (o+i) v) T fz)::B)++F):=by
   rw[Bg1 dR];have iP:J4 E w (A++(b,Obj.cells c T fz)::(B++F)):=by simpa using hw
   have:=iP.put (.cells (c.setIfInBounds (o+i) v) T fz);simpa using this
  obtain⟨w',hr,aI⟩:=Sk r (c.setIfInBounds (o+i) v) o (i+1) _ hp.2 gS (by simp;omega) (fun j hj=>by
   have:=eS (j+1) (by simp;omega);rw[show o+(i+1)+j=o+i+(j+1) by omega];exact this)
  refine⟨w',?_,?_⟩
  ·simp only[storeCells,Sem.run_bind];rw[Fh rfl,run_store P w _ v _ (Bq9 hp.1),dX];simp only[cD,QN,if_false,Result.andThen_ok];exact hr
  ·simp only[wr];rw[show o+i+1=o+(i+1) by omega];exact aI
section
variable {P:Program} {n:Nat} {env:K4} {a:Act} {o:Oper} {φs:List HP} {k:Value->List HP->HP} {L:B1}
def Lj(h:s.run P w= .ok v w'):(do pure (.value (<-s)):Sem Next).run P w= .ok (.value v) w':=by simp[h]
def Bj8{s:Sem Unit}(h:s.run P w= .ok () w'):(do s;pure .skip:Sem Next).run P w= .ok .skip w':=by simp[h]
def DM(he: ∀w,(execOp a.eval o).run P w=(do pure (.value (<-s)):Sem Next).run P w)(cT:Zt P s)
  (hk: ∀m ob v,Ax4 P s m ob v->O3 ((m,ob)::L)->k v [] ((m,ob)::L)):Cd P .A o a L φs k:=by
 have inv: ∀{w w':World} {v:Value},(execOp a.eval o).run P w= .ok (.value v) w'->s.run P w= .ok v w':=by
  intro w w' v h;rw[he]at h;simp only[Sem.run_bind]at h;cases hs:s.run P w with
  |ok v' w1=>rw[hs]at h;simp at h;obtain⟨rfl,rfl⟩:=h;rfl
  |halt x w1=>rw[hs]at h;simp at h
 refine⟨fun w=>?_,fun m ob v hg hs=>?_⟩
 ·obtain⟨ob,v,d,h⟩:=cT w;exact⟨ob,v,d,by rw[he];exact Lj h⟩
 ·obtain⟨w,d,hw,h⟩:=hg;exact hk m ob v ⟨w,d,hw,inv h⟩ hs
def No(he: ∀w,(execOp a.eval o).run P w=(do pure (.value (<-s)):Sem Next).run P w)(h1:Cc P s v L)(h2: ∀L',φ L'->Cc P s v L')
  (hk:k v [φ] L):Cd P .R o a L φs k:=
 ⟨v,φ,fun E F w hw=>by rw[he];exact Lj (h1 E F w hw),fun L' hφ E F w hw=>by rw[he];exact Lj (h2 L' hφ E F w hw),hk⟩
def Nn(he: ∀w,(execOp a.eval o).run P w=(do pure (.value (<-s)):Sem Next).run P w)(h:Y3 P s (fun v L'=>(∀φ∈φs,φ L')/\k v [] L') L):Cd P .W o a L φs k:=by
 intro E F w next hw hn
 obtain⟨v,w',L',hr,aI,hφ,hk⟩:=h E F w hw;unfold Oper.wp;rw[he,Lj hr];exact hn _ _ _ aI ⟨v,rfl,hφ,hk⟩
def DL{s:Sem Unit}(he: ∀w,(execOp a.eval o).run P w=(do s;pure .skip:Sem Next).run P w)
  (h: ∀E F w,J4 E w (L++F)-> ∃w' L',s.run P w= .ok () w'/\J4 E w' (L'++F)/\(∀φ∈φs,φ L')/\k undef [] L'):Cd P .W o a L φs k:=by
 intro E F w next hw hn
 obtain⟨w',L',hr,aI,hφ,hk⟩:=h E F w hw;unfold Oper.wp;rw[he,Bj8 hr];exact hn _ _ _ aI ⟨undef,rfl,hφ,hk⟩
def As7(hN:Iz P)(hf:P.funcs[f]?=some fn)(hb:fn.body.isSome=true)(args:Array Value)(w:World):
  (callFunc f args).run P w= .ok (.enter f args) w:=by
 have hn : (fn.name == "runtime.NumGoroutine") = false := by
  have:=WN.1 hN fn (WT hf);simpa using this
 have qX : ¬ fn.name = "runtime.NumGoroutine" := by simpa using hn
 have fZ: ¬fn.body=none:=by intro h;rw[h]at hb;cases hb
 simp[callFunc,hf,qX,fZ]
def Ac0(he: ∀w,(execOp a.eval o).run P w= .ok (.enter f args) w)(h:CallF P f args L K)
  (hk: ∀v L',K v L'->(∀φ∈φs,φ L')/\k v [] L'):Cd P .W o a L φs k:=by
 intro E F w next hw hn
 unfold Oper.wp;rw[he];rw[Oper.upon_enter];refine Calls.mono (h E F w hw) fun e w' ⟨v,L',hv,aI,hK⟩=>?_;subst hv;obtain⟨h1,h2⟩:=hk v L' hK;exact hn _ _ _ aI ⟨v,rfl,h1,h2⟩
def Ai5: ∀{vs:List Value} {kd:IntKind} {ns:List Int},Ev vs=some (kd,ns)-> ∃k0 n r,vs= .int k0 n::r/\kd=k0/\ ∃ms,ns=n::ms/\
  (∀w,(r.foldlM Builtin.min2 (.int kd n)).run P w= .ok (.int kd (ms.foldl N8 n)) w)/\(∀w,(r.foldlM Builtin.max2 (.int kd n)).run P w= .ok (.int kd (ms.foldl L9 n)) w):=by
 have key: ∀(vs:List Value) (kd:IntKind) (ns:List Int),Ev vs=some (kd,ns)->
   (∀(k1:IntKind) (n:Int) w,(vs.foldlM Builtin.min2 (.int k1 n)).run P w= .ok (.int k1 (ns.foldl N8 n)) w)/\(∀(k1:IntKind) (n:Int) w,(vs.foldlM Builtin.max2 (.int k1 n)).run P w= .ok (.int k1 (ns.foldl L9 n)) w):=by
  intro vs;induction vs with
  |nil=>intro kd ns h;simp[Ev]at h
  |cons v r ih=>
   intro kd ns h;cases v with
   |int k1 n1=>
    cases r with
    |nil=>
     simp only[Ev,RJ,QC]at h;obtain⟨_,rfl⟩:=h;exact⟨fun k n w=>by simp[Builtin.min2,N8],fun k n w=>by simp[Builtin.max2,L9]⟩
    |cons v2 r2=>
     simp only[Ev]at h;split at h
     ·rename_i k2 ns2 h2;obtain⟨rfl,rfl⟩:=by simpa using h
      obtain⟨h3,h4⟩:=ih _ _ h2;refine⟨fun k n w=>?_,fun k n w=>?_⟩
      ·rw[List.foldlM_cons,Sem.run_bind];simp only[Builtin.min2,Sem.run_pure,Result.andThen_ok];exact h3 k _ w
      ·rw[List.foldlM_cons,Sem.run_bind];simp only[Builtin.max2,Sem.run_pure,Result.andThen_ok];exact h4 k _ w
     ·cases h
   |_=>cases r<;>simp[Ev]at h
 intro vs kd ns h;cases vs with
 |nil=>simp[Ev]at h
 |cons v r=>
  cases v with
  |int k0 n=>
   cases r with
   |nil=>
    simp only[Ev,RJ,QC]at h;obtain⟨rfl,rfl⟩:=h;exact⟨_,_,_,rfl,rfl,[],rfl,fun w=>by simp,fun w=>by simp⟩
   |cons v2 r2=>
    simp only[Ev]at h;split at h
    ·rename_i k2 ns2 h2;obtain⟨rfl,rfl⟩:=by simpa using h
     obtain⟨h3,h4⟩:=key _ _ _ h2;exact⟨_,_,_,rfl,rfl,ns2,rfl,fun w=>h3 _ _ w,fun w=>h4 _ _ w⟩
    ·cases h
  |_=>cases r<;>simp[Ev]at h
end
section
variable {P:Program} {n:Nat} {env:K4} {a:Act} {o:Oper} {φs:List HP} {k:Value->List HP->HP} {L:B1}
def BD(k:IntKind)(op:BinOp)(x y:Int)(w:World)(v:Value)(hx:op≠ .shl/\op≠ .shr)
  (h:(match op with
   | .add=>some (.int k (k.wrap (x+y)))| .sub=>some (.int k (k.wrap (x-y)))| .mul=>some (.int k (k.wrap (x*y)))
   | .quo=>if y=0 then none else some (.int k (k.wrap (x.tdiv y)))| .rem=>if y=0 then none else some (.int k (x.tmod y))
   | .and| .or| .xor| .andNot=>some (.int k (P9 op k x y))
   | .eql=>some (.bool (x==y))| .neq=>some (.bool (x !=y))| .lss=>some (.bool (decide (x<y)))| .leq=>some (.bool (decide (x<=y)))
   | .gtr=>some (.bool (decide (x>y)))| .geq=>some (.bool (decide (x≥y)))|_=>none)=some v) (t:TypeId):
  (binOp op t (.int k x) (.int k y)).run P w= .ok v w:=by
 cases op
 case shl=>exact absurd rfl hx.1
 case shr=>exact absurd rfl hx.2
 case quo=>
  simp only at h;split at h
  ·cases h
  ·rename_i h0;simp at h;subst h;simp[binOp,Op.intDiv,h0]
 case rem=>
  simp only at h;split at h
  ·cases h
  ·rename_i h0;simp at h;subst h;simp[binOp,Op.intDiv,h0]
 all_goals
  simp only[RJ]at h;subst h;first
   |(simp[binOp,Op.intArith];done)
   |(simp[binOp,Op.intBits,P9];done)
   |(simp[binOp,Op.intCmp];done)
def Bj9(op:BinOp)(t:TypeId)(x y:Operand)(k k':IntKind)(i j:Int)(w:World):(eqGuard op t x y (.int k i) (.int k' j)).run P w= .ok () w:=by
 cases op<;>simp[eqGuard]
def Nb(op:BinOp)(t:TypeId)(x y:Operand)(i j:ByteArray)(w:World):(eqGuard op t x y (.string i) (.string j)).run P w= .ok () w:=by
 cases op<;>simp[eqGuard]
def LS(op:BinOp)(t:TypeId)(x y:Operand)(i j:Bool)(w:World):(eqGuard op t x y (.bool i) (.bool j)).run P w= .ok () w:=by
 cases op<;>simp[eqGuard]
def Wf(op:BinOp)(t:TypeId)(x y:Operand)(i j:Option Addr)(w:World):(eqGuard op t x y (.pointer i) (.pointer j)).run P w= .ok () w:=by
 cases op<;>simp[eqGuard]
def LR(op:BinOp)(t:TypeId)(x y:Operand)(i j:Option Addr)(l m c d:Nat)(w:World):(eqGuard op t x y (.slice i l c) (.slice j m d)).run P w= .ok () w:=by
 cases op<;>simp[eqGuard]
def LU(op:BinOp)(t:TypeId)(x y:Operand)(i j:Array Value)(h:P.eqGuardType P.depth t=false)(w:World):(eqGuard op t x y (.agg i) (.agg j)).run P w= .ok () w:=by
 cases op<;>simp[eqGuard,h]
def Cj0{kx:IntKind}{i j:Int}(hx:op≠ .shl/\op≠ .shr)(h:FM op kx i j k L): ∃v,k v [] L/\ ∀(t:TypeId) w,(binOp op t (.int kx i) (.int kx j)).run P w= .ok v w:=by
 cases op
 case shl=>exact absurd rfl hx.1
 case shr=>exact absurd rfl hx.2
 case quo=>obtain⟨h0,hk⟩:=h;exact⟨_,hk,fun t w=>BD kx .quo i j w _ hx (by simp[h0]) t⟩
 case rem=>obtain⟨h0,hk⟩:=h;exact⟨_,hk,fun t w=>BD kx .rem i j w _ hx (by simp[h0]) t⟩
 all_goals first
  |exact⟨_,h,fun t w=>BD kx _ i j w _ hx rfl t⟩
  |exact h.elim
def Ns:(Ql P t=true-> ∃k,P.underlying t=some (.int k))/\(Ty P t=true->P.underlying t=some .string)/\(Ub P t=true->P.underlying t=some .bool)/\
  (Eg P t=true-> ∃e,P.underlying t=some (.pointer e))/\(Tz P t=true-> ∃e,P.underlying t=some (.slice e)):=by
 refine⟨fun h=>?_,fun h=>?_,fun h=>?_,fun h=>?_,fun h=>?_⟩
 ·unfold Ql at h;split at h
  ·exact⟨_,by assumption⟩
  ·cases h
 ·unfold Ty at h;split at h
  ·assumption
  ·cases h
 ·unfold Ub at h;split at h
  ·assumption
  ·cases h
 ·unfold Eg at h;split at h
  ·exact⟨_,by assumption⟩
  ·cases h
 ·unfold Tz at h;split at h
  ·exact⟨_,by assumption⟩
  ·cases h
def LQ(d:Nat)(hu:P.underlying t=some .bool)(i j:Bool)(w:World):(Op.equalIn (d+1) t (.bool i) (.bool j)).run P w= .ok (i==j) w:=by
 simp only[Op.equalIn,Sem.run_bind,K5 hu,Result.andThen_ok,Sem.run_pure]
def LP(d:Nat)(hu:P.underlying t=some (.pointer e))(i:Option Addr)(w:World):(Op.equalIn (d+1) t (.pointer i) (.pointer none)).run P w= .ok i.isNone w:=by
 cases i<;>simp only[Op.equalIn,Sem.run_bind,K5 hu,Result.andThen_ok,Sem.run_pure]<;>rfl
def LN(d:Nat)(hu:P.underlying t=some (.slice e))(i:Option Addr)(l c m q:Nat)(w:World):(Op.equalIn (d+1) t (.slice i l c) (.slice none m q)).run P w= .ok i.isNone w:=by
 cases i<;>simp only[Op.equalIn,Sem.run_bind,K5 hu,Result.andThen_ok,Sem.run_pure]<;>rfl
def BE{x y:Value}{r:Bool}(hb: ∀(op:BinOp),binOp .eql t x y=(do pure (.bool (<-Op.equal t x y)):Sem Value))(h:(Op.equalIn (9999+1) t x y).run P w= .ok r w):
  (binOp .eql t x y).run P w= .ok (.bool r) w:=by
 rw[hb .eql,Sem.run_bind];show((Op.equalIn (9999+1) t x y).run P w).andThen _=_;rw[h];rfl
def BC{x y:Value}{r:Bool}(hb: ∀(op:BinOp),binOp .neq t x y=(do pure (.bool (!(<-Op.equal t x y))):Sem Value))(h:(Op.equalIn (9999+1) t x y).run P w= .ok r w):
  (binOp .neq t x y).run P w= .ok (.bool (!r)) w:=by
 rw[hb .neq,Sem.run_bind];show((Op.equalIn (9999+1) t x y).run P w).andThen _=_;rw[h];rfl
def Cj3(aB:O0 n env a){xt yt:TypeId}{x y:Operand}(ho:o.op= .binOp op xt x y yt)(h:FO P o env op xt x y k L):Cd P (E6 P o) o a L φs k:=by
 have he: ∀w,(execOp a.eval o).run P w=(do let v<-(do eqGuard op xt x y (a.eval x) (a.eval y);binOp op xt (a.eval x) (a.eval y));pure (.value v):Sem Next).run P w:=by
  intro w;simp only[execOp,ho]
 have okP: ∀{v:Value},E6 P o= .P->(∀w,(eqGuard op xt x y (a.eval x) (a.eval y)).run P w= .ok () w)->(∀w,(binOp op xt (a.eval x) (a.eval y)).run P w= .ok v w)->k v [] L->Cd P (E6 P o) o a L φs k:=by
  intro v hc hg hr hk;rw[hc];exact⟨v,fun w=>by rw[he];exact Lj (by simp[hg w,hr w]),hk⟩
 unfold FO at h;cases hx:N0 env x with
 |none=>simp only[hx]at h;exact h.elim
 |some vx=>
  cases hy:N0 env y with
  |none=>simp only[hx,hy]at h;exact h.elim
  |some vy=>
   simp only[hx,hy]at h;have bC:=aB.ev hx;have cV:=aB.ev hy;have cQ: ∀{b:Bool},Eg P xt=b->(b=false\/Ua y=true\/(op≠ .eql/\op≠ .neq))->E6 P o= .P:=by
    intro b hb hh;simp only[E6,ho];rw[hb];rcases hh with rfl|hn|⟨h1,h2⟩
    ·cases op<;>cases Ua y<;>rfl
    ·rw[hn];cases op<;>rfl
    ·split
     ·exact absurd rfl h1
     ·exact absurd rfl h2
     ·rfl
   unfold Am9 at h;split at h
   ·--integers
    rename_i kx i ky j;have hp:Ql P xt=true->Eg P xt=false:=by
     intro h;obtain⟨kk,hk⟩:=(Ns (P:=P)).1 h;simp[Eg,hk]
    have fin: ∀{v:Value},Ql P xt=true->(∀w,(binOp op xt (.int kx i) (.int ky j)).run P w= .ok v w)->k v [] L->Cd P (E6 P o) o a L φs k:=fun hi hr hk=>
     okP (cQ (hp hi) (.inl rfl)) (fun w=>by rw[bC,cV];exact Bj9 _ _ _ _ _ _ _ _ _) (fun w=>by rw[bC,cV];exact hr w) hk
    cases hi:Ql P xt with
    |false=>rw[hi]at h;exact False.elim h
    |true=>
     rw[hi]at h;by_cases h1:op= .shl
     ·subst h1;obtain⟨h0,hk⟩:=h;exact fin hi (fun w=>by simp[binOp,Op.shift,VD.2 h0]) hk
     ·by_cases h2:op= .shr
      ·subst h2;obtain⟨h0,hk⟩:=h;exact fin hi (fun w=>by simp[binOp,Op.shift,VD.2 h0]) hk
      ·cases zK:Xn kx ky with
       |false=>rw[zK]at h;exact False.elim (by cases op<;>first|exact h|exact absurd rfl h1|exact absurd rfl h2)
       |true=>
        rw[zK]at h;obtain rfl:=Ag4 zK;have h':FM op kx i j k L:=by cases op<;>first|exact h|exact absurd rfl h1|exact absurd rfl h2
        obtain⟨v,hk,hr⟩:=Cj0 (P:=P) ⟨h1,h2⟩ h';exact fin hi (fun w=>hr _ w) hk
   ·--strings
    rename_i i j;have hp:Ty P xt=true->Eg P xt=false:=by
     intro h;have hk:=(Ns (P:=P)).2.1 h;simp[Eg,hk]
    cases hi:Ty P xt with
    |false=>rw[hi]at h;exact False.elim h
    |true=>
     rw[hi]at h;cases op
     case add=>
      obtain⟨h0,hk⟩:=h;refine okP (cQ (hp hi) (.inl rfl)) (fun w=>by rw[bC,cV];exact Nb _ _ _ _ _ _ _) (fun w=>?_) hk;rw[bC,cV];have: ¬IntKind.i64.max<((i.size+j.size:Nat):Int):=VD.2 h0;simp only[binOp,Op.stringOp,Sem.run_ite];rw[ND this];rfl
     case eql=>exact okP (cQ (hp hi) (.inl rfl)) (fun w=>by rw[bC,cV];exact Nb _ _ _ _ _ _ _) (fun w=>by rw[bC,cV];rfl) h
     case neq=>exact okP (cQ (hp hi) (.inl rfl)) (fun w=>by rw[bC,cV];exact Nb _ _ _ _ _ _ _) (fun w=>by rw[bC,cV];rfl) h
     case lss=>exact okP (cQ (hp hi) (.inl rfl)) (fun w=>by rw[bC,cV];exact Nb _ _ _ _ _ _ _) (fun w=>by rw[bC,cV];rfl) h
     case leq=>exact okP (cQ (hp hi) (.inl rfl)) (fun w=>by rw[bC,cV];exact Nb _ _ _ _ _ _ _) (fun w=>by rw[bC,cV];rfl) h
     case gtr=>exact okP (cQ (hp hi) (.inl rfl)) (fun w=>by rw[bC,cV];exact Nb _ _ _ _ _ _ _) (fun w=>by rw[bC,cV];rfl) h
     case geq=>exact okP (cQ (hp hi) (.inl rfl)) (fun w=>by rw[bC,cV];exact Nb _ _ _ _ _ _ _) (fun w=>by rw[bC,cV];rfl) h
     all_goals exact False.elim h
   ·--bools
    rename_i i j;have hp:Ub P xt=true->Eg P xt=false:=by
     intro h;have hk:=(Ns (P:=P)).2.2.1 h;simp[Eg,hk]
    cases hi:Ub P xt with
    |false=>rw[hi]at h;exact False.elim h
    |true=>
     rw[hi]at h;have hu:=(Ns (P:=P)).2.2.1 hi;cases op
     case eql=>
      refine okP (cQ (hp hi) (.inl rfl)) (fun w=>by rw[bC,cV];exact LS _ _ _ _ _ _ _) (fun w=>?_) h;rw[bC,cV];exact BE (fun _=>rfl) (LQ 9999 hu i j w)
     case neq=>
      refine okP (cQ (hp hi) (.inl rfl)) (fun w=>by rw[bC,cV];exact LS _ _ _ _ _ _ _) (fun w=>?_) h;rw[bC,cV];exact BC (fun _=>rfl) (LQ 9999 hu i j w)
     all_goals exact False.elim h
   ·--pointers
    rename_i i j;cases hi:Eg P xt with
    |false=>rw[hi]at h;exact False.elim h
    |true=>
     rw[hi]at h;obtain⟨e,hu⟩:=(Ns (P:=P)).2.2.2.1 hi;cases hn:Ua y with
     |true=>
      rw[hn]at h;cases op
      case eql=>
       cases j with
       |some _=>exact False.elim h
       |none=>
        refine okP (cQ hi (.inr (.inl hn))) (fun w=>by rw[bC,cV];exact Wf _ _ _ _ _ _ _) (fun w=>?_) h;rw[bC,cV];exact BE (fun _=>rfl) (LP 9999 hu i w)
      case neq=>
       cases j with
       |some _=>exact False.elim h
       |none=>
        refine okP (cQ hi (.inr (.inl hn))) (fun w=>by rw[bC,cV];exact Wf _ _ _ _ _ _ _) (fun w=>?_) h;rw[bC,cV];exact BC (fun _=>rfl) (LP 9999 hu i w)
      all_goals exact False.elim h
     |false=>
      rw[hn]at h;have goR: ∀(op':BinOp),op=op'->(E6 P o= .R)->S4 P (binOp op' xt (.pointer i) (.pointer j)) [.lf .bool] (fun r=>k (.bool r.1) [Cc P (binOp op' xt (.pointer i) (.pointer j)) (.bool r.1)]) L->Cd P (E6 P o) o a L φs k:=by
       rintro op' rfl hc ⟨r,hr,hk⟩;rw[hc];refine No (s:=(do eqGuard op xt x y (a.eval x) (a.eval y);binOp op xt (a.eval x) (a.eval y))) he (v:=.bool r.1) ?_ (fun L' h=>?_) hk
       ·intro E F w hw;rw[Sem.run_bind,bC,cV,Wf];exact hr E F w hw
       ·intro E F w hw;rw[Sem.run_bind,bC,cV,Wf];exact h E F w hw
      cases op
      case eql=>exact goR .eql rfl (by simp only[E6,ho,hi,hn]) h
      case neq=>exact goR .neq rfl (by simp only[E6,ho,hi,hn]) h
      all_goals exact False.elim h
   ·--slices
    rename_i i l c j m d;have hp:Tz P xt=true->Eg P xt=false:=by
     intro h;obtain⟨e,hk⟩:=(Ns (P:=P)).2.2.2.2 h;simp[Eg,hk]
    cases hi:Tz P xt with
    |false=>rw[hi]at h;exact False.elim h
    |true=>
     rw[hi]at h;obtain⟨e,hk⟩:=(Ns (P:=P)).2.2.2.2 hi;cases op
     case eql=>
      cases j with
      |some _=>exact False.elim h
      |none=>
       refine okP (cQ (hp hi) (.inl rfl)) (fun w=>by rw[bC,cV];exact LR _ _ _ _ _ _ _ _ _ _ _) (fun w=>?_) h;rw[bC,cV];exact BE (fun _=>rfl) (LN 9999 hk i l c m d w)
     case neq=>
      cases j with
      |some _=>exact False.elim h
      |none=>
       refine okP (cQ (hp hi) (.inl rfl)) (fun w=>by rw[bC,cV];exact LR _ _ _ _ _ _ _ _ _ _ _) (fun w=>?_) h;rw[bC,cV];exact BC (fun _=>rfl) (LN 9999 hk i l c m d w)
     all_goals exact False.elim h
   ·--structs,arrays
    rename_i i j;cases hi:Eg P xt with
    |true=>rw[hi]at h;exact False.elim (by cases op<;>exact h)
    |false=>
     rw[hi]at h;cases hg:P.eqGuardType P.depth xt with
     |true=>rw[hg]at h;exact False.elim (by cases op<;>exact h)
     |false=>
      rw[hg]at h;cases op
      case eql=>
       obtain⟨r,hr,hk⟩:=h;exact okP (cQ hi (.inl rfl)) (fun w=>by rw[bC,cV];exact LU _ _ _ _ _ _ hg _) (fun w=>by rw[bC,cV];exact hr w) hk
      case neq=>
       obtain⟨r,hr,hk⟩:=h;exact okP (cQ hi (.inl rfl)) (fun w=>by rw[bC,cV];exact LU _ _ _ _ _ _ hg _) (fun w=>by rw[bC,cV];exact hr w) hk
      all_goals exact False.elim h
   ·exact h.elim
end
section
variable {P:Program} {n:Nat} {env:K4} {a:Act} {o:Oper} {φs:List HP} {k:Value->List HP->HP} {L:B1}
def Ai4(f:FuncId)(captured args:Array Value):invoke (.fn (.func f) captured) args=callFunc f (args++captured):=rfl
def Ck6{c:Call}(ho:o.op= .call c)(hc:c.callee= .value (.func f))(w:World):
  (execOp a.eval o).run P w=(callFunc f (c.args.map a.eval)).run P w:=by
 simp only[execOp,ho,resolve,hc,Sem.run_bind,Act.eval,Deferred.ofValue,Sem.run_pure,Result.andThen_ok,Ai4];congr 2;simp
def Ck5{c:Call}{x:Operand}{first:Array Value}(ho:o.op= .call c)(hc:c.callee= .value x)(hx:a.eval x= .func (.func f) first captured)(w:World):
  (execOp a.eval o).run P w=(callFunc f ((first++c.args.map a.eval)++captured)).run P w:=by
 simp only[execOp,ho,resolve,hc,hx,Sem.run_bind,Deferred.ofValue,Sem.run_pure,Result.andThen_ok,Ai4]
def Ck7{c:Call}{b:Builtin}(ho:o.op= .call c)(hc:c.callee= .builtin b)(w:World):
  (execOp a.eval o).run P w=(builtin b c.argTypes o.type (c.args.map fun| .const _=>true|_=>false) (c.args.map a.eval)).run P w:=by
 simp only[execOp,ho,resolve,hc,Sem.run_bind,Sem.run_pure,Result.andThen_ok];rfl
def Cj2(hN:Iz P)(aB:O0 n env a){c:Call}(ho:o.op= .call c)(h:FN P o env c (Ks φs) k L):Cd P (E6 P o) o a L φs k:=by
 unfold FN at h;cases jY:Qu env c.args with
 |none=>simp only[jY]at h;exact False.elim h
 |some args=>
  simp only[jY]at h;have jL:=aB.eva jY;cases hc:c.callee with
  |invoke r m=>simp only[hc]at h;exact False.elim h
  |value x=>
   have cQ:E6 P o= .W:=by simp only[E6,ho,hc]
   rw[cQ];have viaClv: ∀{fn:Fn} {first captured:Array Value} {rs:List Sh} {K:D2 rs->HP},a.eval x= .func fn first captured->U5 P fn (first++args) captured rs K L->
     (∀r L',K r L'->(∀φ∈φs,φ L')/\k (Dt rs r) [] L')->Cd P .W o a L φs k:=by
    rintro fn first captured rs K hx ⟨f,rfl,hf,cR⟩ hk
    unfold Oe at hf;cases mX:P.funcs[f]? with
    |none=>rw[mX]at hf;cases hf
    |some fn=>
     rw[mX]at hf;refine Ac0 (f:=f) (args:=(first++args)++captured) (fun w=>?_) cR fun v L' ⟨r,hv,hK⟩=>by subst hv;exact hk r L' hK
     rw[Ck5 ho hc hx,jL];exact As7 hN mX hf _ w
   have generic: ∀(ay: ∀f,x≠ .func f),Cd P .W o a L φs k:=by
    intro ay;have h':(match N0 env x with
      |some (.func fn first captured)=>match P.underlying o.type with
       |some (.tuple ts)=>match Po P ts.toList with
        |some rs=>U5 P fn (first++args) captured rs fun r=>Ks φs (k (Dt rs r) [])
        |none=>ff
       |_=>match Gk P o.type with
        |some s=>U5 P fn (first++args) captured [s] fun r=>Ks φs (k (s.val r.1) [])
        |none=>ff
      |_=>ff:HP) L:=by
     rw[hc]at h;cases x with
     |func f=>exact absurd rfl (ay f)
     |_=>exact h
    cases hx:N0 env x with
    |none=>rw[hx]at h';exact False.elim h'
    |some v=>
     rw[hx]at h';have bC:=aB.ev hx;cases v
     case func fn first captured=>
      have one: ∀(h:(match Gk P o.type with
        |some s=>U5 P fn (first++args) captured [s] fun r=>Ks φs (k (s.val r.1) [])
        |none=>ff:HP) L),Cd P .W o a L φs k:=by
       intro h;cases hs:Gk P o.type with
       |none=>rw[hs]at h;exact False.elim h
       |some s=>rw[hs]at h;exact viaClv bC h fun r L' hK=>Ft hK
      cases hu:P.underlying o.type with
      |none=>rw[hu]at h';exact one h'
      |some d=>
       rw[hu]at h';cases d
       case tuple ts=>
        cases hs:Po P ts.toList with
        |none=>simp only[hs]at h';exact False.elim h'
        |some rs=>simp only[hs]at h';exact viaClv bC h' fun r L' hK=>Ft hK
       all_goals exact one h'
     all_goals exact False.elim h'
   cases x with
   |func f=>
    rw[hc]at h;simp only at h;cases mX:P.funcs[f]? with
    |none=>rw[mX]at h;exact False.elim h
    |some fn=>
     rw[mX]at h;simp only at h;cases hb:fn.body.isSome with
     |false=>rw[hb]at h;exact False.elim h
     |true=>
      rw[hb]at h;cases hs:Po P fn.resultTypes.toList with
      |none=>rw[hs]at h;exact False.elim h
      |some rs=>
       rw[hs]at h;refine Ac0 (f:=f) (args:=args) (fun w=>?_) h fun v L' ⟨r,hv,hK⟩=>by subst hv;exact Ft hK
       rw[Ck6 ho hc,jL];exact As7 hN mX hb _ w
   |tmp t=>exact generic (by intro f e;cases e)
   |const v=>exact generic (by intro f e;cases e)
   |global g=>exact generic (by intro f e;cases e)
  |builtin b=>
   have rN:=fun w=>Ck7 (P:=P) (a:=a) ho hc w;rw[jL]at rN;rw[hc]at h;simp only at h;have okP: ∀{v:Value},E6 P o= .P->(∀w,(builtin b c.argTypes o.type (c.args.map fun| .const _=>true|_=>false) args).run P w= .ok (.value v) w)->k v [] L->Cd P (E6 P o) o a L φs k:=by
    intro v cI hr hk;rw[cI];exact⟨v,fun w=>by rw[rN];exact hr w,hk⟩
   cases b
   case len=>
    have iK:args=args.toList.toArray:=by simp
    have nW:c.argTypes=c.argTypes.toList.toArray:=by simp
    generalize cT:args.toList=al at h;generalize oZ:c.argTypes.toList=tl at h;rw[cT]at iK;rw[oZ]at nW;cases tl with
    |nil=>exact False.elim (by cases al with|nil=>exact h|cons x r=>cases r<;>cases x<;>exact h)
    |cons t tr=>
     cases tr with
     |cons t2 tr=>exact False.elim (by cases al with|nil=>exact h|cons x r=>cases r<;>cases x<;>exact h)
     |nil=>
      cases al with
      |nil=>exact False.elim h
      |cons x r=>
       cases r with
       |cons x2 r=>exact False.elim (by cases x<;>exact h)
       |nil=>
        subst iK;have gJ:(∀kk e,P.underlying t≠some (.map kk e))->E6 P o= .P:=by
         intro hm;simp only[E6,ho,hc,oZ]
        have other:(match P.underlying t with
          |some (.array n _)=>k (.int .i64 n) []
          |some (.pointer u)=>match P.underlying u with|some (.array n _)=>k (.int .i64 n) []|_=>ff
          |_=>ff:HP) L->Cd P (E6 P o) o a L φs k:=by
         intro h;cases hu:P.underlying t with
         |none=>rw[hu]at h;exact False.elim h
         |some d=>
          rw[hu]at h;cases d
          case array m e=>
           refine okP (gJ (by rw[hu];intro _ _ h;cases h)) (fun w=>?_) h;rw[nW];cases x<;>simp[builtin,Builtin.len_,K5 hu,goInt]
          case pointer u=>
           cases yA:P.underlying u with
           |none=>simp only[yA]at h;exact False.elim h
           |some d2=>
            simp only[yA]at h;cases d2
            case array m e=>
             refine okP (gJ (by rw[hu];intro _ _ h;cases h)) (fun w=>?_) h;rw[nW];cases x<;>simp[builtin,Builtin.len_,K5 hu,K5 yA,goInt]
            all_goals exact False.elim h
          all_goals exact False.elim h
        cases x
        case string s=>
         cases hu:P.underlying t with
         |none=>simp only[hu]at h;exact False.elim h
         |some d=>
          simp only[hu]at h;cases d
          case string=>
           refine okP (gJ (by rw[hu];intro _ _ h;cases h)) (fun w=>?_) h;rw[nW];simp[builtin,Builtin.len_,K5 hu,goInt]
          all_goals exact False.elim h
        case slice b l cp=>
         cases hu:P.underlying t with
         |none=>simp only[hu]at h;exact False.elim h
         |some d=>
          simp only[hu]at h;cases d
          case slice e=>
           refine okP (gJ (by rw[hu];intro _ _ h;cases h)) (fun w=>?_) h;rw[nW];simp[builtin,Builtin.len_,K5 hu,goInt]
          all_goals exact False.elim h
        case map r=>
         cases hu:P.underlying t with
         |none=>simp only[hu]at h;exact False.elim h
         |some d=>
          simp only[hu]at h;cases d
          case map kk e=>
           obtain⟨r,hr,hk⟩:=h;have cI:E6 P o= .R:=by simp only[E6,ho,hc,oZ,hu]
           rw[cI];exact No (s:=Builtin.len_ c.argTypes o.type #[.map _]) (fun w=>by rw[rN];rfl) hr (fun L' h=>h) hk
          all_goals exact False.elim h
        all_goals exact other h
   case cap=>
    have iK:args=args.toList.toArray:=by simp
    have nW:c.argTypes=c.argTypes.toList.toArray:=by simp
    generalize cT:args.toList=al at h;generalize oZ:c.argTypes.toList=tl at h;rw[cT]at iK;rw[oZ]at nW;have cI:E6 P o= .P:=by simp only[E6,ho,hc]
    cases al with
    |nil=>exact False.elim h
    |cons x r=>
     cases r with
     |cons x2 r=>exact False.elim (by cases x<;>exact h)
     |nil=>
      cases x
      case slice b l cp=>
       cases tl with
       |nil=>exact False.elim h
       |cons t tr=>
        cases tr with
        |cons t2 tr=>exact False.elim h
        |nil=>
         subst iK;cases hu:P.underlying t with
         |none=>simp only[hu]at h;exact False.elim h
         |some d=>
          simp only[hu]at h;cases d
          case slice e=>
           refine okP cI (fun w=>?_) h;rw[nW];simp[builtin,Builtin.cap_,K5 hu,goInt]
          all_goals exact False.elim h
      all_goals exact False.elim h
   case min=>
    have cI:E6 P o= .P:=by simp only[E6,ho,hc]
    cases hi:Ev args.toList with
    |none=>simp only[hi]at h;exact False.elim h
    |some p=>
     obtain⟨kd,ns⟩:=p;obtain⟨k0,m,r,kW,rfl,ms,rfl,jF,uW⟩:=Ai5 (P:=P) hi;simp only[hi]at h;exact okP cI (fun w=>Lj (by simp only[Builtin.min_,kW];exact jF w)) h
   case max=>
    have cI:E6 P o= .P:=by simp only[E6,ho,hc]
    cases hi:Ev args.toList with
    |none=>simp only[hi]at h;exact False.elim h
    |some p=>
     obtain⟨kd,ns⟩:=p;obtain⟨k0,m,r,kW,rfl,ms,rfl,jF,uW⟩:=Ai5 (P:=P) hi;simp only[hi]at h;exact okP cI (fun w=>Lj (by simp only[Builtin.max_,kW];exact uW w)) h
   case append=>
    have cI:E6 P o= .W:=by simp only[E6,ho,hc]
    rw[cI];refine Nn (s:=Builtin.append_ c.argTypes o.type args) (fun w=>by rw[rN];rfl) fun E F w hw=>?_;obtain⟨v,w',L',hr,aI,r,rfl,hk⟩:=h E F w hw;exact⟨_,w',L',hr,aI,Ft hk⟩
   case copy=>
    have cI:E6 P o= .W:=by simp only[E6,ho,hc]
    rw[cI];refine Nn (s:=Builtin.copy_ c.argTypes o.type args) (fun w=>by rw[rN];rfl) fun E F w hw=>?_;obtain⟨v,w',L',hr,aI,r,rfl,hk⟩:=h E F w hw;exact⟨_,w',L',hr,aI,Ft hk⟩
   case clear=>
    have cI:E6 P o= .W:=by simp only[E6,ho,hc]
    rw[cI];refine Nn (s:=Builtin.clear_ c.argTypes o.type args) (fun w=>by rw[rN];rfl) fun E F w hw=>?_;obtain⟨v,w',L',hr,aI,r,rfl,hk⟩:=h E F w hw;exact⟨_,w',L',hr,aI,Ft hk⟩
   case delete=>
    have cI:E6 P o= .W:=by simp only[E6,ho,hc]
    rw[cI];refine Nn (s:=Builtin.delete_ c.argTypes o.type args) (fun w=>by rw[rN];rfl) fun E F w hw=>?_;obtain⟨v,w',L',hr,aI,r,rfl,hk⟩:=h E F w hw;exact⟨_,w',L',hr,aI,Ft hk⟩
   all_goals exact False.elim h
end
section
variable {P:Program} {n:Nat} {env:K4} {a:Act} {o:Oper} {φs:List HP} {k:Value->List HP->HP} {L:B1}
def Zt.pure(h: ∀w:World,∃ob v,s.run P w= .ok v {w with heap:=w.heap.push ob}):Zt P s:=fun w=>by
 obtain⟨ob,v,h⟩:=h w;exact⟨ob,v,w.drawn,h⟩
def BU{ob':Obj}{d d':Nat}(h:({w with heap:=w.heap.push ob,drawn:=d}:World)={w with heap:=w.heap.push ob',drawn:=d'}):ob=ob':=by
 have:w.heap.push ob=w.heap.push ob':=congrArg World.heap h;exact(Array.push_eq_push.1 this).1
def Te(hc:E6 P o= .A)(he: ∀w,(execOp a.eval o).run P w=(do pure (.value (<-s)):Sem Next).run P w){f:Nat->Value}
  (hs: ∀w,s.run P w= .ok (f w.heap.size) {w with heap:=w.heap.push ob}) (hk: ∀m,O3 ((m,ob)::L)->k (f m) [] ((m,ob)::L)):Cd P (E6 P o) o a L φs k:=by
 rw[hc];refine DM he (.pure fun w=>⟨ob,_,hs w⟩) fun m ob' v ⟨w,d,hw,hr⟩ fJ=>?_;rw[hs w]at hr;injection hr with h1 h2;have h3:=BU (d:=w.drawn) h2;subst h3 h1 hw;exact hk _ fJ
def Cj8{s:TypeId}{f:Nat}(h:FR P s f=some off)(w:World):(Instr.fieldAt s (.pointer (some ad)) f).run P w= .ok (.pointer (some (ad.add off))) w:=by
 unfold FR at h;split at h
 ·rename_i fs hu;split at h
  ·rename_i fd gI;split at h
   ·rename_i m hm;obtain rfl:=NI h;simp[Instr.fieldAt,K5 hu,gI,Instr.sureAddr,fieldPlace,Fl hm]
   ·cases h
  ·cases h
 ·cases h
def Bs6{cs:Array Value}(h:CW P t cs off=some v)(w:World):(part t cs off).run P w= .ok v w:=by
 unfold CW at h;split at h
 ·rename_i fs m hu hs;obtain rfl:=NI h;simp[part,Sm hu,Ml,Fl hs]
 ·rename_i q e m hu hs;obtain rfl:=NI h;simp[part,Sm hu,Ml,Fl hs]
 ·rename_i d m h1 h2 hu hs;have hd:Ml d=false:=by
   unfold Ml;split
   ·exact(h1 _ rfl).elim
   ·exact(h2 _ _ rfl).elim
   ·rfl
  simp[part,Sm hu,hd,h]
 ·cases h
def Bx1: ∀(fs:List Field) (pl:List (Nat×Nat)),fs.mapM (fun f=>match Dq P f.type with|some n=>some (f.offset,n)|none=>none)=some pl->
  ∀w,(fs.mapM (m:=Sem) fun f=>do pure (f.offset,<-sizeOf f.type)).run P w= .ok pl w:=by
 intro fs;induction fs with
 |nil=>intro pl h w;simp at h;subst h;simp
 |cons f r ih=>
  intro pl h w;simp only[VE,Option.bind_eq_bind,VF]at h;obtain⟨p,hp,ps,eI,he⟩:=h;obtain rfl:=NI he;split at hp
  ·rename_i m hm;obtain rfl:=NI hp;simp only[VE,Sem.run_bind,Fl hm,Sem.run_pure,Result.andThen_ok,ih ps eI]
  ·cases hp
def AT(isSlice:Bool){len cap:Nat}{lo hi mx:Option Value}{l m:Int}(fD:Hh 0 lo=some l)(sM:Hh len hi=some h)(hmx:Hh cap mx=some m)
  (aT:mx.isSome=true->hi.isSome=true) (hb:0<=l/\l<=h/\h<=m/\m<=cap) (w:World):(Instr.sliceBounds isSlice len cap lo hi mx).run P w= .ok (l.toNat,h.toNat,m.toNat) w:=by
 obtain⟨h0,h1,h2,h3⟩:=hb;have eE: ∀(k:IntKind) (i:Int) (y:Nat) (code:BoundsCode),0<=i->i<=y->(Instr.sliceBound (.int k i) y code).run P w= .ok i.toNat w:=by
  intro k i y code h1 h2;simp[Instr.sliceBound,asIntOf,h1,h2]
 have eqOI: ∀{d:Int} {v:Option Value} {r:Int},Hh d v=some r->(v=none/\r=d)\/ ∃k,v=some (.int k r):=by
  intro d v r h;unfold Hh at h;split at h
  ·simp at h;exact .inl ⟨rfl,h.symm⟩
  ·simp at h;subst h;exact .inr ⟨_,rfl⟩
  ·cases h
 rcases eqOI hmx with⟨rfl,rfl⟩|⟨km,rfl⟩
 ·rcases eqOI sM with⟨rfl,rfl⟩|⟨kh,rfl⟩
  ·rcases eqOI fD with⟨rfl,rfl⟩|⟨kl,rfl⟩
   ·simp[Instr.sliceBounds]
   ·simp[Instr.sliceBounds,eE kl l len _ h0 (by omega)]
  ·rcases eqOI fD with⟨rfl,rfl⟩|⟨kl,rfl⟩
   ·simp[Instr.sliceBounds,eE kh h cap _ (by omega) (by omega)]
   ·have:=eE kl l h.toNat .sliceB h0 (by omega);simp[Instr.sliceBounds,eE kh h cap _ (by omega) (by omega),this]
 ·rcases eqOI sM with⟨rfl,rfl⟩|⟨kh,rfl⟩
  ·exact absurd (aT rfl) (by decide)
  ·have hh:=eE kh h m.toNat .slice3B (by omega) (by omega);rcases eqOI fD with⟨rfl,rfl⟩|⟨kl,rfl⟩
   ·simp[Instr.sliceBounds,eE km m cap _ (by omega) (by omega),hh]
   ·have:=eE kl l h.toNat .slice3C h0 (by omega);simp[Instr.sliceBounds,eE km m cap _ (by omega) (by omega),hh,this]
end
section
variable {P:Program} {n:Nat} {env:K4} {a:Act} {o:Oper} {φs:List HP} {k:Value->List HP->HP} {L:B1}
def Cx(hc:E6 P o= .P)(he: ∀w,(execOp a.eval o).run P w=(do pure (.value (<-s)):Sem Next).run P w)(hs: ∀w,s.run P w= .ok v w)(hk:k v [] L):Cd P (E6 P o) o a L φs k:=by
 rw[hc];exact⟨v,fun w=>by rw[he];exact Lj (hs w),hk⟩
def M1{M:HP}{L:B1}(h:M L): ∃M':HP,M'=M/\M' L:=⟨M,rfl,h⟩
def Ci9(hN:Iz P){X:Nat->Option Sh}(aB:O0 n env a)(h:M9 P X o env (Ks φs) k L):Cd P (E6 P o) o a L φs k:=by
 cases ho:o.op with
 |move x=>
  simp only[M9,ho]at h;cases hx:N0 env x with
  |none=>rw[hx]at h;exact False.elim h
  |some v=>
   rw[hx]at h;have hc:E6 P o= .P:=by simp only[E6,ho]
   rw[hc];exact⟨v,fun w=>by simp only[execOp,ho,aB.ev hx];rfl,h⟩
 |assign x=>
  simp only[M9,ho]at h;cases hx:N0 env x with
  |none=>rw[hx]at h;exact False.elim h
  |some v=>
   rw[hx]at h;have hc:E6 P o= .P:=by simp only[E6,ho]
   rw[hc];exact⟨v,fun w=>by simp only[execOp,ho,aB.ev hx];rfl,h⟩
 |pick c x y=>
  simp only[M9,ho]at h;have hc:E6 P o= .P:=by simp only[E6,ho]
  have hq:=M1 h;clear h;obtain⟨M,hM,h⟩:=hq;split at hM<;>subst hM
  ·rename_i t va vb h1 h2 h3;rw[hc];have e1:=aB.ev h1;have e2:=aB.ev h2;have e3:=aB.ev h3;rcases EZ h with⟨rfl,h⟩|⟨rfl,h⟩
   ·exact⟨va,fun w=>by simp[execOp,ho,e1,e2,asBool],h⟩
   ·exact⟨vb,fun w=>by simp[execOp,ho,e1,e3,asBool],h⟩
  ·exact False.elim h
 |alloc t=>
  simp only[M9,ho]at h;cases hz:Ox P t with
  |none=>rw[hz]at h;exact False.elim h
  |some z=>
   rw[hz]at h;refine Te (by simp only[E6,ho]) (s:=Instr.alloc t true (.tuple #[])) (fun w=>by simp only[execOp,ho]) (ob:=.cells z.cells t) (f:=fun m=>.pointer (some ⟨m,0,none⟩)) (fun w=>?_) h;simp[Instr.alloc,Vk hz,newVar,newRow]
 |box t x=>
  simp only[M9,ho]at h;cases hx:N0 env x with
  |none=>rw[hx]at h;exact False.elim h
  |some v=>
   rw[hx]at h;refine Te (by simp only[E6,ho]) (s:=Instr.box t (a.eval x)) (fun w=>by simp only[execOp,ho]) (ob:=.cells v.cells t) (f:=fun m=>.pointer (some ⟨m,0,none⟩)) (fun w=>?_) h;rw[aB.ev hx];simp[Instr.box,newVar,newRow]
 |build t parts=>
  simp only[M9,ho]at h;have hc:E6 P o= .P:=by simp only[E6,ho]
  have hq:=M1 h;clear h;obtain⟨M,hM,h⟩:=hq;split at hM<;>subst hM
  ·rename_i ps z fs h1 h2 h3;have hq:=M1 h;clear h;obtain⟨M,hM,h⟩:=hq;split at hM<;>subst hM
   ·rename_i pl aQ;have hq:=M1 h;clear h;obtain⟨M,hM,h⟩:=hq;split at hM<;>subst hM
    ·rename_i cs dH;refine Cx hc (s:=Instr.build t (parts.map fun(i,x)=>(i,a.eval x))) (fun w=>by simp only[execOp,ho]) (fun w=>?_) h;have iA: ∀w,(fs.mapM (m:=Sem) fun f=>do pure (f.offset,<-sizeOf f.type)).run P w= .ok pl.toArray w:=by
      intro w;rw[YI];rw[Sem.run_map,Bx1 fs.toList pl aQ w];rfl
     simp only[Instr.build,Sem.run_bind,Vk h2,Result.andThen_ok,K5 h3,iA,aB.evpa h1];have:Instr.fill (fun x=>pl.toArray[x]?) z.cells ps=some cs:=by simpa using dH
     rw[this];rfl
    ·exact False.elim h
   ·exact False.elim h
  ·rename_i ps z q e h1 h2 h3;have hq:=M1 h;clear h;obtain⟨M,hM,h⟩:=hq;split at hM<;>subst hM
   ·rename_i m hm;have hq:=M1 h;clear h;obtain⟨M,hM,h⟩:=hq;split at hM<;>subst hM
    ·rename_i cs dH;refine Cx hc (s:=Instr.build t (parts.map fun(i,x)=>(i,a.eval x))) (fun w=>by simp only[execOp,ho]) (fun w=>?_) h;simp only[Instr.build,Sem.run_bind,Vk h2,Result.andThen_ok,K5 h3,Fl hm,aB.evpa h1,dH];rfl
    ·exact False.elim h
   ·exact False.elim h
  ·exact False.elim h
 |buildSlice t len parts=>
  simp only[M9,ho]at h;have hc:E6 P o= .A:=by simp only[E6,ho]
  have hq:=M1 h;clear h;obtain⟨M,hM,h⟩:=hq;split at hM<;>subst hM
  ·rename_i ps e h1 h3;have hq:=M1 h;clear h;obtain⟨M,hM,h⟩:=hq;split at hM<;>subst hM
   ·rename_i m z hm hz;have hq:=M1 h;clear h;obtain⟨M,hM,h⟩:=hq;split at hM<;>subst hM
    ·rename_i cs bV hZ dH;have qW:len*m≠0:=VG hZ;have zE: ¬16777216<len*m:=Nat.not_lt.2 (WU bV);refine Te hc (s:=Instr.buildSlice t len (parts.map fun(i,x)=>(i,a.eval x))) (fun w=>by simp only[execOp,ho]) (ob:=.cells cs e) (f:=fun b=>.slice (some ⟨b,0,none⟩) len len) (fun w=>?_) h;simp only[Instr.buildSlice,Sem.run_bind,K5 h3,Result.andThen_ok,Fl hm,Sem.run_ite,aB.evpa h1];rw[ND (by simpa using zE),ND qW];simp only[Sem.run_pure,Result.andThen_ok,Sem.run_bind,Vk hz,dH];simp[newRow]
    ·have hq:=M1 h;clear h;obtain⟨M,hM,h⟩:=hq;split at hM<;>subst hM
     ·rename_i hb eI;have jH:len=0:=RH hb;subst jH;refine Te hc (s:=Instr.buildSlice t 0 (parts.map fun(i,x)=>(i,a.eval x))) (fun w=>by simp only[execOp,ho]) (ob:=.cells #[] e) (f:=fun b=>.slice (some ⟨b,0,none⟩) 0 0) (fun w=>?_) h;simp only[Instr.buildSlice,Sem.run_bind,K5 h3,Result.andThen_ok,Fl hm,Sem.run_ite,aB.evpa h1,RL];have h0:(Array.range 0:Array Nat)=#[]:=VC (by simp);simp[newRow,Instr.fill,h0]
     ·exact False.elim h
   ·exact False.elim h
  ·exact False.elim h
 |load t x=>
  simp only[M9,ho]at h;have hc:E6 P o= .R:=by simp only[E6,ho]
  have hq:=M1 h;clear h;obtain⟨M,hM,h⟩:=hq;split at hM<;>subst hM
  ·rename_i p sh h1 h2;obtain⟨ad,rfl,y,hl,hk⟩:=Ls h;rw[hc];have hr: ∀L',C0 ad (sh.vals y) L'->Cc P (Instr.loadAt t (a.eval x)) (sh.val y) L':=by
    intro L' hl E F w hw;rw[aB.ev h1];simp only[Instr.loadAt,Instr.sureAddr,Sem.run_bind,Sem.run_pure,Result.andThen_ok];exact Af0 h2 y (hl.cells hw)
   exact No (s:=Instr.loadAt t (a.eval x)) (fun w=>by simp only[execOp,ho]) (hr L hl) hr hk
  ·exact False.elim h
 |store t x y=>
  simp only[M9,ho]at h;have hc:E6 P o= .W:=by simp only[E6,ho]
  have hq:=M1 h;clear h;obtain⟨M,hM,h⟩:=hq;split at hM<;>subst hM
  ·rename_i p v m h1 h2 h3;have hq:=M1 h;clear h;obtain⟨M,hM,h⟩:=hq;split at hM<;>subst hM
   ·rename_i hb;simp only[PO]at hb;obtain⟨ad,rfl,A,B,c,T,fz,rfl,hs,aE,eS,hk⟩:=Ls h;rw[hc];refine DL (s:=Instr.storeAt t (a.eval x) (a.eval y)) (fun w=>by simp only[execOp,ho]) fun E F w hw=>?_;obtain⟨b,off,sp⟩:=ad;simp only at hs aE eS hk hw;subst hs;have hC:v.cells.size=m:=by have:=RH hb.2;simpa using this
    obtain⟨w',hr,aI⟩:=Sk (P:=P) v.cells.toList c off 0 w hb.1 hw (by simpa using aE) (by simpa using eS);refine⟨w',_,?_,aI,Ft hk⟩;rw[aB.ev h1,aB.ev h2];simp only[Instr.storeAt,Instr.sureAddr,Sem.run_bind,Sem.run_pure,Result.andThen_ok,storeVar,Fl h3,hC];simpa using hr
   ·exact False.elim h
  ·exact False.elim h
 |ready g=>simp only[M9,ho]at h;exact False.elim h
 |waits g=>simp only[M9,ho]at h;exact False.elim h
 |nilCheck x=>
  simp only[M9,ho]at h;have hc:E6 P o= .P:=by simp only[E6,ho]
  have hq:=M1 h;clear h;obtain⟨M,hM,h⟩:=hq;split at hM<;>subst hM
  ·rename_i p h1;obtain⟨ad,rfl,hk⟩:=Ls h;rw[hc];exact⟨_,fun w=>by simp only[execOp,ho,aB.ev h1];rfl,hk⟩
  ·exact False.elim h
 |binOp op xt x y yt=>
  simp only[M9,ho]at h;exact Cj3 aB ho h
 |unOp op t x=>
  simp only[M9,ho]at h;have hc:E6 P o= .P:=by simp only[E6,ho]
  have hq:=M1 h;clear h;obtain⟨M,hM,h⟩:=hq;split at hM<;>subst hM
  ·rename_i b h1;exact Cx hc (s:=Op.unary .not (a.eval x)) (fun w=>by simp only[execOp,ho]) (fun w=>by rw[aB.ev h1];rfl) h
  ·rename_i kd m h1;exact Cx hc (s:=Op.unary .neg (a.eval x)) (fun w=>by simp only[execOp,ho]) (fun w=>by rw[aB.ev h1];rfl) h
  ·rename_i kd m h1;exact Cx hc (s:=Op.unary .xor (a.eval x)) (fun w=>by simp only[execOp,ho]) (fun w=>by rw[aB.ev h1];rfl) h
  ·exact False.elim h
 |convert src dst x=>
  simp only[M9,ho]at h;have hq:=M1 h;clear h;obtain⟨M,hM,h⟩:=hq;split at hM<;>subst hM
  ·rename_i k1 m k2 kd h1 h2 h3;have hc:E6 P o= .P:=by simp only[E6,ho,h2,h3]
   refine Cx hc (s:=convert src dst (a.eval x)) (fun w=>by simp only[execOp,ho]) (fun w=>?_) h;rw[aB.ev h1];simp[convert,K5 h2,K5 h3,Conv.intToInt]
  ·rename_i s h1 h2 h3;have hc:E6 P o= .P:=by simp only[E6,ho,h2,h3]
   refine Cx hc (s:=convert src dst (a.eval x)) (fun w=>by simp only[execOp,ho]) (fun w=>?_) h;rw[aB.ev h1];simp[convert,K5 h2,K5 h3]
  ·rename_i s e h1 h2 h3;have hc:E6 P o= .A:=by simp only[E6,ho,h2,h3]
   have hq:=M1 h;clear h;obtain⟨M,hM,h⟩:=hq;split at hM<;>subst hM
   ·rename_i h4;have iI: ∀w,(convert src dst (a.eval x)).run P w=(Conv.stringToBytes e s).run P w:=by
     intro w;rw[aB.ev h1];simp[convert,K5 h2,K5 h3,K5 h4]
    have jR:Cd P .A o a L φs k:=by
     refine DM (s:=convert src dst (a.eval x)) (fun w=>by simp only[execOp,ho]) (fun w=>?_) fun m ob v hg hs=>?_
     ·obtain⟨ob,v,d,hr⟩:=h.1 w;exact⟨ob,v,d,by rw[iI];exact hr⟩
     ·obtain⟨w,d,hw,hr⟩:=hg;rw[iI]at hr;obtain⟨r,rfl,hk⟩:=h.2 m ob v ⟨w,d,hw,hr⟩ hs;exact hk
    rw[hc];exact jR
   ·exact False.elim h
  ·rename_i b l c e1 e2 h1 h2 h3;have hc:E6 P o= .W:=by simp only[E6,ho,h2,h3]
   rw[hc];have e1:=aB.ev h1;refine Nn (s:=convert src dst (.slice b l c)) (fun w=>by simp only[execOp,ho,e1]) fun E F w hw=>?_;obtain⟨v,w',L',hr,aI,r,rfl,hk⟩:=h E F w hw;exact⟨_,w',L',hr,aI,Ft hk⟩
  ·rename_i b l c e h1 h2 h3;have hc:E6 P o= .R:=by simp only[E6,ho,h2,h3]
   have hq:=M1 h;clear h;obtain⟨M,hM,h⟩:=hq;split at hM<;>subst hM
   ·rename_i h4;have iI: ∀w,(convert src dst (a.eval x)).run P w=(Conv.bytesToString (.slice b l c)).run P w:=by
     intro w;rw[aB.ev h1];simp[convert,K5 h2,K5 h3,K5 h4]
    obtain⟨r,hr,hk⟩:=h;rw[hc];refine No (s:=convert src dst (a.eval x)) (fun w=>by simp only[execOp,ho]) (v:=.string r.1) (fun E F w hw=>?_) (fun L' h E F w hw=>?_) hk
    ·rw[iI];exact hr E F w hw
    ·rw[iI];exact h E F w hw
   ·exact False.elim h
  ·exact False.elim h
 |sliceToArrayPointer t x=>simp only[M9,ho]at h;exact False.elim h
 |makeInterface t x=>simp only[M9,ho]at h;exact False.elim h
 |makeFunc fn first captured=>
  simp only[M9,ho]at h;have hc:E6 P o= .P:=by simp only[E6,ho]
  have hq:=M1 h;clear h;obtain⟨M,hM,h⟩:=hq;split at hM<;>subst hM
  ·rename_i f1 c1 h1 h2;exact Cx hc (s:=Instr.makeFunc fn (first.map a.eval) (captured.map a.eval)) (fun w=>by simp only[execOp,ho]) (fun w=>by rw[aB.eva h1,aB.eva h2];rfl) h
  ·exact False.elim h
 |makeMap t r=>
  cases r with
  |some r=>simp only[M9,ho]at h;exact False.elim h
  |none=>
   simp only[M9,ho]at h;refine Te (by simp only[E6,ho]) (s:=Instr.makeMap t none) (fun w=>by simp only[execOp,ho,Option.map_none]) (ob:=.map #[] 0) (f:=fun m=>.map (some m)) (fun w=>?_) h;simp[Instr.makeMap]
 |makeChan t s=>simp only[M9,ho]at h;exact False.elim h
 |makeSlice t l c=>
  simp only[M9,ho]at h;have hc:E6 P o= .A:=by simp only[E6,ho]
  have hq:=M1 h;clear h;obtain⟨M,hM,h⟩:=hq;split at hM<;>subst hM
  ·rename_i kl nl kc nc h1 h2;have he1:=aB.ev h1;have jU:=aB.ev h2;rw[hc];refine DM (s:=Instr.makeSlice t (.int kl nl) (.int kc nc)) (fun w=>by simp only[execOp,ho,he1,jU]) h.1 fun m ob v hg hs=>?_;obtain⟨r,rfl,hk⟩:=h.2 m ob v hg hs;exact hk
  ·exact False.elim h
 |slice t x lo hi mx=>
  simp only[M9,ho]at h;have hc:E6 P o= .P:=by simp only[E6,ho]
  have hq:=M1 h;clear h;obtain⟨M,hM,h⟩:=hq;split at hM<;>subst hM
  ·rename_i s lo' hJ h1 h2 h3 h4 h5;have hq:=M1 h;clear h;obtain⟨M,hM,h⟩:=hq;split at hM<;>subst hM
   ·rename_i l hh e1 e2;obtain⟨hb,hk⟩:=h;refine Cx hc (s:=Instr.sliceAt t (a.eval x) (lo.map a.eval) (hi.map a.eval) (mx.map a.eval)) (fun w=>by simp only[execOp,ho]) (fun w=>?_) hk;rw[aB.ev h1,aB.evo h2,aB.evo h3,aB.evo h4];have:=AT (P:=P) false (len:=s.size) (cap:=s.size) (mx:=none) (m:=s.size) e1 e2 rfl (by intro h;cases h) (by omega) w;simp[Instr.sliceAt,Instr.slice,K5 h5,this]
   ·exact False.elim h
  ·rename_i b l0 c0 lo' hJ mx' e h1 h2 h3 h4 h5;have hq:=M1 h;clear h;obtain⟨M,hM,h⟩:=hq;split at hM<;>subst hM
   ·exact False.elim h
   ·rename_i hJ mx' _ _ _ _ _ _ sz l hh m e1 e2 aT e3 e4;obtain⟨hb,hk⟩:=h;refine Cx hc (s:=Instr.sliceAt t (a.eval x) (lo.map a.eval) (hi.map a.eval) (mx.map a.eval)) (fun w=>by simp only[execOp,ho]) (fun w=>?_) hk;rw[aB.ev h1,aB.evo h2,aB.evo h3,aB.evo h4];have yY:mx'.isSome=true->hJ.isSome=true:=by
     intro hm;cases hJ with
     |some _=>rfl
     |none=>
      cases mx' with
      |none=>cases hm
      |some v=>exact(aT v rfl rfl).elim
    have:=AT (P:=P) true (len:=l0) (cap:=c0) e2 e3 e4 yY hb w;simp[Instr.sliceAt,Instr.slice,K5 h5,this,Fl e1,G7]
   ·exact False.elim h
  ·rename_i p lo' hJ q e h1 h2 h3 h4 h5;have hq:=M1 h;clear h;obtain⟨M,hM,h⟩:=hq;split at hM<;>subst hM
   ·rename_i sz l hh e1 e2 e3;obtain⟨ad,rfl,hb,hk⟩:=Ls h;refine Cx hc (s:=Instr.sliceAt t (a.eval x) (lo.map a.eval) (hi.map a.eval) (mx.map a.eval)) (fun w=>by simp only[execOp,ho]) (fun w=>?_) hk;rw[aB.ev h1,aB.evo h2,aB.evo h3,aB.evo h4];have:=AT (P:=P) false (len:=q) (cap:=q) (mx:=none) (m:=q) e2 e3 rfl (by intro h;cases h) (by simpa using hb) w;simp[Instr.sliceAt,K5 h5,this,Fl e1,Instr.sureAddr,G7];split<;>rfl
   ·exact False.elim h
  ·exact False.elim h
 |fieldAddr s x f=>
  simp only[M9,ho]at h;have hc:E6 P o= .P:=by simp only[E6,ho]
  have hq:=M1 h;clear h;obtain⟨M,hM,h⟩:=hq;split at hM<;>subst hM
  ·rename_i p off h1 h2;obtain⟨ad,rfl,hk⟩:=Ls h;exact Cx hc (s:=Instr.fieldAt s (a.eval x) f) (fun w=>by simp only[execOp,ho]) (fun w=>by rw[aB.ev h1];exact Cj8 h2 w) hk
  ·exact False.elim h
 |field s x f=>
  simp only[M9,ho]at h;have hc:E6 P o= .P:=by simp only[E6,ho]
  have hq:=M1 h;clear h;obtain⟨M,hM,h⟩:=hq;split at hM<;>subst hM
  ·rename_i cs fs h1 h2;have hq:=M1 h;clear h;obtain⟨M,hM,h⟩:=hq;split at hM<;>subst hM
   ·rename_i fd h3;have hq:=M1 h;clear h;obtain⟨M,hM,h⟩:=hq;split at hM<;>subst hM
    ·rename_i v h4;refine Cx hc (s:=Instr.field s (a.eval x) f) (fun w=>by simp only[execOp,ho]) (fun w=>?_) h;rw[aB.ev h1];simp only[Instr.field,Sem.run_bind,K5 h2,Result.andThen_ok,h3,asAgg,Sem.run_pure];exact Bs6 h4 w
    ·exact False.elim h
   ·exact False.elim h
  ·exact False.elim h
 |indexAddr t x i=>
  simp only[M9,ho]at h;have hc:E6 P o= .P:=by simp only[E6,ho]
  have hq:=M1 h;clear h;obtain⟨M,hM,h⟩:=hq;split at hM<;>subst hM
  ·rename_i b l c kk j e h1 h2 h3;have hq:=M1 h;clear h;obtain⟨M,hM,h⟩:=hq;split at hM<;>subst hM
   ·rename_i sz h4;obtain⟨ad,rfl,hb,hk⟩:=Ls h;refine Cx hc (s:=Instr.indexAt t (a.eval x) (a.eval i)) (fun w=>by simp only[execOp,ho]) (fun w=>?_) hk;rw[aB.ev h1,aB.ev h2];simp[Instr.indexAt,asIntOf,K5 h3,hb.1,hb.2,Fl h4]
   ·exact False.elim h
  ·rename_i p kk j q e h1 h2 h3;have hq:=M1 h;clear h;obtain⟨M,hM,h⟩:=hq;split at hM<;>subst hM
   ·rename_i sz h4;obtain⟨ad,rfl,hb,hk⟩:=Ls h;refine Cx hc (s:=Instr.indexAt t (a.eval x) (a.eval i)) (fun w=>by simp only[execOp,ho]) (fun w=>?_) hk;rw[aB.ev h1,aB.ev h2];simp[Instr.indexAt,asIntOf,K5 h3,hb.1,hb.2,Fl h4,Instr.sureAddr]
   ·exact False.elim h
  ·exact False.elim h
 |index t x i=>
  simp only[M9,ho]at h;have hc:E6 P o= .P:=by simp only[E6,ho]
  have hq:=M1 h;clear h;obtain⟨M,hM,h⟩:=hq;split at hM<;>subst hM
  ·rename_i s kk j h1 h2 h3;obtain⟨hb,hk⟩:=h;refine Cx hc (s:=Instr.index t (a.eval x) (a.eval i)) (fun w=>by simp only[execOp,ho]) (fun w=>?_) hk;rw[aB.ev h1,aB.ev h2];have hj:j.toNat<s.size:=by omega
   have jI:j.toNat<s.data.size:=hj;simp only[Instr.index,asIntOf,Sem.run_bind,Sem.run_pure,Result.andThen_ok,K5 h3,hb.1,if_true];rw[getElem?_pos s j.toNat hj];have:Og s j=(s[j.toNat].toNat:Int):=by
    unfold Og;rw[YG,YJ jI];rfl
   rw[this];rfl
  ·rename_i cs kk j q e h1 h2 h3;have hq:=M1 h;clear h;obtain⟨M,hM,h⟩:=hq;split at hM<;>subst hM
   ·obtain⟨r,hr,hk⟩:=h;exact Cx hc (s:=Instr.index t (a.eval x) (a.eval i)) (fun w=>by simp only[execOp,ho]) (fun w=>by rw[aB.ev h1,aB.ev h2];exact hr w) hk
   ·exact False.elim h
  ·exact False.elim h
 |lookup t x i ok=>
  simp only[M9,ho]at h;have hc:E6 P o= .R:=by simp only[E6,ho]
  rw[hc];have hq:=M1 h;clear h;obtain⟨M,hM,h⟩:=hq;split at hM<;>subst hM
  ·rename_i vm vi kk e h1 h2 h3;have e1:=aB.ev h1;have e2:=aB.ev h2;have hq:=M1 h;clear h;obtain⟨M,hM,h⟩:=hq;split at hM<;>subst hM
   ·rename_i s h4;obtain⟨r,hr,hk⟩:=h;exact No (s:=Instr.lookup t vm vi false) (fun w=>by simp only[execOp,ho,e1,e2]) hr (fun L' h=>h) hk
   ·rename_i s h4;obtain⟨r,hr,hk⟩:=h;exact No (s:=Instr.lookup t vm vi true) (fun w=>by simp only[execOp,ho,e1,e2]) hr (fun L' h=>h) hk
   ·exact False.elim h
  ·exact False.elim h
 |mapUpdate t m i x=>
  simp only[M9,ho]at h;have hc:E6 P o= .W:=by simp only[E6,ho]
  rw[hc];have hq:=M1 h;clear h;obtain⟨M,hM,h⟩:=hq;split at hM<;>subst hM
  ·rename_i vm vi vx h1 h2 h3;refine DL (s:=Instr.mapUpdate t (a.eval m) (a.eval i) (a.eval x)) (fun w=>by simp only[execOp,ho]) fun E F w hw=>?_;rw[aB.ev h1,aB.ev h2,aB.ev h3];obtain⟨w',L',hr,aI,hk⟩:=h E F w hw;exact⟨w',L',hr,aI,Ft hk⟩
  ·exact False.elim h
 |insert t m i x=>
  simp only[M9,ho]at h;have hc:E6 P o= .W:=by simp only[E6,ho]
  rw[hc];have hq:=M1 h;clear h;obtain⟨M,hM,h⟩:=hq;split at hM<;>subst hM
  ·rename_i vm vi vx h1 h2 h3;refine DL (s:=Instr.mapUpdate t (a.eval m) (a.eval i) (a.eval x)) (fun w=>by simp only[execOp,ho]) fun E F w hw=>?_;rw[aB.ev h1,aB.ev h2,aB.ev h3];obtain⟨w',L',hr,aI,hk⟩:=h E F w hw;exact⟨w',L',hr,aI,Ft hk⟩
  ·exact False.elim h
 |mapEntry t m i=>simp only[M9,ho]at h;exact False.elim h
 |entryStore t m s x=>simp only[M9,ho]at h;exact False.elim h
 |range t x=>
  simp only[M9,ho]at h;have hc:E6 P o= .W:=by simp only[E6,ho]
  rw[hc];have hq:=M1 h;clear h;obtain⟨M,hM,h⟩:=hq;split at hM<;>subst hM
  ·rename_i v h1;have e1:=aB.ev h1;refine Nn (s:=Instr.range t v) (fun w=>by simp only[execOp,ho,e1]) fun E F w hw=>?_;obtain⟨v,w',L',hr,aI,r,rfl,hk⟩:=h E F w hw;exact⟨_,w',L',hr,aI,Ft hk⟩
  ·exact False.elim h
 |next it str=>
  simp only[M9,ho]at h;have hc:E6 P o= .W:=by simp only[E6,ho]
  rw[hc];have hq:=M1 h;clear h;obtain⟨M,hM,h⟩:=hq;split at hM<;>subst hM
  ·rename_i p h1;have e1:=aB.ev h1;refine Nn (s:=Instr.next (.pointer p) str o.type) (fun w=>by simp only[execOp,ho,e1]) fun E F w hw=>?_;obtain⟨v,w',L',hr,aI,⟨rfl,hk⟩|⟨x,y,rfl,hk⟩⟩:=h E F w hw
   ·exact⟨_,w',L',hr,aI,Ft hk⟩
   ·exact⟨_,w',L',hr,aI,Ft hk⟩
  ·exact False.elim h
 |entry it=>
  simp only[M9,ho]at h;have hc:E6 P o= .R:=by simp only[E6,ho]
  rw[hc];have hq:=M1 h;clear h;obtain⟨M,hM,h⟩:=hq;split at hM<;>subst hM
  ·rename_i p h1;have e1:=aB.ev h1;obtain⟨x,y,hr,hk⟩:=h;exact No (s:=Instr.entry (.pointer p)) (fun w=>by simp only[execOp,ho,e1]) hr (fun L' h=>h) hk
  ·exact False.elim h
 |typeAssert x t u ok=>simp only[M9,ho]at h;exact False.elim h
 |extract x i=>
  simp only[M9,ho]at h;have hc:E6 P o= .P:=by simp only[E6,ho]
  have hq:=M1 h;clear h;obtain⟨M,hM,h⟩:=hq;split at hM<;>subst hM
  ·rename_i vs h1;have hq:=M1 h;clear h;obtain⟨M,hM,h⟩:=hq;split at hM<;>subst hM
   ·rename_i v h2;refine Cx hc (s:=Instr.extract (a.eval x) i) (fun w=>by simp only[execOp,ho]) (fun w=>?_) h;rw[aB.ev h1];simp[Instr.extract,h2]
   ·exact False.elim h
  ·exact False.elim h
 |call c=>
  simp only[M9,ho]at h;exact Cj2 hN aB ho h
 |go c=>simp only[M9,ho]at h;exact False.elim h
 |defer c=>simp only[M9,ho]at h;exact False.elim h
 |panic x=>simp only[M9,ho]at h;exact False.elim h
 |send c x=>simp only[M9,ho]at h;exact False.elim h
 |recv t c ok=>simp only[M9,ho]at h;exact False.elim h
 |select cs b=>simp only[M9,ho]at h;exact False.elim h
end
section
variable {P:Program} {n:Nat}
def Au(S:List Nat)(a a':Act):Prop:= ∀t,t∉S->a'.tmps[t]?=a.tmps[t]?
def Au.refl(S:List Nat)(a:Act):Au S a a:=fun _ _=>rfl
def Au.trans{b c:Act}(h:Au S a b)(k:Au S b c):Au S a c:=fun t ht=>(k t ht).trans (h t ht)
def Au.mono{S':List Nat}{b:Act}(hs: ∀t∈S,t∈S')(h:Au S a b):Au S' a b:=fun t ht=>h t fun hm=>ht (hs t hm)
def Jl(s:Nat)(v:Value)(r:K4)(t:Nat):Ci ((s,v)::r) t=if s=t then some v else Ci r t:=by
 simp only[Ci];cases h:Nat.beq s t with
 |true=>rw[NE (RH h)]
 |false=>rw[ND (VG h)]
def O0.cons(h:O0 n env a){t:Nat}(hv:a.tmps[t]?=some v):O0 n ((t,v)::env) a:=by
 refine⟨h.size,h.defers,fun s u hs=>?_⟩;rw[Jl]at hs;split at hs
 ·rename_i e;subst e;rw[hv];exact hs
 ·exact h.at' s u hs
def O0.put(h:O0 n env a){d:Nat}(hd:d<n)(v:Value):O0 n ((d,v)::env) (a.put (some d) v):=by
 refine⟨by simpa[Act.put]using h.size,h.defers,fun t u ht=>?_⟩;rw[Jl]at ht;split at ht
 ·rename_i e;subst e;obtain rfl:=NI ht;simp[Act.put,h.size,hd]
 ·rename_i e;simp only[Act.put,TB e];exact h.at' t u ht
def MR{k:K4->HP}(aB:O0 n env a)(h:Ni n env dst v k L): ∃env',O0 n env' (a.put dst v)/\k env' L:=by
 cases dst with
 |none=>exact⟨env,aB,h⟩
 |some d=>
  simp only[Ni]at h;have hq:=M1 h;clear h;obtain⟨M,hM,h⟩:=hq;split at hM<;>subst hM
  ·rename_i hd;exact⟨_,aB.put (WU hd) v,h⟩
  ·exact False.elim h
def Au.put(h:Au S a0 a)(hd: ∀d,dst=some d->d∈S)(v:Value):Au S a0 (a.put dst v):=by
 intro t ht;cases dst with
 |none=>exact h t ht
 |some d=>
  have hZ:d≠t:=fun e=>ht (e▸hd d rfl);simp only[Act.put,TB hZ];exact h t ht
def Aw8(P:Program)(Tf:List (Nat×HP))(Ts:Bg):Prop:= ∀q∈Ts,∃p∈Tf,p.1=q.1/\ ∀L',p.2 L'->Hb P q.2.1 L' q.2.2
def Am7(hN:Iz P){anc:Nat->Nat->Bool}{drawn:Bool}{H9:Nat->Cls}(cQ: ∀i o,ops[i]?=some o->H9 i=E6 P o)
  (nK:drawn=false-> ∀x i,anc x i=true)  {K:K4->HP}: ∀(l:List Nat) (env:K4) (Tf:List (Nat×HP)) (Ts:Bg) (a:Act) (L:B1),
  O0 n env a->(drawn=true->Aw8 P Tf Ts)->Au (Ma ops) a0 a->Kt P n ops anc drawn l env Tf K L->
  U8 P ops anc H9 (fun a' L'=>Au (Ma ops) a0 a'/\ ∃env',O0 n env' a'/\K env' L') l a Ts L:=by
 intro l;induction l with
 |nil=>exact fun env Tf Ts a L aB _ aV h=>⟨L,NH _,aV,env,aB,h⟩
 |cons i r ih=>
  intro env Tf Ts a L aB hp aV h;simp only[Kt]at h;simp only[U8];cases ho:ops[i]? with
  |none=>simp only[ho]at h;exact False.elim h
  |some o=>
   simp only[ho]at h⊢;have vO: ∀d,o.dst=some d->d∈Ma ops:=by
    intro d hd;have:o∈ops.toList:=by simpa using WT ho
    exact UF.2 ⟨o,this,hd⟩
   rw[cQ i o ho];have run: ∀env,O0 n env a->Q5 ops o a=true->M9 P (Yk P ops.toList o.dst) o env (Ks ((Tf.filter fun q=> !anc q.1 i).map (·.2))) (fun v φs=>
     Ni n env o.dst v fun env'=>Kt P n ops anc drawn r env' (CN drawn i φs Tf) K) L->
     R5 P ops anc (E6 P o) i o (U8 P ops anc H9 (fun a' L'=>Au (Ma ops) a0 a'/\ ∃env',O0 n env' a'/\K env' L') r) a Ts L:=by
    intro env aB hw h;have h1:=Ci9 hN aB h;have next: ∀(a':Act) (v:Value) (φs:List HP) (Ts':Bg) (L':B1),a'=a.put o.dst v->(drawn=true->Aw8 P (φs.map (i, ·)++Tf) Ts')->
      Ni n env o.dst v (fun env'=>Kt P n ops anc drawn r env' (CN drawn i φs Tf) K) L'->
      U8 P ops anc H9 (fun a' L'=>Au (Ma ops) a0 a'/\ ∃env',O0 n env' a'/\K env' L') r a' Ts' L':=by
     rintro a' v φs Ts' L' rfl dC hk;obtain⟨env',bP,hk⟩:=MR aB hk;refine ih env' _ Ts' _ L' bP (fun hd=>?_) (aV.put vO v) hk;have:=dC hd;rw[hd];exact this
    unfold Cd at h1;cases hc:E6 P o with
    |P=>
     rw[hc]at h1;obtain⟨v,hr,hk⟩:=h1;exact⟨v,.inl ⟨hw,hr⟩,next _ v [] Ts L rfl (fun hd=>by simpa using hp hd) hk⟩
    |R=>
     rw[hc]at h1;obtain⟨v,φ,hr,hφ,hk⟩:=h1;refine .inr ⟨hw,v,hr,next _ v [φ] _ L rfl (fun hd q hq=>?_) hk⟩;rcases OC.1 hq with rfl|hq
     ·exact⟨(i,φ),by simp,rfl,hφ⟩
     ·obtain⟨p,aH,hY⟩:=hp hd q hq;exact⟨p,by simp[aH],hY⟩
    |A=>
     rw[hc]at h1;obtain⟨cT,hk⟩:=h1;exact .inr ⟨hw,cT,fun m ob v hg hs=>next _ v [] Ts _ rfl (fun hd=>by simpa using hp hd) (hk m ob v hg hs)⟩
    |W=>
     rw[hc]at h1;refine .inr ⟨hw,W8.mono h1 fun a' L' _ ⟨v,dA,hφ,hk⟩=>⟨fun q hq yM=>?_,next a' v [] Ts L' dA (fun hd=>by simpa using hp hd) hk⟩⟩;cases hd:drawn with
     |false=>rw[nK hd]at yM;cases yM
     |true=>
      obtain⟨p,aH,hY,aW⟩:=hp hd q hq;refine aW L' (hφ _ (NY.2 ⟨p,OI.2 ⟨aH,?_⟩,rfl⟩));rw[hY,yM];rfl
   have skip: ∀env,O0 n env a->Q5 ops o a=false->Ni n env o.dst undef (fun env'=>Kt P n ops anc drawn r env' Tf K) L->
     R5 P ops anc (E6 P o) i o (U8 P ops anc H9 (fun a' L'=>Au (Ma ops) a0 a'/\ ∃env',O0 n env' a'/\K env' L') r) a Ts L:=by
    intro env aB hw h;obtain⟨env',bP,hk⟩:=MR aB h;have hS:Y7 ops o (U8 P ops anc H9 (fun a' L'=>Au (Ma ops) a0 a'/\ ∃env',O0 n env' a'/\K env' L') r) a Ts L:=
     ⟨hw,ih env' Tf Ts _ L bP hp (aV.put vO undef) hk⟩
    cases E6 P o
    ·exact hS.toP
    ·exact .inl hS
    ·exact .inl hS
    ·exact .inl hS
   cases hg:o.guard with
   |none=>
    rw[hg]at h;refine run env aB ?_ h;unfold Q5 Region.wanted;rw[hg]
   |some p=>
    obtain⟨j,want⟩:=p;rw[hg]at h;simp only at h;cases pD:ops[j]? with
    |none=>simp only[pD]at h;exact False.elim h
    |some oj=>
     simp only[pD]at h;cases hd:oj.dst with
     |none=>simp only[hd]at h;exact False.elim h
     |some d=>
      simp only[hd]at h;have hq:=M1 h;clear h;obtain⟨M,hM,h⟩:=hq;split at hM<;>subst hM
      ·rename_i t hl;have ht:=aB.at' d _ hl;have jM:Q5 ops o a=(t==want):=by
        unfold Q5 Region.wanted;rw[hg];simp[yielded,pD,hd,ht]
       rcases EZ h with⟨rfl,h⟩|⟨rfl,h⟩
       ·have bP:=aB.cons ht;cases want
        ·exact skip _ bP jM h
        ·exact run _ bP jM h
       ·have bP:=aB.cons ht;cases want
        ·exact run _ bP jM h
        ·exact skip _ bP jM h
      ·rename_i vs hl;have ht:=aB.at' d _ hl;refine skip _ aB ?_ h;unfold Q5 Region.wanted;rw[hg];simp[yielded,pD,hd,ht]
      ·exact False.elim h
def Lf.of_spec: ∀{l:Lf} {v:Value} {x:Vg l},l.of v=some x->l.val x=v:=by
 intro l v x h;cases l<;>cases v<;>simp only[Lf.of]at h<;>first|(cases h;done)|skip
 ·rename_i k k' m;split at h
  ·rename_i hk;obtain rfl:=Ag4 hk;obtain rfl:=NI h;rfl
  ·cases h
 all_goals (obtain rfl:=NI h;rfl)
theorem EL: ∀{ls:List Lf} {vs:List Value} {x:Rn ls},Tu ls vs=some x->Lt ls x=vs
 |[],[],_,_=>rfl
 |[],_::_,_,h=>by cases h
 |_::_,[],_,h=>by cases h
 |l::r,v::vs,x,h=>by
  simp only[Tu]at h;split at h
  ·rename_i y z hy hz;obtain rfl:=NI h;simp[Lt,Lf.of_spec hy,EL hz]
  ·cases h
def Sh.of_spec{s:Sh}{x:F7 s}(h:s.of v=some x):s.val x=v:=by
 cases s with
 |lf l=>exact Lf.of_spec h
 |agg ls=>
  cases v<;>simp only[Sh.of]at h<;>first|(cases h;done)|skip
  rename_i cs;simp[Sh.val,EL h]
def Bx6(A B:K4)(t:Nat):Ci (A++B) t=match Ci A t with|some v=>some v|none=>Ci B t:=by
 induction A with
 |nil=>rfl
 |cons p r ih=>
  obtain⟨s,v⟩:=p;rw[OM,Jl,Jl];split
  ·rfl
  ·exact ih
def Ae1(l:List Nat)(t:Nat):Qd l t=true↔t∈l:=by
 induction l with
 |nil=>simp[Qd]
 |cons x r ih=>
  simp only[Qd];cases h:Nat.beq x t with
  |true=>have:=RH h;subst this;simp
  |false=>have:=VG h;simp[ih,Ne.symm this]
def Bx4(mods:List Nat)(env:K4)(t:Nat)(h:Ci (Md mods env) t=some v):Ci env t=some v/\t∉mods:=by
 induction env with
 |nil=>cases h
 |cons p r ih=>
  obtain⟨s,u⟩:=p;simp only[Md]at h;cases hm:Qd mods s with
  |true=>
   rw[hm]at h;obtain⟨h1,h2⟩:=ih h;refine⟨?_,h2⟩;rw[Jl,ND]
   ·exact h1
   ·rintro rfl;exact h2 ((Ae1 _ _).1 hm)
  |false=>
   rw[hm]at h;simp only at h;rw[Jl]at h;split at h
   ·rename_i e;subst e;refine⟨by rw[Jl,NE rfl];exact h,fun cC=>?_⟩;rw[(Ae1 _ _).2 cC]at hm;cases hm
   ·rename_i e;obtain⟨h1,h2⟩:=ih h;exact⟨by rw[Jl,ND e];exact h1,h2⟩
theorem IY{env':K4}{a:Act}(aB:O0 n env' a): ∀(cs:List (Nat×Sh)) {x:D2 (cs.map (·.2))},Lr env' cs=some x-> ∀t v,Ci (Lh cs x) t=some v->a.tmps[t]?=some v
 |[],_,_,t,v,h=>by cases h
 | (s,sh)::r,x,hx,t,v,h=>by
  simp only[Lr]at hx;split at hx
  ·rename_i y z hy hz;obtain rfl:=NI hx;simp only[Lh]at h;rw[Jl]at h;split at h
   ·rename_i e;subst e;obtain rfl:=NI h;split at hy
    ·rename_i u hu;rw[Sh.of_spec hy];exact aB.at' _ _ hu
    ·cases hy
   ·exact IY aB r hz t v h
  ·cases hx
def O0.carry{env':K4}{mods:List Nat}(aB:O0 n env a)(bP:O0 n env' a')(aV:Au mods a a'){cs:List (Nat×Sh)}{x:D2 (cs.map (·.2))}(hx:Lr env' cs=some x):
  O0 n (Lh cs x++Md mods env) a':=by
 refine⟨bP.size,bP.defers,fun t v h=>?_⟩;rw[Bx6]at h;cases ht:Ci (Lh cs x) t with
 |some u=>rw[ht]at h;obtain rfl:=NI h;exact IY bP cs hx t _ ht
 |none=>
  rw[ht]at h;obtain⟨h1,h2⟩:=Bx4 mods env t h;rw[aV t h2];exact aB.at' t v h1
def HJ(n:Nat)(Kn:K4->HP)(Kx:Nat->K4->HP)(Kr:K4->HP):Exit->Act->HP
 | .normal,a,L=> ∃env,O0 n env a/\Kn env L
 | .exit id,a,L=> ∃env,O0 n env a/\Kx id env L
 | .ret,a,L=> ∃env,O0 n env a/\Kr env L
 |_,_,_=>False
def N7.scope{c:Code}(h:N7 P c Q a L)(hn: ∀l a L,¬Q (.goto l) a L):N7 P (.scope c) Q a L:=fun E F w hw=>
 wp_scope_straight (wp_mono (h E F w hw) fun e a' w' hq=>by
  cases e
  case goto l=>obtain⟨L',_,hq⟩:=hq;exact(hn l a' L' hq).elim
  all_goals exact hq)
def N7.label{l:Nat}(h:Q .normal a L):N7 P (.label l) Q a L:=fun _ _ _ hw=>wp_label ⟨L,hw,h⟩
def Ci8(hN:Iz P)(hm:P.follows .mixedOrders=true)(H:D4): ∀(c:Code) (b:Nat) (Kn:K4->HP) (Kx:Nat->K4->HP) (Kr:K4->HP) (env:K4) (a:Act) (L:B1),
  O0 n env a->Bq P H n c b Kn Kx Kr env L->N7 P c (fun e a' L'=>Au (Fq c) a a'/\HJ n Kn Kx Kr e a' L') a L:=by
 intro c;induction c with
 |skip=>exact fun b Kn Kx Kr env a L aB h=>N7.skip ⟨.refl _ _,env,aB,h⟩
 |region id ops draw=>
  intro b Kn Kx Kr env a L aB h;cases draw with
  |false=>
   simp only[Bq]at h;refine N7.region (fun i=>match ops[i]? with|some o=>E6 P o|none=>.P) ?_;exact Am7 hN (drawn:=false) (fun i o ho=>by simp only[ho]) (fun _ _ _=>rfl) _ env [] [] a L aB (by intro h;cases h) (.refl _ _) h
  |true=>
   simp only[Bq]at h;cases aQ:Qs H.plans id with
   |none=>rw[aQ]at h;exact False.elim h
   |some π=>
    rw[aQ]at h;have hq:=M1 h;clear h;obtain⟨M,hM,h⟩:=hq;simp only at hM;split at hM<;>subst hM
    ·rename_i aC;refine N7.region_any hm _ π aC ?_;exact Am7 hN (drawn:=true) (fun i o ho=>by simp only[ho]) (by intro h;cases h) _ env [] [] a L aB (fun _ q hq=>by cases hq) (.refl _ _) h
    ·exact False.elim h
 |seq x y ihx ihy=>
  intro b Kn Kx Kr env a L aB h;simp only[Bq]at h;refine N7.seq ?_;have rest: ∀{e:Exit} {a':Act} {L':B1},e≠ .normal->Au (Fq x) a a'->HJ n Kn Kx Kr e a' L'->Au (Fq (x.seq y)) a a'/\HJ n Kn Kx Kr e a' L':=
   fun _ aV hp=>⟨aV.mono fun t ht=>OA _ ht,hp⟩
  cases hj:Ah2 H.joins y with
  |none=>
   rw[hj]at h;refine(ihx b _ Kx Kr env a L aB h).mono fun e a' L' ⟨aV,hp⟩=>?_;cases e with
   |normal=>
    obtain⟨env',bP,hk⟩:=hp;exact(ihy b Kn Kx Kr env' a' L' bP hk).mono fun e2 a2 L2 ⟨eJ,hY⟩=>
     ⟨(aV.mono fun t ht=>OA _ ht).trans (eJ.mono fun t ht=>OG _ ht),hY⟩
   |exit id=>exact rest (by intro h;cases h) aV hp
   |ret=>exact rest (by intro h;cases h) aV hp
   |goto l=>exact hp.elim
   |panic c=>exact hp.elim
   |outgrown=>exact hp.elim
  |some cs=>
   rw[hj]at h;refine(ihx b _ Kx Kr env a L aB h).mono fun e a' L' ⟨aV,hp⟩=>?_;cases e with
   |normal=>
    obtain⟨env',bP,hk⟩:=hp;have hq:=M1 hk;clear hk;obtain⟨M,hM,hk⟩:=hq;split at hM<;>subst hM
    ·rename_i v hv;exact(ihy b Kn Kx Kr _ a' L' (aB.carry bP aV hv) hk).mono fun e2 a2 L2 ⟨eJ,hY⟩=>
      ⟨(aV.mono fun t ht=>OA _ ht).trans (eJ.mono fun t ht=>OG _ ht),hY⟩
    ·exact False.elim hk
   |exit id=>exact rest (by intro h;cases h) aV hp
   |ret=>exact rest (by intro h;cases h) aV hp
   |goto l=>exact hp.elim
   |panic c=>exact hp.elim
   |outgrown=>exact hp.elim
 |cond c x y ihx ihy=>
  intro b Kn Kx Kr env a L aB h;simp only[Bq]at h;have hq:=M1 h;clear h;obtain⟨M,hM,h⟩:=hq;split at hM<;>subst hM
  ·rename_i t hc;have he:=aB.ev hc;have bP: ∀{t':Bool},t=t'->O0 n (AH env c t') a:=by
    rintro t' rfl;cases c with
    |tmp d=>
     refine aB.cons ?_;exact aB.at' d _ hc
    |_=>exact aB
   refine N7.cond he ?_;rcases EZ h with⟨rfl,h⟩|⟨rfl,h⟩
   ·exact(ihx b Kn Kx Kr _ a L (bP rfl) h).mono fun e a' L' ⟨aV,hp⟩=>⟨aV.mono fun t ht=>OA _ ht,hp⟩
   ·exact(ihy b Kn Kx Kr _ a L (bP rfl) h).mono fun e a' L' ⟨aV,hp⟩=>⟨aV.mono fun t ht=>OG _ ht,hp⟩
  ·exact False.elim h
 |block id c ih=>
  intro b Kn Kx Kr env a L aB h;simp only[Bq]at h;refine N7.block ((ih id _ _ Kr env a L aB h).mono fun e a' L' ⟨aV,hp⟩=>?_);cases e with
  |normal=>exact⟨aV,hp⟩
  |exit id'=>
   obtain⟨env',bP,hk⟩:=hp;simp only[GT];cases hb:Nat.beq id' id with
   |true=>
    rw[hb]at hk;rw[NE (RH hb)];exact⟨aV,env',bP,hk⟩
   |false=>
    rw[hb]at hk;rw[ND (VG hb)];exact⟨aV,env',bP,hk⟩
  |ret=>exact⟨aV,hp⟩
  |goto l=>exact hp.elim
  |panic c=>exact hp.elim
  |outgrown=>exact hp.elim
 |loop c ih=>
  intro b Kn Kx Kr env a L aB h;simp only[Bq]at h;cases hl:Qs H.loops b with
  |none=>rw[hl]at h;exact False.elim h
  |some cs=>
   rw[hl]at h;simp only at h;cases gB:Lr env cs with
   |none=>rw[gB]at h;exact False.elim h
   |some x0=>
    rw[gB]at h;obtain⟨I,⟨k0,an⟩,qP⟩:=h;refine N7.loop (fun k a' L'=> ∃x,O0 n (Lh cs x++Md (Fq c) env) a'/\Au (Fq c) a a'/\I k x L') (k:=k0) ⟨x0,aB.carry aB (.refl _ _) gB,.refl _ _,an⟩ ?_;rintro k a' L' ⟨x,bP,aV,hI⟩;refine(ih b _ Kx Kr _ a' L' bP (qP k x L' hI)).mono fun e a2 L2 ⟨eJ,hp⟩=>?_;cases e with
    |normal=>
     obtain⟨env2,ai,hk⟩:=hp;have hq:=M1 hk;clear hk;obtain⟨M,hM,hk⟩:=hq;split at hM<;>subst hM
     ·rename_i x' bC;obtain⟨k',cA,oV⟩:=hk;exact⟨k',cA,x',aB.carry ai (aV.trans eJ) bC,aV.trans eJ,oV⟩
     ·exact False.elim hk
    |exit id=>exact⟨aV.trans eJ,hp⟩
    |ret=>exact⟨aV.trans eJ,hp⟩
    |goto l=>exact hp.elim
    |panic c=>exact hp.elim
    |outgrown=>exact hp.elim
 |exit id=>exact fun b Kn Kx Kr env a L aB h=>N7.exit ⟨.refl _ _,env,aB,h⟩
 |ret=>exact fun b Kn Kx Kr env a L aB h=>N7.ret ⟨.refl _ _,env,aB,h⟩
 |rangeFunc f ps x y _ _=>exact fun b Kn Kx Kr env a L aB h=>by simp only[Bq]at h;exact False.elim h
 |scope c ih=>
  intro b Kn Kx Kr env a L aB h;simp only[Bq]at h;exact N7.scope (ih b Kn Kx Kr env a L aB h) fun l a L hq=>hq.2
 |label l=>exact fun b Kn Kx Kr env a L aB h=>N7.label ⟨.refl _ _,env,aB,h⟩
 |goto l=>exact fun b Kn Kx Kr env a L aB h=>by simp only[Bq]at h;exact False.elim h
 |refuse w=>exact fun b Kn Kx Kr env a L aB h=>by simp only[Bq]at h;exact False.elim h
theorem Ae9: ∀(vs:List Value) (i t:Nat) (v:Value),Ci (Rs i vs) t=some v->i<=t/\vs[t-i]?=some v
 |[],_,_,_,h=>by cases h
 |u::r,i,t,v,h=>by
  simp only[Rs]at h;rw[Jl]at h;split at h
  ·rename_i e;subst e;exact⟨NF _,by simpa using h⟩
  ·rename_i e;obtain⟨h1,h2⟩:=Ae9 r (i+1) t v h;refine⟨by omega,?_⟩;rw[show t-i=(t-(i+1))+1 by omega,TC];exact h2
theorem BI{env:K4}{a:Act}(aB:O0 n env a){E:World}{F L:B1}{w:World}(hw:J4 E w (L++F)): ∀{rs:List ResultVar} {K:List Value->HP},Nf P env rs K L->
  ∃vs,(rs.mapM (m:=Sem) fun| .tmp t=>pure (a.tmps.getD t undef)| .cell x t=>do loadVar t (<-asAddr (a.tmps.getD x undef))).run P w= .ok vs w/\K vs L
 |[],K,h=>⟨[],rfl,h⟩
 | .tmp t::r,K,h=>by
  simp only[Nf]at h;cases hv:Ci env t with
  |none=>rw[hv]at h;exact False.elim h
  |some v=>
   rw[hv]at h;obtain⟨vs,hr,hk⟩:=BI aB hw h;have:=aB.at' t v hv;refine⟨v::vs,?_,hk⟩;simp only[VE,Sem.run_bind,Sem.run_pure,Result.andThen_ok,hr];simp[this]
 | .cell t ty::r,K,h=>by
  simp only[Nf]at h;have hq:=M1 h;clear h;obtain⟨M,hM,h⟩:=hq;split at hM<;>subst hM
  ·rename_i p sh h1 h2;obtain⟨ad,rfl,x,hl,hk⟩:=Ls h;obtain⟨vs,hr,hk⟩:=BI aB hw hk;have h3:=aB.at' t _ h1;refine⟨sh.val x::vs,?_,hk⟩;have h4:(a.tmps.getD t undef)= .pointer (some ad):=by simp[h3]
   have h5:(asAddr (a.tmps.getD t undef)).run P w= .ok ad w:=by rw[h4];rfl
   simp only[VE,Sem.run_bind,h5,Sem.run_pure,Result.andThen_ok,Af0 h2 x (hl.cells hw),hr]
  ·exact False.elim h
def Cj1(hN:Iz P)(hm:P.follows .mixedOrders=true)(H:D4)(hf:P.funcs[f]?=some fn)
  (h:Nw P H fn args.toList K L):CallF P f args L fun v L'=>K v L':=by
 intro E F w hw;unfold Nw at h;cases hb:fn.body with
 |none=>simp only[hb]at h;exact False.elim h
 |some c=>
  cases bV:Nat.ble args.toList.length fn.ntmps with
  |false=>simp only[hb,bV]at h;exact False.elim h
  |true=>
   simp only[hb,bV]at h;have hC:args.size<=fn.ntmps:=by simpa using WU bV
   refine calls_of_wp hf hb ?_;have aB:O0 fn.ntmps (Rs 0 args.toList) {tmps:=args++Array.replicate (fn.ntmps-args.size) undef,defers:=[]}:=by
    refine⟨by simp;omega,rfl,fun t v ht=>?_⟩;obtain⟨_,h1⟩:=Ae9 _ _ _ _ ht;simp only[QK]at h1;have hO:t<args.size:=by simpa using(PL.1 h1).1
    rw[WV hO];simpa using h1
   refine wp_mono (Ci8 hN hm H c 0 _ _ _ _ _ L aB h E F w hw) fun e a' w' ⟨L',aI,_,hp⟩=>?_;have fin:(∃env,O0 fn.ntmps env a'/\Nf P env fn.results.toList (fun vs=>K (DJ vs)) L')->a'.defers=[]/\ ∃v,(results fn a'.tmps).run P w'= .ok v w'/\ ∃v' L',Ending.returned v= .returned v'/\J4 E w' (L'++F)/\K v' L':=by
    rintro⟨env,bP,hk⟩;refine⟨bP.defers,?_⟩;obtain⟨vs,kW,hk⟩:=BI bP aI hk;have jA:(results fn a'.tmps).run P w'= .ok (if h:vs.toArray.size=1 then vs.toArray[0]else .tuple vs.toArray) w':=by
     have h1:(fn.results.mapM (m:=Sem) fun| .tmp t=>pure (a'.tmps.getD t undef)| .cell x t=>do loadVar t (<-asAddr (a'.tmps.getD x undef))).run P w'= .ok vs.toArray w':=by
      rw[YI,Sem.run_map,kW];rfl
     unfold results;rw[Sem.run_bind];refine Eq.trans (congrArg (fun r=>Result.andThen r _) h1) ?_;rfl
    match vs,jA,hk with
    |[],jA,hk=>exact⟨_,jA,_,L',rfl,aI,hk⟩
    |[v],jA,hk=>exact⟨_,jA,_,L',rfl,aI,hk⟩
    |v1::v2::r,jA,hk=>exact⟨_,jA,_,L',by simp[DJ],aI,hk⟩
   cases e with
   |normal=>exact fin hp
   |ret=>exact fin hp
   |exit id=>obtain⟨_,_,hf⟩:=hp;exact hf.elim
   |goto l=>exact hp.elim
   |panic c=>exact hp.elim
   |outgrown=>exact hp.elim
def As8(hN:Iz P)(hm:P.follows .mixedOrders=true)(hf:P.funcs[f]?=some fn){args:List Value}
  (he:Nw P H fn args (fun v L=> ∃L' J,L.Perm (L'++J)/\K v L')=N) (h:N L):CallF P f args.toArray L K:=by
 subst he;intro E F w hw;refine Calls.mono (Cj1 (args:=args.toArray) (K:=fun v L=> ∃L' J,L.Perm (L'++J)/\K v L') hN hm H hf (by simpa using h) E F w hw) fun e w' ⟨v,L1,hv,gS,L',J,hp,hK⟩=>⟨v,L',hv,?_,hK⟩;have h1:J4 E w' ((L'++F)++J):=gS.perm (by
  refine(hp.append_right F).trans ?_;simp only[NZ];exact OT.append_left L')
 exact h1.left
end
section
variable {P:Program} {L:B1}
def B5{k:F7 sh->HP}(x:F7 sh)(h:C0 ad (sh.vals x) L)(hk:k x L):ld ad sh k L:=⟨x,h,hk⟩
def B7{p:Option Addr}{a:Addr}{k:Addr->HP}(h:p=some a)(hk:k a L):B4 p k L:=by subst h;exact hk
def Dv{p:Prop}{k:HP}(h:p)(hk:k L):Q7 p k L:=⟨h,hk⟩
def H7{i n:Int}{k:HP}(h0:0<=i)(h1:i<n)(hk:k L):D5 i n k L:=⟨⟨h0,h1⟩,hk⟩
def M0{t:Bool}{A:HP}(h1:t=true->A L)(h2:t=false->B L):B3 t A B L:=by
 cases t
 ·exact h2 rfl
 ·exact h1 rfl
def D3{p:Prop}[Decidable p]{A:HP}(h1:p->A L)(h2: ¬p->B L):B3 (decide p) A B L:=
 M0 (fun h=>h1 (PF h)) (fun h=>h2 (UG h))
def Ex{x y:Int}{A:HP}(h1:x=y->A L)(h2:x≠y->B L):B3 (x==y) A B L:=
 M0 (fun h=>h1 (by simpa using h)) (fun h=>h2 (by simpa using h))
def Bb{x y:Int}{A:HP}(h1:x≠y->A L)(h2:x=y->B L):B3 (x !=y) A B L:=
 M0 (fun h=>h1 (by simpa using h)) (fun h=>h2 (by simpa using h))
def E9{t:Bool}{A:HP}(h:t=true)(hk:A L):B3 t A B L:=by subst h;exact hk
def D8{t:Bool}{A:HP}(h:t=false)(hk:B L):B3 t A B L:=by subst h;exact hk
def P2{k:HP}(h:φ L)(hk:k L):keep φ k L:=⟨h,hk⟩
def C9{o:Obj}{k:Nat->HP}(h: ∀n,O3 ((n,o)::L)->k n ((n,o)::L)):nw o k L:=h
def V9{b:α->HP}{r:(α->HP)->HP}(Q:α->HP)(h1: ∀y L',Q y L'->b y L')(h2: ∀j:α->HP,(∀y L',Q y L'->j y L')->r j L):jn b r L:=h2 b h1
def G1{sh:List Sh}{x0:D2 sh}{body:D2 sh->(D2 sh->HP)->HP}(I:Nat->D2 sh->HP)(k0:Nat)(h0:I k0 x0 L)
 (h: ∀k x L',I k x L'->body x (fun x' L''=> ∃k',k'<k/\I k' x' L'') L'):lp sh x0 body L:=⟨I,⟨k0,h0⟩,h⟩
def O1{k:D2 rs->HP}(h:CallF P f args L K)(hk: ∀v L',O3 L'->K v L'-> ∃r,v=Dt rs r/\k r L'):
 cl P f args rs k L:=CallF.mono h hk
def Reads(P:Program)(f:FuncId)(args:Array Value)(L:B1)(v:Value):Prop:=CallF P f args L fun v' L'=>v'=v/\L'=L
def C4{k:D2 rs->HP}(h:Reads P f args L v)(r:D2 rs)(hr:v=Dt rs r)(hk:k r L):cl P f args rs k L:=
 CallF.mono h (by rintro _ _ _ ⟨rfl,rfl⟩;exact⟨r,hr,hk⟩)
def Ends(K:Value->HP)(v:Value):HP:=fun L=> ∃L' J,L.Perm (L'++J)/\K v L'
def Ends.of(h:K v L):Ends K v L:=⟨L,[],by simp,h⟩
def Ends.drop(h:K v A)(hp:L.Perm (A++J)):Ends K v L:=⟨A,J,hp,h⟩
def Reads.of(hN:Iz P)(hm:P.follows .mixedOrders=true)(hf:P.funcs[f]?=some fn){args:List Value}
 (he:Nw P H fn args (Ends fun v' L'=>v'=v/\L'=L)=N) (h:N L):Reads P f args.toArray L v:=As8 hN hm hf he h
def CallF.of(hN:Iz P)(hm:P.follows .mixedOrders=true)(hf:P.funcs[f]?=some fn){args:List Value}
 (he:Nw P H fn args (Ends K)=N) (h:N L):CallF P f args.toArray L K:=As8 hN hm hf he h
def C0.mono(h:C0 ad vs A)(hs: ∀p∈A,p∈L):C0 ad vs L:=by
 obtain⟨c,T,fz,hm,h⟩:=h;exact⟨c,T,fz,hs _ hm,h⟩
def C0.sub(h:C0 ad vs L)(j:Nat)(hw: ∀(i:Nat) (v:Value),ws[i]?=some v->vs[j+i]?=some v):C0 (Addr.add ad j) ws L:=by
 obtain⟨c,T,fz,hm,hs,hc⟩:=h;rw[Fh hs];refine⟨c,T,fz,hm,rfl,fun i v hv=>?_⟩;have:=hc _ _ (hw i v hv);simp only;rw[TR];exact this
def C0.pre(h:C0 ad vs L)(hw: ∀(i:Nat) (v:Value),ws[i]?=some v->vs[i]?=some v):C0 ad ws L:=by
 obtain⟨c,T,fz,hm,hs,hc⟩:=h;exact⟨c,T,fz,hm,hs,fun i v hv=>hc _ _ (hw i v hv)⟩
def C0.one(h:C0 ad vs L)(j:Nat)(hv:vs[j]?=some v):C0 (Addr.add ad j) [v] L:=by
 refine h.sub j fun i u hu=>?_;cases i with
 |zero=>simp at hu;subst hu;exact hv
 |succ i=>simp at hu
def C0.blk{T:TypeId}(hm:(b,Obj.cells c T fz)∈L)(h: ∀(i:Nat) (v:Value),vs[i]?=some v->c[off+i]?=some v):C0 ⟨b,off,none⟩ vs L:=
 ⟨c,T,fz,hm,rfl,h⟩
structure Sl(L:B1)(v:B6)(sz:Nat)(vs:List Value):Prop where
 len:v.len*sz=vs.length
 cap:v.len<=v.cap
 ld:vs=[]\/ ∃ad,v.a=some ad/\C0 ad vs L
def Sl.mono{v:B6}(h:Sl A v sz vs)(hs: ∀p∈A,p∈L):Sl L v sz vs:=
 ⟨h.len,h.cap,h.ld.imp id fun⟨ad,ha,hl⟩=>⟨ad,ha,hl.mono hs⟩⟩
def Sl.left{v:B6}(h:Sl L v sz vs):Sl (L++R) v sz vs:=h.mono fun _ hp=>OA _ hp
def Sl.right{v:B6}(h:Sl L v sz vs):Sl (R++L) v sz vs:=h.mono fun _ hp=>OG _ hp
def Sl.cons{v:B6}(h:Sl L v sz vs):Sl (p::L) v sz vs:=h.mono fun _ hp=>NN _ hp
def Sl.nil(sz:Nat):Sl L ⟨none,0,0⟩ sz []:=⟨by simp,NF _,.inl rfl⟩
def Sl.at'{v:B6}(h:Sl L v sz vs)(hi:i<v.len)(aE:0<sz): ∃ad,v.a=some ad/\C0 ad vs L:=by
 refine h.ld.resolve_left fun e=>?_;have h1:=h.len;rw[e]at h1;have:v.len=0:=by
  rcases Nat.mul_eq_zero.1 h1 with h|h
  ·exact h
  ·omega
 omega
structure C5(v:B6)(sz:Nat)(T:TypeId)(vs:List Value)(seg:B1):Prop where
 len:v.len*sz=vs.length
 cap:v.len<=v.cap
 row:(v.a=none/\v.cap=0/\seg=[])\/ ∃b off c fz,v.a=some ⟨b,off,none⟩/\seg=[(b,Obj.cells c T fz)]/\off+v.cap*sz<=c.size/\
  (fz.2<=fz.1\/c.size<=fz.1)/\ ∀i u,vs[i]?=some u->c[off+i]?=some u
def C5.sl{v:B6}{T:TypeId}(h:C5 v sz T vs seg):Sl seg v sz vs:=by
 refine⟨h.len,h.cap,?_⟩;rcases h.row with⟨ha,hc,rfl⟩|⟨b,off,c,fz,ha,rfl,_,_,dH⟩
 ·left;have h1:=h.cap;have h2:=h.len;rw[hc]at h1;have:v.len=0:=by omega
  rw[this]at h2;simpa using h2.symm
 ·exact .inr ⟨_,ha,.blk (NM.2 rfl) dH⟩
theorem Bi: ∀(vs:List Value) (c:Array Value) (o:Nat),(wr c o vs).size=c.size
 |[],c,o=>rfl
 |v::r,c,o=>by simp[wr,Bi r]
theorem Hg: ∀(vs:List Value) (c:Array Value) (o j:Nat),o+vs.length<=c.size->(wr c o vs)[j]?=if o<=j/\j<o+vs.length then vs[j-o]? else c[j]?
 |[],c,o,j,_=>by simp[wr];omega
 |v::r,c,o,j,h=>by
  simp only[NU]at h;simp only[wr];rw[Hg r (c.setIfInBounds o v) (o+1) j (by simp;omega)];by_cases h1:j=o
  ·subst h1;rw[ND (by omega),NE (by simp)];simp[show j<c.size by omega]
  ·by_cases h2:o+1<=j/\j<o+1+r.length
   ·rw[NE h2,NE (by simp only[NU];omega)];rw[show j-o=(j-(o+1))+1 by omega,TC]
   ·rw[ND h2,ND (by simp only[NU];omega)];rw[TB (by omega)]
inductive Src (L:B1):Value->Nat->Nat->List Value->Prop
 |sl {v:B6} {sz:Nat} {ws:List Value} (h:Sl L v sz ws):Src L (.slice v.a v.len v.cap) sz v.len ws
 |str (s:ByteArray):Src L (.string s) 1 s.size (s.data.toList.map fun b=>.int .u8 b.toNat)
def Src.len{x:Value}(h:Src L x sz n ws):n*sz=ws.length:=by
 cases h with
 |sl h=>exact h.len
 |str s=>rw[OS,NL,SM];rfl
def Src.run{x:Value}(h:Src L x sz n ws)(hw:J4 E w (L++F)):
  (Builtin.lenOf x).run P w= .ok n w/\(Builtin.firstCells sz n x).run P w= .ok ws.toArray w:=by
 cases h with
 |sl h=>
  rename_i v;refine⟨rfl,?_⟩;rcases h.ld with rfl|⟨ad,ha,hl⟩
  ·have h0:v.len*sz=0:=h.len;cases bj:v.a with
   |none=>simp[Builtin.firstCells]
   |some ad=>simp only[Builtin.firstCells,h0,loadCells,loadCellsFrom];rfl
  ·rw[ha];simp only[Builtin.firstCells];rw[h.len];exact run_loadCells_list w ad ws (hl.cells hw)
 |str s=>
  refine⟨rfl,?_⟩;simp only[Builtin.firstCells,Sem.run_pure];congr 1;apply VC;have:s.extract 0 s.size=s:=by simp
  rw[this];simp
def Src.take{v:B6}(h:Sl L v sz ws)(hm:m<=v.len)(hw:J4 E w (L++F)):
  (Builtin.firstCells sz m (.slice v.a v.len v.cap)).run P w= .ok (ws.take (m*sz)).toArray w:=by
 rcases h.ld with rfl|⟨ad,ha,hl⟩
 ·have h0:v.len*sz=0:=h.len;have qY:m*sz=0:=Nat.le_zero.1 (h0▸PD sz hm);cases bj:v.a with
  |none=>simp[Builtin.firstCells]
  |some ad=>simp only[Builtin.firstCells,qY,loadCells,loadCellsFrom];simp
 ·rw[ha];simp only[Builtin.firstCells];have hC:(ws.take (m*sz)).length=m*sz:=by
   rw[NW,<-h.len];exact QF (PD sz hm)
  have h1:=run_loadCells_list (P:=P) w ad (ws.take (m*sz)) (fun j u hu=>hl.cells hw j u (by
   rw[RF]at hu;split at hu
   ·exact hu
   ·cases hu))
  rw[hC]at h1;exact h1
structure V4(P:Program)(t e:TypeId)(sz bytes:Nat)(z:List Value):Prop where
 und:P.underlying t=some (.slice e)
 info: ∃i,P.info? e=some i/\i.size=sz/\i.bytes=bytes/\ ∃zv,i.zero=some zv/\zv.cells.toList=z
 zlen:z.length=sz
 pos:0<sz
 bpos:0<bytes
def Zw(z:Array Value)(n:Nat):(Builtin.zeroCells z n).size=n*z.size:=by simp[Builtin.zeroCells]
def W6(P:Program)(t:TypeId):Prop:=(∃e,P.underlying t=some (.slice e))\/P.underlying t=some .string
def LY{i:TypeInfo}(ht:P.underlying t=some (.slice e))(h2:W6 P t2)(hi:P.info? e=some i){x:Value}
  (hC:(Builtin.lenOf x).run P w= .ok n w) (aK:sLen+n<=sCap)  (hf:(Builtin.firstCells i.size n x).run P w= .ok new w) 
  (aO: ∀a,base=some a->(storeCells (a.add (sLen*i.size)) new.toList).run P w= .ok () w') (aT:base=none->w'=w):
  (Builtin.append_ #[t,t2] ty #[.slice base sLen sCap,x]).run P w= .ok (.slice base (sLen+n) sCap) w':=by
 cases base with
 |none=>
  obtain rfl:=aT rfl;rcases h2 with⟨e2,h2⟩|h2<;>simp[Builtin.append_,run_underlying ht,run_underlying h2,sizeOf,typeInfo,hi,hC,aK,hf]
 |some a=>
  have aO:=aO a rfl;rcases h2 with⟨e2,h2⟩|h2<;>simp[Builtin.append_,run_underlying ht,run_underlying h2,sizeOf,typeInfo,hi,hC,aK,hf,aO]
def Bk3{i:TypeInfo}(ht:P.underlying t=some (.slice e))(h2:W6 P t2)(hi:P.info? e=some i)(hz:i.zero=some z){x:Value}
  (hC:(Builtin.lenOf x).run P w= .ok n w) (hg: ¬sLen+n<=sCap) (h63: ¬(9223372036854775807<((sLen:Int)+(n:Int))/\i.bytes=0)) (cX: ¬(281474976710656<Builtin.nextslicecap (sLen+n) sCap*i.bytes))
  {old:Array Value} (sQ:(Builtin.firstCells i.size sLen (.slice base sLen sCap)).run P w.drew= .ok old w.drew) (hf:(Builtin.firstCells i.size n x).run P w.drew= .ok new w.drew):
  (Builtin.append_ #[t,t2] ty #[.slice base sLen sCap,x]).run P w=
   .ok (.slice (some ⟨w.heap.size,0,none⟩) (sLen+n) (grownCap w (sLen+n) sCap e)) (w.drew.alloc (.cells (old++new++Builtin.zeroCells z.cells (grownCap w (sLen+n) sCap e-(sLen+n))) e)):=by
 rcases h2 with⟨e2,h2⟩|h2<;>
  simp[Builtin.append_,run_underlying ht,run_underlying h2,sizeOf,typeInfo,zeroValue,hi,hz,hC,hg,h63,cX,Question.forced,hf,sQ,newRow,grownCap]
def Cs4{bytes:Nat}{z:List Value}(hT:V4 P t e sz bytes z)(h2:W6 P t2)
  {v:B6}  {x:Value}   (own:C5 v sz e vs seg) (src:Src (seg++R) x sz n ws) (iN:ws.all Bt=true)
  (hb:(v.len+n)*bytes<=140737488355328) {k:D2 [.lf .sl]->HP} (hk: ∀v' seg',v'.len=v.len+n->(v.len+n<=v.cap->v'.cap=v.cap/\v'.a=v.a)->v.cap<=v'.cap->C5 v' sz e (vs++ws) seg'->k (v',()) (seg'++R)):
  F3 P (Builtin.append_ #[t,t2] ty #[.slice v.a v.len v.cap,x]) [.lf .sl] k (seg++R):=by
 obtain⟨i,hi,rD,rH,zv,hz,oB⟩:=hT.info;subst rD rH;intro E F w hw;obtain⟨hC,mZ⟩:=src.run (P:=P) hw;have aE:=hT.pos;have lP:zv.cells.size=i.size:=by rw[<-hT.zlen,<-oB];simp
 have sY:=src.len;have lE:=own.len;have eQ:(vs++ws).length=(v.len+n)*i.size:=by rw[NR,<-lE,<-sY,RV]
 by_cases aK:v.len+n<=v.cap
 ·--there is room
  have bV:=PD i.size aK;rw[RV]at bV;rcases own.row with⟨ha,hc,rfl⟩|⟨b,off,c,fz,ha,rfl,dH,eS,dX⟩
  ·refine⟨.slice v.a (v.len+n) v.cap,w,[]++R,LY hT.und h2 hi hC aK mZ (by intro a h;rw[ha]at h;cases h) (fun _=>rfl),hw,(⟨v.a,v.len+n,v.cap⟩,()),rfl,?_⟩;exact hk ⟨v.a,v.len+n,v.cap⟩ [] rfl (fun _=>⟨rfl,rfl⟩) (NF _) ⟨by rw[eQ],aK,.inl ⟨ha,hc,rfl⟩⟩
  ·obtain⟨w',hr,aI⟩:=Sk (P:=P) (E:=E) (A:=[]) (B:=R) (F:=F) (b:=b) (T:=e) (fz:=fz) ws c (off+v.len*i.size) 0 w iN (by simpa using hw) (by omega)
    (by intro j hj;omega)
   refine⟨.slice v.a (v.len+n) v.cap,w',[(b,Obj.cells (wr c (off+v.len*i.size+0) ws) e fz)]++R,?_,by simpa using aI,(⟨v.a,v.len+n,v.cap⟩,()),rfl,?_⟩
   ·refine LY hT.und h2 hi hC aK mZ (fun a h=>?_) (fun h=>by rw[ha]at h;cases h);rw[ha]at h;obtain rfl:=NI h;rw[Fh rfl];exact hr
   ·refine hk ⟨v.a,v.len+n,v.cap⟩ _ rfl (fun _=>⟨rfl,rfl⟩) (NF _) ⟨by rw[eQ],aK,.inr ⟨b,off,_,fz,ha,rfl,by rw[Bi];exact dH,by rw[Bi];exact eS,fun j u hu=>?_⟩⟩;rw[Hg _ _ _ _ (by omega)];rw[WW]at hu;split at hu
    ·rw[ND (by omega)];exact dX j u hu
    ·rename_i hj;have hju:=(PL.1 hu).1;rw[NE (by omega),show off+j-(off+v.len*i.size+0)=j-vs.length by omega];exact hu
 ·--it grows
  have hO:v.cap<v.len+n:=by omega
  have cX: ¬(281474976710656<Builtin.nextslicecap (v.len+n) v.cap*i.bytes):=Nat.not_lt.2 (growslice_fits hO hb);have lT:J4 E w.drew ((seg++R)++F):=hw.drew _;have eW:=Src.take (P:=P) (m:=v.len) (L:=seg++R) (own.sl.left) (NF _) lT;have cF:vs.take (v.len*i.size)=vs:=by rw[lE];exact OE
  rw[cF]at eW;have aM:=grownCap_ge w (v.len+n) v.cap e;have h63: ¬(9223372036854775807<((v.len:Int)+(n:Int))/\i.bytes=0):=fun h=>Nat.ne_of_gt hT.bpos h.2;have hr:=Bk3 (ty:=ty) hT.und h2 hi hz hC aK h63 cX eW (src.run (P:=P) lT).2;refine⟨_,_,[(w.heap.size,Obj.cells (vs.toArray++ws.toArray++Builtin.zeroCells zv.cells (grownCap w (v.len+n) v.cap e-(v.len+n))) e)]++R,hr,?_,(⟨some ⟨w.heap.size,0,none⟩,v.len+n,grownCap w (v.len+n) v.cap e⟩,()),rfl,?_⟩
  ·have h1:=lT.push (.cells (vs.toArray++ws.toArray++Builtin.zeroCells zv.cells (grownCap w (v.len+n) v.cap e-(v.len+n))) e);have h2:J4 E (w.drew.alloc (.cells (vs.toArray++ws.toArray++Builtin.zeroCells zv.cells (grownCap w (v.len+n) v.cap e-(v.len+n))) e)) (((w.heap.size,Obj.cells (vs.toArray++ws.toArray++Builtin.zeroCells zv.cells (grownCap w (v.len+n) v.cap e-(v.len+n))) e)::(R++F))++seg):=
    h1.perm (by
     simp only[OM,NZ];rw[<-NZ R F seg];exact TS _ OT)
   exact h2.left
  ·refine hk ⟨some ⟨w.heap.size,0,none⟩,v.len+n,grownCap w (v.len+n) v.cap e⟩ _ rfl (fun h=>absurd h aK) (by simp only;omega) ⟨by rw[eQ],aM,.inr ⟨w.heap.size,0,_,(0,0),rfl,rfl,?_,.inl (NF _),fun j u hu=>?_⟩⟩
   ·simp only[UH,VH,Zw,lP,<-lE,<-sY,<-RV];rw[show v.len+n+(grownCap w (v.len+n) v.cap e-(v.len+n))=grownCap w (v.len+n) v.cap e by omega];simp
   ·have hj:=(PL.1 hu).1;rw[QO,WV (by simpa using hj),<-hu];simp
end
def D7{n:Int}(h0: -9223372036854775808<=n)(h1:n<=9223372036854775807):IntKind.i64.wrap n=n:=IntWalk.i64_in n ⟨h0,h1⟩
def IE{n:Int}(h0:0<=n)(h1:n<=255):IntKind.u8.wrap n=n:=IntWalk.u8_in n ⟨h0,h1⟩
def Az1{n:Int}(h0:0<=n)(h1:n<=4294967295):IntKind.u32.wrap n=n:=IntWalk.u32_in n ⟨h0,h1⟩
def Ax8{n:Int}(h0:0<=n)(h1:n<=18446744073709551615):IntKind.u64.wrap n=n:=IntWalk.u64_in n ⟨h0,h1⟩
def Ms(n:Int):IntKind.u32.wrap n=((BitVec.ofInt 32 n).toNat:Int):=by
 simp only[IntKind.wrap,IntKind.bits,IntKind.signed,WX,QN,if_false,TT];omega
def Vq(n:Int):IntKind.u64.wrap n=((BitVec.ofInt 64 n).toNat:Int):=by
 simp only[IntKind.wrap,IntKind.bits,IntKind.signed,WX,QN,if_false,TT];omega
def AA(n:Int):IntKind.u8.wrap n=((BitVec.ofInt 8 n).toNat:Int):=by
 simp only[IntKind.wrap,IntKind.bits,IntKind.signed,WX,QN,if_false,TT];omega
def Hr(a:BitVec m):BitVec.ofInt m (a.toNat:Int)=a:=by
 simp
def Vd(a b:BitVec 32):P9 .xor .u32 a.toNat b.toNat=((a^^^b).toNat:Int)/\P9 .and .u32 a.toNat b.toNat=((a&&&b).toNat:Int)/\P9 .or .u32 a.toNat b.toNat=((a|||b).toNat:Int):=by
  refine⟨?_,?_,?_⟩<;>
    (simp only[P9,IntKind.bits]
     rw[Ms];exact congrArg (fun x:BitVec 32=>(x.toNat:Int)) (by rw[Hr,Hr,Hr];rfl))
def bv(b:UInt8):Value:=.int .u8 b.toNat
def F9(l:List UInt8):List Value:=l.map bv
def Y1(l:List UInt8):(F9 l).length=l.length:=by simp[F9]
def Mg(l m:List UInt8):F9 (l++m)=F9 l++F9 m:=by simp[F9]
def Ac(l:List UInt8):(F9 l).all Bt=true:=by
 induction l with
 |nil=>rfl
 |cons b r ih=>exact ih
def Cp3(h:i<l.length):(F9 l)[i]?=some (.int .u8 (l[i].toNat:Int)):=by
 simp[F9,h,bv]
abbrev G0(L:B1)(v:B6)(l:List UInt8):Prop:=Sl L v 1 (F9 l)
def G0.len{v:B6}(h:G0 L v l):v.len=l.length:=by
 have:=Sl.len h;rw[Y1]at this;omega
def G0.rd{v:B6}(h:G0 L v l)(hi:i<l.length){a:Addr}(ha:v.a=some a)(j:Nat)(hj:j=i*1):C0 (Addr.add a j) [.int .u8 (l[i].toNat:Int)] L:=by
 subst hj;obtain⟨ad,dA,hl⟩:=h.at' (i:=i) (by rw[h.len];exact hi) (by omega);rw[ha]at dA;obtain rfl:=NI dA;rw[OS];exact hl.one i (Cp3 hi)
def G0.some{v:B6}(h:G0 L v l)(hi:i<l.length): ∃a,v.a=some a:=by
 obtain⟨ad,dA,hl⟩:=h.at' (i:=i) (by rw[h.len];exact hi) (by omega);exact⟨ad,dA⟩
section
variable {P:Program} {L:B1}
def Ch2{T:TypeId}(h:w.heap[b]?=some (.cells c T (0,0))):
  w.freeze ⟨b,off,none⟩ 1={w with heap:=w.heap.setIfInBounds b (.cells c T (off,off+1))}:=by
 unfold World.freeze;rw[ND (by decide)];congr 1;apply TQ;intro j;rw[YH];obtain⟨hb,hg⟩:=SF.1 h;by_cases hj:b=j
 ·subst hj;simp[hb,hg]
 ·rw[ND hj,TB hj]
def Cs1{v:B6}(h:G0 L v l):Cc P (Conv.bytesToString (.slice v.a v.len v.cap)) (.string ⟨l.toArray⟩) L:=by
 intro E F w hw;have vH: ∀(l:List UInt8) (s:ByteArray),(l.map fun b=>(b.toNat:Int)).foldl (fun r n=>r.push (UInt8.ofNat n.toNat)) s=⟨s.data++l.toArray⟩:=by
  intro l;induction l with
  |nil=>intro s;simp
  |cons b r ih=>
   intro s;rw[NS,RU,ih];congr 1;apply VC;simp
 rcases h.ld with qV|⟨ad,ha,hl⟩
 ·have jH:l=[]:=by simpa[F9]using qV
  subst jH;have h0:v.len=0:=h.len;rw[h0];cases bj:v.a with
  |none=>rfl
  |some ad=>
   have:=run_bytesToString (P:=P) w ad 0 v.cap [] (by simp[loadCells,loadCellsFrom]);exact this
 ·rw[ha];have hr:=run_loadCells_list (P:=P) w ad (F9 l) (hl.cells hw);rw[Y1]at hr;have hm:(l.map fun b=>(b.toNat:Int)).map (Value.int .u8)=F9 l:=by simp[F9,bv]
  have:=run_bytesToString (P:=P) w ad l.length v.cap (l.map fun b=>(b.toNat:Int)) (by rw[hm];exact hr);rw[h.len,this,vH];have h0:(ByteArray.empty).data=#[]:=rfl;rw[h0,Array.empty_append]
def Mi{v:B6}(h:G0 L v l){k:D2 [.lf .str]->HP}(hk:k (⟨l.toArray⟩,()) L):S4 P (Conv.bytesToString (.slice v.a v.len v.cap)) [.lf .str] k L:=
 ⟨(⟨l.toArray⟩,()),Cs1 h,hk⟩
def LJ(e:TypeId)(s:ByteArray)(w:World): ∃cap ob,s.size<=cap/\ob=Obj.cells (s.data.map (fun b=>Value.int .u8 b.toNat)++Array.replicate (cap-s.size) (.int .u8 0)) e (cap,cap+1)/\
  (Conv.stringToBytes e s).run P w= .ok (.slice (some ⟨w.heap.size,0,none⟩) s.size cap) {w with heap:=w.heap.push ob,drawn:=w.drawn+1}:=by
 have aM:=grownCap_ge w s.size 0 e;refine⟨grownCap w s.size 0 e,_,aM,rfl,?_⟩;have aE:(s.data.map (fun b=>Value.int .u8 b.toNat)++Array.replicate (grownCap w s.size 0 e-s.size) (Value.int .u8 0)).size=grownCap w s.size 0 e:=by
  have h1:s.data.size=s.size:=rfl;rw[UH,WY,WZ,h1];omega
 simp only[Conv.stringToBytes,Sem.run_bind,run_choose,Question.forced,QN,if_false,Result.andThen_ok,newRow,run_newObj,Sem.run_pure,markStringish,run_shape];have hgc:(Question.appendCap s.size 0 e).cut (w.tape w.drawn (Question.appendCap s.size 0 e))=grownCap w s.size 0 e:=rfl;rw[hgc];have yD:({w with heap:=w.heap.push (.cells (s.data.map (fun b=>Value.int .u8 b.toNat)++Array.replicate (grownCap w s.size 0 e-s.size) (Value.int .u8 0)) e),drawn:=w.drawn+1}:World).shape? w.heap.size=some (e,grownCap w s.size 0 e):=by
  simp only[World.shape?,Array.getElem?_push_size,aE]
 rw[yD];simp only[run_freeze,Result.andThen_ok,Sem.run_pure];rw[Ch2 (c:=s.data.map (fun b=>Value.int .u8 b.toNat)++Array.replicate (grownCap w s.size 0 e-s.size) (Value.int .u8 0)) (T:=e) (by simp)];congr 2;apply TQ;intro j;by_cases hj:w.heap.size=j
 ·subst hj;simp
 ·rw[TB hj,WJ,WJ,ND (fun e=>hj e.symm),ND (fun e=>hj e.symm)]
def LH{s:ByteArray}{k:F7 (.lf .sl)->HP}
  (hk: ∀n ob v,v.len=s.size->C5 v 1 e (F9 s.data.toList) [(n,ob)]->O3 ((n,ob)::L)->k v ((n,ob)::L)):Hz P (Conv.stringToBytes e s) (.lf .sl) k L:=by
 refine⟨fun w=>?_,fun n ob v ⟨w,d,hn,hr⟩ hs=>?_⟩
 ·obtain⟨cap,ob,_,_,hr⟩:=LJ (P:=P) e s w;exact⟨ob,_,_,hr⟩
 ·obtain⟨cap,ob',aY,kI,wV⟩:=LJ (P:=P) e s w;rw[hr]at wV;injection wV with h1 h2;have h3:=BU h2;subst h3 h1 hn;refine⟨⟨some ⟨w.heap.size,0,none⟩,s.size,cap⟩,rfl,hk _ _ ⟨some ⟨w.heap.size,0,none⟩,s.size,cap⟩ rfl ⟨?_,aY,.inr ⟨w.heap.size,0,_,(cap,cap+1),rfl,by rw[kI],?_,.inr ?_,fun i u hu=>?_⟩⟩ hs⟩
  ·rw[Y1,SM,OS];rfl
  ·have h1:s.data.size=s.size:=rfl;rw[UH,WY,WZ,h1];show 0+cap*1<=_;omega
  ·have h1:s.data.size=s.size:=rfl;rw[UH,WY,WZ,h1];show _<=cap;omega
  ·have hi:=(PL.1 hu).1;rw[Y1,SM]at hi;rw[QO,WV (by simpa using hi)];rw[<-hu];simp only[F9,OU,Array.getElem?_map,XA];rfl
def Cp(z:List Value)(n:Nat):List Value:=(List.replicate n z).flatten
def Zu(z:List Value)(n:Nat):(Cp z n).length=n*z.length:=by simp[Cp]
def Zv(z:List Value)(n i:Nat)(h:i<n*z.length):(Cp z n)[i]?=z[i%z.length]?:=by
 induction n generalizing i with
 |zero=>simp at h
 |succ n ih=>
  have hz:0<z.length:=by
   rcases VI z.length with h0|h0
   ·rw[h0]at h;simp at h
   ·exact h0
  have:Cp z (n+1)=z++Cp z n:=by simp[Cp,RM]
  rw[this];by_cases hi:i<z.length
  ·rw[QX hi,Nat.mod_eq_of_lt hi]
  ·rw[QY (by omega),ih (i-z.length) (by rw[QV]at h;omega)];congr 1;rw[<-Nat.mod_eq_sub_mod (by omega)]
def Tp{bytes:Nat}{z:List Value}(hT:V4 P t e sz bytes z){l c:Nat}(dm:l<=c)(hb:bytes*c<=281474976710656){kl kc:IntKind}{k:F7 (.lf .sl)->HP}
  (hk: ∀n ob,C5 ⟨some ⟨n,0,none⟩,l,c⟩ sz e (Cp z l) [(n,ob)]->(∃cs,ob= .cells cs e (0,0)/\cs.size=c*sz/\ ∀(i:Nat) (u:Value),(Cp z c)[i]?=some u->cs[i]?=some u)->O3 ((n,ob)::L)->k ⟨some ⟨n,0,none⟩,l,c⟩ ((n,ob)::L)):
  Hz P (Instr.makeSlice t (.int kl (l:Int)) (.int kc (c:Int))) (.lf .sl) k L:=by
 obtain⟨i,hi,rD,rH,zv,hz,oB⟩:=hT.info;subst rD rH;have h63:(c:Int)<=9223372036854775807:=by
  have:c<=i.bytes*c:=Nat.le_mul_of_pos_left _ hT.bpos;omega
 have dP:=fun w=>run_make (P:=P) w t e i zv hT.und hi hz kl kc l c (by omega) (by omega) (by
  have h:((i.bytes*c:Nat):Int)<=281474976710656:=by omega
  rwa [TD]at h) h63
 simp only[NK]at dP;refine⟨fun w=>⟨_,_,w.drawn,dP w⟩,fun n ob v ⟨w,d,hn,hr⟩ hs=>?_⟩;rw[dP w]at hr;injection hr with h1 h2;have h3:Obj.cells (madeCells zv.cells (c*i.size)) e=ob:=BU (d:=w.drawn) h2;subst h1 hn;have lP:zv.cells.size=i.size:=by rw[<-hT.zlen,<-oB];simp
 have vF: ∀(j:Nat) (u:Value),(Cp z c)[j]?=some u->(madeCells zv.cells (c*i.size))[j]?=some u:=by
  intro j u hu;have hj:=(PL.1 hu).1;rw[Zu,hT.zlen]at hj;rw[Zv z c j (by rw[hT.zlen];exact hj),hT.zlen]at hu;have hp:=hT.pos;have hm:j%i.size<zv.cells.size:=by rw[lP];exact QP _ hp
  simp only[madeCells,Array.getElem?_map,Array.getElem?_range,hj,if_true,RO];rw[lP,<-hu,<-oB];simp[hm]
 refine⟨⟨some ⟨w.heap.size,0,none⟩,l,c⟩,rfl,hk _ _ ⟨?_,dm,.inr ⟨w.heap.size,0,_,(0,0),rfl,by rw[<-h3],?_,.inl (NF _),fun j u hu=>?_⟩⟩ ⟨_,h3.symm,size_madeCells _ _,vF⟩ hs⟩
 ·rw[Zu,hT.zlen]
 ·rw[size_madeCells];simp
 ·rw[QO];refine vF j u ?_;have hj:=(PL.1 hu).1;rw[Zu]at hj;rw[Zv z c j (XB hj (PD _ dm)),<-Zv z l j hj];exact hu
def Ar8(hu:P.underlying t=some (.slice e))(hs:Dq P e=some sz){B:B1}{T:TypeId}{v:B6}(ha:v.a=some ⟨b,off,none⟩)
  {vs:B6}  (src:Sl (A++(b,Obj.cells c T fz)::B) vs sz ws) (aQ:ws.all Bt=true) (cX:off+v.len*sz<=c.size) (eS:fz.2<=fz.1\/c.size<=fz.1) {k:D2 [.lf (.int .i64)]->HP}
  (hk:k (((min vs.len v.len:Nat):Int),()) (A++(b,Obj.cells (wr c off (ws.take (min vs.len v.len*sz))) T fz)::B)):
  F3 P (Builtin.copy_ #[t,t2] ty #[.slice v.a v.len v.cap,.slice vs.a vs.len vs.cap]) [.lf (.int .i64)] k (A++(b,Obj.cells c T fz)::B):=by
 intro E F w hw;have hf:=Src.take (P:=P) src (m:=min vs.len v.len) (Nat.min_le_left _ _) hw;have bV:min vs.len v.len*sz<=v.len*sz:=PD _ (Nat.min_le_right _ _);have hO:(ws.take (min vs.len v.len*sz)).length<=min vs.len v.len*sz:=VJ _ _;have iA:(ws.take (min vs.len v.len*sz)).all Bt=true:=by
  rw[QM]at aQ⊢;exact fun x hx=>aQ x (RP hx)
 obtain⟨w',hr,aI⟩:=Sk (P:=P) (E:=E) (A:=A) (B:=B) (F:=F) (b:=b) (T:=T) (fz:=fz) (ws.take (min vs.len v.len*sz)) c off 0 w iA (by simpa using hw) (by omega) (by intro j hj;omega);refine⟨_,w',_,?_,by simpa using aI,(((min vs.len v.len:Nat):Int),()),rfl,hk⟩;rw[ha];have kQ:(Builtin.firstCells sz (vs.len.min v.len) (.slice vs.a vs.len vs.cap)).run P w= .ok (ws.take (min vs.len v.len*sz)).toArray w:=hf;have aE:(sizeOf e).run P w= .ok sz w:=Fl hs w;have key: ∀(x:Value),(Builtin.lenOf x).run P w= .ok vs.len w->(Builtin.firstCells sz (vs.len.min v.len) x).run P w= .ok (ws.take (min vs.len v.len*sz)).toArray w->
   (Builtin.copy_ #[t,t2] ty #[.slice (some ⟨b,off,none⟩) v.len v.cap,x]).run P w= .ok (.int .i64 ((vs.len.min v.len:Nat):Int)) w':=by
  intro x h1 h2;have sD:(storeCells ⟨b,off,none⟩ (ws.take (min vs.len v.len*sz))).run P w= .ok () w':=hr;simp only[Builtin.copy_,TE,XC,TC,Sem.run_bind,K5 hu,Result.andThen_ok,h1,aE,h2,sD,Sem.run_pure,goInt]
 exact key _ rfl kQ
def Gz(w:World):B1:=w.heap.toList.zipIdx.map fun p=>(p.2,p.1)
def EF{o:Obj}:(b,o)∈Gz w↔w.heap[b]?=some o:=by
 unfold Gz;simp only[NY,Prod.exists,QC];constructor
 ·rintro⟨x,i,hm,rfl,rfl⟩;have:=YK.1 hm;simpa using this
 ·intro h;exact⟨o,b,YK.2 (by simpa using h),rfl,rfl⟩
def Cf0(w:World):J4 w w (Gz w):=by
 refine⟨?_,fun p hp=>EF.1 hp,rfl,rfl,rfl⟩;have:(Gz w).map Prod.fst=List.range w.heap.size:=by
  unfold Gz;rw[OO];have h2:(Prod.fst∘fun(p:Obj×Nat)=>(p.2,p.1))=Prod.snd:=rfl;rw[h2,List.zipIdx_map_snd];simp[List.range_eq_range']
 rw[this];exact List.nodup_range
def Cr3(h:J4 w w' L')(hs: ∀p∈Gz w,p∈L'):Go.RowKit.Below w.heap.size w w':=by
 have hb: ∀k,k<w.heap.size->w'.heap[k]?=w.heap[k]?:=by
  intro k hk;have h1:w.heap[k]?=some w.heap[k]:=by simp[hk]
  rw[h1];exact h.blk (k,w.heap[k]) (hs _ (EF.2 h1))
 refine⟨h.os,h.tape,h.output,?_,hb⟩;rcases VI w.heap.size with h0|h0
 ·omega
 ·have:=hb (w.heap.size-1) (by omega);have h1:w.heap[w.heap.size-1]?=some (w.heap[w.heap.size-1]'(by omega)):=by
   rw[YJ (by omega)]
  rw[h1]at this;have:=(SF.1 this).1;omega
def Ct9(h:Reads P f args (Gz w) (.bool true)):Calls P f args w fun e w'=>e= .returned (.bool true)/\Go.RowKit.Below w.heap.size w w':=by
 refine Calls.mono (h w [] w (by simpa using Cf0 w)) ?_;rintro e w' ⟨v,L',rfl,aI,rfl,rfl⟩;exact⟨rfl,Cr3 aI (fun p hp=>by simpa using hp)⟩
end
open Go.WideShapes
section
variable {P:Program} {w:World}
structure Ld(P:Program)(w:World)(t:TypeId)(α:Type)(enc:α->List Value)(wf:α->Prop):Prop where
 dec: ∀{H:Type} {e':TypeId×Value->H} {spare:Nat->Bool} {held:Bool} {fuel:Nat} {cs:List Value} {y:DataW H×List MemPlace},DataW.trod e' P w 0 spare held fuel t cs=some y-> ∃x,cs=enc x/\wf x
def Q4(k:IntKind)(n:Int):Prop:=(Lit.int k n).wf=true
def Cu4(hu:P.underlying t=some (.int k)):Ld P w t Int (fun n=>[.int k n]) (Q4 k):=
 ⟨fun h=>by obtain⟨n,h1,_,h2⟩:=DataW.trod_int hu h;exact⟨n,h1,h2⟩⟩
def Cu0(hu:P.underlying t=some (.int .u8)):Ld P w t UInt8 (fun b=>[bv b]) (fun _=>True):=
 ⟨fun h=>by
  obtain⟨n,h1,_,h2⟩:=DataW.trod_int hu h;have hb:0<=n/\n<=255:=by
   simp only[Lit.wf,PO,QR]at h2;exact h2
  refine⟨UInt8.ofNat n.toNat,?_,trivial⟩;rw[h1];simp only[bv];congr 2;have:(UInt8.ofNat n.toNat).toNat=n.toNat:=by simp;omega
  rw[this];omega⟩
def Cu2(hu:P.underlying t=some .string):Ld P w t ByteArray (fun s=>[.string s]) (fun s=>s.size<=maxLen):=
 ⟨fun h=>by obtain⟨n,h1,_,h2⟩:=DataW.trod_string hu h;exact⟨n,h1,h2⟩⟩
def cells?_some{a:Addr}{cs:List Value}(h:w.cells? 0 a n=some cs):cs.length=n/\ ∀i v,cs[i]?=some v->w.cell? (a.add i)=some v:=by
 unfold World.cells? at h;rw[NE (PQ _)]at h;have h1:=mapM_some_length h;refine⟨by simpa using h1,fun i v hv=>?_⟩;have hi:i<n:=by
  have:=(PL.1 hv).1;simp at h1;omega
 have:=mapM_some_get h i i (by simp[hi]);rw[this];exact hv
def Bz1{a:Addr}(hZ:vs≠[])(h: ∀(i:Nat) (v:Value),vs[i]?=some v->w.cell? (a.add i)=some v):C0 a vs (Gz w):=by
 have h0:w.cell? a=some (vs[0]'(by cases vs with|nil=>exact absurd rfl hZ|cons x r=>simp)):=by
  have:=h 0 (vs[0]'(by cases vs with|nil=>exact absurd rfl hZ|cons x r=>simp)) (by simp)
  rwa [show a.add 0=a from rfl]at this
 have key: ∀{b:Addr} {v:Value},w.cell? b=some v->b.spot=none/\ ∃c T fz,w.heap[b.block]?=some (.cells c T fz)/\c[b.off]?=some v:=by
  intro b v hb;unfold World.cell? at hb;split at hb
  ·rename_i c T fz dR;split at hb
   ·cases hb
   ·rename_i hs;exact⟨by simpa using hs,c,T,fz,dR,hb⟩
  ·cases hb
 obtain⟨hs,c,T,fz,dR,_⟩:=key h0;refine⟨c,T,fz,EF.2 dR,hs,fun i v hv=>?_⟩;have hi:=h i v hv;rw[Fh hs]at hi;obtain⟨_,c',T',fz',nJ,dz⟩:=key hi;simp only at nJ dz;rw[dR]at nJ;cases nJ;exact dz
theorem Am4{α:Type}{enc:α->List Value}{sz:Nat}(aE: ∀x,(enc x).length=sz): ∀(l:List α) (i j:Nat) (v:Value),j<sz->(l.flatMap enc)[i*sz+j]?=some v-> ∃h:i<l.length,(enc l[i])[j]?=some v
 |[],i,j,v,_,h=>by simp at h
 |x::r,0,j,v,hj,h=>by
  refine⟨by simp,?_⟩;rw[OL,QX (by rw[aE];omega)]at h;simpa using h
 |x::r,i+1,j,v,hj,h=>by
  rw[OL,QY (by rw[aE,QV];omega)]at h;have:(i+1)*sz+j-(enc x).length=i*sz+j:=by rw[aE,QV];omega
  rw[this]at h;obtain⟨hi,h2⟩:=Am4 aE r i j v hj h;exact⟨by simp;omega,by simpa using h2⟩
def Ea{enc:α->List Value}(aE: ∀x,(enc x).length=sz)(l:List α):(l.flatMap enc).length=l.length*sz:=by
 induction l with
 |nil=>simp
 |cons x r ih=>rw[OL,NR,ih,aE,NU,QV];omega
structure Mn(w:World){α:Type}(enc:α->List Value)(wf:α->Prop)(sz:Nat)(p:B6×List α):Prop where
 len:p.1.len=p.2.length
 cap:p.1.cap<=maxLen
 sl:Sl (Gz w) p.1 sz (p.2.flatMap enc)
 all: ∀x∈p.2,wf x
def Cp0{Q:Nat->α->Prop}(h: ∀i,i<n-> ∃x,Q i x): ∃l:List α,l.length=n/\ ∀i (hi:i<l.length),Q i l[i]:=by
 induction n with
 |zero=>exact⟨[],rfl,fun i hi=>by simp at hi⟩
 |succ n ih=>
  obtain⟨l,hl,hq⟩:=ih fun i hi=>h i (by omega);obtain⟨x,hx⟩:=h n (by omega);refine⟨l++[x],by simp[hl],fun i hi=>?_⟩;by_cases h2:i<l.length
  ·rw[List.getElem_append_left h2];exact hq i h2
  ·have:i=l.length:=by simp at hi;omega
   subst this;simpa[hl]using hx
def Cu3{enc:α->List Value}{wf:α->Prop}(hu:P.underlying t=some (.slice e))(hc:P.cellsOf e=sz)(aE: ∀x,(enc x).length=sz)(bF:0<sz)(D:Ld P w e α enc wf):
  Ld P w t (B6×List α) (fun p=>[.slice p.1.a p.1.len p.1.cap]) (Mn w enc wf sz):=
 ⟨fun h=>by
  rcases Deep.open_slice hu h with⟨rfl,_⟩|⟨a,len,cap,m,n,Dd,Pl,rfl,_,bV,aY,hm,_,aA⟩
  ·exact⟨(⟨none,0,0⟩,[]),rfl,rfl,PQ _,Sl.nil sz,by simp⟩
  ·have dk:len<=m:=by rw[hm];split<;>omega
   obtain⟨l,hl,hq⟩:=Cp0 (n:=len) (Q:=fun i x=>w.cells? 0 (a.add (i*sz)) sz=some (enc x)/\wf x) fun i hi=>by
    obtain⟨cs,h1,h2⟩:=aA i (by omega);obtain⟨x,rfl,hx⟩:=D.dec h2;rw[hc]at h1;exact⟨x,h1,hx⟩
   refine⟨(⟨some a,len,cap⟩,l),rfl,hl.symm,aY,⟨?_,bV,?_⟩,fun x hx=>?_⟩
   ·rw[Ea aE,hl]
   ·by_cases h0:l.flatMap enc=[]
    ·exact .inl h0
    ·refine .inr ⟨a,rfl,Bz1 h0 fun i v hv=>?_⟩;have hi:=(PL.1 hv).1;rw[Ea aE]at hi;have iH:i=(i/sz)*sz+i%sz:=by rw[VK];exact(Nat.div_add_mod i sz).symm
     rw[iH]at hv;obtain⟨iF,kX⟩:=Am4 aE l (i/sz) (i%sz) v (QP _ bF) hv;obtain⟨_,dX⟩:=cells?_some (hq _ iF).1;have:=dX _ _ kX;rw[iH];have rV:(a.add (i/sz*sz)).add (i%sz)=a.add (i/sz*sz+i%sz):=by
      unfold Addr.add;by_cases h1:i/sz*sz=0<;>by_cases h2:i%sz=0<;>simp[h1,h2,TR]
     rw[rV]at this;exact this
   ·obtain⟨i,hi,rfl⟩:=XD.1 hx;exact(hq i hi).2⟩
def Yz(P:Program):List Field->Nat->Nat->Bool
 |[],base,n=>Nat.beq base n
 |f::r,base,n=>Nat.beq f.offset base&&Yz P r (base+P.cellsOf f.type) n
structure Zr(P:Program)(w:World)(fs:List Field)(α:Type)(enc:α->List Value)(wf:α->Prop):Prop where
 dec: ∀{H:Type} {e':TypeId×Value->H} {spare:Nat->Bool} {held:Bool} {fuel:Nat} {cs:List Value} {base:Nat},Yz P fs base cs.length=true->
  (∀f∈fs,∃y,DataW.trod e' P w 0 spare held fuel f.type ((cs.drop f.offset).take (P.cellsOf f.type))=some y)-> ∃x,cs.drop base=enc x/\wf x
def Cu5:Zr P w [] Unit (fun _=>[]) (fun _=>True):=
 ⟨fun{H e' spare held fuel cs base} hc _=>⟨(),by have:=RH hc;rw[this];simp,trivial⟩⟩
def Cu6{f:Field}{fs:List Field}{β:Type}{enc:α->List Value}{encs:β->List Value}{wf:α->Prop}{wfs:β->Prop}(D:Ld P w f.type α enc wf)(Ds:Zr P w fs β encs wfs):
  Zr P w (f::fs) (α×β) (fun x=>enc x.1++encs x.2) (fun x=>wf x.1/\wfs x.2):=
 ⟨fun{H e' spare held fuel cs base} hc aA=>by
  simp only[Yz,PO]at hc;have ho:=RH hc.1;obtain⟨y,hy⟩:=aA f NG;obtain⟨x,hx,qC⟩:=D.dec hy;obtain⟨z,hz,hwz⟩:=Ds.dec hc.2 fun g hg=>aA g (NN _ hg);refine⟨(x,z),?_,qC,hwz⟩;rw[ho]at hx;rw[<-hx,<-hz,<-QB];exact(PR _ _).symm⟩
def Cu1{fs:Array Field}{enc:α->List Value}{wf:α->Prop}(hu:P.underlying t=some (.struct fs))(hc:Yz P fs.toList 0 (P.cellsOf t)=true)(D:Zr P w fs.toList α enc wf):Ld P w t α enc wf:=
 ⟨fun h=>by
  obtain⟨xs,n,_,_,hl,hC,aA⟩:=DataW.trod_struct hu h;rw[<-hl]at hc;obtain⟨x,hx,hw⟩:=D.dec hc fun f hf=>by
   obtain⟨i,hi,rfl⟩:=XD.1 hf;have hJ:i<fs.size:=by simpa using hi
   have:=aA i fs[i] (by simp[hJ]);rw[NV (by omega)]at this;exact⟨_,this⟩
  exact⟨x,by simpa using hx,hw⟩⟩
def Cu9{enc:α->List Value}{wf:α->Prop}{r:Reach}{H:Type}{e':TypeId×Value->H}{d:DataW H}(hu:P.underlying t=some (.slice e))(hv:Value.okWide P w r b0 t v)
  (D:Ld P w t (B6×List α) (fun p=>[.slice p.1.a p.1.len p.1.cap]) (Mn w enc wf sz)) (h:DataW.Trod e' P w 0 sp held t v d ps): ∃(s:B6) (l:List α),v= .slice s.a s.len s.cap/\Mn w enc wf sz (s,l):=by
 obtain⟨a,len,cap,rfl⟩:=okWide_slice hu hv;obtain⟨fuel,hf⟩:=h;obtain⟨⟨s,l⟩,h1,h2⟩:=D.dec hf;have:[Value.slice a len cap]=[.slice s.a s.len s.cap]:=h1;injection this with h3;exact⟨s,l,h3,h2⟩
def Cu8{fs:Array Field}{enc:α->List Value}{wf:α->Prop}{r:Reach}{H:Type}{e':TypeId×Value->H}{d:DataW H}(hu:P.underlying t=some (.struct fs))(hv:Value.okWide P w r b0 t v)
  (D:Ld P w t α enc wf) (h:DataW.Trod e' P w 0 sp held t v d ps): ∃x,v= .agg (enc x).toArray/\wf x:=by
 obtain⟨cs,rfl,_⟩:=okWide_struct hu hv;obtain⟨fuel,hf⟩:=h;obtain⟨x,h1,h2⟩:=D.dec hf;have:cs.toList=enc x:=h1;exact⟨x,by rw[<-this],h2⟩
end
def HR(x y:Int):P9 .xor .u64 x y=((BitVec.ofInt 64 x^^^BitVec.ofInt 64 y).toNat:Int):=by
 simp only[P9,IntKind.bits];rw[Vq,Hr];rfl
def HS(x y:Int):P9 .xor .u32 x y=((BitVec.ofInt 32 x^^^BitVec.ofInt 32 y).toNat:Int):=by
 simp only[P9,IntKind.bits];rw[Ms,Hr];rfl
def Bf5(a:BitVec m)(k n:Nat)(hn:n=m):Int.fdiv (a.toNat:Int) (2^(min k n))=((a>>>k).toNat:Int):=by
 subst hn;rw[XE,XF,UI _ (by exact UJ (Int.pow_pos (by omega)))];have h2:(2:Int)^min k n=((2^min k n:Nat):Int):=by simp
 rw[h2,<-Int.natCast_ediv];congr 1;by_cases h:k<=n
 ·rw[QF h]
 ·rw[Nat.min_eq_right (by omega)];have h3:=a.isLt;rw[VL h3,VL (XB h3 (UK (by omega) (by omega)))]
def KM(a:BitVec 64)(k:Nat):Int.fdiv (a.toNat:Int) (2^(min k IntKind.u64.bits))=((a>>>k).toNat:Int):=Bf5 a _ _ rfl
def Ay9{n:Int}(h:Q4 k n):k.min<=n/\n<=k.max:=by
 simpa only[Q4,Lit.wf,PO,QR]using h
def Rv{n:Int}(h:Q4 .i64 n): -9223372036854775808<=n/\n<=9223372036854775807:=by
 exact Ay9 h
def Ac2(m:Nat)(c:UInt8):BitVec.ofInt m (c.toNat:Int)=BitVec.ofNat m c.toNat:=BitVec.ofInt_natCast ..
def Sl.head{v:B6}(h:Sl [p] v sz vs):Sl (p::L) v sz vs:=h.mono fun q hq=>by
 obtain rfl:=NM.1 hq;exact NG
section
variable {P:Program} {L:B1}
def CallF.at'(h:CallF P f args A K):CallF P f args (X++A++Y) fun v L'=> ∃A',L'=X++A'++Y/\K v A':=
 fun E F w hw=>Calls.mono (CallF.frame (R:=X++Y) h E F w (hw.perm (by
   refine TU F ?_;have:(X++A++Y).Perm (A++X++Y):=TU Y OT;simpa[NZ]using this))) fun e w' ⟨v,L',he,aI,A',hL,hK⟩=>by
  subst hL;refine⟨v,X++A'++Y,he,aI.perm (TU F ?_),A',rfl,hK⟩;have:(A'++X++Y).Perm (X++A'++Y):=TU Y OT;simpa[NZ]using this
def K3{k:D2 rs->HP}(X Y:B1)(h:CallF P f args A K)(hL:L=X++A++Y)
  (hk: ∀v A',O3 (X++A'++Y)->K v A'-> ∃r,v=Dt rs r/\k r (X++A'++Y)):cl P f args rs k L:=by
 subst hL;refine CallF.mono (CallF.at' h) ?_;rintro v L' hs ⟨A',rfl,hK⟩;exact hk v A' hs hK
def Reads.in(h:Reads P f args A v):Reads P f args (X++A++Y) v:=
 CallF.mono (CallF.at' h) (by rintro _ _ _ ⟨A',rfl,rfl,rfl⟩;exact⟨rfl,rfl⟩)
def Y3.permL(hp:L.Perm L')(h:Y3 P s K L'):Y3 P s K L:=
 fun E F w hw=>h E F w (hw.perm (hp.append_right F))
def Y3.permK{K':Value->HP}(h:Y3 P s K L)(hk: ∀v L',K v L'-> ∃L'',L'.Perm L''/\K' v L''):Y3 P s K' L:=by
 intro E F w hw;obtain⟨v,w',L',hr,aI,hK⟩:=h E F w hw;obtain⟨L'',hp,hK'⟩:=hk v L' hK;exact⟨v,w',L'',hr,aI.perm (hp.append_right F),hK'⟩
def Zk{bytes:Nat}{z:List Value}(hT:V4 P t e sz bytes z)(h2:W6 P t2)
  {v:B6}  {x:Value}   (X Y:B1) (own:C5 v sz e vs seg) (hL:L=X++seg++Y) (src:Src L x sz n ws) (iN:ws.all Bt=true)
  (hb:(v.len+n)*bytes<=140737488355328) {k:D2 [.lf .sl]->HP} (hk: ∀v' seg',v'.len=v.len+n->(v.len+n<=v.cap->v'.cap=v.cap/\v'.a=v.a)->v.cap<=v'.cap->C5 v' sz e (vs++ws) seg'->k (v',()) (X++seg'++Y)):
  F3 P (Builtin.append_ #[t,t2] ty #[.slice v.a v.len v.cap,x]) [.lf .sl] k L:=by
 subst hL;have hp:(X++seg++Y).Perm (seg++(X++Y)):=by
  have:(X++seg++Y).Perm (seg++X++Y):=TU Y OT;simpa[NZ]using this
 have src':Src (seg++(X++Y)) x sz n ws:=by
  cases src with
  |sl h=>exact .sl (h.mono fun p hq=>hp.subset hq)
  |str s=>exact .str s
 refine Y3.permL hp (Y3.permK (Cs4 (R:=X++Y) hT h2 own src' iN hb (k:=fun r L'=> ∃seg',L'=seg'++(X++Y)/\k r (X++seg'++Y)) fun v' seg' h1 h2 h3 h4=>⟨seg',rfl,hk v' seg' h1 h2 h3 h4⟩) ?_);rintro v' L' ⟨r,hr,seg',rfl,cA⟩;refine⟨X++seg'++Y,?_,r,hr,cA⟩;have:(seg'++X++Y).Perm (X++seg'++Y):=TU Y OT;simpa[NZ]using this
def Q1{bytes:Nat}{z:List Value}(hT:V4 P t e sz bytes z)(h2:W6 P t2)
  {v:B6}  {x:Value}   (X Y:B1) (own:C5 v sz e vs seg) (hL:L=X++seg++Y) (src:Src L x sz n ws) (iN:ws.all Bt=true)
  (hb:(v.len+n)*bytes<=140737488355328) {k:D2 [.lf .sl]->HP} (hk: ∀v' seg',v'.len=v.len+n->C5 v' sz e (vs++ws) seg'->k (v',()) (X++seg'++Y)):
  F3 P (Builtin.append_ #[t,t2] ty #[.slice v.a v.len v.cap,x]) [.lf .sl] k L:=
 Zk hT h2 X Y own hL src iN hb fun v' seg' h _ _ h3=>hk v' seg' h h3
def Ew{p:Prop}[Decidable p]{A:HP}(h:p)(hk:A L):B3 (decide p) A B L:=E9 (OH h) hk
def Bp{p:Prop}[Decidable p]{A:HP}(h: ¬p)(hk:B L):B3 (decide p) A B L:=D8 (OF h) hk
def De{bytes:Nat}{z:List Value}(hu:P.underlying t=some (.slice e))(h:((P.info? e).bind fun i=>i.zero.map fun v=>(i.size,i.bytes,v.cells.toList))=some (sz,bytes,z))
  (hz:z.length=sz) (hs:0<sz) (hb:0<bytes):V4 P t e sz bytes z:=by
 refine⟨hu,?_,hz,hs,hb⟩;cases hi:P.info? e with
 |none=>rw[hi]at h;cases h
 |some i=>
  rw[hi]at h;cases hv:i.zero with
  |none=>simp[hv]at h
  |some v=>
   simp only[Option.bind_some,hv,RO,RJ,QC]at h;exact⟨i,rfl,h.1,h.2.1,v,hv,h.2.2⟩
def C2{T:TypeId}(hm:(n,Obj.cells c T fz)∈L)(h:(c.toList.drop off).take vs.length=vs):C0 ⟨n,off,none⟩ vs L:=by
 refine .blk hm fun i v hv=>?_;rw[<-h,RF]at hv;split at hv
 ·rw[RW]at hv;simpa using hv
 ·cases hv
def F6{k:HP}{T:TypeId}(A B:B1)(dY:ad=⟨n,off,none⟩)(hL:L=A++(n,Obj.cells c T fz)::B)(aE:off+ws.length<=c.size)
  (eS:fz.2<=fz.1\/c.size<=fz.1) (c':Array Value) (hc:wr c off ws=c') (hk:k (A++(n,Obj.cells c' T fz)::B)):st ad ws k L:=by
 subst dY hL hc;exact⟨A,B,c,T,fz,rfl,rfl,aE,fun i hi=>by simp only;omega,hk⟩
def Bm(vs:List Value)(p:Nat)(ws:List Value):List Value:=vs.take p++ws++vs.drop (p+ws.length)
def BT(vs:List Value)(p:Nat)(ws:List Value)(h:p+ws.length<=vs.length):(Bm vs p ws).length=vs.length:=by
 simp only[Bm,NR,NW,OJ];omega
def Sv(vs:List Value)(p:Nat)(ws:List Value)(h:p+ws.length<=vs.length)(i:Nat):(Bm vs p ws)[i]?=if p<=i/\i<p+ws.length then ws[i-p]? else vs[i]?:=by
 unfold Bm;rw[NZ,WW];have hl:(vs.take p).length=p:=by rw[NW];omega
 rw[hl];by_cases h1:i<p
 ·rw[NE h1,ND (by omega),RF,NE h1]
 ·rw[ND h1,WW];by_cases h2:i-p<ws.length
  ·rw[NE h2,NE (by omega)]
  ·rw[ND h2,ND (by omega),RW];congr 1;omega
def Su{p:Nat}{w:Value}(h:p<vs.length):Bm vs p [w]=vs.set p w:=by
 apply UL;intro i;rw[Sv _ _ _ (by simp only[NU,OX];omega),RX];by_cases hi:p=i
 ·subst hi;simp[h]
 ·rw[ND (by simp only[NU,OX];omega),ND hi]
def C5.st{v:B6}{T:TypeId}(own:C5 v sz T vs seg)(X Y:B1){p:Nat}(hp:p+ws.length<=vs.length)(iN:0<ws.length){a:Addr}(ha:v.a=some a)(dY:ad=Addr.add a p){k:HP}
  (hL:L=X++seg++Y) (hk: ∀seg',C5 v sz T (Bm vs p ws) seg'->k (X++seg'++Y)):st ad ws k L:=by
 subst hL dY;rcases own.row with⟨dA,_,_⟩|⟨b,off,c,fz,dA,rfl,aE,eS,hc⟩
 ·rw[ha]at dA;cases dA
 ·rw[ha]at dA;obtain rfl:=NI dA;have hC:=own.len;have aY:=own.cap;have bV:=PD sz aY;refine F6 (n:=b) (off:=off+p) (c:=c) (T:=T) (fz:=fz) X Y (Fh (ad:=⟨b,off,none⟩) rfl p) (by simp) (by omega) (by omega) _ rfl ?_;have:=hk [(b,Obj.cells (wr c (off+p) ws) T fz)] ⟨by rw[BT _ _ _ hp];exact hC,aY,.inr ⟨b,off,_,fz,ha,rfl,by rw[Bi];exact aE,by rw[Bi];exact eS,fun i u hu=>?_⟩⟩
  ·simpa using this
  ·rw[Sv _ _ _ hp]at hu;rw[Hg _ _ _ _ (by omega)];split at hu
   ·rw[NE (by omega),show off+i-(off+p)=i-p by omega];exact hu
   ·rw[ND (by omega)];exact hc i u hu
def Cp2(l:List UInt8)(i:Nat)(x:UInt8):(F9 l).set i (.int .u8 (x.toNat:Int))=F9 (l.set i x):=by
 simp[F9,List.map_set,bv]
def Sl.slc{v:B6}(h:Sl L v sz vs)(aE:0<sz){l:Nat}(hl:l<=h')(hh:h'<=v.len)(hm:h'<=m):Sl L (G7 v l h' m sz) sz ((vs.drop (l*sz)).take ((h'-l)*sz)):=by
 have hC:=h.len;have h1:=PD sz hh;have h2:=PD sz hl;refine⟨?_,?_,?_⟩
 ·simp only[G7,NK,NW,OJ];rw[QF];rw[VM];omega
 ·simp only[G7,NK];omega
 ·by_cases h0:(vs.drop (l*sz)).take ((h'-l)*sz)=[]
  ·exact .inl h0
  ·have hO:l<h':=by
    rcases PY l h' with h3|h3
    ·exact h3
    ·exfalso;apply h0;rw[Nat.sub_eq_zero_of_le h3,RL];rfl
   obtain⟨ad,ha,cH⟩:=h.at' (i:=l) (by omega) aE;refine .inr ?_;simp only[G7,NK];rw[ND (by omega),ha];refine⟨_,rfl,cH.sub (l*sz) fun i u hu=>?_⟩;rw[RF]at hu;split at hu
   ·rw[RW]at hu;exact hu
   ·cases hu
def Q2{v:B6}{l m:Int}{k:B6->HP}{l' m':Nat}(hl:l=l')(hh:h=h')(hm:m=m')(h1:l'<=h')(h2:h'<=m')(h3:m'<=v.cap)(hk:k (G7 v l' h' m' sz) L):slc v l h m sz k L:=by
 subst hl hh hm;exact⟨⟨by omega,by omega,by omega,by omega⟩,hk⟩
def Jv(l:List UInt8)(i j:Nat):((F9 l).drop (i*1)).take ((j-i)*1)=F9 ((l.drop i).take (j-i)):=by
 simp[F9,UM,SN]
theorem Yg{α:Type}{enc:α->List Value}{sz:Nat}(aE: ∀x,(enc x).length=sz): ∀(l:List α) (i:Nat) (h:i<l.length) (j:Nat),j<sz->(l.flatMap enc)[i*sz+j]?=(enc l[i])[j]?
 |[],i,h,j,_=>by simp at h
 |x::r,0,h,j,hj=>by
  rw[OL,QX (by rw[aE];omega),RL,QO];rfl
 |x::r,i+1,h,j,hj=>by
  rw[OL,QY (by rw[aE,QV];omega)];have:(i+1)*sz+j-(enc x).length=i*sz+j:=by rw[aE,QV];omega
  rw[this,Yg aE r i (by simpa using h) j hj];rfl
def Sl.els_len{enc:α->List Value}{v:B6}{l:List α}(aE: ∀x,(enc x).length=sz)(bF:0<sz)(h:Sl L v sz (l.flatMap enc)):v.len=l.length:=by
 have h1:=h.len;rw[Ea aE]at h1;exact Nat.eq_of_mul_eq_mul_right bF h1
def Sl.el{enc:α->List Value}{v:B6}{l:List α}(aE: ∀x,(enc x).length=sz)(bF:0<sz)(h:Sl L v sz (l.flatMap enc))(hi:i<l.length):
  ∃a,v.a=some a/\C0 (Addr.add a (i*sz)) (enc l[i]) L:=by
 obtain⟨a,ha,hl⟩:=h.at' (i:=i) (by rw[h.els_len aE bF];exact hi) bF;refine⟨a,ha,hl.sub (i*sz) fun j u hu=>?_⟩;have hj:=(PL.1 hu).1;rw[aE]at hj;rw[Yg aE l i hi j hj];exact hu
def O6(k:IntKind)(l:List Int):List Value:=l.map (Value.int k)
def Hi(k:IntKind)(l:List Int):(O6 k l).length=l.length:=by simp[O6]
def Tx(k:IntKind)(l m:List Int):O6 k (l++m)=O6 k l++O6 k m:=by simp[O6]
def Tw(k:IntKind)(l:List Int):(O6 k l).all Bt=true:=by
 induction l with
 |nil=>rfl
 |cons b r ih=>exact ih
def Ah6{l:List Int}(h:i<l.length):(O6 k l)[i]?=some (.int k l[i]):=by
 simp[O6,h]
abbrev R4(L:B1)(v:B6)(k:IntKind)(l:List Int):Prop:=Sl L v 1 (O6 k l)
def R4.len{L:B1}{v:B6}{l:List Int}(h:R4 L v k l):v.len=l.length:=by
 have:=Sl.len h;rw[Hi]at this;omega
def R4.some{L:B1}{v:B6}{l:List Int}(h:R4 L v k l)(hi:i<l.length): ∃a,v.a=some a:=by
 obtain⟨ad,dA,hl⟩:=h.at' (i:=i) (by rw[h.len];exact hi) (by omega);exact⟨ad,dA⟩
def R4.rd{L:B1}{v:B6}{l:List Int}(h:R4 L v k l)(hi:i<l.length){a:Addr}(ha:v.a=Option.some a)(j:Nat)(hj:j=i*1):C0 (Addr.add a j) [.int k l[i]] L:=by
 subst hj;obtain⟨ad,dA,hl⟩:=h.at' (i:=i) (by rw[h.len];exact hi) (by omega);rw[ha]at dA;obtain rfl:=NI dA;rw[OS];exact hl.one i (Ah6 hi)
def Cb1(k:IntKind)(l:List Int)(i:Nat)(x:Int):(O6 k l).set i (.int k x)=O6 k (l.set i x):=by
 simp[O6,List.map_set]
def Ah5(k:IntKind)(l:List Int)(i j:Nat):((O6 k l).drop (i*1)).take ((j-i)*1)=O6 k ((l.drop i).take (j-i)):=by
 simp[O6,UM,SN]
def R4.const{L:B1}{l:List Int}{T:TypeId}(cap:Nat)(hc:l.length<=cap)(hm:(b,Obj.cells (O6 k l).toArray T fz)∈L):R4 L ⟨Option.some ⟨b,0,none⟩,l.length,cap⟩ k l:=
 ⟨by rw[Hi];simp,hc,.inr ⟨_,rfl,.blk hm fun i v hv=>by simpa using hv⟩⟩
def Mn.bytes{wf:UInt8->Prop}{p:B6×List UInt8}(h:Mn w (fun b=>[bv b]) wf 1 p):G0 (Gz w) p.1 p.2:=by
 have h1:=h.sl;have h2:p.2.flatMap (fun b=>[bv b])=F9 p.2:=by
  generalize p.2=l;induction l with
  |nil=>rfl
  |cons x r ih=>rw[OL,ih];rfl
 rw[h2]at h1;exact h1
end
section
variable {P:Program} {L:B1}
def C5.slc{v:B6}{T:TypeId}(own:C5 v sz T vs seg){l h:Nat}(hl:l<=h)(hh:h<=v.len):
  C5 (G7 v l h v.cap sz) sz T ((vs.drop (l*sz)).take ((h-l)*sz)) seg:=by
 have hC:=own.len;have aY:=own.cap;have h1:=PD sz hh;have h2:=PD sz hl;have h3:=PD sz aY;refine⟨?_,?_,?_⟩
 ·simp only[G7,NK,NW,OJ];rw[QF];rw[VM];omega
 ·simp only[G7,NK];omega
 ·rcases own.row with⟨ha,hc,rfl⟩|⟨b,off,c,fz,ha,rfl,aE,eS,dX⟩
  ·refine .inl ⟨?_,?_,rfl⟩
   ·simp only[G7,NK,ha];split<;>rfl
   ·simp only[G7,NK];omega
  ·by_cases he:v.cap=l
   ·refine .inr ⟨b,off,c,fz,?_,rfl,?_,eS,?_⟩
    ·simp only[G7,NK,NE he,ha]
    ·simp only[G7,NK];rw[he,SQ,RL];omega
    ·intro i u hu;have:h=l:=by omega
     subst this;simp at hu
   ·refine .inr ⟨b,off+l*sz,c,fz,?_,rfl,?_,eS,?_⟩
    ·simp only[G7,NK,ND he,ha,RO];rw[Fh rfl]
    ·simp only[G7,NK];rw[VM];have:=PD sz (show l<=v.cap by omega);omega
    ·intro i u hu;rw[RF]at hu;split at hu
     ·rw[RW]at hu;rw[TR];exact dX _ _ hu
     ·cases hu
def Bk1(hu:P.underlying t=some d){a:Option Addr}{c:Nat}(h:a=none\/n=0)(w:World):(Builtin.clear_ #[t] ty #[.slice a n c]).run P w= .ok (.tuple #[]) w:=by
 rcases h with rfl|rfl
 ·cases d<;>simp[Builtin.clear_,K5 hu]
 ·cases a<;>cases d<;>simp[Builtin.clear_,K5 hu]
def Bk0{i:TypeInfo}{zv:Value}(hu:P.underlying t=some (.slice e))(hi:P.info? e=some i)(hz:i.zero=some zv){a:Addr}{c:Nat}(hn:n≠0)
  (hs:(storeCells a (Builtin.zeroCells zv.cells n).toList).run P w= .ok () w'):(Builtin.clear_ #[t] ty #[.slice (some a) n c]).run P w= .ok (.tuple #[]) w':=by
 cases n with
 |zero=>exact absurd rfl hn
 |succ n=>simp[Builtin.clear_,K5 hu,zeroValue,typeInfo,hi,hz,hs]
def Vb{bytes:Nat}{z:List Value}(hT:V4 P t e sz bytes z)(hz:z.all Bt=true){v:B6}(X Y:B1)(own:C5 v sz e vs seg)(hL:L=X++seg++Y){h:Nat}(h1:v.len<=h)(h2:h<=v.cap)
  {s:B6} (hs:s=G7 v v.len h v.cap sz) {k:D2 []->HP} (hk: ∀seg',C5 v sz e vs seg'->k () (X++seg'++Y)):F3 P (Builtin.clear_ #[t] ty #[.slice s.a s.len s.cap]) [] k L:=by
 subst hL hs;obtain⟨i,hi,rD,rH,zv,hzv,oB⟩:=hT.info;subst rD;have aU:(G7 v v.len h v.cap i.size).len=h-v.len:=by simp only[G7,NK]
 intro E F w hw;by_cases hn:h-v.len=0
 ·exact⟨_,w,_,Bk1 hT.und (.inr (by rw[aU];exact hn)) w,hw,(),rfl,hk seg own⟩
 ·rcases own.row with⟨ha,hc,rfl⟩|⟨b,off,c,fz,ha,rfl,aE,eS,dX⟩
  ·omega
  ·have haa:(G7 v v.len h v.cap i.size).a=some ⟨b,off+v.len*i.size,none⟩:=by
    simp only[G7,NK];rw[ND (by omega),ha,RO,Fh rfl]
   have hC:=own.len;have bV:=PD i.size h2;have mS:=PD i.size h1;have lP:zv.cells.size=i.size:=by rw[<-hT.zlen,<-oB];simp
   have lQ:(Builtin.zeroCells zv.cells (h-v.len)).toList.length=(h-v.len)*i.size:=by
    rw[SM,Zw,lP]
   have aJ:(h-v.len)*i.size=h*i.size-v.len*i.size:=VM ..;have aQ:(Builtin.zeroCells zv.cells (h-v.len)).toList.all Bt=true:=by
    rw[QM]at hz⊢;intro x hx;refine hz x ?_;rw[<-oB];unfold Builtin.zeroCells at hx;simp only[Array.toList_map,NY]at hx;obtain⟨l,_,rfl⟩:=hx;have hO:l%zv.cells.size<zv.cells.size:=QP _ (by rw[lP];exact hT.pos);rw[getElem!_pos zv.cells _ hO];simp
   obtain⟨w',hr,aI⟩:=Sk (P:=P) (E:=E) (A:=X) (B:=Y) (F:=F) (b:=b) (T:=e) (fz:=fz) (Builtin.zeroCells zv.cells (h-v.len)).toList c (off+v.len*i.size) 0 w aQ (by simpa using hw) (by rw[lQ];omega) (by rw[lQ];intro j hj;omega);refine⟨_,w',X++[(b,Obj.cells (wr c (off+v.len*i.size+0) (Builtin.zeroCells zv.cells (h-v.len)).toList) e fz)]++Y,?_,by simpa using aI,(),rfl,hk _ ⟨hC,own.cap,.inr ⟨b,off,_,fz,ha,rfl,by rw[Bi];exact aE,by rw[Bi];exact eS,fun j u hu=>?_⟩⟩⟩
   ·rw[haa,aU];exact Bk0 hT.und hi hzv hn hr
   ·have hj:=(PL.1 hu).1;rw[Hg _ _ _ _ (by rw[lQ];omega),ND (by omega)];exact dX j u hu
def Ends.app{L:B1}(h:Ends K v L):Ends K v (J++L):=by
 obtain⟨A,J',hp,hK⟩:=h;refine⟨A,J'++J,?_,hK⟩;have h1:(J++L).Perm (L++J):=OT;exact h1.trans (by simpa[NZ]using hp.append_right J)
def Ends.cons{L:B1}(h:Ends K v L):Ends K v (p::L):=Ends.app (J:=[p]) h
def HY(c:Array Value)(vs:List Value)(h:vs.length=c.size):wr c 0 vs=vs.toArray:=by
 apply TQ;intro i;rw[Hg _ _ _ _ (by omega)];split
 ·simp
 ·rename_i hi;rw[WM (by omega),TE,SI (by omega)]
end
set_option linter.unusedSectionVars false
section
variable {P:Program} {L:B1} {κ:Type} [DecidableEq κ]
def Kg{c:Nat}(h:w.heap[r]?=some (.map es c)):(getObj r).run P w= .ok (.map es c) w:=by simp[getObj,Sem.run,h]
def Mz{c:Nat}(o:Obj)(h:w.heap[r]?=some (.map es c)):(setObj r o).run P w= .ok () {w with heap:=w.heap.setIfInBounds r o}:=by simp[setObj,Sem.run,h]
def Zg(a b:ByteArray):(a==b)=decide (a=b):=by
 cases a with|mk x=>cases b with|mk y=>
  show(x==y)=decide (ByteArray.mk x=ByteArray.mk y);by_cases h:x=y
  ·subst h;simp
  ·rw[beq_eq_false_iff_ne.2 h,OF (by simpa using h)]
def As2(hu:P.underlying kt=some .string\/ ∃k,P.underlying kt=some (.int k))(e:Bool)(n:Nat)(w:World):(Instr.checkKey e (n+1) kt v).run P w= .ok () w:=by
 rcases hu with hu|⟨k,hu⟩<;>simp only[Instr.checkKey,Sem.run_bind,K5 hu,Result.andThen_ok,Sem.run_pure]
def Mp(kv:κ->Value)(es:Array MapEntry)(m:List (κ×Value)):Prop:=es.toList.map (fun e=>(e.key,e.val))=m.map fun p=>(kv p.1,p.2)
def W9(m:List (κ×Value))(k:κ):Option Value:=(m.find? fun p=>decide (k=p.1)).map Prod.snd
def V0(m:List (κ×Value))(k:κ)(i:Nat):Option (Nat×Value):=
 match m with
 |[]=>none
 |p::r=>if k=p.1 then some (i,p.2)else V0 r k (i+1)
theorem EA: ∀(m:List (κ×Value)) (k:κ) (i:Nat),(V0 m k i).map Prod.snd=W9 m k
 |[],k,i=>rfl
 |p::r,k,i=>by
  unfold V0 W9;by_cases h:k=p.1
  ·rw[NE h,TF (by simpa using h)];rfl
  ·rw[ND h,TV (by simpa using h)];exact EA r k (i+1)
theorem An1{kv:κ->Value}{d:TypeDesc}(hs: ∀a b,Instr.sameNow d (kv a) (kv b)=some (decide (a=b)))(k:κ): ∀(es:List MapEntry) (m:List (κ×Value)) (i:Nat),es.map (fun e=>(e.key,e.val))=m.map (fun p=>(kv p.1,p.2))->
  Instr.findNow d (kv k) es i=some (V0 m k i)
 |[],[],i,_=>rfl
 |[],p::r,i,h=>by simp at h
 |e::es,[],i,h=>by simp at h
 |e::es,p::r,i,h=>by
  simp only[NS,UN,QC]at h;unfold Instr.findNow V0;rw[h.1.1,hs,h.1.2];by_cases hk:k=p.1
  ·simp[hk]
  ·simp only[hk,decide_false,if_false];exact An1 hs k es r (i+1) h.2
structure Ro(P:Program)(kt:TypeId)(kv:κ->Value):Prop where
 fnd: ∀(k:κ) (es:List MapEntry) (m:List (κ×Value)) (w:World),es.map (fun e=>(e.key,e.val))=m.map (fun p=>(kv p.1,p.2))->(Instr.findKey kt (kv k) es).run P w= .ok (V0 m k 0) w
 chk: ∀e k w,(Instr.checkKey e 10000 kt (kv k)).run P w= .ok () w
 bits: ∀a,Instr.sameBits 10000 (kv a) (kv a)=true
def Al7{kv:κ->Value}(hu:P.underlying kt=some d)(hs: ∀a b,Instr.sameNow d (kv a) (kv b)=some (decide (a=b)))(k:κ)(es:List MapEntry)(m:List (κ×Value))(w:World)(h:es.map (fun e=>(e.key,e.val))=m.map (fun p=>(kv p.1,p.2))):(Instr.findKey kt (kv k) es).run P w= .ok (V0 m k 0) w:=by
 simp only[Instr.findKey,Sem.run_bind,K5 hu,Result.andThen_ok,An1 hs k es m 0 h,Sem.run_pure]
def Xo(hu:P.underlying kt=some .string):Ro P kt Value.string:=by
 refine⟨Al7 hu fun a b=>?_,fun e k w=>As2 (.inl hu) e 9999 w,fun a=>?_⟩
 ·show some (a==b)=_;rw[Zg]
 ·show(a==a)=true;rw[Zg];simp
def Ca2(hu:P.underlying kt=some (.int ik)):Ro P kt (Value.int ik):=by
 refine⟨Al7 hu fun a b=>?_,fun e k w=>As2 (.inr ⟨_,hu⟩) e 9999 w,fun a=>?_⟩
 ·show(if ik=ik then some (a==b)else none)=_;rw[NE rfl];congr 1
 ·show(ik==ik&&a==a)=true;simp
def Na{kv:κ->Value}(K:Ro P kt kv){m:List (κ×Value)}(h:Mp kv es m)(k:κ)(w:World):(Instr.findKey kt (kv k) es.toList).run P w= .ok (V0 m k 0) w:=K.fnd k es.toList m w h
structure Fi(P:Program)(t kt et:TypeId)(kv:κ->Value)(z:Value):Prop where
 und:P.underlying t=some (.map kt et)
 key:Ro P kt kv
 zero: ∃i,P.info? et=some i/\i.zero=some z
def Qe{kv:κ->Value}(hu:P.underlying t=some (.map kt et))(hk:Ro P kt kv)(hz:((P.info? et).bind fun i=>i.zero)=some z):Fi P t kt et kv z:=by
 refine⟨hu,hk,?_⟩;cases hi:P.info? et with
 |none=>rw[hi]at hz;cases hz
 |some i=>exact⟨i,rfl,by rw[hi]at hz;exact hz⟩
def Nq{kv:κ->Value}(hT:Fi P t kt et kv z){m:List (κ×Value)}(hm:(r,Obj.map es clock)∈L)(h:Mp kv es m)(k:κ):
  Cc P (Instr.lookup t (.map (some r)) (kv k) false) ((W9 m k).getD z) L:=by
 intro E F w hw;have hb:w.heap[r]?=some (Obj.map es clock):=hw.blk _ (OA F hm);obtain⟨i,hi,hz⟩:=hT.zero;rw[<-EA m k 0];simp only[Instr.lookup,Sem.run_bind,K5 hT.und,Result.andThen_ok,Kg hb,Sem.run_pure,hT.key.chk,Na hT.key h];cases V0 m k 0 with
 |none=>simp[zeroValue,typeInfo,hi,hz]
 |some p=>simp
def Bx3{kv:κ->Value}(hT:Fi P t kt et kv z){m:List (κ×Value)}(hm:(r,Obj.map es clock)∈L)(h:Mp kv es m)(k:κ):
  Cc P (Instr.lookup t (.map (some r)) (kv k) true) (.tuple #[(W9 m k).getD z,.bool (W9 m k).isSome]) L:=by
 intro E F w hw;have hb:w.heap[r]?=some (Obj.map es clock):=hw.blk _ (OA F hm);obtain⟨i,hi,hz⟩:=hT.zero;rw[<-EA m k 0];simp only[Instr.lookup,Sem.run_bind,K5 hT.und,Result.andThen_ok,Kg hb,Sem.run_pure,hT.key.chk,Na hT.key h];cases V0 m k 0 with
 |none=>simp[zeroValue,typeInfo,hi,hz]
 |some p=>simp
def S7(m:List (κ×Value))(k:κ)(v:Value):List (κ×Value):=
 match m with
 |[]=>[(k,v)]
 |p::r=>if k=p.1 then(k,v)::r else p::S7 r k v
def Cy(m:List (κ×Value))(k:κ):List (κ×Value):=
 match m with
 |[]=>[]
 |p::r=>if k=p.1 then r else p::Cy r k
theorem BR{kv:κ->Value}(k:κ)(v:Value): ∀(es:List MapEntry) (m:List (κ×Value)) (j:Nat),es.map (fun e=>(e.key,e.val))=m.map (fun p=>(kv p.1,p.2))->
  (V0 m k j=none->S7 m k v=m++[(k,v)])/\(∀i u,V0 m k j=some (i,u)->j<=i/\i-j<es.length/\(es[i-j]?).map (·.key)=some (kv k)/\(es.modify (i-j) fun e=>{e with key:=kv k,val:=v}).map (fun e=>(e.key,e.val))=(S7 m k v).map fun p=>(kv p.1,p.2))
 |[],[],j,_=>⟨fun _=>rfl,fun i u h=>by simp[V0]at h⟩
 |[],p::r,j,h=>by simp at h
 |e::es,[],j,h=>by simp at h
 |e::es,p::r,j,h=>by
  have h0:=h;simp only[NS,UN,QC]at h;obtain⟨i1,i2⟩:=BR k v es r (j+1) h.2;unfold V0 S7;by_cases hk:k=p.1
  ·rw[NE hk,NE hk];refine⟨fun h=>(by cases h),fun i u hi=>?_⟩;simp only[RJ,QC]at hi;obtain⟨rfl,rfl⟩:=hi;refine⟨NF _,by simp,by simp[h.1.1,hk],?_⟩;simp[h.2]
  ·rw[ND hk,ND hk];refine⟨fun h=>by rw[i1 h];rfl,fun i u hi=>?_⟩;obtain⟨a1,a2,a3,a4⟩:=i2 i u hi;have e1:i-j=(i-(j+1))+1:=by omega
   rw[e1];refine⟨by omega,by simp only[NU];omega,by simpa using a3,?_⟩;simp only[YL,NS,h.1.1,h.1.2,a4]
def IG{kv:κ->Value}(hT:Fi P t kt et kv z){m:List (κ×Value)}(A B:B1)(hL:L=A++(r,Obj.map es clock)::B)(h:Mp kv es m)(k:κ)(v:Value){K:HP}
  (hk: ∀es' clock',Mp kv es' (S7 m k v)->K (A++(r,Obj.map es' clock')::B)):Aw P (Instr.mapUpdate t (.map (some r)) (kv k) v) K L:=by
 subst hL;intro E F w hw;have hb:w.heap[r]?=some (Obj.map es clock):=hw.blk (r,Obj.map es clock) (by simp);have iP:J4 E w (A++(r,Obj.map es clock)::(B++F)):=by simpa using hw
 obtain⟨i1,i2⟩:=BR (kv:=kv) k v es.toList m 0 h;cases hf:V0 m k 0 with
 |none=>
  refine⟨{w with heap:=w.heap.setIfInBounds r (Obj.map (es.push {key:=kv k,val:=v,born:=clock}) (clock+1))},A++(r,Obj.map (es.push {key:=kv k,val:=v,born:=clock}) (clock+1))::B,?_,?_,hk _ _ ?_⟩
  ·simp only[Instr.mapUpdate,Sem.run_bind,K5 hT.und,Result.andThen_ok,Kg hb,hT.key.chk,Na hT.key h,hf];exact Mz _ hb
  ·simpa using iP.put (Obj.map (es.push {key:=kv k,val:=v,born:=clock}) (clock+1))
  ·unfold Mp at h⊢;rw[i1 hf,VN,NQ,NQ,h];rfl
 |some p=>
  obtain⟨i,u⟩:=p;obtain⟨a1,a2,a3,a4⟩:=i2 i u hf;rw[QK]at a2 a3 a4;have kP:((es[i]?).map (·.key)).getD (kv k)=kv k:=by
   rw[XA]at a3;rw[a3];rfl
  refine⟨{w with heap:=w.heap.setIfInBounds r (Obj.map (es.modify i fun e=>{e with key:=kv k,val:=v}) clock)},A++(r,Obj.map (es.modify i fun e=>{e with key:=kv k,val:=v}) clock)::B,?_,?_,hk _ _ ?_⟩
  ·simp only[Instr.mapUpdate,Sem.run_bind,K5 hT.und,Result.andThen_ok,Kg hb,hT.key.chk,Na hT.key h,hf,kP,Instr.keyThatStays,hT.key.bits,if_true,Sem.run_pure];exact Mz _ hb
  ·simpa using iP.put (Obj.map (es.modify i fun e=>{e with key:=kv k,val:=v}) clock)
  ·unfold Mp;rw[VO];exact a4
theorem Ar0{kv:κ->Value}(k:κ): ∀(es:List MapEntry) (m:List (κ×Value)) (j:Nat),es.map (fun e=>(e.key,e.val))=m.map (fun p=>(kv p.1,p.2))->
  (V0 m k j=none->Cy m k=m)/\(∀i u,V0 m k j=some (i,u)->j<=i/\(es.eraseIdx (i-j)).map (fun e=>(e.key,e.val))=(Cy m k).map fun p=>(kv p.1,p.2))
 |[],[],j,_=>⟨fun _=>rfl,fun i u h=>by simp[V0]at h⟩
 |[],p::r,j,h=>by simp at h
 |e::es,[],j,h=>by simp at h
 |e::es,p::r,j,h=>by
  simp only[NS,UN,QC]at h;obtain⟨i1,i2⟩:=Ar0 k es r (j+1) h.2;unfold V0 Cy;by_cases hk:k=p.1
  ·rw[NE hk,NE hk];refine⟨fun h=>(by cases h),fun i u hi=>?_⟩;simp only[RJ,QC]at hi;obtain⟨rfl,rfl⟩:=hi;exact⟨NF _,by simpa using h.2⟩
  ·rw[ND hk,ND hk];refine⟨fun h=>by rw[i1 h],fun i u hi=>?_⟩;obtain⟨a1,a4⟩:=i2 i u hi;have e1:i-j=(i-(j+1))+1:=by omega
   rw[e1];refine⟨by omega,?_⟩;simp only[List.eraseIdx_cons_succ,NS,h.1.1,h.1.2,a4]
def Aq9{kv:κ->Value}(hT:Fi P t kt et kv z){m:List (κ×Value)}(A B:B1)(hL:L=A++(r,Obj.map es clock)::B)(h:Mp kv es m)(k:κ){K:D2 []->HP}
  (hk: ∀es' clock',Mp kv es' (Cy m k)->K () (A++(r,Obj.map es' clock')::B)):F3 P (Builtin.delete_ #[t,t2] ty #[.map (some r),kv k]) [] K L:=by
 subst hL;intro E F w hw;have hb:w.heap[r]?=some (Obj.map es clock):=hw.blk (r,Obj.map es clock) (by simp);have iP:J4 E w (A++(r,Obj.map es clock)::(B++F)):=by simpa using hw
 obtain⟨i1,i2⟩:=Ar0 (kv:=kv) k es.toList m 0 h;have key: ∀(o:Obj),(match V0 m k 0 with|some (i,_)=>setObj r (.map (es.eraseIdxIfInBounds i) clock)|none=>setObj r (.map es clock)).run P w= .ok () {w with heap:=w.heap.setIfInBounds r o}->
   (Builtin.delete_ #[t,t2] ty #[.map (some r),kv k]).run P w= .ok (.tuple #[]) {w with heap:=w.heap.setIfInBounds r o}:=by
  intro o ho;simp only[Builtin.delete_,TE,XC,TC,Sem.run_bind,K5 hT.und,Result.andThen_ok,Kg hb,hT.key.chk,Na hT.key h];cases hf:V0 m k 0 with
  |none=>
   rw[hf]at ho;simp only[Sem.run_bind];rw[ho];rfl
  |some p=>
   rw[hf]at ho;simp only[Sem.run_bind];rw[ho];rfl
 cases hf:V0 m k 0 with
 |none=>
  refine⟨_,_,A++(r,Obj.map es clock)::B,key (.map es clock) (by rw[hf];exact Mz _ hb),?_,(),rfl,hk _ _ ?_⟩
  ·simpa using iP.put (Obj.map es clock)
  ·rw[i1 hf];exact h
 |some p=>
  obtain⟨i,u⟩:=p;obtain⟨a1,a4⟩:=i2 i u hf;rw[QK]at a4;refine⟨_,_,A++(r,Obj.map (es.eraseIdxIfInBounds i) clock)::B,key (.map (es.eraseIdxIfInBounds i) clock) (by rw[hf];exact Mz _ hb),?_,(),rfl,hk _ _ ?_⟩
  ·simpa using iP.put (Obj.map (es.eraseIdxIfInBounds i) clock)
  ·unfold Mp;have e:(es.eraseIdxIfInBounds i).toList=es.toList.eraseIdx i:=by
    unfold Array.eraseIdxIfInBounds;split
    ·simp
    ·rename_i aM;rw[List.eraseIdx_of_length_le (by simpa using aM)]
   rw[e];exact a4
def H0{k:D2 rs->HP}(h:CallF P f args A K)(hp:L.Perm (A++R))
  (hk: ∀v A',K v A'-> ∃L'',(A'++R).Perm L''/\ ∃r,v=Dt rs r/\k r L''):cl P f args rs k L:=by
 intro E F w hw;refine Calls.mono (CallF.frame (R:=R) h E F w (hw.perm (hp.append_right F))) ?_;rintro e w' ⟨v,L',he,aI,A',rfl,hK⟩;obtain⟨L'',hY,eA⟩:=hk v A' hK;exact⟨v,L'',he,aI.perm (hY.append_right F),eA⟩
end
theorem Am5{α:Type}{enc:α->List Value}{sz:Nat}(aE: ∀x,(enc x).length=sz): ∀(l:List α) (i:Nat),(l.flatMap enc).drop (i*sz)=(l.drop i).flatMap enc
 |[],i=>by simp
 |e::r,0=>by simp
 |e::r,i+1=>by
  rw[OL,QV,Nat.add_comm,<-QB,TG (aE e),Am5 aE r i];rfl
theorem Am3{α:Type}{enc:α->List Value}{sz:Nat}(aE: ∀x,(enc x).length=sz): ∀(l:List α) (i:Nat),(l.flatMap enc).take (i*sz)=(l.take i).flatMap enc
 |[],i=>by simp
 |e::r,0=>by simp
 |e::r,i+1=>by
  have h1:(enc e).take ((i+1)*sz)=enc e:=PZ (by rw[aE,QV];omega);have h2:(i+1)*sz-(enc e).length=i*sz:=by rw[aE,QV];omega
  rw[OL,List.take_append,h1,h2,Am3 aE r i];rfl
def Yf{enc:α->List Value}(aE: ∀x,(enc x).length=sz)(l:List α)(i j:Nat):((l.flatMap enc).drop (i*sz)).take ((j-i)*sz)=((l.drop i).take (j-i)).flatMap enc:=by
 rw[Am5 aE,Am3 aE]
def Cr9(b:ByteArray): ∀(n i:Nat) (r:List UInt8),b.size-i=n->ByteArray.toList.loop b i r=r.reverse++b.data.toList.drop i:=by
 intro n;induction n with
 |zero=>
  intro i r h;unfold ByteArray.toList.loop;rw[ND (by omega),TW (by rw[SM];show b.size<=i;omega)];simp
 |succ n ih=>
  intro i r h;unfold ByteArray.toList.loop;have hi:i<b.size:=by omega
  rw[NE hi,ih (i+1) _ (by omega)];have eZ:i<b.data.toList.length:=by rw[SM];exact hi
  rw[OZ eZ];simp[ByteArray.get!,hi]
def Re(b:ByteArray):b.toList=b.data.toList:=by
 unfold ByteArray.toList;rw[Cr9 b _ 0 [] rfl];simp
def AJ(a b:ByteArray):(a.toList==b.toList)=decide (a=b):=by
 rw[Re,Re];by_cases h:a=b
 ·subst h;simp
 ·rw[OF h,UO];intro he;apply h;cases a with|mk x=>cases b with|mk y=>
   have:x=y:=XG.1 he;rw[this]
section
variable {P:Program} {L:B1}
def Fc(P:Program):Nat->TypeId->List Value->List Value->Option Bool
 |0,_,_,_=>none
 |d+1,t,xs,ys=>
  match P.underlying t with
  |some .bool=>match xs,ys with|[.bool a],[.bool b]=>some (a==b)|_,_=>none
  |some (.int _)=>match xs,ys with|[.int k a],[.int k' b]=>if k=k' then some (a==b)else none|_,_=>none
  |some .string=>match xs,ys with|[.string a],[.string b]=>some (a.toList==b.toList)|_,_=>none
  |some (.struct fs)=>
   if P.stoodInHeld t=false then
    fs.toList.foldr (fun f acc => if f.name = "_" then none else acc.bind fun r => (Fc P d f.type ((xs.drop f.offset).take (P.cellsOf f.type)) ((ys.drop f.offset).take (P.cellsOf f.type))).map (· && r)) (some true)
   else none
  |_=>none
def Gf(P:Program)(t:TypeId)(x:Value)(xs:List Value):Prop:=
 match P.underlying t with
 |some (.struct _)=>x= .agg xs.toArray
 |_=>xs=[x]
def Bb0{s:Nat}(h:(xs.drop off).take s=[v]):xs.toArray[off]?=some v:=by
 have h0:((xs.drop off).take s)[0]?=some v:=by rw[h];rfl
 rw[RF]at h0;split at h0
 ·rw[RW]at h0;simpa using h0
 ·cases h0
def LK{ys:List Value}{r:Bool}(h:Fc P n t ((xs.drop off).take (P.cellsOf t)) ((ys.drop off).take (P.cellsOf t))=some r)(w:World):
  ∃a b,(part t xs.toArray off).run P w= .ok a w/\(part t ys.toArray off).run P w= .ok b w/\Gf P t a ((xs.drop off).take (P.cellsOf t))/\Gf P t b ((ys.drop off).take (P.cellsOf t)):=by
 cases n with
 |zero=>simp[Fc]at h
 |succ n=>
  unfold Fc at h;have plainP: ∀{d:TypeDesc},P.underlying t=some d->(match d with| .struct _| .array _ _=>true|_=>false)=false-> ∀{a b:Value},(xs.drop off).take (P.cellsOf t)=[a]->(ys.drop off).take (P.cellsOf t)=[b]->
    ∃a b,(part t xs.toArray off).run P w= .ok a w/\(part t ys.toArray off).run P w= .ok b w/\Gf P t a ((xs.drop off).take (P.cellsOf t))/\Gf P t b ((ys.drop off).take (P.cellsOf t)):=by
   intro d hu hd a b ha hb;have hr: ∀{v:Value} {l:List Value},l=[v]->Gf P t v l:=by
    intro v l hl;unfold Gf;rw[hu];cases d<;>simp_all
   have hp: ∀{zs:List Value} {v:Value},(zs.drop off).take (P.cellsOf t)=[v]->(part t zs.toArray off).run P w= .ok v w:=by
    intro zs v hv;have hg:(isAgg t).run P w= .ok false w:=by
     unfold isAgg;rw[Sem.run_bind,run_underlying hu];cases d<;>simp_all
    unfold part;rw[Sem.run_bind,hg];simp only[Result.andThen_ok,QN,if_false,Bb0 hv,Sem.run_pure]
   exact⟨a,b,hp ha,hp hb,hr ha,hr hb⟩
  cases hu:P.underlying t with
  |none=>rw[hu]at h;simp at h
  |some d=>
   rw[hu]at h;cases d with
   |bool=>
    simp only at h;split at h
    ·exact plainP hu rfl (by assumption) (by assumption)
    ·cases h
   |int k=>
    simp only at h;split at h
    ·exact plainP hu rfl (by assumption) (by assumption)
    ·cases h
   |string=>
    simp only at h;split at h
    ·exact plainP hu rfl (by assumption) (by assumption)
    ·cases h
   |struct fs=>
    obtain⟨i,hi⟩: ∃i,P.info? t=some i:=by
     cases hi:P.info? t with
     |none=>unfold Program.underlying at hu;simp[hi]at hu
     |some i=>exact⟨i,rfl⟩
    have hp: ∀zs:List Value,(part t zs.toArray off).run P w= .ok (.agg ((zs.drop off).take (P.cellsOf t)).toArray) w:=by
     intro zs;have hg:(isAgg t).run P w= .ok true w:=by
      unfold isAgg;rw[Sem.run_bind,run_underlying hu];simp
     unfold part;rw[Sem.run_bind,hg];simp only[Result.andThen_ok,if_true,Sem.run_bind,run_sizeOf w hi,Sem.run_pure];rw[List.extract_toArray,List.extract_eq_take_drop,VP]
    refine⟨_,_,hp xs,hp ys,?_,?_⟩<;>(unfold Gf;rw[hu])
   |_=>simp at h
theorem Wg(d:Nat): ∀(n:Nat) (t:TypeId) (xs ys:List Value) (r:Bool),Fc P n t xs ys=some r-> ∀(x y:Value),Gf P t x xs->Gf P t y ys-> ∀w,(Op.equalIn (d+n) t x y).run P w= .ok r w
 |0,_,_,_,_,h,_,_,_,_,_=>by simp[Fc]at h
 |n+1,t,xs,ys,r,h,x,y,hx,hy,w=>by
  unfold Fc at h;unfold Gf at hx hy;cases hu:P.underlying t with
  |none=>rw[hu]at h;simp at h
  |some q=>
   rw[hu]at h hx hy;cases q with
   |bool=>
    simp only at h hx hy;subst hx hy;split at h
    ·rename_i a b e1 e2;cases e1;cases e2;cases h;exact run_equalIn_bool' w (d+n) t a b hu
    ·cases h
   |int k=>
    simp only at h hx hy;subst hx hy;split at h
    ·rename_i k a k' b e1 e2;cases e1;cases e2;split at h
     ·rename_i hk;subst hk;cases h;exact run_equalIn_int w (d+n) t k _ a b hu
     ·cases h
    ·cases h
   |string=>
    simp only at h hx hy;subst hx hy;split at h
    ·rename_i a b e1 e2;cases e1;cases e2;cases h;exact run_equalIn_string w (d+n) t a b hu
    ·cases h
   |struct fs=>
    simp only at h hx hy;subst hx hy;split at h
    ·rename_i aO;have hf:P.underlying t=some (.struct (P.fieldsOf t)):=by unfold Program.fieldsOf;rw[hu]
     have gN:P.fieldsOf t=fs:=by unfold Program.fieldsOf;rw[hu]
     show(Op.equalIn ((d+n)+1) t (.agg xs.toArray) (.agg ys.toArray)).run P w= .ok r w;rw[run_equalIn_agg w (d+n) t _ _ hf aO,gN]
     revert h
     generalize fs.toList=l;clear hu hf gN aO;induction l generalizing r with
     |nil=>intro h;cases h;simp[Op.eqFields]
     |cons f l ih=>
      intro h;rw[List.foldr_cons]at h;split at h
      ·cases h
      ·rename_i hn;rw[VF]at h;obtain⟨r',h1,h2⟩:=h;rw[VQ]at h2;obtain⟨q,h3,rfl⟩:=h2;obtain⟨a,b,p1,p2,ra,rb⟩:=LK h3 w;have h4:=Wg d n f.type _ _ q h3 a b ra rb w;have h5:=ih r' h1;unfold Op.eqFields;simp only[hn,ne_eq,not_false_eq_true,if_true,Sem.run_bind,p1,p2,h4,Result.andThen_ok];cases q
       ·simp
       ·simpa using h5
    ·cases h
   |_=>simp at h
def Jn(P:Program)(t:TypeId):Bool:=match P.underlying t with|some (.struct _)=>true|_=>false
def Nt(h:Jn P t=true)(xs:Array Value):Gf P t (.agg xs) xs.toList:=by
 unfold Jn at h;unfold Gf;split at h
 ·simp
 ·cases h
def GC{xs:Array Value}{r:Bool}(hu:Jn P t=true)(h:Fc P 100 t xs.toList ys.toList=some r){k:F7 (.lf .bool)->HP}(hk:k r L):
  Y8 P (binOp .eql t (.agg xs) (.agg ys)) (.lf .bool) k L:=by
 refine⟨r,fun w=>?_,hk⟩;rw[run_eql_struct,Wg 9900 100 t _ _ r h (.agg xs) (.agg ys) (Nt hu xs) (Nt hu ys) w];rfl
def Ac5{xs:Array Value}{r:Bool}(hu:Jn P t=true)(h:Fc P 100 t xs.toList ys.toList=some r){k:F7 (.lf .bool)->HP}(hk:k (!r) L):
  Y8 P (binOp .neq t (.agg xs) (.agg ys)) (.lf .bool) k L:=by
 refine⟨!r,fun w=>?_,hk⟩;rw[run_neq_struct,Wg 9900 100 t _ _ r h (.agg xs) (.agg ys) (Nt hu xs) (Nt hu ys) w];rfl
def Fe{k:D2 rs->HP}(ho:Oe P f=true)(h:cl P f (args++captured) rs k L):U5 P (.func f) args captured rs k L:=⟨f,rfl,ho,h⟩
theorem LW(em:Bool)(d:Nat): ∀(n:Nat) (t:TypeId) (xs:List Value) (r:Bool),Fc P n t xs xs=some r-> ∀(x:Value),Gf P t x xs-> ∀w,(Instr.checkKey em (d+n) t x).run P w= .ok () w
 |0,_,_,_,h,_,_,_=>by simp[Fc]at h
 |n+1,t,xs,r,h,x,hx,w=>by
  unfold Fc at h;unfold Gf at hx;show(Instr.checkKey em ((d+n)+1) t x).run P w= .ok () w;cases hu:P.underlying t with
  |none=>rw[hu]at h;simp at h
  |some q=>
   rw[hu]at h hx;cases q with
   |bool=>simp only[Instr.checkKey,Sem.run_bind,K5 hu,Result.andThen_ok,Sem.run_pure]
   |int k=>simp only[Instr.checkKey,Sem.run_bind,K5 hu,Result.andThen_ok,Sem.run_pure]
   |string=>simp only[Instr.checkKey,Sem.run_bind,K5 hu,Result.andThen_ok,Sem.run_pure]
   |struct fs=>
    simp only at h hx;subst hx;split at h
    ·rw[Instr.checkKey];simp only[Sem.run_bind,K5 hu,Result.andThen_ok];rw[<-Array.forIn_toList]
     revert h
     generalize fs.toList=l;clear hu;induction l generalizing r with
     |nil=>intro h;simp
     |cons f l ih=>
      intro h;rw[List.foldr_cons]at h;split at h
      ·cases h
      ·rename_i hn;rw[VF]at h;obtain⟨r',h1,h2⟩:=h;rw[VQ]at h2;obtain⟨q,h3,rfl⟩:=h2;obtain⟨a,b,p1,p2,ra,rb⟩:=LK h3 w;have h4:=LW em d n f.type _ q h3 a ra w;have h5:=ih r' h1;simp only[List.forIn_cons,hn,ne_eq,not_false_eq_true,if_true,Sem.run_bind,p1,h4,Result.andThen_ok,Sem.run_pure];exact h5
    ·cases h
   |_=>simp at h
variable {κ:Type} [DecidableEq κ]
theorem LM{kt:TypeId}{kv:κ->Value}(hq: ∀a b w,(Op.equal kt (kv a) (kv b)).run P w= .ok (decide (a=b)) w)(k:κ): ∀(es:List MapEntry) (m:List (κ×Value)) (i:Nat) (w:World),es.map (fun e=>(e.key,e.val))=m.map (fun p=>(kv p.1,p.2))->(Instr.findAsking kt (kv k) es i).run P w= .ok (V0 m k i) w
 |[],[],i,w,_=>by simp[Instr.findAsking,V0]
 |[],p::r,i,w,h=>by simp at h
 |e::es,[],i,w,h=>by simp at h
 |e::es,p::r,i,w,h=>by
  simp only[NS,UN,QC]at h;unfold Instr.findAsking V0;rw[Sem.run_bind,h.1.1,hq,h.1.2];by_cases hk:k=p.1
  ·simp[hk]
  ·simp only[Result.andThen_ok,hk,decide_false,if_false,QN];exact LM hq k es r (i+1) w h.2
def Ca1{kv:κ->Value}(enc:κ->List Value)(xC: ∀a,kv a= .agg (enc a).toArray)(hu:Jn P kt=true)(he: ∀a b,Fc P 100 kt (enc a) (enc b)=some (decide (a=b)))
  (hb: ∀a,Instr.sameBits 10000 (kv a) (kv a)=true):Ro P kt kv:=by
 refine⟨fun k es m w h=>?_,fun e k w=>?_,hb⟩
 ·have hf:Instr.findKey kt (kv k) es=(do match Instr.findNow (<-underlying kt) (kv k) es 0 with|some r=>pure r|none=>Instr.findAsking kt (kv k) es):=rfl;obtain⟨fs,hs⟩: ∃fs,P.underlying kt=some (.struct fs):=by
   unfold Jn at hu;split at hu
   ·exact⟨_,by assumption⟩
   ·cases hu
  rw[hf,Sem.run_bind,K5 hs];simp only[Result.andThen_ok];have ah:(Instr.findAsking kt (kv k) es).run P w= .ok (V0 m k 0) w:=LM (fun a b w=>by
   rw[xC a,xC b];exact Wg 9900 100 kt _ _ _ (he a b) _ _ (Nt hu (enc a).toArray) (Nt hu (enc b).toArray) w) k es m 0 w h
  cases es with
  |nil=>
   cases m with
   |nil=>simp[Instr.findNow,V0]
   |cons p r=>simp at h
  |cons e es=>
   have hn:Instr.findNow (.struct fs) (kv k) (e::es) 0=none:=by
    unfold Instr.findNow;have:Instr.sameNow (.struct fs) (kv k) e.key=none:=by
     unfold Instr.sameNow;rw[xC k]
    rw[this]
   rw[hn];exact ah
 ·rw[xC k];exact LW e 9900 100 kt _ _ (he k k) _ (Nt hu (enc k).toArray) w
end
section
variable {P:Program} {L:B1}
def Yy{T:TypeId}(hu:P.underlying t=some (.slice e))(hs:Dq P e=some sz){v:B6}(X Y:B1)(own:C5 v sz T vs seg)(hL:L=X++seg++Y)
  {d:B6} {l:Nat} {a:Addr} (ha:v.a=some a) (hd:d.a=some (Addr.add a (l*sz))) (pR:l+d.len<=v.len) {u:B6}  (src:Sl L u sz ws) (aQ:ws.all Bt=true) {k:D2 [.lf (.int .i64)]->HP}
  (hk: ∀seg',C5 v sz T (Bm vs (l*sz) (ws.take (min u.len d.len*sz))) seg'->k (((min u.len d.len:Nat):Int),()) (X++seg'++Y)):
  F3 P (Builtin.copy_ #[t,t2] ty #[.slice d.a d.len d.cap,.slice u.a u.len u.cap]) [.lf (.int .i64)] k L:=by
 subst hL;rcases own.row with⟨dA,_,_⟩|⟨b,off,c,fz,dA,rfl,aE,eS,hc⟩
 ·rw[ha]at dA;cases dA
 ·rw[ha]at dA;obtain rfl:=NI dA;have hC:=own.len;have aY:=own.cap;have h1:=PD sz (show l+d.len<=v.cap by omega);have h2:=PD sz pR;rw[RV]at h1 h2;have bV:min u.len d.len*sz<=d.len*sz:=PD _ (Nat.min_le_right _ _);have hO:(ws.take (min u.len d.len*sz)).length<=min u.len d.len*sz:=VJ _ _;have hp:l*sz+(ws.take (min u.len d.len*sz)).length<=vs.length:=by omega
  have nY:X++[(b,Obj.cells c T fz)]++Y=X++(b,Obj.cells c T fz)::Y:=by simp
  rw[nY]at src⊢;refine Ar8 (off:=off+l*sz) hu hs (by rw[hd];exact congrArg some (Fh (ad:=⟨b,off,none⟩) rfl (l*sz))) src aQ (by omega) eS ?_;have:=hk [(b,Obj.cells (wr c (off+l*sz) (ws.take (min u.len d.len*sz))) T fz)] ⟨by rw[BT _ _ _ hp];exact hC,aY,.inr ⟨b,off,_,fz,ha,rfl,by rw[Bi];exact aE,by rw[Bi];exact eS,fun i x hx=>?_⟩⟩
  ·simpa using this
  ·rw[Sv _ _ _ hp]at hx;rw[Hg _ _ _ _ (by omega)];split at hx
   ·rw[NE (by omega),show off+i-(off+l*sz)=i-l*sz by omega];exact hx
   ·rw[ND (by omega)];exact hc i x hx
def Zb(l:List UInt8)(p:Nat)(ws:List UInt8):Bm (F9 l) p (F9 ws)=F9 (l.take p++ws++l.drop (p+ws.length)):=by
 simp[Bm,F9,NQ,SN,UM]
def At0(l:List UInt8)(n:Nat):(F9 l).take n=F9 (l.take n):=by simp[F9,SN]
def HO(n:Nat):Cp [.int .u8 0] n=F9 (List.replicate n 0):=by
 induction n with
 |zero=>rfl
 |succ n ih=>rw[RM];simp only[Cp]at ih⊢;rw[RM,UP,ih];rfl
end
section
variable {P:Program} {w:World}
end
section
variable {P:Program} {L:B1}
def Bk2{i:TypeInfo}(ht:P.underlying t=some (.slice e))(h2:P.underlying t2=some (.int ik))(hi:P.info? e=some i)(hz:i.zero=some z)(hs:0<i.size)(h0:0<n)(h63:(n:Int)<=9223372036854775807)(hb:n*i.bytes<=281474976710656)(w:World):
  (Builtin.append_ #[t,t2] ty #[.slice none 0 0,.int .i64 (n:Int)]).run P w=
   .ok (.slice (some ⟨w.heap.size,0,none⟩) n (grownCap w n 0 e)) (w.drew.alloc (.cells (#[]++Builtin.zeroCells z.cells n++Builtin.zeroCells z.cells (grownCap w n 0 e-n)) e)):=by
 have hw:IntKind.i64.wrap (n:Int)=n:=D7 (by omega) (by omega);have h1: ¬((n:Int)<0):=by omega
 have pW: ¬(281474976710656<(n:Int)*(i.bytes:Int)):=by
  have:((n*i.bytes:Nat):Int)<=281474976710656:=by omega
  rw[TD]at this;omega
 have hn:n≠0:=by omega
 have cN:n*i.size≠0:=Nat.mul_ne_zero hn (by omega);have yW: ¬(n=0\/i.size=0):=by omega
 have au: ¬(281474976710656<Builtin.nextslicecap n 0*i.bytes):=by rw[nextslicecap_zero h0];omega
 have ar: ¬(9223372036854775807<(n:Int)):=by omega
 have cG:i.size≠0:=by omega
 simp[Builtin.append_,run_underlying ht,run_underlying h2,sizeOf,typeInfo,zeroValue,hi,hz,asInt,asIntOf,hw,h1,pW,hn,cG,cN,yW,au,ar,Question.forced,run_firstCells_none,newRow,grownCap]
def Cg2{bytes:Nat}{z:List Value}(hT:V4 P t e sz bytes z)(h2:P.underlying t2=some (.int ik))(h0:0<n)(hb:n*bytes<=140737488355328){k:D2 [.lf .sl]->HP}
  (hk: ∀q cap ob,n<=cap->C5 ⟨some ⟨q,0,none⟩,0,cap⟩ sz e [] [(q,ob)]->k (⟨some ⟨q,0,none⟩,n,cap⟩,()) ((q,ob)::L)):
  F3 P (Builtin.append_ #[t,t2] ty #[.slice none 0 0,.int .i64 (n:Int)]) [.lf .sl] k L:=by
 obtain⟨i,hi,rD,rH,zv,hz,oB⟩:=hT.info;subst rD rH;intro E F w hw;have bV:n<=n*i.bytes:=Nat.le_mul_of_pos_right _ hT.bpos;have lP:zv.cells.size=i.size:=by rw[<-hT.zlen,<-oB];simp
 have hr:=Bk2 (ty:=ty) hT.und h2 hi hz hT.pos h0 (by omega) (by omega) w;have aM:=grownCap_ge w n 0 e;refine⟨_,_,(w.heap.size,Obj.cells (#[]++Builtin.zeroCells zv.cells n++Builtin.zeroCells zv.cells (grownCap w n 0 e-n)) e)::L,hr,?_,(⟨some ⟨w.heap.size,0,none⟩,n,grownCap w n 0 e⟩,()),rfl,?_⟩
 ·exact(hw.drew _).push (.cells (#[]++Builtin.zeroCells zv.cells n++Builtin.zeroCells zv.cells (grownCap w n 0 e-n)) e)
 ·refine hk _ _ _ aM ⟨by simp,PQ _,.inr ⟨w.heap.size,0,_,(0,0),rfl,rfl,?_,.inl (NF _),fun j u hu=>by simp at hu⟩⟩;simp only[UH,Zw,lP];simp only[VH,OX,QO,<-RV];rw[show n+(grownCap w n 0 e-n)=grownCap w n 0 e by omega];simp
end
end Go.HL
