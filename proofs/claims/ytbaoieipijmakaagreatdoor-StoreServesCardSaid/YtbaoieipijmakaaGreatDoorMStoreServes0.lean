/-
  It is proved what the functions that the law StoreServes reaches compute, part 0. There are no further conditions than those that each theorem names.
-/
import Derived.Orders
import Derived.LoopN
import Derived.Below
import Derived.KernelRfl
import Derived.Laws.Cells
import Derived.Scope
import Derived.Laws.AppendOwn
import Derived.IntWalk
import Derived.Laws.BytesString
import Derived.Laws.MakeOwn
import Derived.Deep.Slices
import Derived.ChangeArms
import Derived.WideShapes
import Derived.Laws.StructEq
import Derived.ChangeKeysEq
import Derived.SizedLaws
set_option linter.defProp false
set_option linter.unusedSimpArgs false
namespace Go.HL
def Dq4:= @if_neg
def Dq5:= @if_pos
def Dq6:= @Nat.le_refl
def Dq7:= @List.mem_cons_self
def Dq8:= @List.Perm.refl
def Dq9:= @Option.some.inj
def Dr0:= @Int.toNat_natCast
def Dr1:= @List.length_map
def Dr2:= @List.mem_singleton
def Dr3:= @List.append_nil
def Dr4:= @List.length_append
def Dr5:= @List.mem_append
def Dr6:= @List.mem_cons_of_mem
def Dr7:= @List.getElem_mem
def Dr8:= @List.length_cons
def Dr9:= @List.getElem?_eq_getElem
def Ds0:= @List.length_take
def Ds1:= @List.nil_append
def Ds2:= @List.map_append
def Ds3:= @List.map_cons
def Ds4:= @List.take_succ_eq_append_getElem
def Ds5:= @List.append_assoc
def Ds6:= @List.length_drop
def Ds7:= @decide_eq_false
def Ds8:= @List.mem_append_left
def Ds9:= @List.take_length
def Dt0:= @List.getD_eq_getElem?_getD
def Dt1:= @Nat.le_trans
def Dt2:= @decide_eq_true
def Dt3:= @List.flatMap_append
def Dt4:= @List.mem_map
def Dt5:= @List.mem_cons
def Dt6:= @Decidable.not_not
def Dt7:= @List.cons_append
def Dt8:= @Nat.mul_one
def Dt9:= @List.perm_iff_count
def Du0:= @List.count_append
def Du1:= @List.flatMap_cons
def Du2:= @List.mem_append_right
def Du3:= @List.getElem?_map
def Du4:= @not_or
def Du5:= @Int.le_refl
def Du6:= @List.mem_map_of_mem
def Du7:= @List.length_nil
def Du8:= @List.perm_append_comm
def Du9:= @Nat.mul_le_mul_right
def Dv0:= @List.count_cons
def Dv1:= @List.drop_eq_getElem_cons
def Dv2:= @List.map_map
def Dv3:= @List.length_replicate
def Dv4:= @Bool.and_eq_true
def Dv5:= @of_decide_eq_true
def Dv6:= @Nat.zero_le
def Dv7:= @List.count_nil
def Dv8:= @List.eq_of_mem_replicate
def Dv9:= @List.nodup_cons
def Dw0:= @List.getElem?_eq_some_iff
def Dw1:= @List.take_append_drop
def Dw2:= @List.append_eq
def Dw3:= @Int.add_mul
def Dw4:= @List.perm_middle
def Dw5:= @List.mem_filter
def Dw6:= @List.drop_drop
def Dw7:= @List.mem_flatMap
def Dw8:= @Nat.lt_or_ge
def Dw9:= @List.take_of_length_le
def Dx0:= @Prod.mk.injEq
def Dx1:= @Nat.min_eq_left
def Dx2:= @List.mem_of_getElem?
def Dx3:= @List.nodup_append
def Dx4:= @Nat.sub_zero
def Dx5:= @Bool.false_eq_true
def Dx6:= @Nat.mod_lt
def Dx7:= @List.flatMap_singleton
def Dx8:= @Int.mul_nonneg
def Dx9:= @Nat.succ_mul
def Dy0:= @decide_eq_true_eq
def Dy1:= @List.all_eq_true
def Dy2:= @Nat.zero_add
def Dy3:= @Decidable.byContradiction
def Dy4:= @List.getElem?_append_left
def Dy5:= @List.getElem?_append_right
def Dy6:= @List.pairwise_cons
def Dy7:= @List.getElem?_modify
def Dy8:= @List.getElem?_take
def Dy9:= @List.mem_range
def Dz0:= @Nat.eq_of_beq_eq_true
def Dz1:= @Option.some.injEq
def Dz2:= @Nat.zero_mul
def Dz3:= @List.replicate_succ
def Dz4:= @List.length_set
def Dz5:= @List.map_singleton
def Dz6:= @Int.add_zero
def Dz7:= @List.length_filter_le
def Dz8:= @List.filter_append
def Dz9:= @List.filter_eq_self
def D00:= @List.length_erase_le
def D01:= @List.Sublist.refl
def D02:= @List.foldl_cons
def D03:= @Nat.add_mul
def D04:= @Option.map_some
def D05:= @List.getElem?_drop
def D06:= @List.drop_zero
def D07:= @List.getElem_map
def D08:= @Int.mul_le_mul_of_nonneg_right
def D09:= @List.findIdx?_eq_some_iff_getElem
def D10:= @List.findIdx?_eq_none_iff
def D11:= @Array.getElem?_eq_some_iff
def D12:= @List.getElem?_eq_none
def D13:= @List.length_eq_zero_iff
def D14:= @Array.length_toList
def D15:= @List.map_take
def D16:= @List.length_range
def D17:= @Int.toNat_of_nonneg
def D18:= @List.find?_eq_none
def D19:= @List.mem_take_iff_getElem
def D20:= @List.getElem?_replicate
def D21:= @Int.le_trans
def D22:= @Array.getElem?_setIfInBounds_ne
def D23:= @List.getElem?_cons_succ
def D24:= @of_decide_eq_false
def D25:= @List.mem_of_mem_take
def D26:= @List.getElem?_toArray
def D27:= @Nat.sub_self
def D28:= @List.cons.injEq
def D29:= @List.drop_left'
def D30:= @List.take_left'
def D31:= @List.append_of_mem
def D32:= @List.nodup_nil
def D33:= @Array.ext_getElem?
def D34:= @Nat.add_assoc
def D35:= @List.Perm.cons
def D36:= @Int.natCast_mul
def D37:= @List.Perm.append_right
def D38:= @List.getElem?_set
def D39:= @List.find?_cons_of_pos
def D40:= @List.drop_of_length_le
def D41:= @List.range_succ
def D42:= @List.length_singleton
def D43:= @List.eraseP_sublist
def D44:= @Option.isSome_map
def D45:= @List.Perm.swap
def D46:= @Bool.or_eq_true
def D47:= @Nat.add_zero
def D48:= @Array.size_append
def D49:= @Int.le_of_lt
def D50:= @Nat.pow_le_pow_right
def D51:= @List.ext_getElem?
def D52:= @List.map_drop
def D53:= @List.find?_cons_of_neg
def D54:= @beq_eq_false_iff_ne
def D55:= @List.flatten_cons
def D56:= @Nat.pow_succ
def D57:= @Int.tmod_eq_emod_of_nonneg
def D58:= @List.getElem_drop
def D59:= @List.mem_of_mem_drop
def D60:= @Nat.le_succ
def D61:= @List.map_nil
def D62:= @List.length_eraseP_le
def D63:= @List.length_modify
def D64:= @List.filter_map
def D65:= @Array.size_setIfInBounds
def D66:= @List.filter_cons
def D67:= @Option.getD_some
def D68:= @Array.ext'
def D69:= @Int.not_lt
def D70:= @List.mapM_cons
def D71:= @Option.bind_eq_some_iff
def D72:= @Nat.ne_of_beq_eq_false
def D73:= @List.mem_filterMap
def D74:= @List.size_toArray
def D75:= @BitVec.toNat_ofInt
def D76:= @List.length_take_le
def D77:= @Nat.mul_comm
def D78:= @Int.fdiv_eq_ediv_of_nonneg
def D79:= @Nat.sub_mul
def D80:= @List.perm_cons
def D81:= @decide_eq_decide
def D82:= @List.take_zero
def D83:= @List.all_eq_false
def D84:= @List.all_append
def D85:= @Bool.eq_iff_iff
def D86:= @Option.map_map
def D87:= @List.set_append
def D88:= @List.set_cons_zero
def D89:= @List.mem_or_eq_of_mem_set
def D90:= @List.drop_length
def D91:= @List.getElem_append_right
def D92:= @List.length_filterMap_le
def D93:= @Option.toList_some
def D94:= @List.getElem?_set_self
def D95:= @List.getElem_of_mem
def D96:= @List.getElem?_set_ne
def D97:= @List.map_congr_left
def D98:= @Int.natCast_sub
def D99:= @Array.getElem?_push
def Ea0:= @Array.getElem?_eq_none
def Ea1:= @Array.all_eq_true_iff_forall_mem
def Ea2:= @decide_eq_false_iff_not
def Ea3:= @Array.mem_of_getElem?
def Ea4:= @Nat.le_of_ble_eq_true
def Ea5:= @Array.getElem?_append_left
def Ea6:= @List.getElem?_append
def Ea7:= @Bool.false_and
def Ea8:= @Array.size_map
def Ea9:= @Array.size_replicate
def Eb0:= @Nat.lt_of_lt_of_le
def Eb1:= @List.getElem?_cons_zero
def Eb2:= @List.mem_iff_getElem
def Eb3:= @Nat.div_eq_of_lt
def Eb4:= @Option.map_eq_some_iff
def Eb5:= @List.Perm.append_left
def Eb6:= @Int.natCast_add
def Eb7:= @List.not_mem_nil
def Eb8:= @UInt8.toNat_inj
def Eb9:= @List.append_inj
def Ec0:= @List.replicate_succ'
def Ec1:= @Classical.not_not
def Ec2:= @Int.natCast_zero
def Ec3:= @List.foldl_append
def Ec4:= @List.reverse_cons
def Ec5:= @List.set_append_right
def Ec6:= @List.erase_of_not_mem
def Ec7:= @List.sum_cons
def Ec8:= @Option.elim_some
def Ec9:= @List.filter_congr
def Ed0:= @List.find?_append
def Ed1:= @Option.map_eq_map
def Ed2:= @List.perm_append_comm_assoc
def Ed3:= @Array.getD_eq_getD_getElem?
def Ed4:= @List.perm_ext_iff_of_nodup
def Ed5:= @Array.getElem?_modify
def Ed6:= @Array.mapM_eq_mapM_toList
def Ed7:= @Array.getElem?_eq_getElem
def Ed8:= @Array.getElem?_toList
def Ed9:= @List.mem_zipIdx_iff_getElem?
def Ee0:= @BitVec.toNat_ushiftRight
def Ee1:= @Nat.shiftRight_eq_div_pow
def Ee2:= @Nat.add_sub_cancel_left
def Ee3:= @List.drop_replicate
def Ee4:= @List.getElem?_take_of_lt
def Ee5:= @Int.tdiv_eq_ediv_of_nonneg
def Ee6:= @List.reverse_append
def Ee7:= @List.filterMap_append
def Ee8:= @List.getElem?_range
def Ee9:= @List.eraseP_of_forall_not
def Ef0:= @List.find?_eq_some_iff_append
def Ef1:= @List.eraseP_append_right
def Ef2:= @List.eraseP_cons_of_pos
def Ef3:= @List.mem_of_find?_eq_some
def Ef4:= @List.modify_eq_take_cons_drop
def Ef5:= @List.take_set_of_le
def Ef6:= @List.getElem_set_self
def Ef7:= @List.drop_set_of_lt
def Ef8:= @List.length_erase_of_mem
def Ef9:= @List.pairwise_iff_getElem
def Eg0:= @List.pairwise_append
def Eg1:= @List.take_append_of_le_length
def Eg2:= @List.getD_cons_zero
def Eg3:= @List.Pairwise.of_map
def Eg4:= @List.getElem_modify
def Eg5:= @List.length_pos_of_mem
def Eg6:= @Int.ediv_lt_of_lt_mul
def Eg7:= @List.filter_eq_nil_iff
set_option linter.unusedVariables false
abbrev A4:=List (Nat×Obj)
abbrev HP:=A4->Prop
structure S1(E w:World)(L:A4):Prop where
 nd:(L.map Prod.fst).Nodup
 blk: ∀p,p∈L->w.heap[p.1]?=some p.2
 os:w.os=E.os
 tape:w.tape=E.tape
 output:w.output=E.output
def Sat(L:A4):Prop:= ∃E F w,S1 E w (L++F)
theorem S1.perm{E w:World}{L L':A4}(h:S1 E w L)(p:L.Perm L'):S1 E w L':=
 ⟨(p.map Prod.fst).nodup_iff.1 h.nd,fun q hq=>h.blk q (p.mem_iff.2 hq),h.os,h.tape,h.output⟩
theorem S1.left{E w:World}{A B:A4}(h:S1 E w (A++B)):S1 E w A:=by
 refine⟨?_,fun q hq=>h.blk q (Ds8 _ hq),h.os,h.tape,h.output⟩;have:=h.nd;rw[Ds2,Dx3]at this;exact this.1
theorem S1.drew{E w:World}{L:A4}(h:S1 E w L)(d:Nat):S1 E {w with drawn:=d} L:=⟨h.nd,h.blk,h.os,h.tape,h.output⟩
theorem S1.lt{E w:World}{L:A4}(h:S1 E w L){p:Nat×Obj}(hp:p∈L):p.1<w.heap.size:=
 (D11.1 (h.blk p hp)).1
theorem S1.push{E w:World}{L:A4}(h:S1 E w L)(o:Obj):S1 E {w with heap:=w.heap.push o} ((w.heap.size,o)::L):=by
 refine⟨?_,?_,h.os,h.tape,h.output⟩
 ·rw[Ds3,Dv9];refine⟨fun hm=>?_,h.nd⟩;obtain⟨q,hq,he⟩:=Dt4.1 hm;have:=h.lt hq;simp at he;omega
 ·intro p hp;rcases Dt5.1 hp with rfl|hp
  ·simp
  ·have:=h.lt hp;simp only[D99];rw[Dq4 (by omega)];exact h.blk p hp
theorem S1.put{E w:World}{A B:A4}{b:Nat}{o:Obj}(h:S1 E w (A++(b,o)::B))(o':Obj):
  S1 E {w with heap:=w.heap.setIfInBounds b o'} (A++(b,o')::B):=by
 have hb:b<w.heap.size:=h.lt (p:=(b,o)) (by simp);have bV:=h.nd;refine⟨by simpa using bV,?_,h.os,h.tape,h.output⟩;rw[Ds2,Ds3,Dx3,Dv9]at bV;intro p hp;by_cases pW:p.1=b
 ·have:p=(b,o'):=by
   rcases Dr5.1 hp with hp|hp
   ·exact absurd pW (bV.2.2 p.1 (Dt4.2 ⟨p,hp,rfl⟩) b (by simp))
   ·rcases Dt5.1 hp with hp|hp
    ·exact hp
    ·exact absurd (Dt4.2 ⟨p,hp,pW⟩) bV.2.1.1
  subst this;simp[hb]
 ·have aE:b≠p.1:=fun e=>pW e.symm;simp only[D22 aE];refine h.blk p ?_;rcases Dr5.1 hp with hp|hp
  ·exact Ds8 _ hp
  ·rcases Dt5.1 hp with rfl|hp
   ·exact absurd rfl pW
   ·exact Du2 _ (Dr6 _ hp)
def noQ:Exit->Act->World->Prop:=fun _ _ _=>False
def OpF(P:Program)(o:Oper)(a:Act)(L:A4)(K:Act->HP):Prop:=
 ∀E F w next,S1 E w (L++F)->(∀a' w' L',S1 E w' (L'++F)->K a' L'->next a' w')->o.wp P a w next noQ
def N9(P:Program)(c:Code)(Q:Exit->Act->HP)(a:Act)(L:A4):Prop:=
 ∀E F w,S1 E w (L++F)->c.wp P (fun e a' w'=> ∃L',S1 E w' (L'++F)/\Q e a' L') a w
def CallF(P:Program)(f:FuncId)(args:Array Value)(L:A4)(K:Value->HP):Prop:=
 ∀E F w,S1 E w (L++F)->Calls P f args w fun e w'=> ∃v L',e= .returned v/\S1 E w' (L'++F)/\K v L'
section
variable {P:Program}
theorem Cx1{o:Oper}{a:Act}{w:World}{K:Act->World->Prop}{Q:Exit->Act->World->Prop}(h:o.wp P a w K noQ):o.wp P a w K Q:=by
  unfold Oper.wp at*;generalize (execOp a.eval o).run P w=r at*;cases r with
  |ok n w'=>
    cases n<;>simp only[Oper.upon]at h⊢ <;>
      first
        |exact h
        | (refine Calls.mono h fun e w'' he=>?_
           cases e
           · exact he
           · exact he.elim
           · obtain⟨_,_,hf⟩:=he;exact hf.elim)
  |halt x w'=>cases x<;>simp only[Oper.upon]at h⊢ <;>exact h.elim
theorem De8{o:Oper}{a:Act}{w:World}{K:Act->World->Prop}(h:o.wp P a w K noQ): ∃a' w',K a' w':=by
  unfold Oper.wp at h;generalize (execOp a.eval o).run P w=r at h;cases r with
  |ok n w'=>
    cases n<;>simp only[Oper.upon]at h<;>
      first
        |exact⟨_,_,h⟩
        | (obtain⟨e,w'',fr,he,_⟩:=h []
           cases e
           · exact⟨_,_,he⟩
           · exact he.elim
           · obtain⟨_,_,hf⟩:=he;exact hf.elim)
        | (obtain⟨v,w'',he,_⟩:=h default []
           exact⟨_,_,he⟩)
  |halt x w'=>cases x<;>simp only[Oper.upon]at h<;>exact h.elim
theorem wp_put{ops:Array Oper}{x o:Oper}{v:Value}(aF:x.apart ops o=true)(hs: ∀cs b,o.op≠ .select cs b){K:Act->World->Prop}{a:Act}{w:World}
  (h:o.wp P (a.put x.dst v) w K noQ):o.wp P a w (fun a' w'=>(∃u,a'.tmps=(a.put o.dst u).tmps)/\K (a'.put x.dst v) w') noQ:=by
 obtain⟨h1,h2,h3⟩:=Oper.apart_spec aF;unfold Oper.wp at*;rw[execOp_put o hs a x.dst v h1]at h;generalize (execOp a.eval o).run P w=r at*;cases r with
 |ok n w'=>
  cases n<;>simp only[Oper.upon]at h⊢
  case value u=>exact⟨⟨u,rfl⟩,by rw[<-Act.put_comm a v u h2];exact h⟩
  case skip=>exact⟨⟨undef,rfl⟩,by rw[<-Act.put_comm a v undef h2];exact h⟩
  case defer d=>
   refine⟨⟨undef,?_⟩,?_⟩
   ·cases o.dst<;>rfl
   ·rw[<-Act.put_comm _ v undef h2,<-Act.put_defers];exact h
  case enter f args=>
   refine Calls.mono h fun e w'' he=>?_;cases e with
   |returned u=>exact⟨⟨u,rfl⟩,by rw[<-Act.put_comm a v u h2];exact he⟩
   |panicked c=>exact he
   |outgrown=>obtain⟨_,_,hf⟩:=he;exact hf.elim
  case row row args=>exact Rows.mono h fun u w'' he=>⟨⟨u,rfl⟩,by rw[<-Act.put_comm a v u h2];exact he⟩
 |halt x w'=>cases x<;>simp only[Oper.upon]at h⊢ <;>exact h
theorem OpF.mono{o:Oper}{a:Act}{L:A4}{K K':Act->HP}(h:OpF P o a L K)(hk: ∀a' L',Sat L'->K a' L'->K' a' L'):OpF P o a L K':=
 fun E F w next hw hn=>h E F w next hw fun a' w' L' aI hK=>hn a' w' L' aI (hk a' L' ⟨E,F,w',aI⟩ hK)
theorem OpF.perm{o:Oper}{a:Act}{L L':A4}{K:Act->HP}(p:L.Perm L')(h:OpF P o a L K):OpF P o a L' K:=
 fun E F w next hw hn=>h E F w next (hw.perm (p.symm.append_right F)) hn
theorem OpF.some{o:Oper}{a:Act}{L:A4}{K:Act->HP}(hs:Sat L)(h:OpF P o a L K): ∃a' L',K a' L':=by
 obtain⟨E,F,w,hw⟩:=hs;obtain⟨a',w',L',hK⟩:=De8 (h E F w (fun a' w'=> ∃L',K a' L') hw fun a' w' L' _ hK=>⟨L',hK⟩);exact⟨a',L',hK⟩
theorem N9.mono{c:Code}{a:Act}{L:A4}{Q Q':Exit->Act->HP}(h:N9 P c Q a L)(hq: ∀e a' L',Q e a' L'->Q' e a' L'):N9 P c Q' a L:=
 fun E F w hw=>wp_mono (h E F w hw) fun e a' w' ⟨L',aI,hQ⟩=>⟨L',aI,hq _ _ _ hQ⟩
theorem CallF.mono{f:FuncId}{args:Array Value}{L:A4}{K K':Value->HP}(h:CallF P f args L K)(hk: ∀v L',Sat L'->K v L'->K' v L'):CallF P f args L K':=
 fun E F w hw=>Calls.mono (h E F w hw) fun e w' ⟨v,L',he,aI,hK⟩=>⟨v,L',he,aI,hk v L' ⟨E,F,w',aI⟩ hK⟩
theorem CallF.perm{f:FuncId}{args:Array Value}{L L':A4}{K:Value->HP}(p:L.Perm L')(h:CallF P f args L K):CallF P f args L' K:=
 fun E F w hw=>h E F w (hw.perm (p.symm.append_right F))
theorem CallF.frame{f:FuncId}{args:Array Value}{L R:A4}{K:Value->HP}(h:CallF P f args L K):CallF P f args (L++R) fun v L'=> ∃L1,L'=L1++R/\K v L1:=
 fun E F w hw=>Calls.mono (h E (R++F) w (by rw[<-Ds5];exact hw)) fun e w' ⟨v,L',he,aI,hK⟩=>
  ⟨v,L'++R,he,by rw[Ds5];exact aI,L',rfl,hK⟩
def thenF(next:Act->HP)(Q:Exit->Act->HP):Exit->Act->HP
 | .normal,a,L=>next a L
 |e,a,L=>Q e a L
theorem N9.seq{x y:Code}{Q:Exit->Act->HP}{a:Act}{L:A4}(h:N9 P x (thenF (N9 P y Q) Q) a L):N9 P (x.seq y) Q a L:=
 fun E F w hw=>wp_seq (wp_mono (h E F w hw) fun e a' w' ⟨L',aI,hQ⟩=>by
  cases e with
  |normal=>exact hQ E F w' aI
  |exit id=>exact⟨L',aI,hQ⟩
  |goto l=>exact⟨L',aI,hQ⟩
  |ret=>exact⟨L',aI,hQ⟩
  |panic c=>exact⟨L',aI,hQ⟩
  |outgrown=>exact⟨L',aI,hQ⟩)
theorem N9.skip{Q:Exit->Act->HP}{a:Act}{L:A4}(h:Q .normal a L):N9 P .skip Q a L:=fun _ _ _ hw=>wp_skip ⟨L,hw,h⟩
theorem N9.exit{id:Nat}{Q:Exit->Act->HP}{a:Act}{L:A4}(h:Q (.exit id) a L):N9 P (.exit id) Q a L:=fun _ _ _ hw=>wp_exit ⟨L,hw,h⟩
theorem N9.ret{Q:Exit->Act->HP}{a:Act}{L:A4}(h:Q .ret a L):N9 P .ret Q a L:=fun _ _ _ hw=>wp_ret ⟨L,hw,h⟩
theorem N9.cond{c:Operand}{x y:Code}{t:Bool}{Q:Exit->Act->HP}{a:Act}{L:A4}(hc:a.eval c= .bool t)(h:N9 P (if t then x else y) Q a L):
 N9 P (.cond c x y) Q a L:=fun E F w hw=>wp_cond hc (h E F w hw)
def Ct7(id:Nat)(Q:Exit->Act->HP):Exit->Act->HP
 | .exit id',a,L=>if id'=id then Q .normal a L else Q (.exit id') a L
 |e,a,L=>Q e a L
theorem N9.block{id:Nat}{c:Code}{Q:Exit->Act->HP}{a:Act}{L:A4}(h:N9 P c (Ct7 id Q) a L):N9 P (.block id c) Q a L:=
 fun E F w hw=>wp_block (wp_mono (h E F w hw) fun e a' w' ⟨L',aI,hQ⟩=>by
  cases e with
  |exit id'=>
   simp only[Ct7]at hQ;simp only[Exit.inBlock];split
   ·rename_i e;subst e;simp only[if_true]at hQ;exact⟨L',aI,hQ⟩
   ·rename_i e;rw[Dq4 e]at hQ;exact⟨L',aI,hQ⟩
  |normal=>exact⟨L',aI,hQ⟩
  |goto l=>exact⟨L',aI,hQ⟩
  |ret=>exact⟨L',aI,hQ⟩
  |panic c=>exact⟨L',aI,hQ⟩
  |outgrown=>exact⟨L',aI,hQ⟩)
theorem N9.loop{c:Code}{Q:Exit->Act->HP}(I:Nat->Act->HP){k:Nat}{a:Act}{L:A4}(h0:I k a L)
  (round: ∀k a L,I k a L->N9 P c (thenF (fun a' L'=> ∃k',k'<k/\I k' a' L') Q) a L):N9 P (.loop c) Q a L:=by
 intro E F w hw;refine wp_loop_rounds (k+1) ?_;have key: ∀n k a L w,k<n->I k a L->S1 E w (L++F)->Code.rounds P c (fun e a' w'=> ∃L',S1 E w' (L'++F)/\Q e a' L') n a w:=by
  intro n;induction n with
  |zero=>intro k a L w hk;omega
  |succ n ih=>
   intro k a L w hk hI hw;rw[rounds_succ];refine wp_mono (round k a L hI E F w hw) fun e a' w' ⟨L',aI,hQ⟩=>?_;cases e with
   |normal=>
    obtain⟨k',cU,nV⟩:=hQ;exact ih k' a' L' w' (by omega) nV aI
   |exit id=>exact⟨L',aI,hQ⟩
   |goto l=>exact⟨L',aI,hQ⟩
   |ret=>exact⟨L',aI,hQ⟩
   |panic c=>exact⟨L',aI,hQ⟩
   |outgrown=>exact⟨L',aI,hQ⟩
 exact key (k+1) k a L w (by omega) h0 hw
end
inductive Cls where|P|R|A|W
 deriving DecidableEq
def RdS(P:Program)(s:Sem Next)(L:A4)(v:Value):Prop:= ∀E F w,S1 E w (L++F)->s.run P w= .ok (.value v) w
abbrev A72:=List (Nat×Sem Next×Value)
abbrev KT:=Act->A72->HP
def AlG(P:Program)(s:Sem Next)(n:Nat)(ob:Obj)(v:Value):Prop:=
 ∃(w:World) (d:Nat),w.heap.size=n/\s.run P w= .ok (.value v) {w with heap:=w.heap.push ob,drawn:=d}
def AlAll(P:Program)(s:Sem Next):Prop:= ∀w:World,∃ob v d,s.run P w= .ok (.value v) {w with heap:=w.heap.push ob,drawn:=d}
section
variable {P:Program} {ops:Array Oper} {anc:Nat->Nat->Bool}
theorem RdS.mono{s:Sem Next}{L R:A4}{v:Value}(h:RdS P s L v):RdS P s (R++L) v:=fun E F w hw=>
 h E (R++F) w (hw.perm (by rw[Ds5];exact(Ed2 R L F)))
theorem RdS.perm{s:Sem Next}{L L':A4}{v:Value}(p:L.Perm L')(h:RdS P s L v):RdS P s L' v:=
 fun E F w hw=>h E F w (hw.perm (p.symm.append_right F))
theorem Sat.perm{L L':A4}(p:L.Perm L')(h:Sat L):Sat L':=by
 obtain⟨E,F,w,hw⟩:=h;exact⟨E,F,w,hw.perm (p.append_right F)⟩
def K2(ops:Array Oper)(o:Oper)(a:Act):Bool:=Region.wanted o (yielded ops a.tmps)
def N2(P:Program)(ops:Array Oper)(o:Oper)(K:KT):KT:=fun a T L=> ∃v,Yields P ops o v a/\K (a.put o.dst v) T L
def V1(P:Program)(ops:Array Oper)(i:Nat)(o:Oper)(K:KT):KT:=fun a T L=>
 K2 ops o a=true/\ ∃v,RdS P (execOp a.eval o) L v/\K (a.put o.dst v) ((i,execOp a.eval o,v)::T) L
def U1(P:Program)(ops:Array Oper)(o:Oper)(K:KT):KT:=fun a T L=>
 K2 ops o a=true/\AlAll P (execOp a.eval o)/\ ∀n ob v,AlG P (execOp a.eval o) n ob v->Sat ((n,ob)::L)->K (a.put o.dst v) T ((n,ob)::L)
def Obl(P:Program)(anc:Nat->Nat->Bool)(i:Nat)(T:A72):HP:=fun L'=> ∀q∈T,anc q.1 i=false->RdS P q.2.1 L' q.2.2
def Ac6(P:Program)(ops:Array Oper)(anc:Nat->Nat->Bool)(i:Nat)(o:Oper)(K:KT):KT:=fun a T L=>
 K2 ops o a=true/\OpF P o a L fun a' L'=>Obl P anc i T L'/\K a' T L'
def Y6(ops:Array Oper)(o:Oper)(K:KT):KT:=fun a T L=>K2 ops o a=false/\K (a.put o.dst undef) T L
def R6(P:Program)(ops:Array Oper)(anc:Nat->Nat->Bool)(c:Cls)(i:Nat)(o:Oper)(K:KT):KT:=fun a T L=>
 match c with
 | .P=>N2 P ops o K a T L
 | .R=>Y6 ops o K a T L\/V1 P ops i o K a T L
 | .A=>Y6 ops o K a T L\/U1 P ops o K a T L
 | .W=>Y6 ops o K a T L\/Ac6 P ops anc i o K a T L
def As0(P:Program)(ops:Array Oper)(anc:Nat->Nat->Bool)(cls:Nat->Cls)(Q:Act->HP):List Nat->KT
 |[]=>fun a _ L=> ∃L',L.Perm L'/\Q a L'
 |i::r=>fun a T L=>match ops[i]? with
  |some o=>R6 P ops anc (cls i) i o (As0 P ops anc cls Q r) a T L
  |none=>False
def Cv6(K:KT):Prop:= ∀a T L L',L.Perm L'->K a T L->K a T L'
def Bv2(K:KT):Prop:= ∀a (T T':A72) L,(∀q∈T',q∈T)->K a T L->K a T' L
theorem Obl.sub{i:Nat}{T T':A72}{L:A4}(hs: ∀q∈T',q∈T)(h:Obl P anc i T L):Obl P anc i T' L:=fun q hq ha=>h q (hs q hq) ha
theorem Obl.cons{i:Nat}{T:A72}{p:Nat×Obj}{L:A4}(h:Obl P anc i T L):Obl P anc i T (p::L):=fun q hq ha=>RdS.mono (R:=[p]) (h q hq ha)
theorem N2.mono{o:Oper}{K K':KT}{a:Act}{T:A72}{L:A4}(hs:Sat L)(hk: ∀v T L,Sat L->K (a.put o.dst v) T L->K' (a.put o.dst v) T L)(h:N2 P ops o K a T L):N2 P ops o K' a T L:=by
 obtain⟨v,hy,hK⟩:=h;exact⟨v,hy,hk _ _ _ hs hK⟩
theorem Y6.mono{o:Oper}{K K':KT}{a:Act}{T:A72}{L:A4}(hs:Sat L)(hk: ∀v T L,Sat L->K (a.put o.dst v) T L->K' (a.put o.dst v) T L)(h:Y6 ops o K a T L):Y6 ops o K' a T L:=
 ⟨h.1,hk _ _ _ hs h.2⟩
theorem Y6.toP{o:Oper}{K:KT}{a:Act}{T:A72}{L:A4}(h:Y6 ops o K a T L):N2 P ops o K a T L:=⟨undef,.inr ⟨h.1,rfl⟩,h.2⟩
theorem N2.toS{o:Oper}{K:KT}{a:Act}{T:A72}{L:A4}(hw:K2 ops o a=false)(h:N2 P ops o K a T L):Y6 ops o K a T L:=by
 obtain⟨v,hy,hK⟩:=h;rcases hy with⟨h1,_⟩|⟨_,rfl⟩
 ·unfold K2 at hw;rw[hw]at h1;cases h1
 ·exact⟨hw,hK⟩
theorem V1.mono{i:Nat}{o:Oper}{K K':KT}{a:Act}{T:A72}{L:A4}(hs:Sat L)(hk: ∀v T L,Sat L->K (a.put o.dst v) T L->K' (a.put o.dst v) T L)(h:V1 P ops i o K a T L):V1 P ops i o K' a T L:=by
 obtain⟨hw,v,hy,hK⟩:=h;exact⟨hw,v,hy,hk _ _ _ hs hK⟩
theorem U1.mono{o:Oper}{K K':KT}{a:Act}{T:A72}{L:A4}(hk: ∀v T L,Sat L->K (a.put o.dst v) T L->K' (a.put o.dst v) T L)(h:U1 P ops o K a T L):U1 P ops o K' a T L:=by
 obtain⟨hw,cE,hK⟩:=h;exact⟨hw,cE,fun n ob v hg hs=>hk _ _ _ hs (hK n ob v hg hs)⟩
theorem De7{o:Oper}{K:Act->World->Prop}{a:Act}{w:World}(h:o.wp P a w K noQ):o.wp P a w (fun a' w'=>(∃u,a'.tmps=(a.put o.dst u).tmps)/\K a' w') noQ:=by
 unfold Oper.wp at*;generalize (execOp a.eval o).run P w=r at*;cases r with
 |ok n w'=>
  cases n<;>simp only[Oper.upon]at h⊢
  case value u=>exact⟨⟨u,rfl⟩,h⟩
  case skip=>exact⟨⟨undef,rfl⟩,h⟩
  case defer d=>exact⟨⟨undef,by cases o.dst<;>rfl⟩,h⟩
  case enter f args=>
   refine Calls.mono h fun e w'' he=>?_;cases e with
   |returned u=>exact⟨⟨u,rfl⟩,he⟩
   |panicked c=>exact he
   |outgrown=>obtain⟨_,_,hf⟩:=he;exact hf.elim
  case row row args=>exact Rows.mono h fun u w'' he=>⟨⟨u,rfl⟩,he⟩
 |halt x w'=>cases x<;>simp only[Oper.upon]at h⊢ <;>exact h
theorem OpF.tmps{o:Oper}{a:Act}{L:A4}{K:Act->HP}(h:OpF P o a L K):OpF P o a L fun a' L'=>(∃u,a'.tmps=(a.put o.dst u).tmps)/\K a' L':=by
 intro E F w next hw hn
 have h1:=De7 (h E F w (fun a' w'=> ∃L',S1 E w' (L'++F)/\K a' L') hw fun a' w' L' aI hk=>⟨L',aI,hk⟩);exact Oper.wp_mono (fun a' w' ⟨ht,L',aI,hk⟩=>hn a' w' L' aI ⟨ht,hk⟩) h1
theorem Ac6.mono{i:Nat}{o:Oper}{K K':KT}{a:Act}{T:A72}{L:A4}(hk: ∀a' v T L,a'.tmps=(a.put o.dst v).tmps->Sat L->K a' T L->K' a' T L)(h:Ac6 P ops anc i o K a T L):Ac6 P ops anc i o K' a T L:=by
 obtain⟨hw,hK⟩:=h;exact⟨hw,hK.tmps.mono fun a' L' hs ⟨⟨u,hu⟩,ho,cU⟩=>⟨ho,hk _ _ _ _ hu hs cU⟩⟩
theorem R6.mono{c:Cls}{i:Nat}{o:Oper}{K K':KT}{a:Act}{T:A72}{L:A4}(hs:Sat L)(hk: ∀a' v T L,a'.tmps=(a.put o.dst v).tmps->Sat L->K a' T L->K' a' T L)(h:R6 P ops anc c i o K a T L):R6 P ops anc c i o K' a T L:=by
 have cU: ∀v T L,Sat L->K (a.put o.dst v) T L->K' (a.put o.dst v) T L:=fun v T L=>hk _ v T L rfl;cases c
 ·exact N2.mono hs cU h
 ·exact h.imp (Y6.mono hs cU) (V1.mono hs cU)
 ·exact h.imp (Y6.mono hs cU) (U1.mono cU)
 ·exact h.imp (Y6.mono hs cU) (Ac6.mono hk)
theorem R6.kperm{c:Cls}{i:Nat}{o:Oper}{K:KT}(hK:Cv6 K):Cv6 (R6 P ops anc c i o K):=by
 intro a T L L' p h;have hS:Y6 ops o K a T L->Y6 ops o K a T L':=fun⟨hw,h⟩=>⟨hw,hK _ _ _ _ p h⟩;cases c
 ·obtain⟨v,hy,h⟩:=h;exact⟨v,hy,hK _ _ _ _ p h⟩
 ·exact h.imp hS fun⟨hw,v,hy,h⟩=>⟨hw,v,hy.perm p,hK _ _ _ _ p h⟩
 ·exact h.imp hS fun⟨hw,cE,h⟩=>⟨hw,cE,fun n ob v hg hs=>hK _ _ _ _ (p.cons _) (h n ob v hg (hs.perm (p.symm.cons _)))⟩
 ·exact h.imp hS fun⟨hw,h⟩=>⟨hw,h.perm p⟩
theorem R6.ktmono{c:Cls}{i:Nat}{o:Oper}{K:KT}(hK:Bv2 K):Bv2 (R6 P ops anc c i o K):=by
 intro a T T' L hs h;have hS:Y6 ops o K a T L->Y6 ops o K a T' L:=fun⟨hw,h⟩=>⟨hw,hK _ _ _ _ hs h⟩;cases c
 ·obtain⟨v,hy,h⟩:=h;exact⟨v,hy,hK _ _ _ _ hs h⟩
 ·exact h.imp hS fun⟨hw,v,hy,h⟩=>⟨hw,v,hy,hK _ _ _ _ (fun q hq=>by
   rcases Dt5.1 hq with rfl|hq
   ·exact Dq7
   ·exact Dr6 _ (hs q hq)) h⟩
 ·exact h.imp hS fun⟨hw,cE,h⟩=>⟨hw,cE,fun n ob v hg fH=>hK _ _ _ _ hs (h n ob v hg fH)⟩
 ·exact h.imp hS fun⟨hw,h⟩=>⟨hw,h.mono fun a' L' _ ⟨ho,hk⟩=>⟨ho.sub hs,hK _ _ _ _ hs hk⟩⟩
theorem As0.kperm{cls:Nat->Cls}{Q:Act->HP}(l:List Nat):Cv6 (As0 P ops anc cls Q l):=by
 induction l with
 |nil=>exact fun a T L L' p ⟨L1,p1,h⟩=>⟨L1,p.symm.trans p1,h⟩
 |cons i r ih=>
  intro a T L L' p h;simp only[As0]at h⊢;cases ho:ops[i]? with
  |none=>simp[ho]at h
  |some o=>simp only[ho]at h⊢;exact R6.kperm ih a T L L' p h
theorem As0.ktmono{cls:Nat->Cls}{Q:Act->HP}(l:List Nat):Bv2 (As0 P ops anc cls Q l):=by
 induction l with
 |nil=>exact fun a T T' L _ h=>h
 |cons i r ih=>
  intro a T T' L hs h;simp only[As0]at h⊢;cases ho:ops[i]? with
  |none=>simp[ho]at h
  |some o=>simp only[ho]at h⊢;exact R6.ktmono ih a T T' L hs h
theorem O8{x o:Oper}(aF:x.apart ops o=true)(hs: ∀cs b,o.op≠ .select cs b)(a:Act)(v:Value):execOp (a.put x.dst v).eval o=execOp a.eval o:=
 execOp_put o hs a x.dst v (Oper.apart_spec aF).1
theorem H6{x o:Oper}(aF:x.apart ops o=true)(a:Act)(v:Value):K2 ops o (a.put x.dst v)=K2 ops o a:=
 wanted_put o a x.dst v (Oper.apart_spec aF).1
theorem H5{x o:Oper}(aF:x.apart ops o=true)(hs: ∀cs b,x.op≠ .select cs b)(a:Act)(v:Value):execOp (a.put o.dst v).eval x=execOp a.eval x:=
 execOp_put x hs a o.dst v (Oper.apart_spec aF).2.2
theorem G0{x o:Oper}(aF:x.apart ops o=true)(a:Act)(v:Value):K2 ops x (a.put o.dst v)=K2 ops x a:=
 wanted_put x a o.dst v (Oper.apart_spec aF).2.2
theorem V9{x o:Oper}(aF:x.apart ops o=true)(a:Act)(v u:Value):(a.put x.dst v).put o.dst u=(a.put o.dst u).put x.dst v:=
 Act.put_comm a v u (Oper.apart_spec aF).2.1
theorem Ar0{a a':Act}(h:a'.tmps=a.tmps):a'.eval=a.eval:=by
 funext x;cases x<;>simp[Act.eval,h]
theorem Ao2{o:Oper}{u v:Value}{a:Act}(h:Yields P ops o u a)(k:Yields P ops o v a):u=v:=by
 rcases h with⟨hw,h⟩|⟨hw,rfl⟩<;>rcases k with⟨kw,k⟩|⟨kw,rfl⟩
 ·have h1:=h default;have k1:=k default;rw[h1]at k1;injection k1 with e;injection e
 ·rw[hw]at kw;cases kw
 ·rw[hw]at kw;cases kw
 ·rfl
theorem V6{o:Oper}{v:Value}{a a':Act}(h:Yields P ops o v a)(he:execOp a'.eval o=execOp a.eval o)(hw:K2 ops o a'=K2 ops o a):Yields P ops o v a':=
 h.of_same he hw
theorem B95{x o:Oper}{v:Value}(aF:x.apart ops o=true)(hs: ∀cs b,o.op≠ .select cs b){K:Act->World->Prop}{a:Act}{w:World}
  (h:o.wp P a w (fun a' w'=>K (a'.put x.dst v) w') noQ):o.wp P (a.put x.dst v) w K noQ:=by
 obtain⟨h1,h2,h3⟩:=Oper.apart_spec aF;unfold Oper.wp at*;rw[execOp_put o hs a x.dst v h1];generalize (execOp a.eval o).run P w=r at*;cases r with
 |ok n w'=>
  cases n<;>simp only[Oper.upon]at h⊢
  case value u=>rw[Act.put_comm a v u h2];exact h
  case skip=>rw[Act.put_comm a v undef h2];exact h
  case defer d=>
   rw[Act.put_defers,Act.put_comm _ v undef h2];exact h
  case enter f args=>
   refine Calls.mono h fun e w'' he=>?_;cases e with
   |returned u=>simp only at he⊢;rw[Act.put_comm a v u h2];exact he
   |panicked c=>exact he
   |outgrown=>obtain⟨_,_,hf⟩:=he;exact hf.elim
  case row row args=>exact Rows.mono h fun u w'' he=>by rw[Act.put_comm a v u h2];exact he
 |halt x w'=>cases x<;>simp only[Oper.upon]at h⊢ <;>exact h
theorem OpF.put{x o:Oper}{v:Value}(aF:x.apart ops o=true)(hs: ∀cs b,o.op≠ .select cs b){a:Act}{L:A4}{K:Act->HP}
  (h:OpF P o (a.put x.dst v) L K):OpF P o a L fun a' L'=>(∃u,a'.tmps=(a.put o.dst u).tmps)/\K (a'.put x.dst v) L':=by
 intro E F w next hw hn
 have h1:=wp_put aF hs (h E F w (fun a' w'=> ∃L',S1 E w' (L'++F)/\K a' L') hw fun a' w' L' aI hk=>⟨L',aI,hk⟩);exact Oper.wp_mono (fun a' w' ⟨ht,L',aI,hk⟩=>hn a' w' L' aI ⟨ht,hk⟩) h1
theorem OpF.put_rev{x o:Oper}{v:Value}(aF:x.apart ops o=true)(hs: ∀cs b,o.op≠ .select cs b){a:Act}{L:A4}{K:Act->HP}
  (h:OpF P o a L fun a' L'=>K (a'.put x.dst v) L'):OpF P o (a.put x.dst v) L K:=
 fun E F w next hw hn=>B95 aF hs (h E F w (fun a' w'=>next (a'.put x.dst v) w') hw fun a' w' L' aI hk=>hn _ w' L' aI hk)
end
section
variable {P:Program} {ops:Array Oper} {anc:Nat->Nat->Bool}
section swaps
variable {x i:Nat} {ox oi:Oper} (aF:ox.apart ops oi=true) (cZ: ∀cs b,ox.op≠ .select cs b) (dG: ∀cs b,oi.op≠ .select cs b)
 {K:KT} {a:Act} {T:A72} {L:A4}
include aF cZ dG
theorem C97(h:N2 P ops ox (N2 P ops oi K) a T L):N2 P ops oi (N2 P ops ox K) a T L:=by
 obtain⟨v,hy,u,hu,hK⟩:=h;refine⟨u,V6 hu (O8 aF dG a v).symm (H6 aF a v).symm,v,V6 hy (H5 aF cZ a u) (G0 aF a u),?_⟩;rw[<-V9 aF];exact hK
theorem sw_P_R(h:N2 P ops ox (V1 P ops i oi K) a T L):V1 P ops i oi (N2 P ops ox K) a T L:=by
 obtain⟨v,hy,hw,u,hu,hK⟩:=h;rw[O8 aF dG]at hu hK;refine⟨by rw[<-H6 aF a v];exact hw,u,hu,v,V6 hy (H5 aF cZ a u) (G0 aF a u),?_⟩;rw[<-V9 aF];exact hK
theorem sw_P_A(h:N2 P ops ox (U1 P ops oi K) a T L):U1 P ops oi (N2 P ops ox K) a T L:=by
 obtain⟨v,hy,hw,cE,hK⟩:=h;rw[O8 aF dG]at cE hK;refine⟨by rw[<-H6 aF a v];exact hw,cE,fun n ob u hg hs=>⟨v,V6 hy (H5 aF cZ a u) (G0 aF a u),?_⟩⟩;rw[<-V9 aF];exact hK n ob u hg hs
theorem sw_P_W(h:N2 P ops ox (Ac6 P ops anc i oi K) a T L):Ac6 P ops anc i oi (N2 P ops ox K) a T L:=by
 obtain⟨v,hy,hw,hK⟩:=h;refine⟨by rw[<-H6 aF a v];exact hw,(OpF.put aF dG hK).mono fun a' L' _ ⟨⟨u,hu⟩,ho,hk⟩=>⟨ho,v,?_,hk⟩⟩;refine V6 hy ?_ ?_
 ·rw[Ar0 hu];exact H5 aF cZ a u
 ·unfold K2;rw[hu];exact G0 aF a u
theorem C96(h:V1 P ops x ox (N2 P ops oi K) a T L):N2 P ops oi (V1 P ops x ox K) a T L:=by
 obtain⟨hw,v,hv,u,hu,hK⟩:=h;refine⟨u,V6 hu (O8 aF dG a v).symm (H6 aF a v).symm,by rw[G0 aF];exact hw,v,by rw[H5 aF cZ];exact hv,?_⟩;rw[H5 aF cZ,<-V9 aF];exact hK
theorem sw_R_R(yM:Bv2 K)(h:V1 P ops x ox (V1 P ops i oi K) a T L):V1 P ops i oi (V1 P ops x ox K) a T L:=by
 obtain⟨hw,v,hv,gN,u,hu,hK⟩:=h;rw[O8 aF dG]at hu hK;refine⟨by rw[<-H6 aF a v];exact gN,u,hu,by rw[G0 aF];exact hw,v,by rw[H5 aF cZ];exact hv,?_⟩;rw[H5 aF cZ,<-V9 aF];refine yM _ _ _ _ ?_ hK;intro q hq;simp only[Dt5]at hq⊢;rcases hq with h|h|h
 ·exact .inr (.inl h)
 ·exact .inl h
 ·exact .inr (.inr h)
theorem sw_R_A(h:V1 P ops x ox (U1 P ops oi K) a T L):U1 P ops oi (V1 P ops x ox K) a T L:=by
 obtain⟨hw,v,hv,gN,cE,hK⟩:=h;rw[O8 aF dG]at cE hK;refine⟨by rw[<-H6 aF a v];exact gN,cE,fun n ob u hg hs=>⟨by rw[G0 aF];exact hw,v,by rw[H5 aF cZ];exact RdS.mono (R:=[(n,ob)]) hv,?_⟩⟩;rw[H5 aF cZ,<-V9 aF];exact hK n ob u hg hs
theorem sw_R_W(mG:anc x i=false)(h:V1 P ops x ox (Ac6 P ops anc i oi K) a T L):Ac6 P ops anc i oi (V1 P ops x ox K) a T L:=by
 obtain⟨hw,v,hv,gN,hK⟩:=h;refine⟨by rw[<-H6 aF a v];exact gN,(OpF.put aF dG hK).mono fun a' L' _ ⟨⟨u,hu⟩,ho,hk⟩=>?_⟩;have he:execOp a'.eval ox=execOp a.eval ox:=by rw[Ar0 hu];exact H5 aF cZ a u
 refine⟨ho.sub fun q hq=>Dr6 _ hq,?_,v,?_,?_⟩
 ·unfold K2;rw[hu];exact(G0 aF a u).trans hw
 ·rw[he];exact ho _ Dq7 mG
 ·rw[he];exact hk
theorem C95(hs:Sat L)(h:Ac6 P ops anc x ox (N2 P ops oi K) a T L):N2 P ops oi (Ac6 P ops anc x ox K) a T L:=by
 obtain⟨hw,hK⟩:=h;have back: ∀{a':Act} {w u:Value},a'.tmps=(a.put ox.dst w).tmps->Yields P ops oi u a'->Yields P ops oi u a:=by
  intro a' w u ht hu;refine V6 hu ?_ ?_
  ·rw[Ar0 ht];exact(O8 aF dG a w).symm
  ·unfold K2;rw[ht];exact(H6 aF a w).symm
 obtain⟨a',L',⟨w,ht⟩,_,u,hu,_⟩:=OpF.some hs hK.tmps;have ay:=back ht hu;refine⟨u,ay,by rw[G0 aF];exact hw,?_⟩;have qU:oi.apart ops ox=true:=by
  obtain⟨h1,h2,h3⟩:=Oper.apart_spec aF;have pH: ∀d,oi.dst=some d->ox.dst≠some d:=fun d hd hx=>h2 d hx hd;unfold Oper.apart;cases dK:oi.dst with
  |none=>
   cases lY:ox.dst with
   |none=>rfl
   |some d=>simpa[lY]using h1 d lY
  |some e=>
   cases lY:ox.dst with
   |none=>simpa[dK]using h3 e dK
   |some d=>
    have g1:=h1 d lY;have g2:=pH e dK;have g3:=h3 e dK;rw[lY]at g2;simp at g2;simp[g1,g3,g2]
 refine OpF.put_rev qU cZ ?_;refine hK.tmps.mono fun a'' L'' _ ⟨⟨w',xJ⟩,ho,u',fP,hk⟩=>⟨ho,?_⟩;obtain rfl:=Ao2 ay (back xJ fP);exact hk
theorem sw_W_A(hs:Sat L)(h:Ac6 P ops anc x ox (U1 P ops oi K) a T L):U1 P ops oi (Ac6 P ops anc x ox K) a T L:=by
 obtain⟨hw,hK⟩:=h;have exi: ∀{a':Act} {w:Value},a'.tmps=(a.put ox.dst w).tmps->execOp a'.eval oi=execOp a.eval oi:=by
  intro a' w ht;rw[Ar0 ht];exact O8 aF dG a w
 have qU:oi.apart ops ox=true:=by
  obtain⟨h1,h2,h3⟩:=Oper.apart_spec aF;have pH: ∀d,oi.dst=some d->ox.dst≠some d:=fun d hd hx=>h2 d hx hd;unfold Oper.apart;cases dK:oi.dst with
  |none=>
   cases lY:ox.dst with
   |none=>rfl
   |some d=>simpa[lY]using h1 d lY
  |some e=>
   cases lY:ox.dst with
   |none=>simpa[dK]using h3 e dK
   |some d=>
    have g1:=h1 d lY;have g2:=pH e dK;have g3:=h3 e dK;rw[lY]at g2;simp at g2;simp[g1,g3,g2]
 obtain⟨a',L',⟨w,ht⟩,_,gN,cE,_⟩:=OpF.some hs hK.tmps;rw[exi ht]at cE;refine⟨?_,cE,fun n ob u hg fH=>⟨by rw[G0 aF];exact hw,?_⟩⟩
 ·unfold K2 at gN;rw[ht]at gN;exact(H6 aF a w).symm.trans gN
 ·refine OpF.put_rev qU cZ ?_;intro E F w1 next iM hn
  refine hK.tmps E ((n,ob)::F) w1 next (iM.perm Dw4.symm) fun a2 w2 L2 nZ ⟨⟨w',xJ⟩,ho,hwi',hal',hk⟩=>?_
  rw[exi xJ]at hk;have sD:S1 E w2 (((n,ob)::L2)++F):=nZ.perm Dw4;exact hn a2 w2 ((n,ob)::L2) sD ⟨ho.cons,hk n ob u hg ⟨E,F,w2,sD⟩⟩
theorem C98(hs:Sat L)(h:U1 P ops ox (N2 P ops oi K) a T L):N2 P ops oi (U1 P ops ox K) a T L:=by
 obtain⟨hw,cE,hK⟩:=h;obtain⟨E,F,w,kS⟩:=hs;obtain⟨ob,v,d,dI⟩:=cE w;have fH:Sat ((w.heap.size,ob)::L):=⟨E,F,_,kS.push ob⟩;obtain⟨u,hu,_⟩:=hK w.heap.size ob v ⟨w,d,rfl,dI⟩ fH;have back: ∀{v u:Value},Yields P ops oi u (a.put ox.dst v)->Yields P ops oi u a:=fun{v u} h=>V6 h (O8 aF dG a v).symm (H6 aF a v).symm;refine⟨u,back hu,by rw[G0 aF];exact hw,by rw[H5 aF cZ];exact cE,fun n ob v hg fH=>?_⟩;rw[H5 aF cZ]at hg;obtain⟨u',fP,hk⟩:=hK n ob v hg fH;obtain rfl:=Ao2 (back hu) (back fP);rw[<-V9 aF];exact hk
theorem sw_A_A(nK:Cv6 K)(hs:Sat L)(h:U1 P ops ox (U1 P ops oi K) a T L):U1 P ops oi (U1 P ops ox K) a T L:=by
 obtain⟨hw,cE,hK⟩:=h;obtain⟨E,F,w,kS⟩:=hs;obtain⟨ob,v,d,dI⟩:=cE w;have fH:Sat ((w.heap.size,ob)::L):=⟨E,F,_,kS.push ob⟩;obtain⟨gN,vJ,_⟩:=hK w.heap.size ob v ⟨w,d,rfl,dI⟩ fH;rw[O8 aF dG]at vJ;refine⟨by rw[<-H6 aF a v];exact gN,vJ,fun n2 ob2 u gX bm=>⟨by rw[G0 aF];exact hw,by rw[H5 aF cZ];exact cE,fun n1 ob1 v1 eE sU=>?_⟩⟩;rw[H5 aF cZ]at eE;have oE:Sat ((n2,ob2)::(n1,ob1)::L):=sU.perm (D45 ..);have pR:Sat ((n1,ob1)::L):=by
  obtain⟨E,F,w,hw⟩:=oE;exact⟨E,(n2,ob2)::F,w,hw.perm (by simpa using(Dw4 (l₁:=(n1,ob1)::L)).symm)⟩
 obtain⟨_,_,hk⟩:=hK n1 ob1 v1 eE pR;rw[O8 aF dG]at hk;have:=hk n2 ob2 u gX oE;rw[V9 aF]at this;exact nK _ _ _ _ (D45 ..) this
end swaps
def Cv1:Cls->Cls->Bool
 | .P,_| .R,_=>true
 | .W,.P| .W,.A| .A,.P| .A,.A=>true
 |_,_=>false
theorem R6.swap{x i:Nat}{ox oi:Oper}{cx ci:Cls}(cE:Cv1 cx ci=true)(aF:ox.apart ops oi=true)(cZ: ∀cs b,ox.op≠ .select cs b)(dG: ∀cs b,oi.op≠ .select cs b)
  (mG:anc x i=false) {K:KT} (nK:Cv6 K) (yM:Bv2 K) {a:Act} {T:A72} {L:A4} (hs:Sat L)
  (h0:R6 P ops anc cx x ox (R6 P ops anc ci i oi K) a T L):R6 P ops anc ci i oi (R6 P ops anc cx x ox K) a T L:=by
 have ar: ∀{a':Act} {v:Value},a'.tmps=(a.put ox.dst v).tmps->K2 ops oi a'=K2 ops oi a:=by
  intro a' v ht;unfold K2;rw[ht];exact H6 aF a v
 have toS: ∀{K:KT} {a T L},cx≠ .P->Y6 ops ox K a T L->R6 P ops anc cx x ox K a T L:=by
  intro K a T L hc h;clear h0;cases cx
  ·exact absurd rfl hc
  ·exact .inl h
  ·exact .inl h
  ·exact .inl h
 have first: ∀{M:KT},R6 P ops anc cx x ox M a T L->N2 P ops ox M a T L\/(cx= .R/\V1 P ops x ox M a T L)\/
   (cx= .A/\U1 P ops ox M a T L)\/(cx= .W/\Ac6 P ops anc x ox M a T L):=by
  intro M h;clear h0;cases cx
  ·exact .inl h
  ·exact h.imp Y6.toP fun h=>.inl ⟨rfl,h⟩
  ·exact h.imp Y6.toP fun h=>.inr (.inl ⟨rfl,h⟩)
  ·exact h.imp Y6.toP fun h=>.inr (.inr ⟨rfl,h⟩)
 by_cases hp:ci= .P\/K2 ops oi a=false
 ·have h':R6 P ops anc cx x ox (N2 P ops oi K) a T L:=by
   refine R6.mono hs (fun a' v T L ht _ h=>?_) h0;clear h0;rcases hp with rfl|hw
   ·exact h
   ·have aI:=(ar ht).trans hw;cases ci
    ·exact h
    ·rcases h with h|h
     ·exact h.toP
     ·exact absurd h.1 (by rw[aI];decide)
    ·rcases h with h|h
     ·exact h.toP
     ·exact absurd h.1 (by rw[aI];decide)
    ·rcases h with h|h
     ·exact h.toP
     ·exact absurd h.1 (by rw[aI];decide)
  have back: ∀{M:KT},N2 P ops oi M a T L->R6 P ops anc ci i oi M a T L:=by
   intro M h;clear h0 h';rcases hp with rfl|hw
   ·exact h
   ·have hS:=h.toS hw;cases ci
    ·exact h
    ·exact .inl hS
    ·exact .inl hS
    ·exact .inl hS
  refine back ?_;clear back;rcases first h' with h|⟨rfl,h⟩|⟨rfl,h⟩|⟨rfl,h⟩
  ·clear h0 first
   by_cases hc:cx= .P
   ·subst hc;exact C97 aF cZ dG h
   ·--'x' is skipped,or it yields:then it is no P:it must have been skipped
    by_cases pJ:K2 ops ox a=true
    ·--wanted:the disjunct of its kind cd as well
     rcases(show Y6 ops ox (N2 P ops oi K) a T L\/V1 P ops x ox (N2 P ops oi K) a T L\/U1 P ops ox (N2 P ops oi K) a T L\/Ac6 P ops anc x ox (N2 P ops oi K) a T L by
      cases cx
      ·exact absurd rfl hc
      ·exact h'.imp id .inl
      ·exact h'.imp id fun h=>.inr (.inl h)
      ·exact h'.imp id fun h=>.inr (.inr h))with h1|h1
     ·exact absurd h1.1 (by rw[pJ];decide)
     ·cases cx
      ·exact absurd rfl hc
      ·rcases h' with h'|h'
       ·exact absurd h'.1 (by rw[pJ];decide)
       ·exact N2.mono hs (fun _ _ _ _ h=>.inr h) (C96 aF cZ dG h')
      ·rcases h' with h'|h'
       ·exact absurd h'.1 (by rw[pJ];decide)
       ·exact N2.mono hs (fun _ _ _ _ h=>.inr h) (C98 aF cZ dG hs h')
      ·rcases h' with h'|h'
       ·exact absurd h'.1 (by rw[pJ];decide)
       ·exact N2.mono hs (fun _ _ _ _ h=>.inr h) (C95 aF cZ dG hs h')
    ·refine N2.mono hs (fun v T L _ h=>toS hc (h.toS ?_)) (C97 aF cZ dG h);rw[G0 aF];simpa using pJ
  ·exact N2.mono hs (fun _ _ _ _ h=>.inr h) (C96 aF cZ dG h)
  ·exact N2.mono hs (fun _ _ _ _ h=>.inr h) (C98 aF cZ dG hs h)
  ·exact N2.mono hs (fun _ _ _ _ h=>.inr h) (C95 aF cZ dG hs h)
 ·have hc:ci≠ .P:=fun e=>hp (.inl e);have hw:K2 ops oi a=true:=by simpa using fun e=>hp (.inr e)
  have wrapP: ∀{a':Act} {T L},(cx= .P\/K2 ops ox a'=false)->N2 P ops ox K a' T L->R6 P ops anc cx x ox K a' T L:=by
   intro a' T L mB h;clear h0 first toS
   rcases mB with rfl|mB
   ·exact h
   ·cases cx
    ·exact h
    ·exact .inl (h.toS mB)
    ·exact .inl (h.toS mB)
    ·exact .inl (h.toS mB)
  have kinds:(N2 P ops ox (R6 P ops anc ci i oi K) a T L/\(cx= .P\/K2 ops ox a=false))\/(cx= .R/\V1 P ops x ox (R6 P ops anc ci i oi K) a T L)\/
    (cx= .A/\U1 P ops ox (R6 P ops anc ci i oi K) a T L)\/(cx= .W/\Ac6 P ops anc x ox (R6 P ops anc ci i oi K) a T L):=by
   clear first toS wrapP
   cases cx
   ·exact .inl ⟨h0,.inl rfl⟩
   ·exact h0.elim (fun h=>.inl ⟨h.toP,.inr h.1⟩) fun h=>.inr (.inl ⟨rfl,h⟩)
   ·exact h0.elim (fun h=>.inl ⟨h.toP,.inr h.1⟩) fun h=>.inr (.inr (.inl ⟨rfl,h⟩))
   ·exact h0.elim (fun h=>.inl ⟨h.toP,.inr h.1⟩) fun h=>.inr (.inr (.inr ⟨rfl,h⟩))
  have nos: ∀{a':Act} {v:Value} {T L},a'.tmps=(a.put ox.dst v).tmps-> ¬Y6 ops oi K a' T L:=by
   intro a' v T L ht hS;have:=hS.1;rw[ar ht,hw]at this;cases this
  have pI: ∀{a':Act} {v:Value},a'.tmps=(a.put oi.dst v).tmps->K2 ops ox a'=K2 ops ox a:=by
   intro a' v ht;unfold K2;rw[ht];exact G0 aF a v
  clear h0;cases ci
  ·exact absurd rfl hc
  ·--R
   rcases kinds with⟨h,mB⟩|⟨rfl,h⟩|⟨rfl,h⟩|⟨rfl,h⟩
   ·have h2:=N2.mono (K':=V1 P ops i oi K) hs (fun v T L _ h=>h.resolve_left (nos (v:=v) rfl)) h;exact .inr (V1.mono hs (fun v T L _ h=>wrapP (mB.imp id fun e=>(pI (v:=v) rfl).trans e) h) (sw_P_R aF cZ dG h2))
   ·have h2:=V1.mono (K':=V1 P ops i oi K) hs (fun v T L _ h=>h.resolve_left (nos (v:=v) rfl)) h;exact .inr (V1.mono hs (fun v T L _ h=>.inr h) (sw_R_R aF cZ dG yM h2))
   ·cases cE
   ·cases cE
  ·--A
   rcases kinds with⟨h,mB⟩|⟨rfl,h⟩|⟨rfl,h⟩|⟨rfl,h⟩
   ·have h2:=N2.mono (K':=U1 P ops oi K) hs (fun v T L _ h=>h.resolve_left (nos (v:=v) rfl)) h;exact .inr (U1.mono (fun v T L _ h=>wrapP (mB.imp id fun e=>(pI (v:=v) rfl).trans e) h) (sw_P_A aF cZ dG h2))
   ·have h2:=V1.mono (K':=U1 P ops oi K) hs (fun v T L _ h=>h.resolve_left (nos (v:=v) rfl)) h;exact .inr (U1.mono (fun v T L _ h=>.inr h) (sw_R_A aF cZ dG h2))
   ·have h2:=U1.mono (K':=U1 P ops oi K) (fun v T L _ h=>h.resolve_left (nos (v:=v) rfl)) h;exact .inr (U1.mono (fun v T L _ h=>.inr h) (sw_A_A aF cZ dG nK hs h2))
   ·have h2:=Ac6.mono (K':=U1 P ops oi K) (fun a' v T L ht _ h=>h.resolve_left (nos ht)) h;exact .inr (U1.mono (fun v T L _ h=>.inr h) (sw_W_A aF cZ dG hs h2))
  ·--W
   rcases kinds with⟨h,mB⟩|⟨rfl,h⟩|⟨rfl,h⟩|⟨rfl,h⟩
   ·have h2:=N2.mono (K':=Ac6 P ops anc i oi K) hs (fun v T L _ h=>h.resolve_left (nos (v:=v) rfl)) h;exact .inr (Ac6.mono (fun a' v T L ht _ h=>wrapP (mB.imp id fun e=>(pI ht).trans e) h) (sw_P_W aF cZ dG h2))
   ·have h2:=V1.mono (K':=Ac6 P ops anc i oi K) hs (fun v T L _ h=>h.resolve_left (nos (v:=v) rfl)) h;exact .inr (Ac6.mono (fun a' v T L ht _ h=>.inr h) (sw_R_W aF cZ dG mG h2))
   ·cases cE
   ·cases cE
end
section
variable {P:Program} {ops:Array Oper} {anc:Nat->Nat->Bool}
def A37(ops:Array Oper)(anc:Nat->Nat->Bool)(cls:Nat->Cls)(x i:Nat):Bool:=
 match ops[x]?,ops[i]? with
 |some ox,some oi=>Cv1 (cls x) (cls i)&&ox.apart ops oi
 |_,_=>false
theorem As0.bubble{cls:Nat->Cls}{Q:Act->HP}(cN:Region.noSelect ops=true){i:Nat}{B:List Nat}: ∀(A:List Nat) (a:Act) (T:A72) (L:A4),
  (∀x∈A,A37 ops anc cls x i=true/\anc x i=false)->Sat L->As0 P ops anc cls Q (A++i::B) a T L->As0 P ops anc cls Q (i::(A++B)) a T L
 |[],_,_,_,_,_,h=>h
 |x::A,a,T,L,hp,hs,h=>by
  obtain⟨hx,hax⟩:=hp x Dq7;unfold A37 at hx;cases kH:ops[x]? with
  |none=>simp[kH]at hx
  |some ox=>
   cases lM:ops[i]? with
   |none=>simp[kH,lM]at hx
   |some oi=>
    simp only[kH,lM,Dv4]at hx;simp only[Dt7,As0,kH,lM]at h⊢;refine R6.swap hx.1 hx.2 (fun cs b=>Region.noSelect_spec cN x ox cs b kH) (fun cs b=>Region.noSelect_spec cN i oi cs b lM) hax (As0.kperm _) (As0.ktmono _) hs ?_;refine R6.mono hs (fun a' v T L _ hs h=>?_) h;have:=As0.bubble cN A a' T L (fun y hy=>hp y (Dr6 _ hy)) hs h;simpa only[As0,lM]using this
theorem R6.wp{c:Cls}{i:Nat}{o:Oper}(ho:ops[i]?=some o){K:KT}{a:Act}{T:A72}{L:A4}(h:R6 P ops anc c i o K a T L)
  {E:World} {F:A4} {w:World} (hw:S1 E w (L++F)) {Q:Exit->Act->World->Prop} {next:Act->World->Prop} (hn: ∀a' T' L' w',S1 E w' (L'++F)->K a' T' L'->next a' w'):
  wpOp P ops Q i next a w:=by
 have hP:N2 P ops o K a T L->wpOp P ops Q i next a w:=fun⟨v,hy,hk⟩=>hy.wpOp ho (hn _ _ _ _ hw hk)
 have hS:Y6 ops o K a T L->wpOp P ops Q i next a w:=fun h=>hP h.toP
 have wanted: ∀{o:Oper},ops[i]?=some o->K2 ops o a=true->o.wp P a w next Q->wpOp P ops Q i next a w:=by
  intro o ho hw h;unfold wpOp;simp only[ho];unfold K2 at hw;simp only[hw,if_true];exact .inl h
 cases c
 ·exact hP h
 ·refine h.elim hS fun⟨kD,v,hr,hk⟩=>wanted ho kD ?_;unfold Oper.wp;rw[hr E F w hw];exact hn _ _ _ _ hw hk
 ·refine h.elim hS fun⟨kD,cE,hk⟩=>wanted ho kD ?_;obtain⟨ob,v,d,hr⟩:=cE w;unfold Oper.wp;rw[hr];have aI:S1 E {w with heap:=w.heap.push ob,drawn:=d} (((w.heap.size,ob)::L)++F):=(hw.push ob).drew d;exact hn _ _ _ _ aI (hk _ ob v ⟨w,d,rfl,hr⟩ ⟨E,F,_,aI⟩)
 ·refine h.elim hS fun⟨kD,hk⟩=>wanted ho kD ?_;exact Cx1 (hk E F w next hw fun a' w' L' aI ⟨_,cU⟩=>hn _ _ _ _ aI cU)
def Am1(acc:List Nat)(o:Oper):Nat:=
 o.after.toList.foldl (fun s e=>if Region.binds .any e then s|||2^e.on|||acc.getD e.on 0 else s) 0
def G4:List Oper->List Nat->List Nat
 |[],acc=>acc
 |o::r,acc=>G4 r (acc++[Am1 acc o])
def Ah2(M:List Nat)(x i:Nat):Bool:=(M.getD i 0).testBit x
theorem Bz0(acc:List Nat)(o:Oper)(x:Nat)(h:(Am1 acc o).testBit x=true): ∃e∈o.after,Region.binds .any e=true/\(e.on=x\/(acc.getD e.on 0).testBit x=true):=by
 unfold Am1 at h;have key: ∀(l:List Edge) (s:Nat),(l.foldl (fun s e=>if Region.binds .any e then s|||2^e.on|||acc.getD e.on 0 else s) s).testBit x=true->
   s.testBit x=true\/ ∃e∈l,Region.binds .any e=true/\(e.on=x\/(acc.getD e.on 0).testBit x=true):=by
  intro l;induction l with
  |nil=>exact fun s h=>.inl h
  |cons e l ih=>
   intro s h;rw[D02]at h;rcases ih _ h with h|⟨e',qP,h⟩
   ·split at h
    ·rename_i hb;simp only[Nat.testBit_or,D46,Nat.testBit_two_pow,Dy0]at h;rcases h with(h|h)|h
     ·exact .inl h
     ·exact .inr ⟨e,Dq7,hb,.inl h⟩
     ·exact .inr ⟨e,Dq7,hb,.inr h⟩
    ·exact .inl h
   ·exact .inr ⟨e',Dr6 _ qP,h⟩
 rcases key _ 0 h with h|⟨e,he,h⟩
 ·simp at h
 ·exact⟨e,by simpa using he,h⟩
theorem Ag0: ∀(l:List Oper) (acc:List Nat) (j:Nat),(G4 l acc).getD j 0=if j<acc.length then acc.getD j 0 else
   match l[j-acc.length]? with
   |some o=>Am1 ((G4 l acc).take j) o
   |none=>0
 |[],acc,j=>by
  simp only[G4];split
  ·rfl
  ·rename_i h;simp[Dt0,D12 (Nat.le_of_not_lt h)]
 |o::r,acc,j=>by
  simp only[G4];rw[Ag0 r (acc++[Am1 acc o]) j];have dZ:(G4 r (acc++[Am1 acc o])).take (acc.length)=acc:=by
   have: ∀(l:List Oper) (acc:List Nat),∃t,G4 l acc=acc++t:=by
    intro l;induction l with
    |nil=>exact fun acc=>⟨[],by simp[G4]⟩
    |cons o r ih=>
     intro acc;obtain⟨t,ht⟩:=ih (acc++[Am1 acc o]);exact⟨Am1 acc o::t,by rw[G4,ht];simp⟩
   obtain⟨t,ht⟩:=this r (acc++[Am1 acc o]);rw[ht];simp
  by_cases h1:j<acc.length
  ·rw[Dq5 (by simp;omega),Dq5 h1];simp[Dt0,Dy4 h1]
  ·rw[Dq4 h1];by_cases h2:j=acc.length
   ·subst h2;rw[Dq5 (by simp)];simp[dZ]
   ·rw[Dq4 (by simp;omega)];have:j-acc.length=(j-(acc++[Am1 acc o]).length)+1:=by simp;omega
    rw[this,D23]
theorem Cd5{listed:Array Bool}(down: ∀(j:Nat) (o:Oper),listed.getD j false=true->ops[j]?=some o-> ∀e∈o.after,Region.binds .any e=true->listed.getD e.on false=true):
  ∀(j:Nat) (o:Oper),ops[j]?=some o->(∀e∈o.after,Region.binds .any e=true->listed.getD e.on false=true)-> ∀x,Ah2 (G4 ops.toList []) x j=true->listed.getD x false=true:=by
 intro j;induction j using Nat.strongRecOn with
 |_ j ih=>
  intro o ho aB x hx;unfold Ah2 at hx;rw[Ag0]at hx;simp only[Du7,Nat.not_lt_zero,if_false,Dx4]at hx;have lL:ops.toList[j]?=some o:=by simpa using ho
  rw[lL]at hx;obtain⟨e,he,hb,h⟩:=Bz0 _ _ _ hx;have bS:=aB e he hb;rcases h with rfl|h
  ·exact bS
  ·by_cases hO:e.on<j
   ·have hM:((G4 ops.toList []).take j).getD e.on 0=(G4 ops.toList []).getD e.on 0:=by
     simp[Dt0,hO]
    rw[hM]at h;cases rI:ops[e.on]? with
    |none=>
     rw[Ag0]at h;have:ops.toList[e.on]?=none:=by simpa using rI
     simp[this]at h
    |some oe=>exact ih e.on hO oe rI (down e.on oe bS rI) x h
   ·have:((G4 ops.toList []).take j).getD e.on 0=0:=by
     rw[Dt0,Dy8,Dq4 hO];rfl
    rw[this]at h;simp at h
def Ap6(ops:Array Oper)(anc:Nat->Nat->Bool)(cls:Nat->Cls):List Nat->Bool
 |[]=>true
 |x::r=>(match ops[x]? with
   |none=>false
   |some ox=>ox.after.all fun e=> !Region.binds .any e||(decide (e.on<ops.size)&& !(e.on==x)&& !r.contains e.on))&&
  r.all (fun i=> !(i==x)&&(anc x i||A37 ops anc cls x i))&&Ap6 ops anc cls r
def Ck8(ops:Array Oper)(anc:Nat->Nat->Bool)(cls:Nat->Cls)(π:List Nat):Bool:=
 Region.noSelect ops&&(List.range ops.size).all π.contains&&Ap6 ops anc cls π
theorem Ci5{cls:Nat->Cls}{Q:Act->HP}{Qw:Exit->Act->World->Prop}{E:World}{F:A4}(cN:Region.noSelect ops=true)
  (hQ: ∀a L w,S1 E w (L++F)->Q a L->Qw .normal a w): ∀(k:Nat) (rem:List Nat) (listed:Array Bool) (a:Act) (T:A72) (L:A4) (w:World),
  rem.length=k->listed.size=ops.size->(∀j,j<ops.size->(j∈rem↔listed.getD j true=false))->rem.Nodup->Ap6 ops (Ah2 (G4 ops.toList [])) cls rem=true->
  (∀(j:Nat) (o:Oper),listed.getD j false=true->ops[j]?=some o-> ∀e∈o.after,Region.binds .any e=true->listed.getD e.on false=true)->
  S1 E w (L++F)->As0 P ops (Ah2 (G4 ops.toList [])) cls Q rem a T L->wpAny P .any ops Qw k listed a w:=by
 have unl: ∀(listed:Array Bool) (j:Nat),listed.getD j true=false->listed.getD j false=false:=by
  intro listed j h;rcases Dw8 j listed.size with h'|h'
  ·simpa[h']using h
  ·simp[Ea0 h']at h
 intro k;induction k with
 |zero=>
  intro rem listed a T L w hk aC iS _ _ _ hw h;have:rem=[]:=D13.1 hk;subst this;obtain⟨L',p,hq⟩:=h;refine⟨?_,hQ a L' w (hw.perm (p.append_right F)) hq⟩;refine List.eq_nil_iff_forall_not_mem.2 fun j hj=>?_;obtain⟨xF,o,ho,_⟩:=mem_ready.1 hj;have hO:j<ops.size:=(D11.1 ho).1;exact absurd ((iS j hO).2 xF) (by simp)
 |succ k ih=>
  intro rem listed a T L w hk aC iS bV gE down hw h;have listed_of: ∀j,j<ops.size->j∉rem->listed.getD j false=true:=by
   intro j hO hj;have h1:listed.getD j true≠false:=fun e=>hj ((iS j hO).2 e);have hl:j<listed.size:=by omega
   simpa[hl]using h1
  refine⟨fun pZ=>?_,fun i hi=>?_⟩
  ·--the first that is left may come up
   exfalso;cases rem with
   |nil=>simp at hk
   |cons x r=>
    simp only[Ap6,Dv4]at gE;obtain⟨⟨hx,_⟩,_⟩:=gE;cases kH:ops[x]? with
    |none=>simp[kH]at hx
    |some ox=>
     simp only[kH,Ea1,D46,Dv4,Dy0,Bool.not_eq_true']at hx;have hO:x<ops.size:=(D11.1 kH).1;have:x∈Region.ready .any ops listed:=mem_ready.2 ⟨(iS x hO).1 Dq7,ox,kH,fun e he hb=>by
      rcases hx e he with h|⟨⟨h1,h2⟩,h3⟩
      ·rw[hb]at h;cases h
      ·refine listed_of e.on h1 fun hm=>?_;rcases Dt5.1 hm with hm|hm
       ·simp[hm]at h2
       ·simp[hm]at h3⟩
     rw[pZ]at this;cases this
  ·obtain⟨xF,oi,lM,aB⟩:=mem_ready.1 hi;have hO:i<ops.size:=(D11.1 lM).1;have yS:i∈rem:=(iS i hO).2 xF;obtain⟨A,B,rfl⟩:=D31 yS;have tF: ∀x∈A,A37 ops (Ah2 (G4 ops.toList [])) cls x i=true/\Ah2 (G4 ops.toList []) x i=false:=by
    intro x hx;have wD:Ah2 (G4 ops.toList []) x i=false:=by
     cases hb:Ah2 (G4 ops.toList []) x i with
     |false=>rfl
     |true=>
      have:=Cd5 down i oi lM aB x hb;have vV:x∈A++i::B:=Ds8 _ hx;by_cases sB:x<ops.size
      ·have h2:=(iS x sB).1 vV;rw[unl _ _ h2]at this;cases this
      ·have:x≥listed.size:=by omega
       simp[Ea0 this]at*
    refine⟨?_,wD⟩;have: ∀(A:List Nat),Ap6 ops (Ah2 (G4 ops.toList [])) cls (A++i::B)=true->x∈A->Ah2 (G4 ops.toList []) x i=true\/A37 ops (Ah2 (G4 ops.toList [])) cls x i=true:=by
     intro A;induction A with
     |nil=>intro _ h;cases h
     |cons y A ihA=>
      intro hp hx;simp only[Dt7,Ap6,Dv4,Dy1,D46]at hp;rcases Dt5.1 hx with rfl|hx
      ·exact(hp.1.2 i (by simp)).2
      ·exact ihA hp.2 hx
    exact(this A gE hx).resolve_left (by rw[wD];decide)
   have hb:=As0.bubble cN A a T L tF ⟨E,F,w,hw⟩ h;simp only[As0,lM]at hb;refine R6.wp lM hb hw fun a' T' L' w' aI cU=>?_;have tV:(A++B).Nodup/\i∉A++B:=by
    rw[Dx3,Dv9]at bV;refine⟨by rw[Dx3];exact⟨bV.1,bV.2.1.2,fun a ha b hb=>bV.2.2 a ha b (Dr6 _ hb)⟩,fun hm=>?_⟩;rcases Dr5.1 hm with hm|hm
    ·exact bV.2.2 i hm i Dq7 rfl
    ·exact bV.2.1.1 hm
   refine ih (A++B) (listed.setIfInBounds i true) a' T' L' w' (by simp at hk⊢;omega) (by simp[aC]) (fun j hj=>?_) tV.1 ?_ ?_ aI cU
   ·by_cases fT:j=i
    ·subst fT;have:j<listed.size:=by omega
     simp only[Ed3,Array.getElem?_setIfInBounds_self_of_lt this,D67,Bool.true_eq_false,iff_false];exact tV.2
    ·rw[getD_set_ne true (Ne.symm fT),<-iS j hj];simp[fT]
   ·have: ∀(A:List Nat),Ap6 ops (Ah2 (G4 ops.toList [])) cls (A++i::B)=true->Ap6 ops (Ah2 (G4 ops.toList [])) cls (A++B)=true:=by
     intro A;induction A with
     |nil=>
      intro h;simp only[Ds1,Ap6,Dv4]at h⊢;exact h.2
     |cons y A ihA=>
      intro hp;simp only[Dt7,Ap6,Dv4,Dy1]at hp⊢;refine⟨⟨?_,fun z hz=>hp.1.2 z (by
       rcases Dr5.1 hz with hz|hz
       ·exact Ds8 _ hz
       ·exact Du2 _ (Dr6 _ hz))⟩,ihA hp.2⟩
      cases cb:ops[y]? with
      |none=>simp[cb]at hp
      |some oy=>
       have h1:=hp.1.1;simp only[cb,Ea1,D46,Dv4,Bool.not_eq_true']at h1⊢;intro e he;refine(h1 e he).imp id fun h=>⟨h.1,?_⟩;have:=h.2;simp at this⊢;exact⟨this.1,this.2.2⟩
    exact this A gE
   ·intro j o hj oI e he cO;by_cases fT:j=i
    ·subst fT;rw[lM]at oI;obtain rfl:=Dq9 oI;exact getD_set_true (aB e he cO)
    ·exact getD_set_true (down j o (by rw[getD_set_ne false (Ne.symm fT)]at hj;exact hj) oI e he cO)
theorem An4{cls:Nat->Cls}: ∀{l:List Nat},Ap6 ops anc cls l=true->l.Nodup
 |[],_=>D32
 |x::r,h=>by
  simp only[Ap6,Dv4,Dy1]at h;refine Dv9.2 ⟨fun hm=>?_,An4 h.2⟩;have:=(h.1.2 x hm).1;simp at this
theorem N9.region_any{id:Nat}(hm:P.follows .mixedOrders=true)(cls:Nat->Cls)(π:List Nat)(aA:Ck8 ops (Ah2 (G4 ops.toList [])) cls π=true)
  {Q:Exit->Act->HP} {a:Act} {L:A4} (h:As0 P ops (Ah2 (G4 ops.toList [])) cls (fun a L=>Q .normal a L) π a [] L):N9 P (.region id ops true) Q a L:=by
 intro E F w hw;simp only[Ck8,Dv4,Dy1,Dy9,List.contains_iff_mem]at aA;obtain⟨⟨cN,aB⟩,hp⟩:=aA;refine wp_region_any hm ?_;have hC:π.length=ops.size:=by
  have bV:=An4 hp;have hO: ∀x∈π,x<ops.size:=by
   intro x hx;have: ∀(l:List Nat),Ap6 ops (Ah2 (G4 ops.toList [])) cls l=true->x∈l->x<ops.size:=by
    intro l;induction l with
    |nil=>intro _ h;cases h
    |cons y r ih=>
     intro hp hx;simp only[Ap6,Dv4]at hp;rcases Dt5.1 hx with rfl|hx
     ·cases ho:ops[x]? with
      |none=>simp[ho]at hp
      |some o=>exact(D11.1 ho).1
     ·exact ih hp.2 hx
   exact this π hp hx
  have h1:π.Perm (List.range ops.size):=by
   refine(Ed4 bV List.nodup_range).2 fun j=>⟨fun hj=>Dy9.2 (hO j hj),fun hj=>aB j (Dy9.1 hj)⟩
  simpa using h1.length_eq
 rw[<-hC];refine Ci5 (Qw:=fun e a' w'=> ∃L',S1 E w' (L'++F)/\Q e a' L') cN (fun a L w hw hq=>⟨L,hw,hq⟩) π.length π _ a [] L _ rfl (by simp[hC]) (fun j hj=>?_) (An4 hp) hp ?_ (hw.drew _) h
 ·have:j<π.length:=by omega
  simp[this,aB j hj]
 ·intro j o hj;exfalso;by_cases h:j<π.length<;>simp[h]at hj
theorem N9.region{id:Nat}(cls:Nat->Cls){Q:Exit->Act->HP}{a:Act}{L:A4}(h:As0 P ops (fun _ _=>true) cls (fun a L=>Q .normal a L) (List.range ops.size) a [] L):N9 P (.region id ops false) Q a L:=by
 intro E F w hw;refine wp_region ?_;have: ∀(l:List Nat) (a:Act) (T:A72) (L:A4) (w:World),S1 E w (L++F)->As0 P ops (fun _ _=>true) cls (fun a L=>Q .normal a L) l a T L->
   wpOps P ops (fun e a' w'=> ∃L',S1 E w' (L'++F)/\Q e a' L') l a w:=by
  intro l;induction l with
  |nil=>exact fun a T L w hw ⟨L',p,hq⟩=>⟨L',hw.perm (p.append_right F),hq⟩
  |cons i r ih=>
   intro a T L w hw h;rw[wpOps_cons];simp only[As0]at h;cases ho:ops[i]? with
   |none=>simp[ho]at h
   |some o=>
    simp only[ho]at h;exact R6.wp ho h hw fun a' T' L' w' aI hk=>ih a' T' L' w' aI hk
 exact this _ a [] L w hw h
end
structure SlV where
 a:Option Addr
 len:Nat
 cap:Nat
structure FnV where
 fn:Fn
 first:Array Value
 captured:Array Value
inductive Lf where|int (k:IntKind)|bool|str|ptr|sl|map|fn
@[reducible] def LfV : Lf -> Type
 | .int _=>Int| .bool=>Bool| .str=>ByteArray| .ptr=>Option Addr| .sl=>SlV| .map=>Option Nat| .fn=>FnV
def Lf.val:(l:Lf)->LfV l->Value
 | .int k,n=>.int k n
 | .bool,b=>.bool b
 | .str,s=>.string s
 | .ptr,p=>.pointer p
 | .sl,v=>.slice v.a v.len v.cap
 | .map,r=>.map r
 | .fn,f=>.func f.fn f.first f.captured
inductive Sh where|lf (l:Lf)|agg (ls:List Lf)
@[reducible] def LfVs : List Lf -> Type
 |[]=>Unit
 |l::r=>LfV l×LfVs r
@[reducible] def ShV : Sh -> Type
 | .lf l=>LfV l
 | .agg ls=>LfVs ls
def Av9:(ls:List Lf)->LfVs ls->List Value
 |[],_=>[]
 |l::r,x=>l.val x.1::Av9 r x.2
def Sh.val:(s:Sh)->ShV s->Value
 | .lf l,x=>l.val x
 | .agg ls,x=>.agg (Av9 ls x).toArray
def Sh.vals:(s:Sh)->ShV s->List Value
 | .lf l,x=>[l.val x]
 | .agg ls,x=>Av9 ls x
@[reducible] def RsV : List Sh -> Type
 |[]=>Unit
 |s::r=>ShV s×RsV r
def Da4:(ss:List Sh)->RsV ss->List Value
 |[],_=>[]
 |s::r,x=>s.val x.1::Da4 r x.2
def Ah7(ss:List Sh)(x:RsV ss):Value:=
 match ss,x with
 |[s],x=>s.val x.1
 |ss,x=>.tuple (Da4 ss x).toArray
def B51:IntKind->IntKind->Bool
 | .i8,.i8| .i16,.i16| .i32,.i32| .i64,.i64| .u8,.u8| .u16,.u16| .u32,.u32| .u64,.u64=>true
 |_,_=>false
def Lf.of:(l:Lf)->Value->Option (LfV l)
 | .int k,.int k' n=>match B51 k k' with|true=>some n|false=>none
 | .bool,.bool b=>some b
 | .str,.string s=>some s
 | .ptr,.pointer p=>some p
 | .sl,.slice a n c=>some ⟨a,n,c⟩
 | .map,.map r=>some r
 | .fn,.func f a b=>some ⟨f,a,b⟩
 |_,_=>none
def Cn0:(ls:List Lf)->List Value->Option (LfVs ls)
 |[],[]=>some ()
 |l::r,v::vs=>match l.of v,Cn0 r vs with
  |some x,some y=>some (x,y)
  |_,_=>none
 |_,_=>none
def Sh.of:(s:Sh)->Value->Option (ShV s)
 | .lf l,v=>l.of v
 | .agg ls,.agg cs=>Cn0 ls cs.toList
 | .agg _,_=>none
def C32:TypeDesc->Option Lf
 | .int k=>some (.int k)| .bool=>some .bool| .string=>some .str| .pointer _=>some .ptr| .slice _=>some .sl| .map _ _=>some .map| .func _ _ _=>some .fn
 |_=>none
def Bg8(P:Program):Nat->TypeId->Option (List Lf)
 |0,_=>none
 |d+1,t=>match P.underlying t with
  |some (.struct fs)=>fs.toList.foldr (fun f acc=>match Bg8 P d f.type,acc with|some x,some y=>some (x++y)|_,_=>none) (some [])
  |some (.array n e)=>match Bg8 P d e with
   |some x=>some (List.replicate n x).flatten
   |none=>none
  |some d=>match C32 d with|some l=>some [l]|none=>none
  |none=>none
def Q2(P:Program)(t:TypeId):Option Nat:=match P.info? t with|some i=>some i.size|none=>none
def Ca1(P:Program)(t:TypeId):Option Sh:=
 match Bg8 P 8 t,Q2 P t,P.underlying t with
 |some ls,some n,some d=>match Nat.beq ls.length n,d with
  |true,.struct _|true,.array _ _=>some (.agg ls)
  |true,_=>match ls with|[l]=>some (.lf l)|_=>none
  |false,_=>none
 |_,_,_=>none
def Ca0(P:Program):List TypeId->Option (List Sh)
 |[]=>some []
 |t::r=>match Ca1 P t,Ca0 P r with|some s,some ss=>some (s::ss)|_,_=>none
def ff:HP:=fun _=>False
def ifB(t:Bool)(A B:HP):HP:=match t with|true=>A|false=>B
def A8(p:Option Addr)(k:Addr->HP):HP:=match p with|some a=>k a|none=>ff
def req(p:Prop)(k:HP):HP:=fun L=>p/\k L
def keep(φ:HP)(k:HP):HP:=fun L=>φ L/\k L
def Bh2:List HP->HP->HP
 |[],k=>k
 |φ::r,k=>keep φ (Bh2 r k)
def C9(ad:Addr)(vs:List Value):HP:=fun L=>
 ∃c T fz,(ad.block,Obj.cells c T fz)∈L/\ad.spot=none/\ ∀i v,vs[i]?=some v->c[ad.off+i]?=some v
def ld(ad:Addr)(sh:Sh)(k:ShV sh->HP):HP:=fun L=> ∃x,C9 ad (sh.vals x) L/\k x L
def wr:Array Value->Nat->List Value->Array Value
 |c,_,[]=>c
 |c,o,v::r=>wr (c.setIfInBounds o v) (o+1) r
def st(ad:Addr)(vs:List Value)(k:HP):HP:=fun L=>
 ∃A B c T fz,L=A++(ad.block,Obj.cells c T fz)::B/\ad.spot=none/\ad.off+vs.length<=c.size/\
  (∀i,i<vs.length-> ¬(fz.1<=ad.off+i/\ad.off+i<fz.2))/\k (A++(ad.block,Obj.cells (wr c ad.off vs) T fz)::B)
def nw(o:Obj)(k:Nat->HP):HP:=fun L=> ∀n,Sat ((n,o)::L)->k n ((n,o)::L)
def Af8(P:Program)(f:FuncId):Bool:=match P.funcs[f]? with|some fn=>fn.body.isSome|none=>false
def cl(P:Program)(f:FuncId)(args:Array Value)(rs:List Sh)(k:RsV rs->HP):HP:=fun L=>
 CallF P f args L fun v L'=> ∃r,v=Ah7 rs r/\k r L'
def clv(P:Program)(fn:Fn)(args captured:Array Value)(rs:List Sh)(k:RsV rs->HP):HP:=fun L=>
 ∃f,fn= .func f/\Af8 P f=true/\CallF P f (args++captured) L fun v L'=> ∃r,v=Ah7 rs r/\k r L'
def Az5(P:Program)(s:Sem Value)(K:Value->HP):HP:=fun L=>
 ∀E F w,S1 E w (L++F)-> ∃v w' L',s.run P w= .ok v w'/\S1 E w' (L'++F)/\K v L'
def RdV(P:Program)(s:Sem Value)(v:Value):HP:=fun L=> ∀E F w,S1 E w (L++F)->s.run P w= .ok v w
def AlV(P:Program)(s:Sem Value):Prop:= ∀w:World,∃ob v d,s.run P w= .ok v {w with heap:=w.heap.push ob,drawn:=d}
def AlVG(P:Program)(s:Sem Value)(n:Nat)(ob:Obj)(v:Value):Prop:= ∃(w:World) (d:Nat),w.heap.size=n/\s.run P w= .ok v {w with heap:=w.heap.push ob,drawn:=d}
def smP(P:Program)(s:Sem Value)(sh:Sh)(k:ShV sh->HP):HP:=fun L=> ∃r,(∀w,s.run P w= .ok (sh.val r) w)/\k r L
def smR(P:Program)(s:Sem Value)(sh:List Sh)(k:RsV sh->HP):HP:=fun L=> ∃r,RdV P s (Ah7 sh r) L/\k r L
def smA(P:Program)(s:Sem Value)(sh:Sh)(k:ShV sh->HP):HP:=fun L=>
 AlV P s/\ ∀n ob v,AlVG P s n ob v->Sat ((n,ob)::L)-> ∃r,v=sh.val r/\k r ((n,ob)::L)
def smW(P:Program)(s:Sem Value)(sh:List Sh)(k:RsV sh->HP):HP:=Az5 P s fun v L'=> ∃r,v=Ah7 sh r/\k r L'
def smU(P:Program)(s:Sem Unit)(k:HP):HP:=fun L=>
 ∀E F w,S1 E w (L++F)-> ∃w' L',s.run P w= .ok () w'/\S1 E w' (L'++F)/\k L'
@[reducible] def OvT : Option Sh -> Type
 |none=>Value
 |some s=>ShV s
def A78:(o:Option Sh)->OvT o->Value
 |none,v=>v
 |some s,x=>s.val x
def smN(P:Program)(s:Sem Value)(a b:Option Sh)(kE:HP)(kM:OvT a->OvT b->HP):HP:=
 Az5 P s fun v L'=>(v= .tuple #[.bool false]/\kE L')\/ ∃x y,v= .tuple #[.bool true,A78 a x,A78 b y]/\kM x y L'
def smE(P:Program)(s:Sem Value)(a b:Option Sh)(k:OvT a->OvT b->HP):HP:=fun L=> ∃x y,RdV P s (.tuple #[A78 a x,A78 b y]) L/\k x y L
def jn{α:Type}(b:α->HP)(r:(α->HP)->HP):HP:=r b
def lp(sh:List Sh)(x0:RsV sh)(body:RsV sh->(RsV sh->HP)->HP):HP:=fun L=>
 ∃I:Nat->RsV sh->HP,(∃k,I k x0 L)/\ ∀k x L',I k x L'->body x (fun x' L''=> ∃k',k'<k/\I k' x' L'') L'
abbrev Env:=List (Nat×Value)
def Bg4:Env->Nat->Option Value
 |[],_=>none
 |(s,v)::r,t=>match Nat.beq s t with|true=>some v|false=>Bg4 r t
def evL(env:Env):Operand->Option Value
 | .tmp t=>Bg4 env t
 | .const v=>some v
 | .global g=>some (.pointer (some ⟨g,0,none⟩))
 | .func f=>some (.func (.func f) #[] #[])
def evLs(env:Env):List Operand->Option (List Value)
 |[]=>some []
 |x::r=>match evL env x,evLs env r with|some v,some vs=>some (v::vs)|_,_=>none
def Dn8(env:Env):List (Nat×Operand)->Option (List (Nat×Value))
 |[]=>some []
 |(i,x)::r=>match evL env x,Dn8 env r with|some v,some vs=>some ((i,v)::vs)|_,_=>none
def evO(env:Env):Option Operand->Option (Option Value)
 |none=>some none
 |some x=>match evL env x with|some v=>some (some v)|none=>none
def evA(env:Env)(xs:Array Operand):Option (Array Value):=match evLs env xs.toList with|some vs=>some vs.toArray|none=>none
def A85(P:Program)(t:TypeId):Option Value:=match P.info? t with|some i=>i.zero|none=>none
def T6:Value->Bool| .agg _| .tuple _=>false|_=>true
def Bi4(P:Program)(s:TypeId)(f:Nat):Option Nat:=
 match P.underlying s with
 |some (.struct fs)=>match fs[f]? with
  |some fd=>match Q2 P fd.type with
   |some (_+1)=>some fd.offset
   |_=>none
  |none=>none
 |_=>none
def Ck6(P:Program)(t:TypeId)(cs:Array Value)(off:Nat):Option Value:=
 match P.underlying t,Q2 P t with
 |some (.struct _),some n|some (.array _ _),some n=>some (.agg (cs.extract off (off+n)))
 |some _,some _=>cs[off]?
 |_,_=>none
def Br2:Operand->Bool
 | .const (.pointer none)| .const (.slice none _ _)| .const (.map none)=>true
 |_=>false
def Ao1(op:BinOp)(k:IntKind)(x y:Int):Int:=
 let a:=BitVec.ofInt k.bits x
 let b:=BitVec.ofInt k.bits y
 k.wrap (match op with| .and=>(a&&&b).toNat| .or=>(a|||b).toNat| .xor=>(a^^^b).toNat|_=>(a&&& ~~~b).toNat)
def Ad3(x y:Int):Int:=if y<x then y else x
def Aa2(x y:Int):Int:=if y>x then y else x
def Ct5(s:ByteArray)(i:Int):Int:=((s.data.getD i.toNat 0).toNat:Int)
def Q0(v:SlV)(l h m:Int)(size:Nat):SlV:=⟨if m.toNat=l.toNat then v.a else v.a.map (·.add (l.toNat*size)),h.toNat-l.toNat,m.toNat-l.toNat⟩
def slc(v:SlV)(l h m:Int)(size:Nat)(k:SlV->HP):HP:=req (0<=l/\l<=h/\h<=m/\m<=v.cap) (k (Q0 v l h m size))
def sls(s:ByteArray)(l h:Int)(k:ByteArray->HP):HP:=req (0<=l/\l<=h/\h<=s.size) (k (s.extract l.toNat h.toNat))
def ixn(i:Int)(n:Int)(k:HP):HP:=req (0<=i/\i<n) k
def Ab1:List Value->Option (IntKind×List Int)
 |[]=>none
 |[.int k n]=>some (k,[n])
 | .int k n::r=>match Ab1 r with|some (_,ns)=>some (k,n::ns)|none=>none
 |_=>none
section
variable (P:Program)
def B01(op:BinOp)(kx:IntKind)(a b:Int)(k:Value->List HP->HP):HP:=
 match op with
 | .add=>k (.int kx (kx.wrap (a+b))) []
 | .sub=>k (.int kx (kx.wrap (a-b))) []
 | .mul=>k (.int kx (kx.wrap (a*b))) []
 | .quo=>req (b≠0) (k (.int kx (kx.wrap (a.tdiv b))) [])
 | .rem=>req (b≠0) (k (.int kx (a.tmod b)) [])
 | .and=>k (.int kx (Ao1 .and kx a b)) []
 | .or=>k (.int kx (Ao1 .or kx a b)) []
 | .xor=>k (.int kx (Ao1 .xor kx a b)) []
 | .andNot=>k (.int kx (Ao1 .andNot kx a b)) []
 | .eql=>k (.bool (a==b)) []
 | .neq=>k (.bool (a !=b)) []
 | .lss=>k (.bool (decide (a<b))) []
 | .leq=>k (.bool (decide (a<=b))) []
 | .gtr=>k (.bool (decide (a>b))) []
 | .geq=>k (.bool (decide (a≥b))) []
 |_=>ff
def Ba6(t:TypeId):Bool:=match P.underlying t with|some (.int _)=>true|_=>false
def Br1(t:TypeId):Bool:=match P.underlying t with|some .string=>true|_=>false
def A42(t:TypeId):Bool:=match P.underlying t with|some .bool=>true|_=>false
def Y1(t:TypeId):Bool:=match P.underlying t with|some (.pointer _)=>true|_=>false
def Co6(t:TypeId):Bool:=match P.underlying t with|some (.slice _)=>true|_=>false
def B69(op:BinOp)(xt:TypeId)(nl:Bool)(x y:Value)(k:Value->List HP->HP):HP:=
 match x,y with
 | .int kx a,.int ky b=>match Ba6 P xt,op,B51 kx ky with
  |true,.shl,_=>req (0<=b) (k (.int kx (kx.wrap (a*2^(min b.toNat kx.bits)))) [])
  |true,.shr,_=>req (0<=b) (k (.int kx (a.fdiv (2^(min b.toNat kx.bits)))) [])
  |true,op,true=>B01 op kx a b k
  |_,_,_=>ff
 | .string a,.string b=>match Br1 P xt,op with
  |true,.add=>req (((a.size+b.size:Nat):Int)<=IntKind.i64.max) (k (.string (a++b)) [])
  |true,.eql=>k (.bool (a.toList==b.toList)) []
  |true,.neq=>k (.bool (!(a.toList==b.toList))) []
  |true,.lss=>k (.bool (Op.bytesLess a.toList b.toList)) []
  |true,.leq=>k (.bool (Op.bytesLess a.toList b.toList||a.toList==b.toList)) []
  |true,.gtr=>k (.bool (!(Op.bytesLess a.toList b.toList||a.toList==b.toList))) []
  |true,.geq=>k (.bool (!(Op.bytesLess a.toList b.toList))) []
  |_,_=>ff
 | .bool a,.bool b=>match A42 P xt,op with
  |true,.eql=>k (.bool (a==b)) []
  |true,.neq=>k (.bool (!(a==b))) []
  |_,_=>ff
 | .pointer a,.pointer b=>match Y1 P xt,nl,op with
  |true,true,.eql=>(match b with|none=>k (.bool a.isNone) []|_=>ff)
  |true,true,.neq=>(match b with|none=>k (.bool (!a.isNone)) []|_=>ff)
  |true,false,.eql=>smR P (binOp .eql xt (.pointer a) (.pointer b)) [.lf .bool] fun r=>k (.bool r.1) [RdV P (binOp .eql xt (.pointer a) (.pointer b)) (.bool r.1)]
  |true,false,.neq=>smR P (binOp .neq xt (.pointer a) (.pointer b)) [.lf .bool] fun r=>k (.bool r.1) [RdV P (binOp .neq xt (.pointer a) (.pointer b)) (.bool r.1)]
  |_,_,_=>ff
 | .slice a n c,.slice b m d=>match Co6 P xt,op,b with
  |true,.eql,none=>k (.bool a.isNone) []
  |true,.neq,none=>k (.bool (!a.isNone)) []
  |_,_,_=>ff
 | .agg a,.agg b=>match op,Y1 P xt,P.eqGuardType P.depth xt with
  | .eql,false,false=>smP P (binOp .eql xt (.agg a) (.agg b)) (.lf .bool) fun r=>k (.bool r) []
  | .neq,false,false=>smP P (binOp .neq xt (.agg a) (.agg b)) (.lf .bool) fun r=>k (.bool r) []
  |_,_,_=>ff
 |_,_=>ff
def B02(o:Oper)(env:Env)(op:BinOp)(xt:TypeId)(x y:Operand)(k:Value->List HP->HP):HP:=
 match evL env x with
 |some vx=>match evL env y with
  |some vy=>B69 P op xt (Br2 y) vx vy k
  |none=>ff
 |none=>ff
def Cd9(d:Int):Option Value->Option Int
 |none=>some d
 |some (.int _ n)=>some n
 |_=>none
def Bi1(o:Oper)(env:Env)(c:Call)(W:HP->HP)(k:Value->List HP->HP):HP:=
 match evA env c.args with
 |none=>ff
 |some args=>
  match c.callee with
  | .value (.func f)=>match P.funcs[f]? with
   |some fn=>match fn.body.isSome,Ca0 P fn.resultTypes.toList with
    |true,some rs=>cl P f args rs fun r=>W (k (Ah7 rs r) [])
    |_,_=>ff
   |none=>ff
  | .value x=>match evL env x with
   |some (.func fn first captured)=>match P.underlying o.type with
    |some (.tuple ts)=>match Ca0 P ts.toList with
     |some rs=>clv P fn (first++args) captured rs fun r=>W (k (Ah7 rs r) [])
     |none=>ff
    |_=>match Ca1 P o.type with
     |some s=>clv P fn (first++args) captured [s] fun r=>W (k (s.val r.1) [])
     |none=>ff
   |_=>ff
  | .builtin b=>
   match b,args.toList,c.argTypes.toList with
   | .len,[.string s],[t]=>match P.underlying t with|some .string=>k (.int .i64 s.size) []|_=>ff
   | .len,[.slice _ n _],[t]=>match P.underlying t with|some (.slice _)=>k (.int .i64 n) []|_=>ff
   | .len,[.map r],[t]=>match P.underlying t with
    |some (.map _ _)=>smR P (Builtin.len_ c.argTypes o.type args) [.lf (.int .i64)] fun r=>k (.int .i64 r.1) [RdV P (Builtin.len_ c.argTypes o.type args) (.int .i64 r.1)]
    |_=>ff
   | .len,[x],[t]=>match P.underlying t with
    |some (.array n _)=>k (.int .i64 n) []
    |some (.pointer u)=>match P.underlying u with|some (.array n _)=>k (.int .i64 n) []|_=>ff
    |_=>ff
   | .cap,[.slice _ _ n],[t]=>match P.underlying t with|some (.slice _)=>k (.int .i64 n) []|_=>ff
   | .min,vs,_=>match Ab1 vs with|some (kd,n::ns)=>k (.int kd (ns.foldl Ad3 n)) []|_=>ff
   | .max,vs,_=>match Ab1 vs with|some (kd,n::ns)=>k (.int kd (ns.foldl Aa2 n)) []|_=>ff
   | .append,_,_=>smW P (Builtin.append_ c.argTypes o.type args) [.lf .sl] fun r=>W (k (.slice r.1.a r.1.len r.1.cap) [])
   | .copy,_,_=>smW P (Builtin.copy_ c.argTypes o.type args) [.lf (.int .i64)] fun r=>W (k (.int .i64 r.1) [])
   | .clear,_,_=>smW P (Builtin.clear_ c.argTypes o.type args) [] fun _=>W (k (.tuple #[]) [])
   | .delete,_,_=>smW P (Builtin.delete_ c.argTypes o.type args) [] fun _=>W (k (.tuple #[]) [])
   |_,_,_=>ff
  |_=>ff
def D3(o:Oper):Cls:=
 match o.op with
 | .load _ _| .lookup _ _ _ _| .entry _=>.R
 | .binOp op xt x y _=>match op,Br2 y,Y1 P xt with
  | .eql,false,true=>.R
  | .neq,false,true=>.R
  |_,_,_=>.P
 | .alloc _| .box _ _| .buildSlice _ _ _| .makeMap _ _| .makeSlice _ _ _=>.A
 | .convert src dst _=>match P.underlying src,P.underlying dst with
  |some .string,some (.slice _)=>.A
  |some (.slice _),some .string=>.R
  |some (.slice _),some (.slice _)=>.W
  |_,_=>.P
 | .store _ _ _| .mapUpdate _ _ _ _| .insert _ _ _ _| .range _ _| .next _ _| .mapEntry _ _ _| .entryStore _ _ _ _=>.W
 | .call c=>match c.callee with
  | .builtin .len=>match c.argTypes.toList with
   |[t]=>match P.underlying t with|some (.map _ _)=>.R|_=>.P
   |_=>.P
  | .builtin .cap| .builtin .min| .builtin .max=>.P
  |_=>.W
 |_=>.P
def G6(X:Nat->Option Sh)(o:Oper)(env:Env)(W:HP->HP)(k:Value->List HP->HP):HP:=
 match o.op with
 | .move x| .assign x=>match evL env x with|some v=>k v []|none=>ff
 | .pick c a b=>match evL env c,evL env a,evL env b with
  |some (.bool t),some va,some vb=>ifB t (k va []) (k vb [])
  |_,_,_=>ff
 | .alloc t=>match A85 P t with|some z=>nw (.cells z.cells t) fun n=>k (.pointer (some ⟨n,0,none⟩)) []|none=>ff
 | .box t x=>match evL env x with|some v=>nw (.cells v.cells t) fun n=>k (.pointer (some ⟨n,0,none⟩)) []|none=>ff
 | .build t parts=>match Dn8 env parts.toList,A85 P t,P.underlying t with
  |some ps,some z,some (.struct fs)=>match fs.toList.mapM (fun f=>match Q2 P f.type with|some n=>some (f.offset,n)|none=>none)with
   |some pl=>match Instr.fill (pl[·]?) z.cells ps with|some cs=>k (.agg cs) []|none=>ff
   |none=>ff
  |some ps,some z,some (.array _ e)=>match Q2 P e with
   |some n=>match Instr.fill (fun i=>some (i*n,n)) z.cells ps with|some cs=>k (.agg cs) []|none=>ff
   |none=>ff
  |_,_,_=>ff
 | .buildSlice t len parts=>match Dn8 env parts.toList,P.underlying t with
  |some ps,some (.slice e)=>match Q2 P e,A85 P e with
   |some n,some z=>match Nat.ble (len*n) (2^24),Nat.beq (len*n) 0,Instr.fill (fun i=>some (i*n,n)) ((Array.range (len*n)).map (z.cells[· %z.cells.size]!)) ps with
    |true,false,some cs=>nw (.cells cs e) fun b=>k (.slice (some ⟨b,0,none⟩) len len) []
    |_,_,_=>match Nat.beq len 0,ps with
     |true,[]=>nw (.cells #[] e) fun b=>k (.slice (some ⟨b,0,none⟩) 0 0) []
     |_,_=>ff
   |_,_=>ff
  |_,_=>ff
 | .load t x=>match evL env x,Ca1 P t with
  |some (.pointer p),some sh=>A8 p fun ad=>ld ad sh fun y=>k (sh.val y) [C9 ad (sh.vals y)]
  |_,_=>ff
 | .store t a x=>match evL env a,evL env x,Q2 P t with
  |some (.pointer p),some v,some n=>match v.cells.toList.all T6&&Nat.beq v.cells.toList.length n with
   |true=>A8 p fun ad=>st ad v.cells.toList (W (k undef []))
   |false=>ff
  |_,_,_=>ff
 | .nilCheck x=>match evL env x with
  |some (.pointer p)=>A8 p fun a=>k (.pointer (some a)) []
  |_=>ff
 | .binOp op xt x y _=>B02 P o env op xt x y k
 | .unOp op _ x=>match op,evL env x with
  | .not,some (.bool b)=>k (.bool (!b)) []
  | .neg,some (.int kd n)=>k (.int kd (kd.wrap (0-n))) []
  | .xor,some (.int kd n)=>k (.int kd (Ao1 .xor kd (if kd.signed then-1 else kd.max) n)) []
  |_,_=>ff
 | .convert src dst x=>match evL env x,P.underlying src,P.underlying dst with
  |some (.int _ n),some (.int _),some (.int kd)=>k (.int kd (kd.wrap n)) []
  |some (.string s),some .string,some .string=>k (.string s) []
  |some (.string s),some .string,some (.slice e)=>match P.underlying e with
   |some (.int .u8)=>smA P (Conv.stringToBytes e s) (.lf .sl) fun r=>k (.slice r.a r.len r.cap) []
   |_=>ff
  |some (.slice a n c),some (.slice _),some (.slice _)=>smW P (convert src dst (.slice a n c)) [.lf .sl] fun r=>W (k (.slice r.1.a r.1.len r.1.cap) [])
  |some (.slice a n c),some (.slice e),some .string=>match P.underlying e with
   |some (.int .u8)=>smR P (Conv.bytesToString (.slice a n c)) [.lf .str] fun r=>k (.string r.1) [RdV P (Conv.bytesToString (.slice a n c)) (.string r.1)]
   |_=>ff
  |_,_,_=>ff
 | .makeFunc fn first captured=>match evA env first,evA env captured with
  |some a,some b=>k (.func fn a b) []
  |_,_=>ff
 | .makeMap t none=>nw (.map #[] 0) fun n=>k (.map (some n)) []
 | .makeSlice t l c=>match evL env l,evL env c with
  |some (.int kl nl),some (.int kc nc)=>smA P (Instr.makeSlice t (.int kl nl) (.int kc nc)) (.lf .sl) fun r=>k (.slice r.a r.len r.cap) []
  |_,_=>ff
 | .slice t x lo hi mx=>match evL env x,evO env lo,evO env hi,evO env mx,P.underlying t with
  |some (.string s),some lo,some hi,some none,some .string=>match Cd9 0 lo,Cd9 s.size hi with
   |some l,some h=>sls s l h fun r=>k (.string r) []
   |_,_=>ff
  |some (.slice a n c),some lo,some hi,some mx,some (.slice e)=>match Q2 P e,Cd9 0 lo,Cd9 n hi,Cd9 c mx,hi,mx with
   |_,_,_,_,none,some _=>ff
   |some sz,some l,some h,some m,_,_=>slc ⟨a,n,c⟩ l h m sz fun r=>k (.slice r.a r.len r.cap) []
   |_,_,_,_,_,_=>ff
  |some (.pointer p),some lo,some hi,some none,some (.array n e)=>match Q2 P e,Cd9 0 lo,Cd9 n hi with
   |some sz,some l,some h=>A8 p fun a=>slc ⟨some a,n,n⟩ l h n sz fun r=>k (.slice r.a r.len r.cap) []
   |_,_,_=>ff
  |_,_,_,_,_=>ff
 | .fieldAddr s x f=>match evL env x,Bi4 P s f with
  |some (.pointer p),some off=>A8 p fun a=>k (.pointer (some (a.add off))) []
  |_,_=>ff
 | .field s x f=>match evL env x,P.underlying s with
  |some (.agg cs),some (.struct fs)=>match fs[f]? with
   |some fd=>match Ck6 P fd.type cs fd.offset with|some v=>k v []|none=>ff
   |none=>ff
  |_,_=>ff
 | .indexAddr t x i=>match evL env x,evL env i,P.underlying t with
  |some (.slice a n _),some (.int _ j),some (.slice e)=>match Q2 P e with
   |some sz=>A8 a fun ad=>ixn j n (k (.pointer (some (ad.add (j.toNat*sz)))) [])
   |none=>ff
  |some (.pointer p),some (.int _ j),some (.array n e)=>match Q2 P e with
   |some sz=>A8 p fun ad=>ixn j n (k (.pointer (some (ad.add (j.toNat*sz)))) [])
   |none=>ff
  |_,_,_=>ff
 | .index t x i=>match evL env x,evL env i,P.underlying t with
  |some (.string s),some (.int _ j),some .string=>ixn j s.size (k (.int .u8 (Ct5 s j)) [])
  |some (.agg cs),some (.int kk j),some (.array _ _)=>match Ca1 P o.type with
   |some sh=>smP P (Instr.index t (.agg cs) (.int kk j)) sh fun r=>k (sh.val r) []
   |none=>ff
  |_,_,_=>ff
 | .lookup t x i ok=>match evL env x,evL env i,P.underlying t with
  |some vm,some vi,some (.map _ e)=>match Ca1 P e,ok with
   |some s,false=>smR P (Instr.lookup t vm vi false) [s] fun r=>k (s.val r.1) [RdV P (Instr.lookup t vm vi false) (s.val r.1)]
   |some s,true=>smR P (Instr.lookup t vm vi true) [s,.lf .bool] fun r=>k (.tuple #[s.val r.1,.bool r.2.1]) [RdV P (Instr.lookup t vm vi true) (.tuple #[s.val r.1,.bool r.2.1])]
   |_,_=>ff
  |_,_,_=>ff
 | .mapUpdate t m i x| .insert t m i x=>match evL env m,evL env i,evL env x with
  |some vm,some vi,some vx=>smU P (Instr.mapUpdate t vm vi vx) (W (k undef []))
  |_,_,_=>ff
 | .range t x=>match evL env x with
  |some v=>smW P (Instr.range t v) [.lf .ptr] fun r=>W (k (.pointer r.1) [])
  |none=>ff
 | .next it str=>match evL env it with
  |some (.pointer p)=>smN P (Instr.next (.pointer p) str o.type) (match str with|true=>some (.lf (.int .i64))|false=>none) (match str with|true=>some (.lf (.int .i32))|false=>none)
    (W (k (.tuple #[.bool false]) [])) fun x y=>W (k (.tuple #[.bool true,A78 _ x,A78 _ y]) [])
  |_=>ff
 | .entry it=>match evL env it with
  |some (.pointer p)=>smE P (Instr.entry (.pointer p)) (X 0) (X 1) fun x y=>k (.tuple #[A78 _ x,A78 _ y]) [RdV P (Instr.entry (.pointer p)) (.tuple #[A78 _ x,A78 _ y])]
  |_=>ff
 | .extract x i=>match evL env x with
  |some (.tuple vs)=>match vs[i]? with|some v=>k v []|none=>ff
  |_=>ff
 | .call c=>Bi1 P o env c W k
 |_=>ff
def Di6(n:Nat)(env:Env)(dst:Option Tmp)(v:Value)(k:Env->HP):HP:=
 match dst with
 |none=>k env
 |some d=>match Nat.blt d n with|true=>k ((d,v)::env)|false=>ff
def Dj2(drawn:Bool)(i:Nat)(φs:List HP)(T:List (Nat×HP)):List (Nat×HP):=match drawn with|true=>φs.map (i, ·)++T|false=>T
def C64(ops:List Oper)(d:Option Tmp)(j:Nat):Option Sh:=
 match ops with
 |[]=>none
 |o::r=>match o.op with
  | .extract (.tmp t) i=>match(match d with|some d=>Nat.beq t d&&Nat.beq i j|none=>false)with
   |true=>Ca1 P o.type
   |false=>C64 r d j
  |_=>C64 r d j
def Af4(n:Nat)(ops:Array Oper)(anc:Nat->Nat->Bool)(drawn:Bool):List Nat->Env->List (Nat×HP)->(Env->HP)->HP
 |[],env,_,K=>K env
 |i::r,env,T,K=>match ops[i]? with
  |none=>ff
  |some o=>
   let run:Env->HP:=fun env=>G6 P (C64 P ops.toList o.dst) o env (Bh2 ((T.filter fun q=> !anc q.1 i).map (·.2))) fun v φs=>
    Di6 n env o.dst v fun env'=>Af4 n ops anc drawn r env' (Dj2 drawn i φs T) K
   let skip:Env->HP:=fun env=>Di6 n env o.dst undef fun env'=>Af4 n ops anc drawn r env' T K
   match o.guard with
   |none=>run env
   |some (j,want)=>match(match ops[j]? with|some oj=>oj.dst|none=>none)with
    |none=>ff
    |some d=>match Bg4 env d with
     |some (.bool t)=>ifB t (match want with|true=>run ((d,.bool true)::env)|false=>skip ((d,.bool true)::env))
       (match want with|true=>skip ((d,.bool false)::env)|false=>run ((d,.bool false)::env))
     |some (.tuple _)=>skip env
     |_=>ff
structure D1 where
 loops:List (Nat×List (Nat×Sh))
 joins:List (Nat×List (Nat×Sh))
 plans:List (Nat×List Nat)
def Cc4{α:Type}:List (Nat×α)->Nat->Option α
 |[],_=>none
 |(i,x)::r,j=>match Nat.beq i j with|true=>some x|false=>Cc4 r j
def Dd1(ops:Array Oper):List Nat:=ops.toList.filterMap (·.dst)
def Ac1:Code->List Nat
 | .region _ ops _=>Dd1 ops
 | .seq a b=>Ac1 a++Ac1 b
 | .cond _ a b=>Ac1 a++Ac1 b
 | .block _ c=>Ac1 c
 | .loop c=>Ac1 c
 | .scope c=>Ac1 c
 |_=>[]
def memN:List Nat->Nat->Bool
 |[],_=>false
 |x::r,y=>match Nat.beq x y with|true=>true|false=>memN r y
def An8:Code->Option Nat
 | .region id _ _=>some id
 | .seq a _=>An8 a
 | .block _ c=>An8 c
 |_=>none
def joinH(H:List (Nat×List (Nat×Sh)))(y:Code):Option (List (Nat×Sh)):=match An8 y with|some r=>Cc4 H r|none=>none
def Bp6(env:Env):(cs:List (Nat×Sh))->Option (RsV (cs.map (·.2)))
 |[]=>some ()
 |(t,s)::r=>match(match Bg4 env t with|some v=>s.of v|none=>none),Bp6 env r with
  |some x,some y=>some (x,y)
  |_,_=>none
def Bm4:(cs:List (Nat×Sh))->RsV (cs.map (·.2))->Env
 |[],_=>[]
 |(t,s)::r,x=>(t,s.val x.1)::Bm4 r x.2
def Aw4(mods:List Nat):Env->Env
 |[]=>[]
 |(t,v)::r=>match memN mods t with|true=>Aw4 mods r|false=>(t,v)::Aw4 mods r
def Cf8(env:Env)(c:Operand)(b:Bool):Env:=match c with| .tmp t=>(t,.bool b)::env|_=>env
def A82(H:D1)(n:Nat):Code->Nat->(Env->HP)->(Nat->Env->HP)->(Env->HP)->Env->HP
 | .skip,_,Kn,_,_,env=>Kn env
 | .region id ops false,_,Kn,_,_,env=>Af4 P n ops (fun _ _=>true) false (List.range ops.size) env [] Kn
 | .region id ops true,_,Kn,_,_,env=>match Cc4 H.plans id with
  |none=>ff
  |some π=>match Ck8 ops (Ah2 (G4 ops.toList [])) (fun i=>match ops[i]? with|some o=>D3 P o|none=>.P) π with
   |true=>Af4 P n ops (Ah2 (G4 ops.toList [])) true π env [] Kn
   |false=>ff
 | .seq x y,b,Kn,Kx,Kr,env=>match joinH H.joins y with
  |none=>A82 H n x b (fun env'=>A82 H n y b Kn Kx Kr env') Kx Kr env
  |some cs=>
   let j:RsV (cs.map (·.2))->HP:=fun v=>A82 H n y b Kn Kx Kr (Bm4 cs v++Aw4 (Ac1 x) env)
   A82 H n x b (fun env'=>match Bp6 env' cs with|some v=>j v|none=>ff) Kx Kr env
 | .cond c x y,b,Kn,Kx,Kr,env=>match evL env c with
  |some (.bool t)=>ifB t (A82 H n x b Kn Kx Kr (Cf8 env c true)) (A82 H n y b Kn Kx Kr (Cf8 env c false))
  |_=>ff
 | .block id c,_,Kn,Kx,Kr,env=>A82 H n c id Kn (fun e env'=>match Nat.beq e id with|true=>Kn env'|false=>Kx e env') Kr env
 | .loop c,b,_,Kx,Kr,env=>match Cc4 H.loops b with
  |none=>ff
  |some cs=>match Bp6 env cs with
   |none=>ff
   |some x0=>lp (cs.map (·.2)) x0 fun x Dp4=>
    A82 H n c b (fun env'=>match Bp6 env' cs with|some x'=>Dp4 x'|none=>ff) Kx Kr (Bm4 cs x++Aw4 (Ac1 c) env)
 | .exit id,_,_,Kx,_,env=>Kx id env
 | .ret,_,_,_,Kr,env=>Kr env
 | .scope c,b,Kn,Kx,Kr,env=>A82 H n c b Kn Kx Kr env
 | .label _,_,Kn,_,_,env=>Kn env
 |_,_,_,_,_,_=>ff
def Dh6(env:Env):List ResultVar->(List Value->HP)->HP
 |[],K=>K []
 | .tmp t::r,K=>match Bg4 env t with|some v=>Dh6 env r fun vs=>K (v::vs)|none=>ff
 | .cell t ty::r,K=>match Bg4 env t,Ca1 P ty with
  |some (.pointer p),some sh=>A8 p fun ad=>ld ad sh fun x=>Dh6 env r fun vs=>K (sh.val x::vs)
  |_,_=>ff
def At4:List Value->Value
 |[v]=>v
 |vs=>.tuple vs.toArray
def zipE:Nat->List Value->Env
 |_,[]=>[]
 |i,v::r=>(i,v)::zipE (i+1) r
def A54(H:D1)(fn:Func)(args:List Value)(K:Value->HP):HP:=
 match fn.body,Nat.ble args.length fn.ntmps with
 |some c,true=>
  let R:Env->HP:=fun env=>Dh6 P env fn.results.toList fun vs=>K (At4 vs)
  A82 P H fn.ntmps c 0 R (fun _ _=>ff) R (zipE 0 args)
 |_,_=>ff
end
structure O2(n:Nat)(env:Env)(a:Act):Prop where
 size:a.tmps.size=n
 defers:a.defers=[]
 at': ∀t v,Bg4 env t=some v->a.tmps[t]?=some v
def A67 (P : Program) : Prop := P.funcs.all (fun fn => !(fn.name == "runtime.NumGoroutine")) = true
section
variable {P:Program} {n:Nat} {env:Env} {a:Act} (hY:O2 n env a)
include hY
theorem O2.ev{x:Operand}{v:Value}(h:evL env x=some v):a.eval x=v:=by
 cases x with
 |tmp t=>
  have:=hY.at' t v h;simp[Act.eval,this]
 |const v=>simpa[evL,Act.eval]using h
 |global g=>simpa[evL,Act.eval]using h
 |func f=>simpa[evL,Act.eval]using h
theorem O2.evs: ∀{xs:List Operand} {vs:List Value},evLs env xs=some vs->xs.map a.eval=vs
 |[],vs,h=>by simp[evLs]at h;simp[h]
 |x::r,vs,h=>by
  simp only[evLs]at h;split at h
  ·rename_i v vs' hv kF;obtain rfl:=Dq9 h;simp[hY.ev hv,O2.evs kF]
  ·cases h
theorem O2.evps: ∀{xs:List (Nat×Operand)} {vs:List (Nat×Value)},Dn8 env xs=some vs->xs.map (fun(i,x)=>(i,a.eval x))=vs
 |[],vs,h=>by simp[Dn8]at h;simp[h]
 |(i,x)::r,vs,h=>by
  simp only[Dn8]at h;split at h
  ·rename_i v vs' hv kF;obtain rfl:=Dq9 h;simp[hY.ev hv,O2.evps kF]
  ·cases h
theorem O2.eva{xs:Array Operand}{vs:Array Value}(h:evA env xs=some vs):xs.map a.eval=vs:=by
 unfold evA at h;split at h
 ·rename_i l hl;obtain rfl:=Dq9 h;rw[<-hY.evs hl];exact D68 (by simp)
 ·cases h
theorem O2.evpa{xs:Array (Nat×Operand)}{vs:List (Nat×Value)}(h:Dn8 env xs.toList=some vs):(xs.map fun(i,x)=>(i,a.eval x)).toList=vs:=by
 rw[<-hY.evps h];simp
theorem O2.evo{x:Option Operand}{v:Option Value}(h:evO env x=some v):x.map a.eval=v:=by
 cases x with
 |none=>simpa[evO]using h
 |some x=>
  simp only[evO]at h;split at h
  ·rename_i v' hv;obtain rfl:=Dq9 h;simp[hY.ev hv]
  ·cases h
end
def Bc6(P:Program)(c:Cls)(o:Oper)(a:Act)(L:A4)(φs:List HP)(k:Value->List HP->HP):Prop:=
 match c with
 | .P=> ∃v,(∀w,(execOp a.eval o).run P w= .ok (.value v) w)/\k v [] L
 | .R=> ∃v φ,RdS P (execOp a.eval o) L v/\(∀L',φ L'->RdS P (execOp a.eval o) L' v)/\k v [φ] L
 | .A=>AlAll P (execOp a.eval o)/\ ∀n ob v,AlG P (execOp a.eval o) n ob v->Sat ((n,ob)::L)->k v [] ((n,ob)::L)
 | .W=>OpF P o a L fun a' L'=> ∃v,a'=a.put o.dst v/\(∀φ∈φs,φ L')/\k v [] L'
theorem K3{φs:List HP}{k:HP}{L:A4}(h:Bh2 φs k L):(∀φ∈φs,φ L)/\k L:=by
 induction φs with
 |nil=>exact⟨by simp,h⟩
 |cons φ r ih=>
  obtain⟨h1,h2⟩:=h;obtain⟨h3,h4⟩:=ih h2;refine⟨fun ψ hψ=>?_,h4⟩;rcases Dt5.1 hψ with rfl|hψ
  ·exact h1
  ·exact h3 ψ hψ
theorem W1{p:Option Addr}{k:Addr->HP}{L:A4}(h:A8 p k L): ∃a,p=some a/\k a L:=by
 cases p with
 |none=>exact h.elim
 |some a=>exact⟨a,rfl,h⟩
theorem Bh4{t:Bool}{A B:HP}{L:A4}(h:ifB t A B L):(t=true/\A L)\/(t=false/\B L):=by
 cases t
 ·exact .inr ⟨rfl,h⟩
 ·exact .inl ⟨rfl,h⟩
theorem A40{k k':IntKind}(h:B51 k k'=true):k=k':=by cases k<;>cases k'<;>first|rfl|cases h
theorem H1{P:Program}{t:TypeId}{n:Nat}(h:Q2 P t=some n)(w:World):(sizeOf t).run P w= .ok n w:=by
 unfold Q2 at h;split at h
 ·rename_i i hi;obtain rfl:=Dq9 h;simp[sizeOf,typeInfo,hi]
 ·cases h
theorem Af1{P:Program}{t:TypeId}{z:Value}(h:A85 P t=some z)(w:World):(zeroValue t).run P w= .ok z w:=by
 unfold A85 at h;split at h
 ·rename_i i hi;simp[zeroValue,typeInfo,hi,h]
 ·cases h
theorem D4{P:Program}{t:TypeId}{d:TypeDesc}(h:P.underlying t=some d)(w:World):(underlying t).run P w= .ok d w:=run_underlying h w
def De1:TypeDesc->Bool| .struct _| .array _ _=>true|_=>false
theorem A12{P:Program}{t:TypeId}{d:TypeDesc}(h:P.underlying t=some d)(w:World):(isAgg t).run P w= .ok (De1 d) w:=by
 simp only[isAgg,Sem.run_bind,run_underlying h,Result.andThen_ok];cases d<;>rfl
theorem S1.cell{E w:World}{L:A4}(h:S1 E w L){b:Nat}{c:Array Value}{T:TypeId}{fz:Nat×Nat}(hm:(b,Obj.cells c T fz)∈L)(i:Nat):w.cell? ⟨b,i,none⟩=c[i]?:=by
 have:=h.blk _ hm;simp only at this;simp[World.cell?,this]
theorem P2{ad:Addr}(hs:ad.spot=none)(i:Nat):ad.add i=⟨ad.block,ad.off+i,none⟩:=by
 obtain⟨b,o,s⟩:=ad;simp only at hs;subst hs;unfold Addr.add;split
 ·rename_i h;subst h;rfl
 ·rfl
theorem C9.cells{E w:World}{L F:A4}(h:S1 E w (L++F)){ad:Addr}{vs:List Value}(hl:C9 ad vs L): ∀i v,vs[i]?=some v->w.cell? (ad.add i)=some v:=by
 obtain⟨c,T,fz,hm,hs,hc⟩:=hl;intro i v hv;rw[P2 hs,h.cell (Ds8 _ hm)];exact hc i v hv
theorem Aq1: ∀(ls:List Lf) (x:LfVs ls),(Av9 ls x).length=ls.length
 |[],_=>rfl
 |l::r,x=>by simp[Av9,Aq1 r]
theorem Cg9{P:Program}{t:TypeId}{sh:Sh}(h:Ca1 P t=some sh): ∃d n,P.underlying t=some d/\Q2 P t=some n/\
    ((∃ls,sh= .agg ls/\ls.length=n/\De1 d=true)\/
     (∃l,sh= .lf l/\n=1/\De1 d=false)):=by
  unfold Ca1 at h;split at h
  · rename_i ls n d hl hn hd
    refine⟨d,n,hd,hn,?_⟩;split at h
    · rename_i fs hb
      obtain rfl:=Dq9 h;exact .inl ⟨ls,rfl,Dz0 hb,rfl⟩
    · rename_i k e hb
      obtain rfl:=Dq9 h;exact .inl ⟨ls,rfl,Dz0 hb,rfl⟩
    · rename_i hb cN wD
      split at h
      · rename_i l
        obtain rfl:=Dq9 h;refine .inr ⟨l,rfl,(Dz0 hb).symm,?_⟩;unfold De1;split
        · exact(cN _ rfl).elim
        · exact(wD _ _ rfl).elim
        · rfl
      · cases h
    · cases h
  · cases h
theorem Av8{P:Program}{t:TypeId}{sh:Sh}(h:Ca1 P t=some sh)(x:ShV sh){ad:Addr}{w:World}(hc: ∀i v,(sh.vals x)[i]?=some v->w.cell? (ad.add i)=some v):
  (loadVar t ad).run P w= .ok (sh.val x) w:=by
 obtain⟨d,n,hd,hn,h⟩:=Cg9 h;unfold loadVar;rcases h with⟨ls,rfl,rfl,hb⟩|⟨l,rfl,rfl,hb⟩
 ·simp only[Sem.run_bind,A12 hd,Result.andThen_ok,hb,if_true,H1 hn];have:=run_loadCells_list (P:=P) w ad (Av9 ls x) hc;rw[Aq1]at this;simp[this,Sh.val]
 ·simp only[Sem.run_bind,A12 hd,Result.andThen_ok,hb,Dx5,if_false];have:=hc 0 (l.val x) rfl;simp only[Addr.add,if_true]at this;simp[this,Sh.val]
theorem Cb2{v:Value}(h:T6 v=true):v.oneCell'=true:=by cases v<;>first|rfl|cases h
theorem Bm8{w:World}{b i:Nat}{v:Value}{c:Array Value}{T:TypeId}{fz:Nat×Nat}(h:w.heap[b]?=some (.cells c T fz)):
  w.setCell ⟨b,i,none⟩ v={w with heap:=w.heap.setIfInBounds b (.cells (c.setIfInBounds i v) T fz)}:=by
 unfold World.setCell;congr 1;apply D33;intro j;rw[Ed5];obtain⟨hb,hg⟩:=D11.1 h;by_cases hj:b=j
 ·subst hj;simp[hb,hg]
 ·rw[Dq4 hj,D22 hj]
theorem S3{P:Program}{E:World}{F:A4}{A B:A4}{b:Nat}{T:TypeId}{fz:Nat×Nat}: ∀(vs:List Value) (c:Array Value) (o i:Nat) (w:World),
  vs.all T6=true->S1 E w ((A++(b,Obj.cells c T fz)::B)++F)->o+i+vs.length<=c.size->(∀j,j<vs.length-> ¬(fz.1<=o+i+j/\o+i+j<fz.2))->
  ∃w',(storeCells ⟨b,o,none⟩ vs i).run P w= .ok () w'/\S1 E w' ((A++(b,Obj.cells (wr c (o+i) vs) T fz)::B)++F)
 |[],c,o,i,w,_,hw,_,_=>⟨w,rfl,hw⟩
 |v::r,c,o,i,w,hp,hw,aC,eP=>by
  simp only[List.all_cons,Dv4]at hp;simp only[Dr8]at aC;have hm:(b,Obj.cells c T fz)∈(A++(b,Obj.cells c T fz)::B)++F:=by simp
  have cL:=hw.blk _ hm;simp only at cL;have dQ:w.cell? ⟨b,o+i,none⟩=some c[o+i]:=by
   rw[hw.cell hm];simp[show o+i<c.size by omega]
  have bQ:w.frozen? ⟨b,o+i,none⟩=false:=by
   have:=eP 0 (by simp);obtain⟨lo,hi⟩:=fz;simp only[World.frozen?,cL];simp only[D47]at this;rw[Bool.and_eq_false_iff,Ea2,Ea2];omega
  have iM:S1 E (w.setCell ⟨b,o+i,none⟩ v) ((A++(b,Obj.cells (c.setIfInBounds (o+i) v) T fz)::B)++F):=by
   rw[Bm8 cL];have kS:S1 E w (A++(b,Obj.cells c T fz)::(B++F)):=by simpa using hw
   have:=kS.put (.cells (c.setIfInBounds (o+i) v) T fz);simpa using this
  obtain⟨w',hr,aI⟩:=S3 r (c.setIfInBounds (o+i) v) o (i+1) _ hp.2 iM (by simp;omega) (fun j hj=>by
   have:=eP (j+1) (by simp;omega);rw[show o+(i+1)+j=o+i+(j+1) by omega];exact this)
  refine⟨w',?_,?_⟩
  ·simp only[storeCells,Sem.run_bind];rw[P2 rfl,run_store P w _ v _ (Cb2 hp.1),dQ];simp only[bQ,Dx5,if_false,Result.andThen_ok];exact hr
  ·simp only[wr];rw[show o+i+1=o+(i+1) by omega];exact aI
section
variable {P:Program} {n:Nat} {env:Env} {a:Act} {o:Oper} {φs:List HP} {k:Value->List HP->HP} {L:A4}
theorem Bn4{s:Sem Value}{w w':World}{v:Value}(h:s.run P w= .ok v w'):(do pure (.value (<-s)):Sem Next).run P w= .ok (.value v) w':=by simp[h]
theorem run_u{s:Sem Unit}{w w':World}(h:s.run P w= .ok () w'):(do s;pure .skip:Sem Next).run P w= .ok .skip w':=by simp[h]
theorem ok_A{s:Sem Value}(he: ∀w,(execOp a.eval o).run P w=(do pure (.value (<-s)):Sem Next).run P w)(cE:AlV P s)
  (hk: ∀m ob v,AlVG P s m ob v->Sat ((m,ob)::L)->k v [] ((m,ob)::L)):Bc6 P .A o a L φs k:=by
 have inv: ∀{w w':World} {v:Value},(execOp a.eval o).run P w= .ok (.value v) w'->s.run P w= .ok v w':=by
  intro w w' v h;rw[he]at h;simp only[Sem.run_bind]at h;cases hs:s.run P w with
  |ok v' w1=>rw[hs]at h;simp at h;obtain⟨rfl,rfl⟩:=h;rfl
  |halt x w1=>rw[hs]at h;simp at h
 refine⟨fun w=>?_,fun m ob v hg hs=>?_⟩
 ·obtain⟨ob,v,d,h⟩:=cE w;exact⟨ob,v,d,by rw[he];exact Bn4 h⟩
 ·obtain⟨w,d,hw,h⟩:=hg;exact hk m ob v ⟨w,d,hw,inv h⟩ hs
theorem Dk1{s:Sem Value}(he: ∀w,(execOp a.eval o).run P w=(do pure (.value (<-s)):Sem Next).run P w){v:Value}{φ:HP}(h1:RdV P s v L)(h2: ∀L',φ L'->RdV P s v L')
  (hk:k v [φ] L):Bc6 P .R o a L φs k:=
 ⟨v,φ,fun E F w hw=>by rw[he];exact Bn4 (h1 E F w hw),fun L' hφ E F w hw=>by rw[he];exact Bn4 (h2 L' hφ E F w hw),hk⟩
theorem Dk0{s:Sem Value}(he: ∀w,(execOp a.eval o).run P w=(do pure (.value (<-s)):Sem Next).run P w)(h:Az5 P s (fun v L'=>(∀φ∈φs,φ L')/\k v [] L') L):Bc6 P .W o a L φs k:=by
 intro E F w next hw hn
 obtain⟨v,w',L',hr,aI,hφ,hk⟩:=h E F w hw;unfold Oper.wp;rw[he,Bn4 hr];exact hn _ _ _ aI ⟨v,rfl,hφ,hk⟩
theorem ok_U{s:Sem Unit}(he: ∀w,(execOp a.eval o).run P w=(do s;pure .skip:Sem Next).run P w)
  (h: ∀E F w,S1 E w (L++F)-> ∃w' L',s.run P w= .ok () w'/\S1 E w' (L'++F)/\(∀φ∈φs,φ L')/\k undef [] L'):Bc6 P .W o a L φs k:=by
 intro E F w next hw hn
 obtain⟨w',L',hr,aI,hφ,hk⟩:=h E F w hw;unfold Oper.wp;rw[he,run_u hr];exact hn _ _ _ aI ⟨undef,rfl,hφ,hk⟩
theorem Bb8(hN:A67 P){f:FuncId}{fn:Func}(hf:P.funcs[f]?=some fn)(hb:fn.body.isSome=true)(args:Array Value)(w:World):
  (callFunc f args).run P w= .ok (.enter f args) w:=by
 have hn : (fn.name == "runtime.NumGoroutine") = false := by
  have:=Ea1.1 hN fn (Ea3 hf);simpa using this
 have lO : ¬ fn.name = "runtime.NumGoroutine" := by simpa using hn
 have fZ: ¬fn.body=none:=by intro h;rw[h]at hb;cases hb
 simp[callFunc,hf,lO,fZ]
theorem Ck7{f:FuncId}{args:Array Value}(he: ∀w,(execOp a.eval o).run P w= .ok (.enter f args) w){K:Value->HP}(h:CallF P f args L K)
  (hk: ∀v L',K v L'->(∀φ∈φs,φ L')/\k v [] L'):Bc6 P .W o a L φs k:=by
 intro E F w next hw hn
 unfold Oper.wp;rw[he];rw[Oper.upon_enter];refine Calls.mono (h E F w hw) fun e w' ⟨v,L',hv,aI,hK⟩=>?_;subst hv;obtain⟨h1,h2⟩:=hk v L' hK;exact hn _ _ _ aI ⟨v,rfl,h1,h2⟩
theorem A44: ∀{vs:List Value} {kd:IntKind} {ns:List Int},Ab1 vs=some (kd,ns)-> ∃k0 n r,vs= .int k0 n::r/\kd=k0/\ ∃ms,ns=n::ms/\
  (∀w,(r.foldlM Builtin.min2 (.int kd n)).run P w= .ok (.int kd (ms.foldl Ad3 n)) w)/\(∀w,(r.foldlM Builtin.max2 (.int kd n)).run P w= .ok (.int kd (ms.foldl Aa2 n)) w):=by
 have key: ∀(vs:List Value) (kd:IntKind) (ns:List Int),Ab1 vs=some (kd,ns)->
   (∀(k1:IntKind) (n:Int) w,(vs.foldlM Builtin.min2 (.int k1 n)).run P w= .ok (.int k1 (ns.foldl Ad3 n)) w)/\(∀(k1:IntKind) (n:Int) w,(vs.foldlM Builtin.max2 (.int k1 n)).run P w= .ok (.int k1 (ns.foldl Aa2 n)) w):=by
  intro vs;induction vs with
  |nil=>intro kd ns h;simp[Ab1]at h
  |cons v r ih=>
   intro kd ns h;cases v with
   |int k1 n1=>
    cases r with
    |nil=>
     simp only[Ab1,Dz1,Dx0]at h;obtain⟨_,rfl⟩:=h;exact⟨fun k n w=>by simp[Builtin.min2,Ad3],fun k n w=>by simp[Builtin.max2,Aa2]⟩
    |cons v2 r2=>
     simp only[Ab1]at h;split at h
     ·rename_i k2 ns2 h2;obtain⟨rfl,rfl⟩:=by simpa using h
      obtain⟨h3,h4⟩:=ih _ _ h2;refine⟨fun k n w=>?_,fun k n w=>?_⟩
      ·rw[List.foldlM_cons,Sem.run_bind];simp only[Builtin.min2,Sem.run_pure,Result.andThen_ok];exact h3 k _ w
      ·rw[List.foldlM_cons,Sem.run_bind];simp only[Builtin.max2,Sem.run_pure,Result.andThen_ok];exact h4 k _ w
     ·cases h
   |_=>cases r<;>simp[Ab1]at h
 intro vs kd ns h;cases vs with
 |nil=>simp[Ab1]at h
 |cons v r=>
  cases v with
  |int k0 n=>
   cases r with
   |nil=>
    simp only[Ab1,Dz1,Dx0]at h;obtain⟨rfl,rfl⟩:=h;exact⟨_,_,_,rfl,rfl,[],rfl,fun w=>by simp,fun w=>by simp⟩
   |cons v2 r2=>
    simp only[Ab1]at h;split at h
    ·rename_i k2 ns2 h2;obtain⟨rfl,rfl⟩:=by simpa using h
     obtain⟨h3,h4⟩:=key _ _ _ h2;exact⟨_,_,_,rfl,rfl,ns2,rfl,fun w=>h3 _ _ w,fun w=>h4 _ _ w⟩
    ·cases h
  |_=>cases r<;>simp[Ab1]at h
end
section
variable {P:Program} {n:Nat} {env:Env} {a:Act} {o:Oper} {φs:List HP} {k:Value->List HP->HP} {L:A4}
theorem As6(k:IntKind)(op:BinOp)(x y:Int)(w:World)(v:Value)(hx:op≠ .shl/\op≠ .shr)
  (h:(match op with
   | .add=>some (.int k (k.wrap (x+y)))| .sub=>some (.int k (k.wrap (x-y)))| .mul=>some (.int k (k.wrap (x*y)))
   | .quo=>if y=0 then none else some (.int k (k.wrap (x.tdiv y)))| .rem=>if y=0 then none else some (.int k (x.tmod y))
   | .and| .or| .xor| .andNot=>some (.int k (Ao1 op k x y))
   | .eql=>some (.bool (x==y))| .neq=>some (.bool (x !=y))| .lss=>some (.bool (decide (x<y)))| .leq=>some (.bool (decide (x<=y)))
   | .gtr=>some (.bool (decide (x>y)))| .geq=>some (.bool (decide (x≥y)))|_=>none)=some v) (t:TypeId):
  (binOp op t (.int k x) (.int k y)).run P w= .ok v w:=by
 cases op
 case shl=>exact absurd rfl hx.1
 case shr=>exact absurd rfl hx.2
 case quo=>
  simp only at h;split at h
  ·cases h
  ·rename_i h0;simp at h;subst h;simp[binOp,Op.intDiv,h0]
 case rem=>
  simp only at h;split at h
  ·cases h
  ·rename_i h0;simp at h;subst h;simp[binOp,Op.intDiv,h0]
 all_goals
  simp only[Dz1]at h;subst h;first
   |(simp[binOp,Op.intArith];done)
   |(simp[binOp,Op.intBits,Ao1];done)
   |(simp[binOp,Op.intCmp];done)
theorem A11(op:BinOp)(t:TypeId)(x y:Operand)(k k':IntKind)(i j:Int)(w:World):(eqGuard op t x y (.int k i) (.int k' j)).run P w= .ok () w:=by
 cases op<;>simp[eqGuard]
theorem M2(op:BinOp)(t:TypeId)(x y:Operand)(i j:ByteArray)(w:World):(eqGuard op t x y (.string i) (.string j)).run P w= .ok () w:=by
 cases op<;>simp[eqGuard]
theorem Ag2(op:BinOp)(t:TypeId)(x y:Operand)(i j:Bool)(w:World):(eqGuard op t x y (.bool i) (.bool j)).run P w= .ok () w:=by
 cases op<;>simp[eqGuard]
theorem U2(op:BinOp)(t:TypeId)(x y:Operand)(i j:Option Addr)(w:World):(eqGuard op t x y (.pointer i) (.pointer j)).run P w= .ok () w:=by
 cases op<;>simp[eqGuard]
theorem Al9(op:BinOp)(t:TypeId)(x y:Operand)(i j:Option Addr)(l m c d:Nat)(w:World):(eqGuard op t x y (.slice i l c) (.slice j m d)).run P w= .ok () w:=by
 cases op<;>simp[eqGuard]
theorem Ah6(op:BinOp)(t:TypeId)(x y:Operand)(i j:Array Value)(h:P.eqGuardType P.depth t=false)(w:World):(eqGuard op t x y (.agg i) (.agg j)).run P w= .ok () w:=by
 cases op<;>simp[eqGuard,h]
theorem Bi0{op:BinOp}{kx:IntKind}{i j:Int}(hx:op≠ .shl/\op≠ .shr)(h:B01 op kx i j k L): ∃v,k v [] L/\ ∀(t:TypeId) w,(binOp op t (.int kx i) (.int kx j)).run P w= .ok v w:=by
 cases op
 case shl=>exact absurd rfl hx.1
 case shr=>exact absurd rfl hx.2
 case quo=>obtain⟨h0,hk⟩:=h;exact⟨_,hk,fun t w=>As6 kx .quo i j w _ hx (by simp[h0]) t⟩
 case rem=>obtain⟨h0,hk⟩:=h;exact⟨_,hk,fun t w=>As6 kx .rem i j w _ hx (by simp[h0]) t⟩
 all_goals first
  |exact⟨_,h,fun t w=>As6 kx _ i j w _ hx rfl t⟩
  |exact h.elim
theorem isT{t:TypeId}:(Ba6 P t=true-> ∃k,P.underlying t=some (.int k))/\(Br1 P t=true->P.underlying t=some .string)/\(A42 P t=true->P.underlying t=some .bool)/\
  (Y1 P t=true-> ∃e,P.underlying t=some (.pointer e))/\(Co6 P t=true-> ∃e,P.underlying t=some (.slice e)):=by
 refine⟨fun h=>?_,fun h=>?_,fun h=>?_,fun h=>?_,fun h=>?_⟩
 ·unfold Ba6 at h;split at h
  ·exact⟨_,by assumption⟩
  ·cases h
 ·unfold Br1 at h;split at h
  ·assumption
  ·cases h
 ·unfold A42 at h;split at h
  ·assumption
  ·cases h
 ·unfold Y1 at h;split at h
  ·exact⟨_,by assumption⟩
  ·cases h
 ·unfold Co6 at h;split at h
  ·exact⟨_,by assumption⟩
  ·cases h
theorem Ao7(d:Nat){t:TypeId}(hu:P.underlying t=some .bool)(i j:Bool)(w:World):(Op.equalIn (d+1) t (.bool i) (.bool j)).run P w= .ok (i==j) w:=by
 simp only[Op.equalIn,Sem.run_bind,D4 hu,Result.andThen_ok,Sem.run_pure]
theorem Av4(d:Nat){t e:TypeId}(hu:P.underlying t=some (.pointer e))(i:Option Addr)(w:World):(Op.equalIn (d+1) t (.pointer i) (.pointer none)).run P w= .ok i.isNone w:=by
 cases i<;>simp only[Op.equalIn,Sem.run_bind,D4 hu,Result.andThen_ok,Sem.run_pure]<;>rfl
theorem A10(d:Nat){t e:TypeId}(hu:P.underlying t=some (.slice e))(i:Option Addr)(l c m q:Nat)(w:World):(Op.equalIn (d+1) t (.slice i l c) (.slice none m q)).run P w= .ok i.isNone w:=by
 cases i<;>simp only[Op.equalIn,Sem.run_bind,D4 hu,Result.andThen_ok,Sem.run_pure]<;>rfl
theorem As7{t:TypeId}{x y:Value}{r:Bool}{w:World}(hb: ∀(op:BinOp),binOp .eql t x y=(do pure (.bool (<-Op.equal t x y)):Sem Value))(h:(Op.equalIn (9999+1) t x y).run P w= .ok r w):
  (binOp .eql t x y).run P w= .ok (.bool r) w:=by
 rw[hb .eql,Sem.run_bind];show((Op.equalIn (9999+1) t x y).run P w).andThen _=_;rw[h];rfl
theorem As5{t:TypeId}{x y:Value}{r:Bool}{w:World}(hb: ∀(op:BinOp),binOp .neq t x y=(do pure (.bool (!(<-Op.equal t x y))):Sem Value))(h:(Op.equalIn (9999+1) t x y).run P w= .ok r w):
  (binOp .neq t x y).run P w= .ok (.bool (!r)) w:=by
 rw[hb .neq,Sem.run_bind];show((Op.equalIn (9999+1) t x y).run P w).andThen _=_;rw[h];rfl
theorem Bi2(hY:O2 n env a){op:BinOp}{xt yt:TypeId}{x y:Operand}(ho:o.op= .binOp op xt x y yt)(h:B02 P o env op xt x y k L):Bc6 P (D3 P o) o a L φs k:=by
 have he: ∀w,(execOp a.eval o).run P w=(do let v<-(do eqGuard op xt x y (a.eval x) (a.eval y);binOp op xt (a.eval x) (a.eval y));pure (.value v):Sem Next).run P w:=by
  intro w;simp only[execOp,ho]
 have okP: ∀{v:Value},D3 P o= .P->(∀w,(eqGuard op xt x y (a.eval x) (a.eval y)).run P w= .ok () w)->(∀w,(binOp op xt (a.eval x) (a.eval y)).run P w= .ok v w)->k v [] L->Bc6 P (D3 P o) o a L φs k:=by
  intro v hc hg hr hk;rw[hc];exact⟨v,fun w=>by rw[he];exact Bn4 (by simp[hg w,hr w]),hk⟩
 unfold B02 at h;cases hx:evL env x with
 |none=>simp only[hx]at h;exact h.elim
 |some vx=>
  cases hy:evL env y with
  |none=>simp only[hx,hy]at h;exact h.elim
  |some vy=>
   simp only[hx,hy]at h;have aX:=hY.ev hx;have cI:=hY.ev hy;have cG: ∀{b:Bool},Y1 P xt=b->(b=false\/Br2 y=true\/(op≠ .eql/\op≠ .neq))->D3 P o= .P:=by
    intro b hb hh;simp only[D3,ho];rw[hb];rcases hh with rfl|hn|⟨h1,h2⟩
    ·cases op<;>cases Br2 y<;>rfl
    ·rw[hn];cases op<;>rfl
    ·split
     ·exact absurd rfl h1
     ·exact absurd rfl h2
     ·rfl
   unfold B69 at h;split at h
   ·--integers
    rename_i kx i ky j;have hp:Ba6 P xt=true->Y1 P xt=false:=by
     intro h;obtain⟨kk,hk⟩:=(isT (P:=P)).1 h;simp[Y1,hk]
    have fin: ∀{v:Value},Ba6 P xt=true->(∀w,(binOp op xt (.int kx i) (.int ky j)).run P w= .ok v w)->k v [] L->Bc6 P (D3 P o) o a L φs k:=fun hi hr hk=>
     okP (cG (hp hi) (.inl rfl)) (fun w=>by rw[aX,cI];exact A11 _ _ _ _ _ _ _ _ _) (fun w=>by rw[aX,cI];exact hr w) hk
    cases hi:Ba6 P xt with
    |false=>rw[hi]at h;exact False.elim h
    |true=>
     rw[hi]at h;by_cases h1:op= .shl
     ·subst h1;obtain⟨h0,hk⟩:=h;exact fin hi (fun w=>by simp[binOp,Op.shift,D69.2 h0]) hk
     ·by_cases h2:op= .shr
      ·subst h2;obtain⟨h0,hk⟩:=h;exact fin hi (fun w=>by simp[binOp,Op.shift,D69.2 h0]) hk
      ·cases yR:B51 kx ky with
       |false=>rw[yR]at h;exact False.elim (by cases op<;>first|exact h|exact absurd rfl h1|exact absurd rfl h2)
       |true=>
        rw[yR]at h;obtain rfl:=A40 yR;have h':B01 op kx i j k L:=by cases op<;>first|exact h|exact absurd rfl h1|exact absurd rfl h2
        obtain⟨v,hk,hr⟩:=Bi0 (P:=P) ⟨h1,h2⟩ h';exact fin hi (fun w=>hr _ w) hk
   ·--strings
    rename_i i j;have hp:Br1 P xt=true->Y1 P xt=false:=by
     intro h;have hk:=(isT (P:=P)).2.1 h;simp[Y1,hk]
    cases hi:Br1 P xt with
    |false=>rw[hi]at h;exact False.elim h
    |true=>
     rw[hi]at h;cases op
     case add=>
      obtain⟨h0,hk⟩:=h;refine okP (cG (hp hi) (.inl rfl)) (fun w=>by rw[aX,cI];exact M2 _ _ _ _ _ _ _) (fun w=>?_) hk;rw[aX,cI];have: ¬IntKind.i64.max<((i.size+j.size:Nat):Int):=D69.2 h0;simp only[binOp,Op.stringOp,Sem.run_ite];rw[Dq4 this];rfl
     case eql=>exact okP (cG (hp hi) (.inl rfl)) (fun w=>by rw[aX,cI];exact M2 _ _ _ _ _ _ _) (fun w=>by rw[aX,cI];rfl) h
     case neq=>exact okP (cG (hp hi) (.inl rfl)) (fun w=>by rw[aX,cI];exact M2 _ _ _ _ _ _ _) (fun w=>by rw[aX,cI];rfl) h
     case lss=>exact okP (cG (hp hi) (.inl rfl)) (fun w=>by rw[aX,cI];exact M2 _ _ _ _ _ _ _) (fun w=>by rw[aX,cI];rfl) h
     case leq=>exact okP (cG (hp hi) (.inl rfl)) (fun w=>by rw[aX,cI];exact M2 _ _ _ _ _ _ _) (fun w=>by rw[aX,cI];rfl) h
     case gtr=>exact okP (cG (hp hi) (.inl rfl)) (fun w=>by rw[aX,cI];exact M2 _ _ _ _ _ _ _) (fun w=>by rw[aX,cI];rfl) h
     case geq=>exact okP (cG (hp hi) (.inl rfl)) (fun w=>by rw[aX,cI];exact M2 _ _ _ _ _ _ _) (fun w=>by rw[aX,cI];rfl) h
     all_goals exact False.elim h
   ·--bools
    rename_i i j;have hp:A42 P xt=true->Y1 P xt=false:=by
     intro h;have hk:=(isT (P:=P)).2.2.1 h;simp[Y1,hk]
    cases hi:A42 P xt with
    |false=>rw[hi]at h;exact False.elim h
    |true=>
     rw[hi]at h;have hu:=(isT (P:=P)).2.2.1 hi;cases op
     case eql=>
      refine okP (cG (hp hi) (.inl rfl)) (fun w=>by rw[aX,cI];exact Ag2 _ _ _ _ _ _ _) (fun w=>?_) h;rw[aX,cI];exact As7 (fun _=>rfl) (Ao7 9999 hu i j w)
     case neq=>
      refine okP (cG (hp hi) (.inl rfl)) (fun w=>by rw[aX,cI];exact Ag2 _ _ _ _ _ _ _) (fun w=>?_) h;rw[aX,cI];exact As5 (fun _=>rfl) (Ao7 9999 hu i j w)
     all_goals exact False.elim h
   ·--pointers
    rename_i i j;cases hi:Y1 P xt with
    |false=>rw[hi]at h;exact False.elim h
    |true=>
     rw[hi]at h;obtain⟨e,hu⟩:=(isT (P:=P)).2.2.2.1 hi;cases hn:Br2 y with
     |true=>
      rw[hn]at h;cases op
      case eql=>
       cases j with
       |some _=>exact False.elim h
       |none=>
        refine okP (cG hi (.inr (.inl hn))) (fun w=>by rw[aX,cI];exact U2 _ _ _ _ _ _ _) (fun w=>?_) h;rw[aX,cI];exact As7 (fun _=>rfl) (Av4 9999 hu i w)
      case neq=>
       cases j with
       |some _=>exact False.elim h
       |none=>
        refine okP (cG hi (.inr (.inl hn))) (fun w=>by rw[aX,cI];exact U2 _ _ _ _ _ _ _) (fun w=>?_) h;rw[aX,cI];exact As5 (fun _=>rfl) (Av4 9999 hu i w)
      all_goals exact False.elim h
     |false=>
      rw[hn]at h;have goR: ∀(op':BinOp),op=op'->(D3 P o= .R)->smR P (binOp op' xt (.pointer i) (.pointer j)) [.lf .bool] (fun r=>k (.bool r.1) [RdV P (binOp op' xt (.pointer i) (.pointer j)) (.bool r.1)]) L->Bc6 P (D3 P o) o a L φs k:=by
       rintro op' rfl hc ⟨r,hr,hk⟩;rw[hc];refine Dk1 (s:=(do eqGuard op xt x y (a.eval x) (a.eval y);binOp op xt (a.eval x) (a.eval y))) he (v:=.bool r.1) ?_ (fun L' h=>?_) hk
       ·intro E F w hw;rw[Sem.run_bind,aX,cI,U2];exact hr E F w hw
       ·intro E F w hw;rw[Sem.run_bind,aX,cI,U2];exact h E F w hw
      cases op
      case eql=>exact goR .eql rfl (by simp only[D3,ho,hi,hn]) h
      case neq=>exact goR .neq rfl (by simp only[D3,ho,hi,hn]) h
      all_goals exact False.elim h
   ·--slices
    rename_i i l c j m d;have hp:Co6 P xt=true->Y1 P xt=false:=by
     intro h;obtain⟨e,hk⟩:=(isT (P:=P)).2.2.2.2 h;simp[Y1,hk]
    cases hi:Co6 P xt with
    |false=>rw[hi]at h;exact False.elim h
    |true=>
     rw[hi]at h;obtain⟨e,hk⟩:=(isT (P:=P)).2.2.2.2 hi;cases op
     case eql=>
      cases j with
      |some _=>exact False.elim h
      |none=>
       refine okP (cG (hp hi) (.inl rfl)) (fun w=>by rw[aX,cI];exact Al9 _ _ _ _ _ _ _ _ _ _ _) (fun w=>?_) h;rw[aX,cI];exact As7 (fun _=>rfl) (A10 9999 hk i l c m d w)
     case neq=>
      cases j with
      |some _=>exact False.elim h
      |none=>
       refine okP (cG (hp hi) (.inl rfl)) (fun w=>by rw[aX,cI];exact Al9 _ _ _ _ _ _ _ _ _ _ _) (fun w=>?_) h;rw[aX,cI];exact As5 (fun _=>rfl) (A10 9999 hk i l c m d w)
     all_goals exact False.elim h
   ·--structs,arrays
    rename_i i j;cases hi:Y1 P xt with
    |true=>rw[hi]at h;exact False.elim (by cases op<;>exact h)
    |false=>
     rw[hi]at h;cases hg:P.eqGuardType P.depth xt with
     |true=>rw[hg]at h;exact False.elim (by cases op<;>exact h)
     |false=>
      rw[hg]at h;cases op
      case eql=>
       obtain⟨r,hr,hk⟩:=h;exact okP (cG hi (.inl rfl)) (fun w=>by rw[aX,cI];exact Ah6 _ _ _ _ _ _ hg _) (fun w=>by rw[aX,cI];exact hr w) hk
      case neq=>
       obtain⟨r,hr,hk⟩:=h;exact okP (cG hi (.inl rfl)) (fun w=>by rw[aX,cI];exact Ah6 _ _ _ _ _ _ hg _) (fun w=>by rw[aX,cI];exact hr w) hk
      all_goals exact False.elim h
   ·exact h.elim
end
section
variable {P:Program} {n:Nat} {env:Env} {a:Act} {o:Oper} {φs:List HP} {k:Value->List HP->HP} {L:A4}
theorem Br4(f:FuncId)(captured args:Array Value):invoke (.fn (.func f) captured) args=callFunc f (args++captured):=rfl
theorem Bs9{c:Call}{f:FuncId}(ho:o.op= .call c)(hc:c.callee= .value (.func f))(w:World):
  (execOp a.eval o).run P w=(callFunc f (c.args.map a.eval)).run P w:=by
 simp only[execOp,ho,resolve,hc,Sem.run_bind,Act.eval,Deferred.ofValue,Sem.run_pure,Result.andThen_ok,Br4];congr 2;simp
theorem Bi6{c:Call}{x:Operand}{f:FuncId}{first captured:Array Value}(ho:o.op= .call c)(hc:c.callee= .value x)(hx:a.eval x= .func (.func f) first captured)(w:World):
  (execOp a.eval o).run P w=(callFunc f ((first++c.args.map a.eval)++captured)).run P w:=by
 simp only[execOp,ho,resolve,hc,hx,Sem.run_bind,Deferred.ofValue,Sem.run_pure,Result.andThen_ok,Br4]
theorem Au5{c:Call}{b:Builtin}(ho:o.op= .call c)(hc:c.callee= .builtin b)(w:World):
  (execOp a.eval o).run P w=(builtin b c.argTypes o.type (c.args.map fun| .const _=>true|_=>false) (c.args.map a.eval)).run P w:=by
 simp only[execOp,ho,resolve,hc,Sem.run_bind,Sem.run_pure,Result.andThen_ok];rfl
theorem A81(hN:A67 P)(hY:O2 n env a){c:Call}(ho:o.op= .call c)(h:Bi1 P o env c (Bh2 φs) k L):Bc6 P (D3 P o) o a L φs k:=by
 unfold Bi1 at h;cases jM:evA env c.args with
 |none=>simp only[jM]at h;exact False.elim h
 |some args=>
  simp only[jM]at h;have iY:=hY.eva jM;cases hc:c.callee with
  |invoke r m=>simp only[hc]at h;exact False.elim h
  |value x=>
   have cG:D3 P o= .W:=by simp only[D3,ho,hc]
   rw[cG];have viaClv: ∀{fn:Fn} {first captured:Array Value} {rs:List Sh} {K:RsV rs->HP},a.eval x= .func fn first captured->clv P fn (first++args) captured rs K L->
     (∀r L',K r L'->(∀φ∈φs,φ L')/\k (Ah7 rs r) [] L')->Bc6 P .W o a L φs k:=by
    rintro fn first captured rs K hx ⟨f,rfl,hf,cH⟩ hk
    unfold Af8 at hf;cases nN:P.funcs[f]? with
    |none=>rw[nN]at hf;cases hf
    |some fn=>
     rw[nN]at hf;refine Ck7 (f:=f) (args:=(first++args)++captured) (fun w=>?_) cH fun v L' ⟨r,hv,hK⟩=>by subst hv;exact hk r L' hK
     rw[Bi6 ho hc hx,iY];exact Bb8 hN nN hf _ w
   have generic: ∀(ak: ∀f,x≠ .func f),Bc6 P .W o a L φs k:=by
    intro ak;have h':(match evL env x with
      |some (.func fn first captured)=>match P.underlying o.type with
       |some (.tuple ts)=>match Ca0 P ts.toList with
        |some rs=>clv P fn (first++args) captured rs fun r=>Bh2 φs (k (Ah7 rs r) [])
        |none=>ff
       |_=>match Ca1 P o.type with
        |some s=>clv P fn (first++args) captured [s] fun r=>Bh2 φs (k (s.val r.1) [])
        |none=>ff
      |_=>ff:HP) L:=by
     rw[hc]at h;cases x with
     |func f=>exact absurd rfl (ak f)
     |_=>exact h
    cases hx:evL env x with
    |none=>rw[hx]at h';exact False.elim h'
    |some v=>
     rw[hx]at h';have aX:=hY.ev hx;cases v
     case func fn first captured=>
      have one: ∀(h:(match Ca1 P o.type with
        |some s=>clv P fn (first++args) captured [s] fun r=>Bh2 φs (k (s.val r.1) [])
        |none=>ff:HP) L),Bc6 P .W o a L φs k:=by
       intro h;cases hs:Ca1 P o.type with
       |none=>rw[hs]at h;exact False.elim h
       |some s=>rw[hs]at h;exact viaClv aX h fun r L' hK=>K3 hK
      cases hu:P.underlying o.type with
      |none=>rw[hu]at h';exact one h'
      |some d=>
       rw[hu]at h';cases d
       case tuple ts=>
        cases hs:Ca0 P ts.toList with
        |none=>simp only[hs]at h';exact False.elim h'
        |some rs=>simp only[hs]at h';exact viaClv aX h' fun r L' hK=>K3 hK
       all_goals exact one h'
     all_goals exact False.elim h'
   cases x with
   |func f=>
    rw[hc]at h;simp only at h;cases nN:P.funcs[f]? with
    |none=>rw[nN]at h;exact False.elim h
    |some fn=>
     rw[nN]at h;simp only at h;cases hb:fn.body.isSome with
     |false=>rw[hb]at h;exact False.elim h
     |true=>
      rw[hb]at h;cases hs:Ca0 P fn.resultTypes.toList with
      |none=>rw[hs]at h;exact False.elim h
      |some rs=>
       rw[hs]at h;refine Ck7 (f:=f) (args:=args) (fun w=>?_) h fun v L' ⟨r,hv,hK⟩=>by subst hv;exact K3 hK
       rw[Bs9 ho hc,iY];exact Bb8 hN nN hb _ w
   |tmp t=>exact generic (by intro f e;cases e)
   |const v=>exact generic (by intro f e;cases e)
   |global g=>exact generic (by intro f e;cases e)
  |builtin b=>
   have qN:=fun w=>Au5 (P:=P) (a:=a) ho hc w;rw[iY]at qN;rw[hc]at h;simp only at h;have okP: ∀{v:Value},D3 P o= .P->(∀w,(builtin b c.argTypes o.type (c.args.map fun| .const _=>true|_=>false) args).run P w= .ok (.value v) w)->k v [] L->Bc6 P (D3 P o) o a L φs k:=by
    intro v bN hr hk;rw[bN];exact⟨v,fun w=>by rw[qN];exact hr w,hk⟩
   cases b
   case len=>
    have iC:args=args.toList.toArray:=by simp
    have mT:c.argTypes=c.argTypes.toList.toArray:=by simp
    generalize cE:args.toList=al at h;generalize rC:c.argTypes.toList=tl at h;rw[cE]at iC;rw[rC]at mT;cases tl with
    |nil=>exact False.elim (by cases al with|nil=>exact h|cons x r=>cases r<;>cases x<;>exact h)
    |cons t tr=>
     cases tr with
     |cons t2 tr=>exact False.elim (by cases al with|nil=>exact h|cons x r=>cases r<;>cases x<;>exact h)
     |nil=>
      cases al with
      |nil=>exact False.elim h
      |cons x r=>
       cases r with
       |cons x2 r=>exact False.elim (by cases x<;>exact h)
       |nil=>
        subst iC;have gH:(∀kk e,P.underlying t≠some (.map kk e))->D3 P o= .P:=by
         intro hm;simp only[D3,ho,hc,rC]
        have other:(match P.underlying t with
          |some (.array n _)=>k (.int .i64 n) []
          |some (.pointer u)=>match P.underlying u with|some (.array n _)=>k (.int .i64 n) []|_=>ff
          |_=>ff:HP) L->Bc6 P (D3 P o) o a L φs k:=by
         intro h;cases hu:P.underlying t with
         |none=>rw[hu]at h;exact False.elim h
         |some d=>
          rw[hu]at h;cases d
          case array m e=>
           refine okP (gH (by rw[hu];intro _ _ h;cases h)) (fun w=>?_) h;rw[mT];cases x<;>simp[builtin,Builtin.len_,D4 hu,goInt]
          case pointer u=>
           cases xG:P.underlying u with
           |none=>simp only[xG]at h;exact False.elim h
           |some d2=>
            simp only[xG]at h;cases d2
            case array m e=>
             refine okP (gH (by rw[hu];intro _ _ h;cases h)) (fun w=>?_) h;rw[mT];cases x<;>simp[builtin,Builtin.len_,D4 hu,D4 xG,goInt]
            all_goals exact False.elim h
          all_goals exact False.elim h
        cases x
        case string s=>
         cases hu:P.underlying t with
         |none=>simp only[hu]at h;exact False.elim h
         |some d=>
          simp only[hu]at h;cases d
          case string=>
           refine okP (gH (by rw[hu];intro _ _ h;cases h)) (fun w=>?_) h;rw[mT];simp[builtin,Builtin.len_,D4 hu,goInt]
          all_goals exact False.elim h
        case slice b l cp=>
         cases hu:P.underlying t with
         |none=>simp only[hu]at h;exact False.elim h
         |some d=>
          simp only[hu]at h;cases d
          case slice e=>
           refine okP (gH (by rw[hu];intro _ _ h;cases h)) (fun w=>?_) h;rw[mT];simp[builtin,Builtin.len_,D4 hu,goInt]
          all_goals exact False.elim h
        case map r=>
         cases hu:P.underlying t with
         |none=>simp only[hu]at h;exact False.elim h
         |some d=>
          simp only[hu]at h;cases d
          case map kk e=>
           obtain⟨r,hr,hk⟩:=h;have bN:D3 P o= .R:=by simp only[D3,ho,hc,rC,hu]
           rw[bN];exact Dk1 (s:=Builtin.len_ c.argTypes o.type #[.map _]) (fun w=>by rw[qN];rfl) hr (fun L' h=>h) hk
          all_goals exact False.elim h
        all_goals exact other h
   case cap=>
    have iC:args=args.toList.toArray:=by simp
    have mT:c.argTypes=c.argTypes.toList.toArray:=by simp
    generalize cE:args.toList=al at h;generalize rC:c.argTypes.toList=tl at h;rw[cE]at iC;rw[rC]at mT;have bN:D3 P o= .P:=by simp only[D3,ho,hc]
    cases al with
    |nil=>exact False.elim h
    |cons x r=>
     cases r with
     |cons x2 r=>exact False.elim (by cases x<;>exact h)
     |nil=>
      cases x
      case slice b l cp=>
       cases tl with
       |nil=>exact False.elim h
       |cons t tr=>
        cases tr with
        |cons t2 tr=>exact False.elim h
        |nil=>
         subst iC;cases hu:P.underlying t with
         |none=>simp only[hu]at h;exact False.elim h
         |some d=>
          simp only[hu]at h;cases d
          case slice e=>
           refine okP bN (fun w=>?_) h;rw[mT];simp[builtin,Builtin.cap_,D4 hu,goInt]
          all_goals exact False.elim h
      all_goals exact False.elim h
   case min=>
    have bN:D3 P o= .P:=by simp only[D3,ho,hc]
    cases hi:Ab1 args.toList with
    |none=>simp only[hi]at h;exact False.elim h
    |some p=>
     obtain⟨kd,ns⟩:=p;obtain⟨k0,m,r,kF,rfl,ms,rfl,iV,tX⟩:=A44 (P:=P) hi;simp only[hi]at h;exact okP bN (fun w=>Bn4 (by simp only[Builtin.min_,kF];exact iV w)) h
   case max=>
    have bN:D3 P o= .P:=by simp only[D3,ho,hc]
    cases hi:Ab1 args.toList with
    |none=>simp only[hi]at h;exact False.elim h
    |some p=>
     obtain⟨kd,ns⟩:=p;obtain⟨k0,m,r,kF,rfl,ms,rfl,iV,tX⟩:=A44 (P:=P) hi;simp only[hi]at h;exact okP bN (fun w=>Bn4 (by simp only[Builtin.max_,kF];exact tX w)) h
   case append=>
    have bN:D3 P o= .W:=by simp only[D3,ho,hc]
    rw[bN];refine Dk0 (s:=Builtin.append_ c.argTypes o.type args) (fun w=>by rw[qN];rfl) fun E F w hw=>?_;obtain⟨v,w',L',hr,aI,r,rfl,hk⟩:=h E F w hw;exact⟨_,w',L',hr,aI,K3 hk⟩
   case copy=>
    have bN:D3 P o= .W:=by simp only[D3,ho,hc]
    rw[bN];refine Dk0 (s:=Builtin.copy_ c.argTypes o.type args) (fun w=>by rw[qN];rfl) fun E F w hw=>?_;obtain⟨v,w',L',hr,aI,r,rfl,hk⟩:=h E F w hw;exact⟨_,w',L',hr,aI,K3 hk⟩
   case clear=>
    have bN:D3 P o= .W:=by simp only[D3,ho,hc]
    rw[bN];refine Dk0 (s:=Builtin.clear_ c.argTypes o.type args) (fun w=>by rw[qN];rfl) fun E F w hw=>?_;obtain⟨v,w',L',hr,aI,r,rfl,hk⟩:=h E F w hw;exact⟨_,w',L',hr,aI,K3 hk⟩
   case delete=>
    have bN:D3 P o= .W:=by simp only[D3,ho,hc]
    rw[bN];refine Dk0 (s:=Builtin.delete_ c.argTypes o.type args) (fun w=>by rw[qN];rfl) fun E F w hw=>?_;obtain⟨v,w',L',hr,aI,r,rfl,hk⟩:=h E F w hw;exact⟨_,w',L',hr,aI,K3 hk⟩
   all_goals exact False.elim h
end
section
variable {P:Program} {n:Nat} {env:Env} {a:Act} {o:Oper} {φs:List HP} {k:Value->List HP->HP} {L:A4}
theorem AlV.pure{s:Sem Value}(h: ∀w:World,∃ob v,s.run P w= .ok v {w with heap:=w.heap.push ob}):AlV P s:=fun w=>by
 obtain⟨ob,v,h⟩:=h w;exact⟨ob,v,w.drawn,h⟩
theorem Be5{w:World}{ob ob':Obj}{d d':Nat}(h:({w with heap:=w.heap.push ob,drawn:=d}:World)={w with heap:=w.heap.push ob',drawn:=d'}):ob=ob':=by
 have:w.heap.push ob=w.heap.push ob':=congrArg World.heap h;exact(Array.push_eq_push.1 this).1
theorem Bp5{s:Sem Value}(hc:D3 P o= .A)(he: ∀w,(execOp a.eval o).run P w=(do pure (.value (<-s)):Sem Next).run P w){ob:Obj}{f:Nat->Value}
  (hs: ∀w,s.run P w= .ok (f w.heap.size) {w with heap:=w.heap.push ob}) (hk: ∀m,Sat ((m,ob)::L)->k (f m) [] ((m,ob)::L)):Bc6 P (D3 P o) o a L φs k:=by
 rw[hc];refine ok_A he (.pure fun w=>⟨ob,_,hs w⟩) fun m ob' v ⟨w,d,hw,hr⟩ fH=>?_;rw[hs w]at hr;injection hr with h1 h2;have h3:=Be5 (d:=w.drawn) h2;subst h3 h1 hw;exact hk _ fH
theorem Bi3{s:TypeId}{f off:Nat}(h:Bi4 P s f=some off){ad:Addr}(w:World):(Instr.fieldAt s (.pointer (some ad)) f).run P w= .ok (.pointer (some (ad.add off))) w:=by
 unfold Bi4 at h;split at h
 ·rename_i fs hu;split at h
  ·rename_i fd gG;split at h
   ·rename_i m hm;obtain rfl:=Dq9 h;simp[Instr.fieldAt,D4 hu,gG,Instr.sureAddr,fieldPlace,H1 hm]
   ·cases h
  ·cases h
 ·cases h
theorem By2{t:TypeId}{cs:Array Value}{off:Nat}{v:Value}(h:Ck6 P t cs off=some v)(w:World):(part t cs off).run P w= .ok v w:=by
 unfold Ck6 at h;split at h
 ·rename_i fs m hu hs;obtain rfl:=Dq9 h;simp[part,A12 hu,De1,H1 hs]
 ·rename_i q e m hu hs;obtain rfl:=Dq9 h;simp[part,A12 hu,De1,H1 hs]
 ·rename_i d m h1 h2 hu hs;have hd:De1 d=false:=by
   unfold De1;split
   ·exact(h1 _ rfl).elim
   ·exact(h2 _ _ rfl).elim
   ·rfl
  simp[part,A12 hu,hd,h]
 ·cases h
theorem Bz1: ∀(fs:List Field) (pl:List (Nat×Nat)),fs.mapM (fun f=>match Q2 P f.type with|some n=>some (f.offset,n)|none=>none)=some pl->
  ∀w,(fs.mapM (m:=Sem) fun f=>do pure (f.offset,<-sizeOf f.type)).run P w= .ok pl w:=by
 intro fs;induction fs with
 |nil=>intro pl h w;simp at h;subst h;simp
 |cons f r ih=>
  intro pl h w;simp only[D70,Option.bind_eq_bind,D71]at h;obtain⟨p,hp,ps,eC,he⟩:=h;obtain rfl:=Dq9 he;split at hp
  ·rename_i m hm;obtain rfl:=Dq9 hp;simp only[D70,Sem.run_bind,H1 hm,Sem.run_pure,Result.andThen_ok,ih ps eC]
  ·cases hp
theorem Ah5(isSlice:Bool){len cap:Nat}{lo hi mx:Option Value}{l h m:Int}(gV:Cd9 0 lo=some l)(uC:Cd9 len hi=some h)(hmx:Cd9 cap mx=some m)
  (bF:mx.isSome=true->hi.isSome=true) (hb:0<=l/\l<=h/\h<=m/\m<=cap) (w:World):(Instr.sliceBounds isSlice len cap lo hi mx).run P w= .ok (l.toNat,h.toNat,m.toNat) w:=by
 obtain⟨h0,h1,h2,h3⟩:=hb;have cO: ∀(k:IntKind) (i:Int) (y:Nat) (code:BoundsCode),0<=i->i<=y->(Instr.sliceBound (.int k i) y code).run P w= .ok i.toNat w:=by
  intro k i y code h1 h2;simp[Instr.sliceBound,asIntOf,h1,h2]
 have eqOI: ∀{d:Int} {v:Option Value} {r:Int},Cd9 d v=some r->(v=none/\r=d)\/ ∃k,v=some (.int k r):=by
  intro d v r h;unfold Cd9 at h;split at h
  ·simp at h;exact .inl ⟨rfl,h.symm⟩
  ·simp at h;subst h;exact .inr ⟨_,rfl⟩
  ·cases h
 rcases eqOI hmx with⟨rfl,rfl⟩|⟨km,rfl⟩
 ·rcases eqOI uC with⟨rfl,rfl⟩|⟨kh,rfl⟩
  ·rcases eqOI gV with⟨rfl,rfl⟩|⟨kl,rfl⟩
   ·simp[Instr.sliceBounds]
   ·simp[Instr.sliceBounds,cO kl l len _ h0 (by omega)]
  ·rcases eqOI gV with⟨rfl,rfl⟩|⟨kl,rfl⟩
   ·simp[Instr.sliceBounds,cO kh h cap _ (by omega) (by omega)]
   ·have:=cO kl l h.toNat .sliceB h0 (by omega);simp[Instr.sliceBounds,cO kh h cap _ (by omega) (by omega),this]
 ·rcases eqOI uC with⟨rfl,rfl⟩|⟨kh,rfl⟩
  ·exact absurd (bF rfl) (by decide)
  ·have hh:=cO kh h m.toNat .slice3B (by omega) (by omega);rcases eqOI gV with⟨rfl,rfl⟩|⟨kl,rfl⟩
   ·simp[Instr.sliceBounds,cO km m cap _ (by omega) (by omega),hh]
   ·have:=cO kl l h.toNat .slice3C h0 (by omega);simp[Instr.sliceBounds,cO km m cap _ (by omega) (by omega),hh,this]
end
section
variable {P:Program} {n:Nat} {env:Env} {a:Act} {o:Oper} {φs:List HP} {k:Value->List HP->HP} {L:A4}
theorem Bk9{s:Sem Value}(hc:D3 P o= .P)(he: ∀w,(execOp a.eval o).run P w=(do pure (.value (<-s)):Sem Next).run P w){v:Value}(hs: ∀w,s.run P w= .ok v w)(hk:k v [] L):Bc6 P (D3 P o) o a L φs k:=by
 rw[hc];exact⟨v,fun w=>by rw[he];exact Bn4 (hs w),hk⟩
theorem M0{M:HP}{L:A4}(h:M L): ∃M':HP,M'=M/\M' L:=⟨M,rfl,h⟩
theorem Bs4(hN:A67 P){X:Nat->Option Sh}(hY:O2 n env a)(h:G6 P X o env (Bh2 φs) k L):Bc6 P (D3 P o) o a L φs k:=by
 cases ho:o.op with
 |move x=>
  simp only[G6,ho]at h;cases hx:evL env x with
  |none=>rw[hx]at h;exact False.elim h
  |some v=>
   rw[hx]at h;have hc:D3 P o= .P:=by simp only[D3,ho]
   rw[hc];exact⟨v,fun w=>by simp only[execOp,ho,hY.ev hx];rfl,h⟩
 |assign x=>
  simp only[G6,ho]at h;cases hx:evL env x with
  |none=>rw[hx]at h;exact False.elim h
  |some v=>
   rw[hx]at h;have hc:D3 P o= .P:=by simp only[D3,ho]
   rw[hc];exact⟨v,fun w=>by simp only[execOp,ho,hY.ev hx];rfl,h⟩
 |pick c x y=>
  simp only[G6,ho]at h;have hc:D3 P o= .P:=by simp only[D3,ho]
  have hq:=M0 h;clear h;obtain⟨M,hM,h⟩:=hq;split at hM<;>subst hM
  ·rename_i t va vb h1 h2 h3;rw[hc];have e1:=hY.ev h1;have e2:=hY.ev h2;have e3:=hY.ev h3;rcases Bh4 h with⟨rfl,h⟩|⟨rfl,h⟩
   ·exact⟨va,fun w=>by simp[execOp,ho,e1,e2,asBool],h⟩
   ·exact⟨vb,fun w=>by simp[execOp,ho,e1,e3,asBool],h⟩
  ·exact False.elim h
 |alloc t=>
  simp only[G6,ho]at h;cases hz:A85 P t with
  |none=>rw[hz]at h;exact False.elim h
  |some z=>
   rw[hz]at h;refine Bp5 (by simp only[D3,ho]) (s:=Instr.alloc t true (.tuple #[])) (fun w=>by simp only[execOp,ho]) (ob:=.cells z.cells t) (f:=fun m=>.pointer (some ⟨m,0,none⟩)) (fun w=>?_) h;simp[Instr.alloc,Af1 hz,newVar,newRow]
 |box t x=>
  simp only[G6,ho]at h;cases hx:evL env x with
  |none=>rw[hx]at h;exact False.elim h
  |some v=>
   rw[hx]at h;refine Bp5 (by simp only[D3,ho]) (s:=Instr.box t (a.eval x)) (fun w=>by simp only[execOp,ho]) (ob:=.cells v.cells t) (f:=fun m=>.pointer (some ⟨m,0,none⟩)) (fun w=>?_) h;rw[hY.ev hx];simp[Instr.box,newVar,newRow]
 |build t parts=>
  simp only[G6,ho]at h;have hc:D3 P o= .P:=by simp only[D3,ho]
  have hq:=M0 h;clear h;obtain⟨M,hM,h⟩:=hq;split at hM<;>subst hM
  ·rename_i ps z fs h1 h2 h3;have hq:=M0 h;clear h;obtain⟨M,hM,h⟩:=hq;split at hM<;>subst hM
   ·rename_i pl aW;have hq:=M0 h;clear h;obtain⟨M,hM,h⟩:=hq;split at hM<;>subst hM
    ·rename_i cs eK;refine Bk9 hc (s:=Instr.build t (parts.map fun(i,x)=>(i,a.eval x))) (fun w=>by simp only[execOp,ho]) (fun w=>?_) h;have jR: ∀w,(fs.mapM (m:=Sem) fun f=>do pure (f.offset,<-sizeOf f.type)).run P w= .ok pl.toArray w:=by
      intro w;rw[Ed6];rw[Sem.run_map,Bz1 fs.toList pl aW w];rfl
     simp only[Instr.build,Sem.run_bind,Af1 h2,Result.andThen_ok,D4 h3,jR,hY.evpa h1];have:Instr.fill (fun x=>pl.toArray[x]?) z.cells ps=some cs:=by simpa using eK
     rw[this];rfl
    ·exact False.elim h
   ·exact False.elim h
  ·rename_i ps z q e h1 h2 h3;have hq:=M0 h;clear h;obtain⟨M,hM,h⟩:=hq;split at hM<;>subst hM
   ·rename_i m hm;have hq:=M0 h;clear h;obtain⟨M,hM,h⟩:=hq;split at hM<;>subst hM
    ·rename_i cs eK;refine Bk9 hc (s:=Instr.build t (parts.map fun(i,x)=>(i,a.eval x))) (fun w=>by simp only[execOp,ho]) (fun w=>?_) h;simp only[Instr.build,Sem.run_bind,Af1 h2,Result.andThen_ok,D4 h3,H1 hm,hY.evpa h1,eK];rfl
    ·exact False.elim h
   ·exact False.elim h
  ·exact False.elim h
 |buildSlice t len parts=>
  simp only[G6,ho]at h;have hc:D3 P o= .A:=by simp only[D3,ho]
  have hq:=M0 h;clear h;obtain⟨M,hM,h⟩:=hq;split at hM<;>subst hM
  ·rename_i ps e h1 h3;have hq:=M0 h;clear h;obtain⟨M,hM,h⟩:=hq;split at hM<;>subst hM
   ·rename_i m z hm hz;have hq:=M0 h;clear h;obtain⟨M,hM,h⟩:=hq;split at hM<;>subst hM
    ·rename_i cs bS aE eK;have qA:len*m≠0:=D72 aE;have yK: ¬16777216<len*m:=Nat.not_lt.2 (Ea4 bS);refine Bp5 hc (s:=Instr.buildSlice t len (parts.map fun(i,x)=>(i,a.eval x))) (fun w=>by simp only[execOp,ho]) (ob:=.cells cs e) (f:=fun b=>.slice (some ⟨b,0,none⟩) len len) (fun w=>?_) h;simp only[Instr.buildSlice,Sem.run_bind,D4 h3,Result.andThen_ok,H1 hm,Sem.run_ite,hY.evpa h1];rw[Dq4 (by simpa using yK),Dq4 qA];simp only[Sem.run_pure,Result.andThen_ok,Sem.run_bind,Af1 hz,eK];simp[newRow]
    ·have hq:=M0 h;clear h;obtain⟨M,hM,h⟩:=hq;split at hM<;>subst hM
     ·rename_i hb eC;have jE:len=0:=Dz0 hb;subst jE;refine Bp5 hc (s:=Instr.buildSlice t 0 (parts.map fun(i,x)=>(i,a.eval x))) (fun w=>by simp only[execOp,ho]) (ob:=.cells #[] e) (f:=fun b=>.slice (some ⟨b,0,none⟩) 0 0) (fun w=>?_) h;simp only[Instr.buildSlice,Sem.run_bind,D4 h3,Result.andThen_ok,H1 hm,Sem.run_ite,hY.evpa h1,Dz2];have h0:(Array.range 0:Array Nat)=#[]:=D68 (by simp);simp[newRow,Instr.fill,h0]
     ·exact False.elim h
   ·exact False.elim h
  ·exact False.elim h
 |load t x=>
  simp only[G6,ho]at h;have hc:D3 P o= .R:=by simp only[D3,ho]
  have hq:=M0 h;clear h;obtain⟨M,hM,h⟩:=hq;split at hM<;>subst hM
  ·rename_i p sh h1 h2;obtain⟨ad,rfl,y,hl,hk⟩:=W1 h;rw[hc];have hr: ∀L',C9 ad (sh.vals y) L'->RdV P (Instr.loadAt t (a.eval x)) (sh.val y) L':=by
    intro L' hl E F w hw;rw[hY.ev h1];simp only[Instr.loadAt,Instr.sureAddr,Sem.run_bind,Sem.run_pure,Result.andThen_ok];exact Av8 h2 y (hl.cells hw)
   exact Dk1 (s:=Instr.loadAt t (a.eval x)) (fun w=>by simp only[execOp,ho]) (hr L hl) hr hk
  ·exact False.elim h
 |store t x y=>
  simp only[G6,ho]at h;have hc:D3 P o= .W:=by simp only[D3,ho]
  have hq:=M0 h;clear h;obtain⟨M,hM,h⟩:=hq;split at hM<;>subst hM
  ·rename_i p v m h1 h2 h3;have hq:=M0 h;clear h;obtain⟨M,hM,h⟩:=hq;split at hM<;>subst hM
   ·rename_i hb;simp only[Dv4]at hb;obtain⟨ad,rfl,A,B,c,T,fz,rfl,hs,aC,eP,hk⟩:=W1 h;rw[hc];refine ok_U (s:=Instr.storeAt t (a.eval x) (a.eval y)) (fun w=>by simp only[execOp,ho]) fun E F w hw=>?_;obtain⟨b,off,sp⟩:=ad;simp only at hs aC eP hk hw;subst hs;have hC:v.cells.size=m:=by have:=Dz0 hb.2;simpa using this
    obtain⟨w',hr,aI⟩:=S3 (P:=P) v.cells.toList c off 0 w hb.1 hw (by simpa using aC) (by simpa using eP);refine⟨w',_,?_,aI,K3 hk⟩;rw[hY.ev h1,hY.ev h2];simp only[Instr.storeAt,Instr.sureAddr,Sem.run_bind,Sem.run_pure,Result.andThen_ok,storeVar,H1 h3,hC];simpa using hr
   ·exact False.elim h
  ·exact False.elim h
 |ready g=>simp only[G6,ho]at h;exact False.elim h
 |waits g=>simp only[G6,ho]at h;exact False.elim h
 |nilCheck x=>
  simp only[G6,ho]at h;have hc:D3 P o= .P:=by simp only[D3,ho]
  have hq:=M0 h;clear h;obtain⟨M,hM,h⟩:=hq;split at hM<;>subst hM
  ·rename_i p h1;obtain⟨ad,rfl,hk⟩:=W1 h;rw[hc];exact⟨_,fun w=>by simp only[execOp,ho,hY.ev h1];rfl,hk⟩
  ·exact False.elim h
 |binOp op xt x y yt=>
  simp only[G6,ho]at h;exact Bi2 hY ho h
 |unOp op t x=>
  simp only[G6,ho]at h;have hc:D3 P o= .P:=by simp only[D3,ho]
  have hq:=M0 h;clear h;obtain⟨M,hM,h⟩:=hq;split at hM<;>subst hM
  ·rename_i b h1;exact Bk9 hc (s:=Op.unary .not (a.eval x)) (fun w=>by simp only[execOp,ho]) (fun w=>by rw[hY.ev h1];rfl) h
  ·rename_i kd m h1;exact Bk9 hc (s:=Op.unary .neg (a.eval x)) (fun w=>by simp only[execOp,ho]) (fun w=>by rw[hY.ev h1];rfl) h
  ·rename_i kd m h1;exact Bk9 hc (s:=Op.unary .xor (a.eval x)) (fun w=>by simp only[execOp,ho]) (fun w=>by rw[hY.ev h1];rfl) h
  ·exact False.elim h
 |convert src dst x=>
  simp only[G6,ho]at h;have hq:=M0 h;clear h;obtain⟨M,hM,h⟩:=hq;split at hM<;>subst hM
  ·rename_i k1 m k2 kd h1 h2 h3;have hc:D3 P o= .P:=by simp only[D3,ho,h2,h3]
   refine Bk9 hc (s:=convert src dst (a.eval x)) (fun w=>by simp only[execOp,ho]) (fun w=>?_) h;rw[hY.ev h1];simp[convert,D4 h2,D4 h3,Conv.intToInt]
  ·rename_i s h1 h2 h3;have hc:D3 P o= .P:=by simp only[D3,ho,h2,h3]
   refine Bk9 hc (s:=convert src dst (a.eval x)) (fun w=>by simp only[execOp,ho]) (fun w=>?_) h;rw[hY.ev h1];simp[convert,D4 h2,D4 h3]
  ·rename_i s e h1 h2 h3;have hc:D3 P o= .A:=by simp only[D3,ho,h2,h3]
   have hq:=M0 h;clear h;obtain⟨M,hM,h⟩:=hq;split at hM<;>subst hM
   ·rename_i h4;have gZ: ∀w,(convert src dst (a.eval x)).run P w=(Conv.stringToBytes e s).run P w:=by
     intro w;rw[hY.ev h1];simp[convert,D4 h2,D4 h3,D4 h4]
    have eW:Bc6 P .A o a L φs k:=by
     refine ok_A (s:=convert src dst (a.eval x)) (fun w=>by simp only[execOp,ho]) (fun w=>?_) fun m ob v hg hs=>?_
     ·obtain⟨ob,v,d,hr⟩:=h.1 w;exact⟨ob,v,d,by rw[gZ];exact hr⟩
     ·obtain⟨w,d,hw,hr⟩:=hg;rw[gZ]at hr;obtain⟨r,rfl,hk⟩:=h.2 m ob v ⟨w,d,hw,hr⟩ hs;exact hk
    rw[hc];exact eW
   ·exact False.elim h
  ·rename_i b l c e1 e2 h1 h2 h3;have hc:D3 P o= .W:=by simp only[D3,ho,h2,h3]
   rw[hc];have e1:=hY.ev h1;refine Dk0 (s:=convert src dst (.slice b l c)) (fun w=>by simp only[execOp,ho,e1]) fun E F w hw=>?_;obtain⟨v,w',L',hr,aI,r,rfl,hk⟩:=h E F w hw;exact⟨_,w',L',hr,aI,K3 hk⟩
  ·rename_i b l c e h1 h2 h3;have hc:D3 P o= .R:=by simp only[D3,ho,h2,h3]
   have hq:=M0 h;clear h;obtain⟨M,hM,h⟩:=hq;split at hM<;>subst hM
   ·rename_i h4;have gZ: ∀w,(convert src dst (a.eval x)).run P w=(Conv.bytesToString (.slice b l c)).run P w:=by
     intro w;rw[hY.ev h1];simp[convert,D4 h2,D4 h3,D4 h4]
    obtain⟨r,hr,hk⟩:=h;rw[hc];refine Dk1 (s:=convert src dst (a.eval x)) (fun w=>by simp only[execOp,ho]) (v:=.string r.1) (fun E F w hw=>?_) (fun L' h E F w hw=>?_) hk
    ·rw[gZ];exact hr E F w hw
    ·rw[gZ];exact h E F w hw
   ·exact False.elim h
  ·exact False.elim h
 |sliceToArrayPointer t x=>simp only[G6,ho]at h;exact False.elim h
 |makeInterface t x=>simp only[G6,ho]at h;exact False.elim h
 |makeFunc fn first captured=>
  simp only[G6,ho]at h;have hc:D3 P o= .P:=by simp only[D3,ho]
  have hq:=M0 h;clear h;obtain⟨M,hM,h⟩:=hq;split at hM<;>subst hM
  ·rename_i f1 c1 h1 h2;exact Bk9 hc (s:=Instr.makeFunc fn (first.map a.eval) (captured.map a.eval)) (fun w=>by simp only[execOp,ho]) (fun w=>by rw[hY.eva h1,hY.eva h2];rfl) h
  ·exact False.elim h
 |makeMap t r=>
  cases r with
  |some r=>simp only[G6,ho]at h;exact False.elim h
  |none=>
   simp only[G6,ho]at h;refine Bp5 (by simp only[D3,ho]) (s:=Instr.makeMap t none) (fun w=>by simp only[execOp,ho,Option.map_none]) (ob:=.map #[] 0) (f:=fun m=>.map (some m)) (fun w=>?_) h;simp[Instr.makeMap]
 |makeChan t s=>simp only[G6,ho]at h;exact False.elim h
 |makeSlice t l c=>
  simp only[G6,ho]at h;have hc:D3 P o= .A:=by simp only[D3,ho]
  have hq:=M0 h;clear h;obtain⟨M,hM,h⟩:=hq;split at hM<;>subst hM
  ·rename_i kl nl kc nc h1 h2;have zD:=hY.ev h1;have mS:=hY.ev h2;rw[hc];refine ok_A (s:=Instr.makeSlice t (.int kl nl) (.int kc nc)) (fun w=>by simp only[execOp,ho,zD,mS]) h.1 fun m ob v hg hs=>?_;obtain⟨r,rfl,hk⟩:=h.2 m ob v hg hs;exact hk
  ·exact False.elim h
 |slice t x lo hi mx=>
  simp only[G6,ho]at h;have hc:D3 P o= .P:=by simp only[D3,ho]
  have hq:=M0 h;clear h;obtain⟨M,hM,h⟩:=hq;split at hM<;>subst hM
  ·rename_i s lo' hJ h1 h2 h3 h4 h5;have hq:=M0 h;clear h;obtain⟨M,hM,h⟩:=hq;split at hM<;>subst hM
   ·rename_i l hh e1 e2;obtain⟨hb,hk⟩:=h;refine Bk9 hc (s:=Instr.sliceAt t (a.eval x) (lo.map a.eval) (hi.map a.eval) (mx.map a.eval)) (fun w=>by simp only[execOp,ho]) (fun w=>?_) hk;rw[hY.ev h1,hY.evo h2,hY.evo h3,hY.evo h4];have:=Ah5 (P:=P) false (len:=s.size) (cap:=s.size) (mx:=none) (m:=s.size) e1 e2 rfl (by intro h;cases h) (by omega) w;simp[Instr.sliceAt,Instr.slice,D4 h5,this]
   ·exact False.elim h
  ·rename_i b l0 c0 lo' hJ mx' e h1 h2 h3 h4 h5;have hq:=M0 h;clear h;obtain⟨M,hM,h⟩:=hq;split at hM<;>subst hM
   ·exact False.elim h
   ·rename_i hJ mx' _ _ _ _ _ _ sz l hh m e1 e2 bF e3 e4;obtain⟨hb,hk⟩:=h;refine Bk9 hc (s:=Instr.sliceAt t (a.eval x) (lo.map a.eval) (hi.map a.eval) (mx.map a.eval)) (fun w=>by simp only[execOp,ho]) (fun w=>?_) hk;rw[hY.ev h1,hY.evo h2,hY.evo h3,hY.evo h4];have yG:mx'.isSome=true->hJ.isSome=true:=by
     intro hm;cases hJ with
     |some _=>rfl
     |none=>
      cases mx' with
      |none=>cases hm
      |some v=>exact(bF v rfl rfl).elim
    have:=Ah5 (P:=P) true (len:=l0) (cap:=c0) e2 e3 e4 yG hb w;simp[Instr.sliceAt,Instr.slice,D4 h5,this,H1 e1,Q0]
   ·exact False.elim h
  ·rename_i p lo' hJ q e h1 h2 h3 h4 h5;have hq:=M0 h;clear h;obtain⟨M,hM,h⟩:=hq;split at hM<;>subst hM
   ·rename_i sz l hh e1 e2 e3;obtain⟨ad,rfl,hb,hk⟩:=W1 h;refine Bk9 hc (s:=Instr.sliceAt t (a.eval x) (lo.map a.eval) (hi.map a.eval) (mx.map a.eval)) (fun w=>by simp only[execOp,ho]) (fun w=>?_) hk;rw[hY.ev h1,hY.evo h2,hY.evo h3,hY.evo h4];have:=Ah5 (P:=P) false (len:=q) (cap:=q) (mx:=none) (m:=q) e2 e3 rfl (by intro h;cases h) (by simpa using hb) w;simp[Instr.sliceAt,D4 h5,this,H1 e1,Instr.sureAddr,Q0];split<;>rfl
   ·exact False.elim h
  ·exact False.elim h
 |fieldAddr s x f=>
  simp only[G6,ho]at h;have hc:D3 P o= .P:=by simp only[D3,ho]
  have hq:=M0 h;clear h;obtain⟨M,hM,h⟩:=hq;split at hM<;>subst hM
  ·rename_i p off h1 h2;obtain⟨ad,rfl,hk⟩:=W1 h;exact Bk9 hc (s:=Instr.fieldAt s (a.eval x) f) (fun w=>by simp only[execOp,ho]) (fun w=>by rw[hY.ev h1];exact Bi3 h2 w) hk
  ·exact False.elim h
 |field s x f=>
  simp only[G6,ho]at h;have hc:D3 P o= .P:=by simp only[D3,ho]
  have hq:=M0 h;clear h;obtain⟨M,hM,h⟩:=hq;split at hM<;>subst hM
  ·rename_i cs fs h1 h2;have hq:=M0 h;clear h;obtain⟨M,hM,h⟩:=hq;split at hM<;>subst hM
   ·rename_i fd h3;have hq:=M0 h;clear h;obtain⟨M,hM,h⟩:=hq;split at hM<;>subst hM
    ·rename_i v h4;refine Bk9 hc (s:=Instr.field s (a.eval x) f) (fun w=>by simp only[execOp,ho]) (fun w=>?_) h;rw[hY.ev h1];simp only[Instr.field,Sem.run_bind,D4 h2,Result.andThen_ok,h3,asAgg,Sem.run_pure];exact By2 h4 w
    ·exact False.elim h
   ·exact False.elim h
  ·exact False.elim h
 |indexAddr t x i=>
  simp only[G6,ho]at h;have hc:D3 P o= .P:=by simp only[D3,ho]
  have hq:=M0 h;clear h;obtain⟨M,hM,h⟩:=hq;split at hM<;>subst hM
  ·rename_i b l c kk j e h1 h2 h3;have hq:=M0 h;clear h;obtain⟨M,hM,h⟩:=hq;split at hM<;>subst hM
   ·rename_i sz h4;obtain⟨ad,rfl,hb,hk⟩:=W1 h;refine Bk9 hc (s:=Instr.indexAt t (a.eval x) (a.eval i)) (fun w=>by simp only[execOp,ho]) (fun w=>?_) hk;rw[hY.ev h1,hY.ev h2];simp[Instr.indexAt,asIntOf,D4 h3,hb.1,hb.2,H1 h4]
   ·exact False.elim h
  ·rename_i p kk j q e h1 h2 h3;have hq:=M0 h;clear h;obtain⟨M,hM,h⟩:=hq;split at hM<;>subst hM
   ·rename_i sz h4;obtain⟨ad,rfl,hb,hk⟩:=W1 h;refine Bk9 hc (s:=Instr.indexAt t (a.eval x) (a.eval i)) (fun w=>by simp only[execOp,ho]) (fun w=>?_) hk;rw[hY.ev h1,hY.ev h2];simp[Instr.indexAt,asIntOf,D4 h3,hb.1,hb.2,H1 h4,Instr.sureAddr]
   ·exact False.elim h
  ·exact False.elim h
 |index t x i=>
  simp only[G6,ho]at h;have hc:D3 P o= .P:=by simp only[D3,ho]
  have hq:=M0 h;clear h;obtain⟨M,hM,h⟩:=hq;split at hM<;>subst hM
  ·rename_i s kk j h1 h2 h3;obtain⟨hb,hk⟩:=h;refine Bk9 hc (s:=Instr.index t (a.eval x) (a.eval i)) (fun w=>by simp only[execOp,ho]) (fun w=>?_) hk;rw[hY.ev h1,hY.ev h2];have hj:j.toNat<s.size:=by omega
   have iX:j.toNat<s.data.size:=hj;simp only[Instr.index,asIntOf,Sem.run_bind,Sem.run_pure,Result.andThen_ok,D4 h3,hb.1,if_true];rw[getElem?_pos s j.toNat hj];have:Ct5 s j=(s[j.toNat].toNat:Int):=by
    unfold Ct5;rw[Ed3,Ed7 iX];rfl
   rw[this];rfl
  ·rename_i cs kk j q e h1 h2 h3;have hq:=M0 h;clear h;obtain⟨M,hM,h⟩:=hq;split at hM<;>subst hM
   ·obtain⟨r,hr,hk⟩:=h;exact Bk9 hc (s:=Instr.index t (a.eval x) (a.eval i)) (fun w=>by simp only[execOp,ho]) (fun w=>by rw[hY.ev h1,hY.ev h2];exact hr w) hk
   ·exact False.elim h
  ·exact False.elim h
 |lookup t x i ok=>
  simp only[G6,ho]at h;have hc:D3 P o= .R:=by simp only[D3,ho]
  rw[hc];have hq:=M0 h;clear h;obtain⟨M,hM,h⟩:=hq;split at hM<;>subst hM
  ·rename_i vm vi kk e h1 h2 h3;have e1:=hY.ev h1;have e2:=hY.ev h2;have hq:=M0 h;clear h;obtain⟨M,hM,h⟩:=hq;split at hM<;>subst hM
   ·rename_i s h4;obtain⟨r,hr,hk⟩:=h;exact Dk1 (s:=Instr.lookup t vm vi false) (fun w=>by simp only[execOp,ho,e1,e2]) hr (fun L' h=>h) hk
   ·rename_i s h4;obtain⟨r,hr,hk⟩:=h;exact Dk1 (s:=Instr.lookup t vm vi true) (fun w=>by simp only[execOp,ho,e1,e2]) hr (fun L' h=>h) hk
   ·exact False.elim h
  ·exact False.elim h
 |mapUpdate t m i x=>
  simp only[G6,ho]at h;have hc:D3 P o= .W:=by simp only[D3,ho]
  rw[hc];have hq:=M0 h;clear h;obtain⟨M,hM,h⟩:=hq;split at hM<;>subst hM
  ·rename_i vm vi vx h1 h2 h3;refine ok_U (s:=Instr.mapUpdate t (a.eval m) (a.eval i) (a.eval x)) (fun w=>by simp only[execOp,ho]) fun E F w hw=>?_;rw[hY.ev h1,hY.ev h2,hY.ev h3];obtain⟨w',L',hr,aI,hk⟩:=h E F w hw;exact⟨w',L',hr,aI,K3 hk⟩
  ·exact False.elim h
 |insert t m i x=>
  simp only[G6,ho]at h;have hc:D3 P o= .W:=by simp only[D3,ho]
  rw[hc];have hq:=M0 h;clear h;obtain⟨M,hM,h⟩:=hq;split at hM<;>subst hM
  ·rename_i vm vi vx h1 h2 h3;refine ok_U (s:=Instr.mapUpdate t (a.eval m) (a.eval i) (a.eval x)) (fun w=>by simp only[execOp,ho]) fun E F w hw=>?_;rw[hY.ev h1,hY.ev h2,hY.ev h3];obtain⟨w',L',hr,aI,hk⟩:=h E F w hw;exact⟨w',L',hr,aI,K3 hk⟩
  ·exact False.elim h
 |mapEntry t m i=>simp only[G6,ho]at h;exact False.elim h
 |entryStore t m s x=>simp only[G6,ho]at h;exact False.elim h
 |range t x=>
  simp only[G6,ho]at h;have hc:D3 P o= .W:=by simp only[D3,ho]
  rw[hc];have hq:=M0 h;clear h;obtain⟨M,hM,h⟩:=hq;split at hM<;>subst hM
  ·rename_i v h1;have e1:=hY.ev h1;refine Dk0 (s:=Instr.range t v) (fun w=>by simp only[execOp,ho,e1]) fun E F w hw=>?_;obtain⟨v,w',L',hr,aI,r,rfl,hk⟩:=h E F w hw;exact⟨_,w',L',hr,aI,K3 hk⟩
  ·exact False.elim h
 |next it str=>
  simp only[G6,ho]at h;have hc:D3 P o= .W:=by simp only[D3,ho]
  rw[hc];have hq:=M0 h;clear h;obtain⟨M,hM,h⟩:=hq;split at hM<;>subst hM
  ·rename_i p h1;have e1:=hY.ev h1;refine Dk0 (s:=Instr.next (.pointer p) str o.type) (fun w=>by simp only[execOp,ho,e1]) fun E F w hw=>?_;obtain⟨v,w',L',hr,aI,⟨rfl,hk⟩|⟨x,y,rfl,hk⟩⟩:=h E F w hw
   ·exact⟨_,w',L',hr,aI,K3 hk⟩
   ·exact⟨_,w',L',hr,aI,K3 hk⟩
  ·exact False.elim h
 |entry it=>
  simp only[G6,ho]at h;have hc:D3 P o= .R:=by simp only[D3,ho]
  rw[hc];have hq:=M0 h;clear h;obtain⟨M,hM,h⟩:=hq;split at hM<;>subst hM
  ·rename_i p h1;have e1:=hY.ev h1;obtain⟨x,y,hr,hk⟩:=h;exact Dk1 (s:=Instr.entry (.pointer p)) (fun w=>by simp only[execOp,ho,e1]) hr (fun L' h=>h) hk
  ·exact False.elim h
 |typeAssert x t u ok=>simp only[G6,ho]at h;exact False.elim h
 |extract x i=>
  simp only[G6,ho]at h;have hc:D3 P o= .P:=by simp only[D3,ho]
  have hq:=M0 h;clear h;obtain⟨M,hM,h⟩:=hq;split at hM<;>subst hM
  ·rename_i vs h1;have hq:=M0 h;clear h;obtain⟨M,hM,h⟩:=hq;split at hM<;>subst hM
   ·rename_i v h2;refine Bk9 hc (s:=Instr.extract (a.eval x) i) (fun w=>by simp only[execOp,ho]) (fun w=>?_) h;rw[hY.ev h1];simp[Instr.extract,h2]
   ·exact False.elim h
  ·exact False.elim h
 |call c=>
  simp only[G6,ho]at h;exact A81 hN hY ho h
 |go c=>simp only[G6,ho]at h;exact False.elim h
 |defer c=>simp only[G6,ho]at h;exact False.elim h
 |panic x=>simp only[G6,ho]at h;exact False.elim h
 |send c x=>simp only[G6,ho]at h;exact False.elim h
 |recv t c ok=>simp only[G6,ho]at h;exact False.elim h
 |select cs b=>simp only[G6,ho]at h;exact False.elim h
end
section
variable {P:Program} {n:Nat}
def Mod(S:List Nat)(a a':Act):Prop:= ∀t,t∉S->a'.tmps[t]?=a.tmps[t]?
theorem Mod.refl(S:List Nat)(a:Act):Mod S a a:=fun _ _=>rfl
theorem Mod.trans{S:List Nat}{a b c:Act}(h:Mod S a b)(k:Mod S b c):Mod S a c:=fun t ht=>(k t ht).trans (h t ht)
theorem Mod.mono{S S':List Nat}{a b:Act}(hs: ∀t∈S,t∈S')(h:Mod S a b):Mod S' a b:=fun t ht=>h t fun hm=>ht (hs t hm)
theorem S5(s:Nat)(v:Value)(r:Env)(t:Nat):Bg4 ((s,v)::r) t=if s=t then some v else Bg4 r t:=by
 simp only[Bg4];cases h:Nat.beq s t with
 |true=>rw[Dq5 (Dz0 h)]
 |false=>rw[Dq4 (D72 h)]
theorem O2.cons{env:Env}{a:Act}(h:O2 n env a){t:Nat}{v:Value}(hv:a.tmps[t]?=some v):O2 n ((t,v)::env) a:=by
 refine⟨h.size,h.defers,fun s u hs=>?_⟩;rw[S5]at hs;split at hs
 ·rename_i e;subst e;rw[hv];exact hs
 ·exact h.at' s u hs
theorem O2.put{env:Env}{a:Act}(h:O2 n env a){d:Nat}(hd:d<n)(v:Value):O2 n ((d,v)::env) (a.put (some d) v):=by
 refine⟨by simpa[Act.put]using h.size,h.defers,fun t u ht=>?_⟩;rw[S5]at ht;split at ht
 ·rename_i e;subst e;obtain rfl:=Dq9 ht;simp[Act.put,h.size,hd]
 ·rename_i e;simp only[Act.put,D22 e];exact h.at' t u ht
theorem Bo5{env:Env}{dst:Option Tmp}{v:Value}{k:Env->HP}{L:A4}{a:Act}(hY:O2 n env a)(h:Di6 n env dst v k L): ∃env',O2 n env' (a.put dst v)/\k env' L:=by
 cases dst with
 |none=>exact⟨env,hY,h⟩
 |some d=>
  simp only[Di6]at h;have hq:=M0 h;clear h;obtain⟨M,hM,h⟩:=hq;split at hM<;>subst hM
  ·rename_i hd;exact⟨_,hY.put (Ea4 hd) v,h⟩
  ·exact False.elim h
theorem Mod.put{S:List Nat}{a0 a:Act}(h:Mod S a0 a){dst:Option Tmp}(hd: ∀d,dst=some d->d∈S)(v:Value):Mod S a0 (a.put dst v):=by
 intro t ht;cases dst with
 |none=>exact h t ht
 |some d=>
  have aE:d≠t:=fun e=>ht (e▸hd d rfl);simp only[Act.put,D22 aE];exact h t ht
def Cv3(P:Program)(Tf:List (Nat×HP))(Ts:A72):Prop:= ∀q∈Ts,∃p∈Tf,p.1=q.1/\ ∀L',p.2 L'->RdS P q.2.1 L' q.2.2
theorem Aq9(hN:A67 P){ops:Array Oper}{anc:Nat->Nat->Bool}{drawn:Bool}{cls:Nat->Cls}(cG: ∀i o,ops[i]?=some o->cls i=D3 P o)
  (mG:drawn=false-> ∀x i,anc x i=true) {a0:Act} {K:Env->HP}: ∀(l:List Nat) (env:Env) (Tf:List (Nat×HP)) (Ts:A72) (a:Act) (L:A4),
  O2 n env a->(drawn=true->Cv3 P Tf Ts)->Mod (Dd1 ops) a0 a->Af4 P n ops anc drawn l env Tf K L->
  As0 P ops anc cls (fun a' L'=>Mod (Dd1 ops) a0 a'/\ ∃env',O2 n env' a'/\K env' L') l a Ts L:=by
 intro l;induction l with
 |nil=>exact fun env Tf Ts a L hY _ aQ h=>⟨L,Dq8 _,aQ,env,hY,h⟩
 |cons i r ih=>
  intro env Tf Ts a L hY hp aQ h;simp only[Af4]at h;simp only[As0];cases ho:ops[i]? with
  |none=>simp only[ho]at h;exact False.elim h
  |some o=>
   simp only[ho]at h⊢;have uS: ∀d,o.dst=some d->d∈Dd1 ops:=by
    intro d hd;have:o∈ops.toList:=by simpa using Ea3 ho
    exact D73.2 ⟨o,this,hd⟩
   rw[cG i o ho];have run: ∀env,O2 n env a->K2 ops o a=true->G6 P (C64 P ops.toList o.dst) o env (Bh2 ((Tf.filter fun q=> !anc q.1 i).map (·.2))) (fun v φs=>
     Di6 n env o.dst v fun env'=>Af4 P n ops anc drawn r env' (Dj2 drawn i φs Tf) K) L->
     R6 P ops anc (D3 P o) i o (As0 P ops anc cls (fun a' L'=>Mod (Dd1 ops) a0 a'/\ ∃env',O2 n env' a'/\K env' L') r) a Ts L:=by
    intro env hY hw h;have h1:=Bs4 hN hY h;have next: ∀(a':Act) (v:Value) (φs:List HP) (Ts':A72) (L':A4),a'=a.put o.dst v->(drawn=true->Cv3 P (φs.map (i, ·)++Tf) Ts')->
      Di6 n env o.dst v (fun env'=>Af4 P n ops anc drawn r env' (Dj2 drawn i φs Tf) K) L'->
      As0 P ops anc cls (fun a' L'=>Mod (Dd1 ops) a0 a'/\ ∃env',O2 n env' a'/\K env' L') r a' Ts' L':=by
     rintro a' v φs Ts' L' rfl dO hk;obtain⟨env',bJ,hk⟩:=Bo5 hY hk;refine ih env' _ Ts' _ L' bJ (fun hd=>?_) (aQ.put uS v) hk;have:=dO hd;rw[hd];exact this
    unfold Bc6 at h1;cases hc:D3 P o with
    |P=>
     rw[hc]at h1;obtain⟨v,hr,hk⟩:=h1;exact⟨v,.inl ⟨hw,hr⟩,next _ v [] Ts L rfl (fun hd=>by simpa using hp hd) hk⟩
    |R=>
     rw[hc]at h1;obtain⟨v,φ,hr,hφ,hk⟩:=h1;refine .inr ⟨hw,v,hr,next _ v [φ] _ L rfl (fun hd q hq=>?_) hk⟩;rcases Dt5.1 hq with rfl|hq
     ·exact⟨(i,φ),by simp,rfl,hφ⟩
     ·obtain⟨p,aL,aH⟩:=hp hd q hq;exact⟨p,by simp[aL],aH⟩
    |A=>
     rw[hc]at h1;obtain⟨cE,hk⟩:=h1;exact .inr ⟨hw,cE,fun m ob v hg hs=>next _ v [] Ts _ rfl (fun hd=>by simpa using hp hd) (hk m ob v hg hs)⟩
    |W=>
     rw[hc]at h1;refine .inr ⟨hw,OpF.mono h1 fun a' L' _ ⟨v,cQ,hφ,hk⟩=>⟨fun q hq xT=>?_,next a' v [] Ts L' cQ (fun hd=>by simpa using hp hd) hk⟩⟩;cases hd:drawn with
     |false=>rw[mG hd]at xT;cases xT
     |true=>
      obtain⟨p,aL,aH,aZ⟩:=hp hd q hq;refine aZ L' (hφ _ (Dt4.2 ⟨p,Dw5.2 ⟨aL,?_⟩,rfl⟩));rw[aH,xT];rfl
   have skip: ∀env,O2 n env a->K2 ops o a=false->Di6 n env o.dst undef (fun env'=>Af4 P n ops anc drawn r env' Tf K) L->
     R6 P ops anc (D3 P o) i o (As0 P ops anc cls (fun a' L'=>Mod (Dd1 ops) a0 a'/\ ∃env',O2 n env' a'/\K env' L') r) a Ts L:=by
    intro env hY hw h;obtain⟨env',bJ,hk⟩:=Bo5 hY h;have hS:Y6 ops o (As0 P ops anc cls (fun a' L'=>Mod (Dd1 ops) a0 a'/\ ∃env',O2 n env' a'/\K env' L') r) a Ts L:=
     ⟨hw,ih env' Tf Ts _ L bJ hp (aQ.put uS undef) hk⟩
    cases D3 P o
    ·exact hS.toP
    ·exact .inl hS
    ·exact .inl hS
    ·exact .inl hS
   cases hg:o.guard with
   |none=>
    rw[hg]at h;refine run env hY ?_ h;unfold K2 Region.wanted;rw[hg]
   |some p=>
    obtain⟨j,want⟩:=p;rw[hg]at h;simp only at h;cases oI:ops[j]? with
    |none=>simp only[oI]at h;exact False.elim h
    |some oj=>
     simp only[oI]at h;cases hd:oj.dst with
     |none=>simp only[hd]at h;exact False.elim h
     |some d=>
      simp only[hd]at h;have hq:=M0 h;clear h;obtain⟨M,hM,h⟩:=hq;split at hM<;>subst hM
      ·rename_i t hl;have ht:=hY.at' d _ hl;have jA:K2 ops o a=(t==want):=by
        unfold K2 Region.wanted;rw[hg];simp[yielded,oI,hd,ht]
       rcases Bh4 h with⟨rfl,h⟩|⟨rfl,h⟩
       ·have bJ:=hY.cons ht;cases want
        ·exact skip _ bJ jA h
        ·exact run _ bJ jA h
       ·have bJ:=hY.cons ht;cases want
        ·exact run _ bJ jA h
        ·exact skip _ bJ jA h
      ·rename_i vs hl;have ht:=hY.at' d _ hl;refine skip _ hY ?_ h;unfold K2 Region.wanted;rw[hg];simp[yielded,oI,hd,ht]
      ·exact False.elim h
theorem Lf.of_spec: ∀{l:Lf} {v:Value} {x:LfV l},l.of v=some x->l.val x=v:=by
 intro l v x h;cases l<;>cases v<;>simp only[Lf.of]at h<;>first|(cases h;done)|skip
 ·rename_i k k' m;split at h
  ·rename_i hk;obtain rfl:=A40 hk;obtain rfl:=Dq9 h;rfl
  ·cases h
 all_goals (obtain rfl:=Dq9 h;rfl)
theorem At9: ∀{ls:List Lf} {vs:List Value} {x:LfVs ls},Cn0 ls vs=some x->Av9 ls x=vs
 |[],[],_,_=>rfl
 |[],_::_,_,h=>by cases h
 |_::_,[],_,h=>by cases h
 |l::r,v::vs,x,h=>by
  simp only[Cn0]at h;split at h
  ·rename_i y z hy hz;obtain rfl:=Dq9 h;simp[Av9,Lf.of_spec hy,At9 hz]
  ·cases h
theorem Sh.of_spec{s:Sh}{v:Value}{x:ShV s}(h:s.of v=some x):s.val x=v:=by
 cases s with
 |lf l=>exact Lf.of_spec h
 |agg ls=>
  cases v<;>simp only[Sh.of]at h<;>first|(cases h;done)|skip
  rename_i cs;simp[Sh.val,At9 h]
theorem Bz2(A B:Env)(t:Nat):Bg4 (A++B) t=match Bg4 A t with|some v=>some v|none=>Bg4 B t:=by
 induction A with
 |nil=>rfl
 |cons p r ih=>
  obtain⟨s,v⟩:=p;rw[Dt7,S5,S5];split
  ·rfl
  ·exact ih
theorem Bq1(l:List Nat)(t:Nat):memN l t=true↔t∈l:=by
 induction l with
 |nil=>simp[memN]
 |cons x r ih=>
  simp only[memN];cases h:Nat.beq x t with
  |true=>have:=Dz0 h;subst this;simp
  |false=>have:=D72 h;simp[ih,Ne.symm this]
theorem C28(mods:List Nat)(env:Env)(t:Nat){v:Value}(h:Bg4 (Aw4 mods env) t=some v):Bg4 env t=some v/\t∉mods:=by
 induction env with
 |nil=>cases h
 |cons p r ih=>
  obtain⟨s,u⟩:=p;simp only[Aw4]at h;cases hm:memN mods s with
  |true=>
   rw[hm]at h;obtain⟨h1,h2⟩:=ih h;refine⟨?_,h2⟩;rw[S5,Dq4]
   ·exact h1
   ·rintro rfl;exact h2 ((Bq1 _ _).1 hm)
  |false=>
   rw[hm]at h;simp only at h;rw[S5]at h;split at h
   ·rename_i e;subst e;refine⟨by rw[S5,Dq5 rfl];exact h,fun dC=>?_⟩;rw[(Bq1 _ _).2 dC]at hm;cases hm
   ·rename_i e;obtain⟨h1,h2⟩:=ih h;exact⟨by rw[S5,Dq4 e];exact h1,h2⟩
theorem A88{env':Env}{a:Act}(hY:O2 n env' a): ∀(cs:List (Nat×Sh)) {x:RsV (cs.map (·.2))},Bp6 env' cs=some x-> ∀t v,Bg4 (Bm4 cs x) t=some v->a.tmps[t]?=some v
 |[],_,_,t,v,h=>by cases h
 | (s,sh)::r,x,hx,t,v,h=>by
  simp only[Bp6]at hx;split at hx
  ·rename_i y z hy hz;obtain rfl:=Dq9 hx;simp only[Bm4]at h;rw[S5]at h;split at h
   ·rename_i e;subst e;obtain rfl:=Dq9 h;split at hy
    ·rename_i u hu;rw[Sh.of_spec hy];exact hY.at' _ _ hu
    ·cases hy
   ·exact A88 hY r hz t v h
  ·cases hx
theorem O2.carry{env env':Env}{a a':Act}{mods:List Nat}(hY:O2 n env a)(bJ:O2 n env' a')(aQ:Mod mods a a'){cs:List (Nat×Sh)}{x:RsV (cs.map (·.2))}(hx:Bp6 env' cs=some x):
  O2 n (Bm4 cs x++Aw4 mods env) a':=by
 refine⟨bJ.size,bJ.defers,fun t v h=>?_⟩;rw[Bz2]at h;cases ht:Bg4 (Bm4 cs x) t with
 |some u=>rw[ht]at h;obtain rfl:=Dq9 h;exact A88 bJ cs hx t _ ht
 |none=>
  rw[ht]at h;obtain⟨h1,h2⟩:=C28 mods env t h;rw[aQ t h2];exact hY.at' t v h1
def Dp7(n:Nat)(Kn:Env->HP)(Kx:Nat->Env->HP)(Kr:Env->HP):Exit->Act->HP
 | .normal,a,L=> ∃env,O2 n env a/\Kn env L
 | .exit id,a,L=> ∃env,O2 n env a/\Kx id env L
 | .ret,a,L=> ∃env,O2 n env a/\Kr env L
 |_,_,_=>False
theorem N9.scope{c:Code}{Q:Exit->Act->HP}{a:Act}{L:A4}(h:N9 P c Q a L)(hn: ∀l a L,¬Q (.goto l) a L):N9 P (.scope c) Q a L:=fun E F w hw=>
 wp_scope_straight (wp_mono (h E F w hw) fun e a' w' hq=>by
  cases e
  case goto l=>obtain⟨L',_,hq⟩:=hq;exact(hn l a' L' hq).elim
  all_goals exact hq)
theorem N9.label{l:Nat}{Q:Exit->Act->HP}{a:Act}{L:A4}(h:Q .normal a L):N9 P (.label l) Q a L:=fun _ _ _ hw=>wp_label ⟨L,hw,h⟩
theorem Cc3(hN:A67 P)(hm:P.follows .mixedOrders=true)(H:D1): ∀(c:Code) (b:Nat) (Kn:Env->HP) (Kx:Nat->Env->HP) (Kr:Env->HP) (env:Env) (a:Act) (L:A4),
  O2 n env a->A82 P H n c b Kn Kx Kr env L->N9 P c (fun e a' L'=>Mod (Ac1 c) a a'/\Dp7 n Kn Kx Kr e a' L') a L:=by
 intro c;induction c with
 |skip=>exact fun b Kn Kx Kr env a L hY h=>N9.skip ⟨.refl _ _,env,hY,h⟩
 |region id ops draw=>
  intro b Kn Kx Kr env a L hY h;cases draw with
  |false=>
   simp only[A82]at h;refine N9.region (fun i=>match ops[i]? with|some o=>D3 P o|none=>.P) ?_;exact Aq9 hN (drawn:=false) (fun i o ho=>by simp only[ho]) (fun _ _ _=>rfl) _ env [] [] a L hY (by intro h;cases h) (.refl _ _) h
  |true=>
   simp only[A82]at h;cases aW:Cc4 H.plans id with
   |none=>rw[aW]at h;exact False.elim h
   |some π=>
    rw[aW]at h;have hq:=M0 h;clear h;obtain⟨M,hM,h⟩:=hq;simp only at hM;split at hM<;>subst hM
    ·rename_i aA;refine N9.region_any hm _ π aA ?_;exact Aq9 hN (drawn:=true) (fun i o ho=>by simp only[ho]) (by intro h;cases h) _ env [] [] a L hY (fun _ q hq=>by cases hq) (.refl _ _) h
    ·exact False.elim h
 |seq x y ihx ihy=>
  intro b Kn Kx Kr env a L hY h;simp only[A82]at h;refine N9.seq ?_;have rest: ∀{e:Exit} {a':Act} {L':A4},e≠ .normal->Mod (Ac1 x) a a'->Dp7 n Kn Kx Kr e a' L'->Mod (Ac1 (x.seq y)) a a'/\Dp7 n Kn Kx Kr e a' L':=
   fun _ aQ hp=>⟨aQ.mono fun t ht=>Ds8 _ ht,hp⟩
  cases hj:joinH H.joins y with
  |none=>
   rw[hj]at h;refine(ihx b _ Kx Kr env a L hY h).mono fun e a' L' ⟨aQ,hp⟩=>?_;cases e with
   |normal=>
    obtain⟨env',bJ,hk⟩:=hp;exact(ihy b Kn Kx Kr env' a' L' bJ hk).mono fun e2 a2 L2 ⟨eD,aH⟩=>
     ⟨(aQ.mono fun t ht=>Ds8 _ ht).trans (eD.mono fun t ht=>Du2 _ ht),aH⟩
   |exit id=>exact rest (by intro h;cases h) aQ hp
   |ret=>exact rest (by intro h;cases h) aQ hp
   |goto l=>exact hp.elim
   |panic c=>exact hp.elim
   |outgrown=>exact hp.elim
  |some cs=>
   rw[hj]at h;refine(ihx b _ Kx Kr env a L hY h).mono fun e a' L' ⟨aQ,hp⟩=>?_;cases e with
   |normal=>
    obtain⟨env',bJ,hk⟩:=hp;have hq:=M0 hk;clear hk;obtain⟨M,hM,hk⟩:=hq;split at hM<;>subst hM
    ·rename_i v hv;exact(ihy b Kn Kx Kr _ a' L' (hY.carry bJ aQ hv) hk).mono fun e2 a2 L2 ⟨eD,aH⟩=>
      ⟨(aQ.mono fun t ht=>Ds8 _ ht).trans (eD.mono fun t ht=>Du2 _ ht),aH⟩
    ·exact False.elim hk
   |exit id=>exact rest (by intro h;cases h) aQ hp
   |ret=>exact rest (by intro h;cases h) aQ hp
   |goto l=>exact hp.elim
   |panic c=>exact hp.elim
   |outgrown=>exact hp.elim
 |cond c x y ihx ihy=>
  intro b Kn Kx Kr env a L hY h;simp only[A82]at h;have hq:=M0 h;clear h;obtain⟨M,hM,h⟩:=hq;split at hM<;>subst hM
  ·rename_i t hc;have he:=hY.ev hc;have bJ: ∀{t':Bool},t=t'->O2 n (Cf8 env c t') a:=by
    rintro t' rfl;cases c with
    |tmp d=>
     refine hY.cons ?_;exact hY.at' d _ hc
    |_=>exact hY
   refine N9.cond he ?_;rcases Bh4 h with⟨rfl,h⟩|⟨rfl,h⟩
   ·exact(ihx b Kn Kx Kr _ a L (bJ rfl) h).mono fun e a' L' ⟨aQ,hp⟩=>⟨aQ.mono fun t ht=>Ds8 _ ht,hp⟩
   ·exact(ihy b Kn Kx Kr _ a L (bJ rfl) h).mono fun e a' L' ⟨aQ,hp⟩=>⟨aQ.mono fun t ht=>Du2 _ ht,hp⟩
  ·exact False.elim h
 |block id c ih=>
  intro b Kn Kx Kr env a L hY h;simp only[A82]at h;refine N9.block ((ih id _ _ Kr env a L hY h).mono fun e a' L' ⟨aQ,hp⟩=>?_);cases e with
  |normal=>exact⟨aQ,hp⟩
  |exit id'=>
   obtain⟨env',bJ,hk⟩:=hp;simp only[Ct7];cases hb:Nat.beq id' id with
   |true=>
    rw[hb]at hk;rw[Dq5 (Dz0 hb)];exact⟨aQ,env',bJ,hk⟩
   |false=>
    rw[hb]at hk;rw[Dq4 (D72 hb)];exact⟨aQ,env',bJ,hk⟩
  |ret=>exact⟨aQ,hp⟩
  |goto l=>exact hp.elim
  |panic c=>exact hp.elim
  |outgrown=>exact hp.elim
 |loop c ih=>
  intro b Kn Kx Kr env a L hY h;simp only[A82]at h;cases hl:Cc4 H.loops b with
  |none=>rw[hl]at h;exact False.elim h
  |some cs=>
   rw[hl]at h;simp only at h;cases gJ:Bp6 env cs with
   |none=>rw[gJ]at h;exact False.elim h
   |some x0=>
    rw[gJ]at h;obtain⟨I,⟨k0,zZ⟩,pS⟩:=h;refine N9.loop (fun k a' L'=> ∃x,O2 n (Bm4 cs x++Aw4 (Ac1 c) env) a'/\Mod (Ac1 c) a a'/\I k x L') (k:=k0) ⟨x0,hY.carry hY (.refl _ _) gJ,.refl _ _,zZ⟩ ?_;rintro k a' L' ⟨x,bJ,aQ,hI⟩;refine(ih b _ Kx Kr _ a' L' bJ (pS k x L' hI)).mono fun e a2 L2 ⟨eD,hp⟩=>?_;cases e with
    |normal=>
     obtain⟨env2,zT,hk⟩:=hp;have hq:=M0 hk;clear hk;obtain⟨M,hM,hk⟩:=hq;split at hM<;>subst hM
     ·rename_i x' aX;obtain⟨k',cU,nV⟩:=hk;exact⟨k',cU,x',hY.carry zT (aQ.trans eD) aX,aQ.trans eD,nV⟩
     ·exact False.elim hk
    |exit id=>exact⟨aQ.trans eD,hp⟩
    |ret=>exact⟨aQ.trans eD,hp⟩
    |goto l=>exact hp.elim
    |panic c=>exact hp.elim
    |outgrown=>exact hp.elim
 |exit id=>exact fun b Kn Kx Kr env a L hY h=>N9.exit ⟨.refl _ _,env,hY,h⟩
 |ret=>exact fun b Kn Kx Kr env a L hY h=>N9.ret ⟨.refl _ _,env,hY,h⟩
 |rangeFunc f ps x y _ _=>exact fun b Kn Kx Kr env a L hY h=>by simp only[A82]at h;exact False.elim h
 |scope c ih=>
  intro b Kn Kx Kr env a L hY h;simp only[A82]at h;exact N9.scope (ih b Kn Kx Kr env a L hY h) fun l a L hq=>hq.2
 |label l=>exact fun b Kn Kx Kr env a L hY h=>N9.label ⟨.refl _ _,env,hY,h⟩
 |goto l=>exact fun b Kn Kx Kr env a L hY h=>by simp only[A82]at h;exact False.elim h
 |refuse w=>exact fun b Kn Kx Kr env a L hY h=>by simp only[A82]at h;exact False.elim h
theorem Bq4: ∀(vs:List Value) (i t:Nat) (v:Value),Bg4 (zipE i vs) t=some v->i<=t/\vs[t-i]?=some v
 |[],_,_,_,h=>by cases h
 |u::r,i,t,v,h=>by
  simp only[zipE]at h;rw[S5]at h;split at h
  ·rename_i e;subst e;exact⟨Dq6 _,by simpa using h⟩
  ·rename_i e;obtain⟨h1,h2⟩:=Bq4 r (i+1) t v h;refine⟨by omega,?_⟩;rw[show t-i=(t-(i+1))+1 by omega,D23];exact h2
theorem A15{env:Env}{a:Act}(hY:O2 n env a){E:World}{F L:A4}{w:World}(hw:S1 E w (L++F)): ∀{rs:List ResultVar} {K:List Value->HP},Dh6 P env rs K L->
  ∃vs,(rs.mapM (m:=Sem) fun| .tmp t=>pure (a.tmps.getD t undef)| .cell x t=>do loadVar t (<-asAddr (a.tmps.getD x undef))).run P w= .ok vs w/\K vs L
 |[],K,h=>⟨[],rfl,h⟩
 | .tmp t::r,K,h=>by
  simp only[Dh6]at h;cases hv:Bg4 env t with
  |none=>rw[hv]at h;exact False.elim h
  |some v=>
   rw[hv]at h;obtain⟨vs,hr,hk⟩:=A15 hY hw h;have:=hY.at' t v hv;refine⟨v::vs,?_,hk⟩;simp only[D70,Sem.run_bind,Sem.run_pure,Result.andThen_ok,hr];simp[this]
 | .cell t ty::r,K,h=>by
  simp only[Dh6]at h;have hq:=M0 h;clear h;obtain⟨M,hM,h⟩:=hq;split at hM<;>subst hM
  ·rename_i p sh h1 h2;obtain⟨ad,rfl,x,hl,hk⟩:=W1 h;obtain⟨vs,hr,hk⟩:=A15 hY hw hk;have h3:=hY.at' t _ h1;refine⟨sh.val x::vs,?_,hk⟩;have h4:(a.tmps.getD t undef)= .pointer (some ad):=by simp[h3]
   have h5:(asAddr (a.tmps.getD t undef)).run P w= .ok ad w:=by rw[h4];rfl
   simp only[D70,Sem.run_bind,h5,Sem.run_pure,Result.andThen_ok,Av8 h2 x (hl.cells hw),hr]
  ·exact False.elim h
theorem Bs5(hN:A67 P)(hm:P.follows .mixedOrders=true)(H:D1){f:FuncId}{fn:Func}(hf:P.funcs[f]?=some fn){args:Array Value}{K:Value->HP}{L:A4}
  (h:A54 P H fn args.toList K L):CallF P f args L fun v L'=>K v L':=by
 intro E F w hw;unfold A54 at h;cases hb:fn.body with
 |none=>simp only[hb]at h;exact False.elim h
 |some c=>
  cases bS:Nat.ble args.toList.length fn.ntmps with
  |false=>simp only[hb,bS]at h;exact False.elim h
  |true=>
   simp only[hb,bS]at h;have hC:args.size<=fn.ntmps:=by simpa using Ea4 bS
   refine calls_of_wp hf hb ?_;have hY:O2 fn.ntmps (zipE 0 args.toList) {tmps:=args++Array.replicate (fn.ntmps-args.size) undef,defers:=[]}:=by
    refine⟨by simp;omega,rfl,fun t v ht=>?_⟩;obtain⟨_,h1⟩:=Bq4 _ _ _ _ ht;simp only[Dx4]at h1;have hO:t<args.size:=by simpa using(Dw0.1 h1).1
    rw[Ea5 hO];simpa using h1
   refine wp_mono (Cc3 hN hm H c 0 _ _ _ _ _ L hY h E F w hw) fun e a' w' ⟨L',aI,_,hp⟩=>?_;have fin:(∃env,O2 fn.ntmps env a'/\Dh6 P env fn.results.toList (fun vs=>K (At4 vs)) L')->a'.defers=[]/\ ∃v,(results fn a'.tmps).run P w'= .ok v w'/\ ∃v' L',Ending.returned v= .returned v'/\S1 E w' (L'++F)/\K v' L':=by
    rintro⟨env,bJ,hk⟩;refine⟨bJ.defers,?_⟩;obtain⟨vs,kF,hk⟩:=A15 bJ aI hk;have iR:(results fn a'.tmps).run P w'= .ok (if h:vs.toArray.size=1 then vs.toArray[0]else .tuple vs.toArray) w':=by
     have h1:(fn.results.mapM (m:=Sem) fun| .tmp t=>pure (a'.tmps.getD t undef)| .cell x t=>do loadVar t (<-asAddr (a'.tmps.getD x undef))).run P w'= .ok vs.toArray w':=by
      rw[Ed6,Sem.run_map,kF];rfl
     unfold results;rw[Sem.run_bind];refine Eq.trans (congrArg (fun r=>Result.andThen r _) h1) ?_;rfl
    match vs,iR,hk with
    |[],iR,hk=>exact⟨_,iR,_,L',rfl,aI,hk⟩
    |[v],iR,hk=>exact⟨_,iR,_,L',rfl,aI,hk⟩
    |v1::v2::r,iR,hk=>exact⟨_,iR,_,L',by simp[At4],aI,hk⟩
   cases e with
   |normal=>exact fin hp
   |ret=>exact fin hp
   |exit id=>obtain⟨_,_,hf⟩:=hp;exact hf.elim
   |goto l=>exact hp.elim
   |panic c=>exact hp.elim
   |outgrown=>exact hp.elim
theorem Aw6(hN:A67 P)(hm:P.follows .mixedOrders=true){H:D1}{f:FuncId}{fn:Func}(hf:P.funcs[f]?=some fn){args:List Value}{K:Value->HP}{N:HP}{L:A4}
  (he:A54 P H fn args (fun v L=> ∃L' J,L.Perm (L'++J)/\K v L')=N) (h:N L):CallF P f args.toArray L K:=by
 subst he;intro E F w hw;refine Calls.mono (Bs5 (args:=args.toArray) (K:=fun v L=> ∃L' J,L.Perm (L'++J)/\K v L') hN hm H hf (by simpa using h) E F w hw) fun e w' ⟨v,L1,hv,iM,L',J,hp,hK⟩=>⟨v,L',hv,?_,hK⟩;have h1:S1 E w' ((L'++F)++J):=iM.perm (by
  refine(hp.append_right F).trans ?_;simp only[Ds5];exact Du8.append_left L')
 exact h1.left
end
section
variable {P:Program} {L:A4}
theorem A6{ad:Addr}{sh:Sh}{k:ShV sh->HP}(x:ShV sh)(h:C9 ad (sh.vals x) L)(hk:k x L):ld ad sh k L:=⟨x,h,hk⟩
theorem A5{p:Option Addr}{a:Addr}{k:Addr->HP}(h:p=some a)(hk:k a L):A8 p k L:=by subst h;exact hk
theorem Ad8{p:Prop}{k:HP}(h:p)(hk:k L):req p k L:=⟨h,hk⟩
theorem D9{i n:Int}{k:HP}(h0:0<=i)(h1:i<n)(hk:k L):ixn i n k L:=⟨⟨h0,h1⟩,hk⟩
theorem G1{t:Bool}{A B:HP}(h1:t=true->A L)(h2:t=false->B L):ifB t A B L:=by
 cases t
 ·exact h2 rfl
 ·exact h1 rfl
theorem C0{p:Prop}[Decidable p]{A B:HP}(h1:p->A L)(h2: ¬p->B L):ifB (decide p) A B L:=
 G1 (fun h=>h1 (Dv5 h)) (fun h=>h2 (D24 h))
theorem Ac2{x y:Int}{A B:HP}(h1:x=y->A L)(h2:x≠y->B L):ifB (x==y) A B L:=
 G1 (fun h=>h1 (by simpa using h)) (fun h=>h2 (by simpa using h))
theorem P0{x y:Int}{A B:HP}(h1:x≠y->A L)(h2:x=y->B L):ifB (x !=y) A B L:=
 G1 (fun h=>h1 (by simpa using h)) (fun h=>h2 (by simpa using h))
theorem ifT{t:Bool}{A B:HP}(h:t=true)(hk:A L):ifB t A B L:=by subst h;exact hk
theorem ifF{t:Bool}{A B:HP}(h:t=false)(hk:B L):ifB t A B L:=by subst h;exact hk
theorem F7{φ k:HP}(h:φ L)(hk:k L):keep φ k L:=⟨h,hk⟩
theorem C4{o:Obj}{k:Nat->HP}(h: ∀n,Sat ((n,o)::L)->k n ((n,o)::L)):nw o k L:=h
theorem W2{α:Type}{b:α->HP}{r:(α->HP)->HP}(Q:α->HP)(h1: ∀y L',Q y L'->b y L')(h2: ∀j:α->HP,(∀y L',Q y L'->j y L')->r j L):jn b r L:=h2 b h1
theorem G7{sh:List Sh}{x0:RsV sh}{body:RsV sh->(RsV sh->HP)->HP}(I:Nat->RsV sh->HP)(k0:Nat)(h0:I k0 x0 L)
 (h: ∀k x L',I k x L'->body x (fun x' L''=> ∃k',k'<k/\I k' x' L'') L'):lp sh x0 body L:=⟨I,⟨k0,h0⟩,h⟩
theorem S8{f:FuncId}{args:Array Value}{rs:List Sh}{k:RsV rs->HP}{K:Value->HP}(h:CallF P f args L K)(hk: ∀v L',Sat L'->K v L'-> ∃r,v=Ah7 rs r/\k r L'):
 cl P f args rs k L:=CallF.mono h hk
def Reads(P:Program)(f:FuncId)(args:Array Value)(L:A4)(v:Value):Prop:=CallF P f args L fun v' L'=>v'=v/\L'=L
theorem B5{f:FuncId}{args:Array Value}{rs:List Sh}{k:RsV rs->HP}{v:Value}(h:Reads P f args L v)(r:RsV rs)(hr:v=Ah7 rs r)(hk:k r L):cl P f args rs k L:=
 CallF.mono h (by rintro _ _ _ ⟨rfl,rfl⟩;exact⟨r,hr,hk⟩)
def Ends(K:Value->HP)(v:Value):HP:=fun L=> ∃L' J,L.Perm (L'++J)/\K v L'
theorem Ends.of{K:Value->HP}{v:Value}(h:K v L):Ends K v L:=⟨L,[],by simp,h⟩
theorem Ends.drop{K:Value->HP}{v:Value}{A J:A4}(h:K v A)(hp:L.Perm (A++J)):Ends K v L:=⟨A,J,hp,h⟩
theorem Reads.of{f:FuncId}{fn:Func}(hN:A67 P)(hm:P.follows .mixedOrders=true){H:D1}(hf:P.funcs[f]?=some fn){args:List Value}{v:Value}{N:HP}
 (he:A54 P H fn args (Ends fun v' L'=>v'=v/\L'=L)=N) (h:N L):Reads P f args.toArray L v:=Aw6 hN hm hf he h
theorem CallF.of{f:FuncId}{fn:Func}(hN:A67 P)(hm:P.follows .mixedOrders=true){H:D1}(hf:P.funcs[f]?=some fn){args:List Value}{K:Value->HP}{N:HP}
 (he:A54 P H fn args (Ends K)=N) (h:N L):CallF P f args.toArray L K:=Aw6 hN hm hf he h
theorem C9.mono{ad:Addr}{vs:List Value}{A:A4}(h:C9 ad vs A)(hs: ∀p∈A,p∈L):C9 ad vs L:=by
 obtain⟨c,T,fz,hm,h⟩:=h;exact⟨c,T,fz,hs _ hm,h⟩
theorem C9.sub{ad:Addr}{vs ws:List Value}(h:C9 ad vs L)(j:Nat)(hw: ∀(i:Nat) (v:Value),ws[i]?=some v->vs[j+i]?=some v):C9 (Addr.add ad j) ws L:=by
 obtain⟨c,T,fz,hm,hs,hc⟩:=h;rw[P2 hs];refine⟨c,T,fz,hm,rfl,fun i v hv=>?_⟩;have:=hc _ _ (hw i v hv);simp only;rw[D34];exact this
theorem C9.pre{ad:Addr}{vs ws:List Value}(h:C9 ad vs L)(hw: ∀(i:Nat) (v:Value),ws[i]?=some v->vs[i]?=some v):C9 ad ws L:=by
 obtain⟨c,T,fz,hm,hs,hc⟩:=h;exact⟨c,T,fz,hm,hs,fun i v hv=>hc _ _ (hw i v hv)⟩
theorem C9.one{ad:Addr}{vs:List Value}(h:C9 ad vs L)(j:Nat){v:Value}(hv:vs[j]?=some v):C9 (Addr.add ad j) [v] L:=by
 refine h.sub j fun i u hu=>?_;cases i with
 |zero=>simp at hu;subst hu;exact hv
 |succ i=>simp at hu
theorem C9.blk{b off:Nat}{c:Array Value}{T:TypeId}{fz:Nat×Nat}{vs:List Value}(hm:(b,Obj.cells c T fz)∈L)(h: ∀(i:Nat) (v:Value),vs[i]?=some v->c[off+i]?=some v):C9 ⟨b,off,none⟩ vs L:=
 ⟨c,T,fz,hm,rfl,h⟩
structure Sl(L:A4)(v:SlV)(sz:Nat)(vs:List Value):Prop where
 len:v.len*sz=vs.length
 cap:v.len<=v.cap
 ld:vs=[]\/ ∃ad,v.a=some ad/\C9 ad vs L
theorem Sl.mono{v:SlV}{sz:Nat}{vs:List Value}{A:A4}(h:Sl A v sz vs)(hs: ∀p∈A,p∈L):Sl L v sz vs:=
 ⟨h.len,h.cap,h.ld.imp id fun⟨ad,ha,hl⟩=>⟨ad,ha,hl.mono hs⟩⟩
theorem Sl.left{v:SlV}{sz:Nat}{vs:List Value}{R:A4}(h:Sl L v sz vs):Sl (L++R) v sz vs:=h.mono fun _ hp=>Ds8 _ hp
theorem Sl.right{v:SlV}{sz:Nat}{vs:List Value}{R:A4}(h:Sl L v sz vs):Sl (R++L) v sz vs:=h.mono fun _ hp=>Du2 _ hp
theorem Sl.cons{v:SlV}{sz:Nat}{vs:List Value}{p:Nat×Obj}(h:Sl L v sz vs):Sl (p::L) v sz vs:=h.mono fun _ hp=>Dr6 _ hp
theorem Sl.nil(sz:Nat):Sl L ⟨none,0,0⟩ sz []:=⟨by simp,Dq6 _,.inl rfl⟩
theorem Sl.at'{v:SlV}{sz:Nat}{vs:List Value}(h:Sl L v sz vs){i:Nat}(hi:i<v.len)(aC:0<sz): ∃ad,v.a=some ad/\C9 ad vs L:=by
 refine h.ld.resolve_left fun e=>?_;have h1:=h.len;rw[e]at h1;have:v.len=0:=by
  rcases Nat.mul_eq_zero.1 h1 with h|h
  ·exact h
  ·omega
 omega
structure Own(v:SlV)(sz:Nat)(T:TypeId)(vs:List Value)(seg:A4):Prop where
 len:v.len*sz=vs.length
 cap:v.len<=v.cap
 row:(v.a=none/\v.cap=0/\seg=[])\/ ∃b off c fz,v.a=some ⟨b,off,none⟩/\seg=[(b,Obj.cells c T fz)]/\off+v.cap*sz<=c.size/\
  (fz.2<=fz.1\/c.size<=fz.1)/\ ∀i u,vs[i]?=some u->c[off+i]?=some u
theorem Own.sl{v:SlV}{sz:Nat}{T:TypeId}{vs:List Value}{seg:A4}(h:Own v sz T vs seg):Sl seg v sz vs:=by
 refine⟨h.len,h.cap,?_⟩;rcases h.row with⟨ha,hc,rfl⟩|⟨b,off,c,fz,ha,rfl,_,_,eK⟩
 ·left;have h1:=h.cap;have h2:=h.len;rw[hc]at h1;have:v.len=0:=by omega
  rw[this]at h2;simpa using h2.symm
 ·exact .inr ⟨_,ha,.blk (Dr2.2 rfl) eK⟩
theorem N7: ∀(vs:List Value) (c:Array Value) (o:Nat),(wr c o vs).size=c.size
 |[],c,o=>rfl
 |v::r,c,o=>by simp[wr,N7 r]
theorem Ag1: ∀(vs:List Value) (c:Array Value) (o j:Nat),o+vs.length<=c.size->(wr c o vs)[j]?=if o<=j/\j<o+vs.length then vs[j-o]? else c[j]?
 |[],c,o,j,_=>by simp[wr];omega
 |v::r,c,o,j,h=>by
  simp only[Dr8]at h;simp only[wr];rw[Ag1 r (c.setIfInBounds o v) (o+1) j (by simp;omega)];by_cases h1:j=o
  ·subst h1;rw[Dq4 (by omega),Dq5 (by simp)];simp[show j<c.size by omega]
  ·by_cases h2:o+1<=j/\j<o+1+r.length
   ·rw[Dq5 h2,Dq5 (by simp only[Dr8];omega)];rw[show j-o=(j-(o+1))+1 by omega,D23]
   ·rw[Dq4 h2,Dq4 (by simp only[Dr8];omega)];rw[D22 (by omega)]
inductive Src (L:A4):Value->Nat->Nat->List Value->Prop
 |sl {v:SlV} {sz:Nat} {ws:List Value} (h:Sl L v sz ws):Src L (.slice v.a v.len v.cap) sz v.len ws
 |str (s:ByteArray):Src L (.string s) 1 s.size (s.data.toList.map fun b=>.int .u8 b.toNat)
theorem Src.len{x:Value}{sz n:Nat}{ws:List Value}(h:Src L x sz n ws):n*sz=ws.length:=by
 cases h with
 |sl h=>exact h.len
 |str s=>rw[Dt8,Dr1,D14];rfl
theorem Src.run{x:Value}{sz n:Nat}{ws:List Value}(h:Src L x sz n ws){E:World}{F:A4}{w:World}(hw:S1 E w (L++F)):
  (Builtin.lenOf x).run P w= .ok n w/\(Builtin.firstCells sz n x).run P w= .ok ws.toArray w:=by
 cases h with
 |sl h=>
  rename_i v;refine⟨rfl,?_⟩;rcases h.ld with rfl|⟨ad,ha,hl⟩
  ·have h0:v.len*sz=0:=h.len;cases aw:v.a with
   |none=>simp[Builtin.firstCells]
   |some ad=>simp only[Builtin.firstCells,h0,loadCells,loadCellsFrom];rfl
  ·rw[ha];simp only[Builtin.firstCells];rw[h.len];exact run_loadCells_list w ad ws (hl.cells hw)
 |str s=>
  refine⟨rfl,?_⟩;simp only[Builtin.firstCells,Sem.run_pure];congr 1;apply D68;have:s.extract 0 s.size=s:=by simp
  rw[this];simp
theorem Src.take{v:SlV}{sz:Nat}{ws:List Value}(h:Sl L v sz ws){m:Nat}(hm:m<=v.len){E:World}{F:A4}{w:World}(hw:S1 E w (L++F)):
  (Builtin.firstCells sz m (.slice v.a v.len v.cap)).run P w= .ok (ws.take (m*sz)).toArray w:=by
 rcases h.ld with rfl|⟨ad,ha,hl⟩
 ·have h0:v.len*sz=0:=h.len;have qE:m*sz=0:=Nat.le_zero.1 (h0▸Du9 sz hm);cases aw:v.a with
  |none=>simp[Builtin.firstCells]
  |some ad=>simp only[Builtin.firstCells,qE,loadCells,loadCellsFrom];simp
 ·rw[ha];simp only[Builtin.firstCells];have hC:(ws.take (m*sz)).length=m*sz:=by
   rw[Ds0,<-h.len];exact Dx1 (Du9 sz hm)
  have h1:=run_loadCells_list (P:=P) w ad (ws.take (m*sz)) (fun j u hu=>hl.cells hw j u (by
   rw[Dy8]at hu;split at hu
   ·exact hu
   ·cases hu))
  rw[hC]at h1;exact h1
structure V4(P:Program)(t e:TypeId)(sz bytes:Nat)(z:List Value):Prop where
 und:P.underlying t=some (.slice e)
 info: ∃i,P.info? e=some i/\i.size=sz/\i.bytes=bytes/\ ∃zv,i.zero=some zv/\zv.cells.toList=z
 zlen:z.length=sz
 pos:0<sz
 bpos:0<bytes
theorem Ac5(z:Array Value)(n:Nat):(Builtin.zeroCells z n).size=n*z.size:=by simp[Builtin.zeroCells]
def Ax5(P:Program)(t:TypeId):Prop:=(∃e,P.underlying t=some (.slice e))\/P.underlying t=some .string
theorem Ag3{t t2 ty e:TypeId}{i:TypeInfo}(ht:P.underlying t=some (.slice e))(h2:Ax5 P t2)(hi:P.info? e=some i){base:Option Addr}{sLen sCap n:Nat}{x:Value}{w:World}
  (hC:(Builtin.lenOf x).run P w= .ok n w) (hZ:sLen+n<=sCap) {new:Array Value} (hf:(Builtin.firstCells i.size n x).run P w= .ok new w) {w':World}
  (aP: ∀a,base=some a->(storeCells (a.add (sLen*i.size)) new.toList).run P w= .ok () w') (bF:base=none->w'=w):
  (Builtin.append_ #[t,t2] ty #[.slice base sLen sCap,x]).run P w= .ok (.slice base (sLen+n) sCap) w':=by
 cases base with
 |none=>
  obtain rfl:=bF rfl;rcases h2 with⟨e2,h2⟩|h2<;>simp[Builtin.append_,run_underlying ht,run_underlying h2,sizeOf,typeInfo,hi,hC,hZ,hf]
 |some a=>
  have aP:=aP a rfl;rcases h2 with⟨e2,h2⟩|h2<;>simp[Builtin.append_,run_underlying ht,run_underlying h2,sizeOf,typeInfo,hi,hC,hZ,hf,aP]
theorem Ax1{t t2 ty e:TypeId}{i:TypeInfo}{z:Value}(ht:P.underlying t=some (.slice e))(h2:Ax5 P t2)(hi:P.info? e=some i)(hz:i.zero=some z){base:Option Addr}{sLen sCap n:Nat}{x:Value}{w:World}
  (hC:(Builtin.lenOf x).run P w= .ok n w) (hg: ¬sLen+n<=sCap) (h63: ¬(9223372036854775807<((sLen:Int)+(n:Int))/\i.bytes=0)) (dJ: ¬(281474976710656<Builtin.nextslicecap (sLen+n) sCap*i.bytes))
  {old new:Array Value} (iL:(Builtin.firstCells i.size sLen (.slice base sLen sCap)).run P w.drew= .ok old w.drew) (hf:(Builtin.firstCells i.size n x).run P w.drew= .ok new w.drew):
  (Builtin.append_ #[t,t2] ty #[.slice base sLen sCap,x]).run P w=
   .ok (.slice (some ⟨w.heap.size,0,none⟩) (sLen+n) (grownCap w (sLen+n) sCap e)) (w.drew.alloc (.cells (old++new++Builtin.zeroCells z.cells (grownCap w (sLen+n) sCap e-(sLen+n))) e)):=by
 rcases h2 with⟨e2,h2⟩|h2<;>
  simp[Builtin.append_,run_underlying ht,run_underlying h2,sizeOf,typeInfo,zeroValue,hi,hz,hC,hg,h63,dJ,Question.forced,hf,iL,newRow,grownCap]
theorem B15{t t2 ty e:TypeId}{sz bytes:Nat}{z:List Value}(hT:V4 P t e sz bytes z)(h2:Ax5 P t2)
  {v:SlV} {vs ws:List Value} {x:Value} {n:Nat} {seg R:A4} (own:Own v sz e vs seg) (src:Src (seg++R) x sz n ws) (gB:ws.all T6=true)
  (hb:(v.len+n)*bytes<=140737488355328) {k:RsV [.lf .sl]->HP} (hk: ∀v' seg',v'.len=v.len+n->(v.len+n<=v.cap->v'.cap=v.cap/\v'.a=v.a)->v.cap<=v'.cap->Own v' sz e (vs++ws) seg'->k (v',()) (seg'++R)):
  smW P (Builtin.append_ #[t,t2] ty #[.slice v.a v.len v.cap,x]) [.lf .sl] k (seg++R):=by
 obtain⟨i,hi,qI,rP,zv,hz,mY⟩:=hT.info;subst qI rP;intro E F w hw;obtain⟨hC,lV⟩:=src.run (P:=P) hw;have aC:=hT.pos;have kP:zv.cells.size=i.size:=by rw[<-hT.zlen,<-mY];simp
 have sC:=src.len;have lL:=own.len;have eL:(vs++ws).length=(v.len+n)*i.size:=by rw[Dr4,<-lL,<-sC,D03]
 by_cases hZ:v.len+n<=v.cap
 ·--there is room
  have bS:=Du9 i.size hZ;rw[D03]at bS;rcases own.row with⟨ha,hc,rfl⟩|⟨b,off,c,fz,ha,rfl,eK,eP,dQ⟩
  ·refine⟨.slice v.a (v.len+n) v.cap,w,[]++R,Ag3 hT.und h2 hi hC hZ lV (by intro a h;rw[ha]at h;cases h) (fun _=>rfl),hw,(⟨v.a,v.len+n,v.cap⟩,()),rfl,?_⟩;exact hk ⟨v.a,v.len+n,v.cap⟩ [] rfl (fun _=>⟨rfl,rfl⟩) (Dq6 _) ⟨by rw[eL],hZ,.inl ⟨ha,hc,rfl⟩⟩
  ·obtain⟨w',hr,aI⟩:=S3 (P:=P) (E:=E) (A:=[]) (B:=R) (F:=F) (b:=b) (T:=e) (fz:=fz) ws c (off+v.len*i.size) 0 w gB (by simpa using hw) (by omega)
    (by intro j hj;omega)
   refine⟨.slice v.a (v.len+n) v.cap,w',[(b,Obj.cells (wr c (off+v.len*i.size+0) ws) e fz)]++R,?_,by simpa using aI,(⟨v.a,v.len+n,v.cap⟩,()),rfl,?_⟩
   ·refine Ag3 hT.und h2 hi hC hZ lV (fun a h=>?_) (fun h=>by rw[ha]at h;cases h);rw[ha]at h;obtain rfl:=Dq9 h;rw[P2 rfl];exact hr
   ·refine hk ⟨v.a,v.len+n,v.cap⟩ _ rfl (fun _=>⟨rfl,rfl⟩) (Dq6 _) ⟨by rw[eL],hZ,.inr ⟨b,off,_,fz,ha,rfl,by rw[N7];exact eK,by rw[N7];exact eP,fun j u hu=>?_⟩⟩;rw[Ag1 _ _ _ _ (by omega)];rw[Ea6]at hu;split at hu
    ·rw[Dq4 (by omega)];exact dQ j u hu
    ·rename_i hj;have hju:=(Dw0.1 hu).1;rw[Dq5 (by omega),show off+j-(off+v.len*i.size+0)=j-vs.length by omega];exact hu
 ·--it grows
  have hO:v.cap<v.len+n:=by omega
  have dJ: ¬(281474976710656<Builtin.nextslicecap (v.len+n) v.cap*i.bytes):=Nat.not_lt.2 (growslice_fits hO hb);have kD:S1 E w.drew ((seg++R)++F):=hw.drew _;have lK:=Src.take (P:=P) (m:=v.len) (L:=seg++R) (own.sl.left) (Dq6 _) kD;have bW:vs.take (v.len*i.size)=vs:=by rw[lL];exact Ds9
  rw[bW]at lK;have aS:=grownCap_ge w (v.len+n) v.cap e;have h63: ¬(9223372036854775807<((v.len:Int)+(n:Int))/\i.bytes=0):=fun h=>Nat.ne_of_gt hT.bpos h.2;have hr:=Ax1 (ty:=ty) hT.und h2 hi hz hC hZ h63 dJ lK (src.run (P:=P) kD).2;refine⟨_,_,[(w.heap.size,Obj.cells (vs.toArray++ws.toArray++Builtin.zeroCells zv.cells (grownCap w (v.len+n) v.cap e-(v.len+n))) e)]++R,hr,?_,(⟨some ⟨w.heap.size,0,none⟩,v.len+n,grownCap w (v.len+n) v.cap e⟩,()),rfl,?_⟩
  ·have h1:=kD.push (.cells (vs.toArray++ws.toArray++Builtin.zeroCells zv.cells (grownCap w (v.len+n) v.cap e-(v.len+n))) e);have h2:S1 E (w.drew.alloc (.cells (vs.toArray++ws.toArray++Builtin.zeroCells zv.cells (grownCap w (v.len+n) v.cap e-(v.len+n))) e)) (((w.heap.size,Obj.cells (vs.toArray++ws.toArray++Builtin.zeroCells zv.cells (grownCap w (v.len+n) v.cap e-(v.len+n))) e)::(R++F))++seg):=
    h1.perm (by
     simp only[Dt7,Ds5];rw[<-Ds5 R F seg];exact D35 _ Du8)
   exact h2.left
  ·refine hk ⟨some ⟨w.heap.size,0,none⟩,v.len+n,grownCap w (v.len+n) v.cap e⟩ _ rfl (fun h=>absurd h hZ) (by simp only;omega) ⟨by rw[eL],aS,.inr ⟨w.heap.size,0,_,(0,0),rfl,rfl,?_,.inl (Dq6 _),fun j u hu=>?_⟩⟩
   ·simp only[D48,D74,Ac5,kP,<-lL,<-sC,<-D03];rw[show v.len+n+(grownCap w (v.len+n) v.cap e-(v.len+n))=grownCap w (v.len+n) v.cap e by omega];simp
   ·have hj:=(Dw0.1 hu).1;rw[Dy2,Ea5 (by simpa using hj),<-hu];simp
end
theorem C1{n:Int}(h0: -9223372036854775808<=n)(h1:n<=9223372036854775807):IntKind.i64.wrap n=n:=IntWalk.i64_in n ⟨h0,h1⟩
theorem w8_id{n:Int}(h0:0<=n)(h1:n<=255):IntKind.u8.wrap n=n:=IntWalk.u8_in n ⟨h0,h1⟩
theorem De5{n:Int}(h0:0<=n)(h1:n<=18446744073709551615):IntKind.u64.wrap n=n:=IntWalk.u64_in n ⟨h0,h1⟩
theorem B18(n:Int):IntKind.u32.wrap n=((BitVec.ofInt 32 n).toNat:Int):=by
 simp only[IntKind.wrap,IntKind.bits,IntKind.signed,Ea7,Dx5,if_false,D75];omega
theorem Bw0(n:Int):IntKind.u64.wrap n=((BitVec.ofInt 64 n).toNat:Int):=by
 simp only[IntKind.wrap,IntKind.bits,IntKind.signed,Ea7,Dx5,if_false,D75];omega
theorem w8_bv(n:Int):IntKind.u8.wrap n=((BitVec.ofInt 8 n).toNat:Int):=by
 simp only[IntKind.wrap,IntKind.bits,IntKind.signed,Ea7,Dx5,if_false,D75];omega
theorem Aw7{m:Nat}(a:BitVec m):BitVec.ofInt m (a.toNat:Int)=a:=by
 simp
theorem Cu0(a b:BitVec 32):Ao1 .xor .u32 a.toNat b.toNat=((a^^^b).toNat:Int)/\Ao1 .and .u32 a.toNat b.toNat=((a&&&b).toNat:Int)/\Ao1 .or .u32 a.toNat b.toNat=((a|||b).toNat:Int):=by
  refine⟨?_,?_,?_⟩<;>
    (simp only[Ao1,IntKind.bits]
     rw[B18];exact congrArg (fun x:BitVec 32=>(x.toNat:Int)) (by rw[Aw7,Aw7,Aw7];rfl))
def bv(b:UInt8):Value:=.int .u8 b.toNat
def bvs(l:List UInt8):List Value:=l.map bv
theorem E5(l:List UInt8):(bvs l).length=l.length:=by simp[bvs]
theorem Ak9(l m:List UInt8):bvs (l++m)=bvs l++bvs m:=by simp[bvs]
theorem L8(l:List UInt8):(bvs l).all T6=true:=by
 induction l with
 |nil=>rfl
 |cons b r ih=>exact ih
theorem Do8{l:List UInt8}{i:Nat}(h:i<l.length):(bvs l)[i]?=some (.int .u8 (l[i].toNat:Int)):=by
 simp[bvs,h,bv]
abbrev BSl(L:A4)(v:SlV)(l:List UInt8):Prop:=Sl L v 1 (bvs l)
theorem BSl.len{L:A4}{v:SlV}{l:List UInt8}(h:BSl L v l):v.len=l.length:=by
 have:=Sl.len h;rw[E5]at this;omega
theorem BSl.rd{L:A4}{v:SlV}{l:List UInt8}(h:BSl L v l){i:Nat}(hi:i<l.length){a:Addr}(ha:v.a=some a)(j:Nat)(hj:j=i*1):C9 (Addr.add a j) [.int .u8 (l[i].toNat:Int)] L:=by
 subst hj;obtain⟨ad,cQ,hl⟩:=h.at' (i:=i) (by rw[h.len];exact hi) (by omega);rw[ha]at cQ;obtain rfl:=Dq9 cQ;rw[Dt8];exact hl.one i (Do8 hi)
theorem BSl.some{L:A4}{v:SlV}{l:List UInt8}(h:BSl L v l){i:Nat}(hi:i<l.length): ∃a,v.a=some a:=by
 obtain⟨ad,cQ,hl⟩:=h.at' (i:=i) (by rw[h.len];exact hi) (by omega);exact⟨ad,cQ⟩
section
variable {P:Program} {L:A4}
theorem A51{w:World}{b off:Nat}{c:Array Value}{T:TypeId}(h:w.heap[b]?=some (.cells c T (0,0))):
  w.freeze ⟨b,off,none⟩ 1={w with heap:=w.heap.setIfInBounds b (.cells c T (off,off+1))}:=by
 unfold World.freeze;rw[Dq4 (by decide)];congr 1;apply D33;intro j;rw[Ed5];obtain⟨hb,hg⟩:=D11.1 h;by_cases hj:b=j
 ·subst hj;simp[hb,hg]
 ·rw[Dq4 hj,D22 hj]
theorem Bg2{t e:TypeId}(hu:P.underlying t=some (.slice e))(he:P.underlying e=some (.int .u8)){b off len cap:Nat}{c:Array Value}{T:TypeId}{k:RsV [.lf .sl]->HP}
  (hk:k (⟨some ⟨b,off,none⟩,len,cap⟩,()) ((b,.cells c T (c.size,c.size+1))::L)):
  smW P (convert t t (.slice (some ⟨b,off,none⟩) len cap)) [.lf .sl] k ((b,.cells c T (0,0))::L):=by
 intro E F w hw;have cL:=hw.blk (b,.cells c T (0,0)) (by simp);simp only at cL;have aI:=S1.put (A:=[]) (B:=L++F) (b:=b) (o:=.cells c T (0,0)) (by simpa using hw) (.cells c T (c.size,c.size+1));refine⟨.slice (some ⟨b,off,none⟩) len cap,_,(b,.cells c T (c.size,c.size+1))::L,?_,by simpa using aI,(⟨some ⟨b,off,none⟩,len,cap⟩,()),rfl,hk⟩;have sP:w.shape? b=some (T,c.size):=by simp[World.shape?,cL]
 simp only[convert,Sem.run_bind,D4 hu,Result.andThen_ok,D4 he,beq_self_eq_true,markStringish,run_shape,sP,run_freeze,Sem.run_pure];rw[A51 cL]
theorem b2s_rd{v:SlV}{l:List UInt8}(h:BSl L v l):RdV P (Conv.bytesToString (.slice v.a v.len v.cap)) (.string ⟨l.toArray⟩) L:=by
 intro E F w hw;have uM: ∀(l:List UInt8) (s:ByteArray),(l.map fun b=>(b.toNat:Int)).foldl (fun r n=>r.push (UInt8.ofNat n.toNat)) s=⟨s.data++l.toArray⟩:=by
  intro l;induction l with
  |nil=>intro s;simp
  |cons b r ih=>
   intro s;rw[Ds3,D02,ih];congr 1;apply D68;simp
 rcases h.ld with pZ|⟨ad,ha,hl⟩
 ·have jE:l=[]:=by simpa[bvs]using pZ
  subst jE;have h0:v.len=0:=h.len;rw[h0];cases aw:v.a with
  |none=>rfl
  |some ad=>
   have:=run_bytesToString (P:=P) w ad 0 v.cap [] (by simp[loadCells,loadCellsFrom]);exact this
 ·rw[ha];have hr:=run_loadCells_list (P:=P) w ad (bvs l) (hl.cells hw);rw[E5]at hr;have hm:(l.map fun b=>(b.toNat:Int)).map (Value.int .u8)=bvs l:=by simp[bvs,bv]
  have:=run_bytesToString (P:=P) w ad l.length v.cap (l.map fun b=>(b.toNat:Int)) (by rw[hm];exact hr);rw[h.len,this,uM];have h0:(ByteArray.empty).data=#[]:=rfl;rw[h0,Array.empty_append]
theorem Bv0{v:SlV}{l:List UInt8}(h:BSl L v l){k:RsV [.lf .str]->HP}(hk:k (⟨l.toArray⟩,()) L):smR P (Conv.bytesToString (.slice v.a v.len v.cap)) [.lf .str] k L:=
 ⟨(⟨l.toArray⟩,()),b2s_rd h,hk⟩
theorem Ci0(e:TypeId)(s:ByteArray)(w:World): ∃cap ob,s.size<=cap/\ob=Obj.cells (s.data.map (fun b=>Value.int .u8 b.toNat)++Array.replicate (cap-s.size) (.int .u8 0)) e (cap,cap+1)/\
  (Conv.stringToBytes e s).run P w= .ok (.slice (some ⟨w.heap.size,0,none⟩) s.size cap) {w with heap:=w.heap.push ob,drawn:=w.drawn+1}:=by
 have aS:=grownCap_ge w s.size 0 e;refine⟨grownCap w s.size 0 e,_,aS,rfl,?_⟩;have aC:(s.data.map (fun b=>Value.int .u8 b.toNat)++Array.replicate (grownCap w s.size 0 e-s.size) (Value.int .u8 0)).size=grownCap w s.size 0 e:=by
  have h1:s.data.size=s.size:=rfl;rw[D48,Ea8,Ea9,h1];omega
 simp only[Conv.stringToBytes,Sem.run_bind,run_choose,Question.forced,Dx5,if_false,Result.andThen_ok,newRow,run_newObj,Sem.run_pure,markStringish,run_shape];have hgc:(Question.appendCap s.size 0 e).cut (w.tape w.drawn (Question.appendCap s.size 0 e))=grownCap w s.size 0 e:=rfl;rw[hgc];have sP:({w with heap:=w.heap.push (.cells (s.data.map (fun b=>Value.int .u8 b.toNat)++Array.replicate (grownCap w s.size 0 e-s.size) (Value.int .u8 0)) e),drawn:=w.drawn+1}:World).shape? w.heap.size=some (e,grownCap w s.size 0 e):=by
  simp only[World.shape?,Array.getElem?_push_size,aC]
 rw[sP];simp only[run_freeze,Result.andThen_ok,Sem.run_pure];rw[A51 (c:=s.data.map (fun b=>Value.int .u8 b.toNat)++Array.replicate (grownCap w s.size 0 e-s.size) (Value.int .u8 0)) (T:=e) (by simp)];congr 2;apply D33;intro j;by_cases hj:w.heap.size=j
 ·subst hj;simp
 ·rw[D22 hj,D99,D99,Dq4 (fun e=>hj e.symm),Dq4 (fun e=>hj e.symm)]
theorem Da2{e:TypeId}{s:ByteArray}{k:ShV (.lf .sl)->HP}
  (hk: ∀n ob v,v.len=s.size->Own v 1 e (bvs s.data.toList) [(n,ob)]->Sat ((n,ob)::L)->k v ((n,ob)::L)):smA P (Conv.stringToBytes e s) (.lf .sl) k L:=by
 refine⟨fun w=>?_,fun n ob v ⟨w,d,hn,hr⟩ hs=>?_⟩
 ·obtain⟨cap,ob,_,_,hr⟩:=Ci0 (P:=P) e s w;exact⟨ob,_,_,hr⟩
 ·obtain⟨cap,ob',aU,iH,wB⟩:=Ci0 (P:=P) e s w;rw[hr]at wB;injection wB with h1 h2;have h3:=Be5 h2;subst h3 h1 hn;refine⟨⟨some ⟨w.heap.size,0,none⟩,s.size,cap⟩,rfl,hk _ _ ⟨some ⟨w.heap.size,0,none⟩,s.size,cap⟩ rfl ⟨?_,aU,.inr ⟨w.heap.size,0,_,(cap,cap+1),rfl,by rw[iH],?_,.inr ?_,fun i u hu=>?_⟩⟩ hs⟩
  ·rw[E5,D14,Dt8];rfl
  ·have h1:s.data.size=s.size:=rfl;rw[D48,Ea8,Ea9,h1];show 0+cap*1<=_;omega
  ·have h1:s.data.size=s.size:=rfl;rw[D48,Ea8,Ea9,h1];show _<=cap;omega
  ·have hi:=(Dw0.1 hu).1;rw[E5,D14]at hi;rw[Dy2,Ea5 (by simpa using hi)];rw[<-hu];simp only[bvs,Du3,Array.getElem?_map,Ed8];rfl
def Ag7(z:List Value)(n:Nat):List Value:=(List.replicate n z).flatten
theorem Ah4(z:List Value)(n:Nat):(Ag7 z n).length=n*z.length:=by simp[Ag7]
theorem Az6(z:List Value)(n i:Nat)(h:i<n*z.length):(Ag7 z n)[i]?=z[i%z.length]?:=by
 induction n generalizing i with
 |zero=>simp at h
 |succ n ih=>
  have hz:0<z.length:=by
   rcases Nat.eq_zero_or_pos z.length with h0|h0
   ·rw[h0]at h;simp at h
   ·exact h0
  have:Ag7 z (n+1)=z++Ag7 z n:=by simp[Ag7,Dz3]
  rw[this];by_cases hi:i<z.length
  ·rw[Dy4 hi,Nat.mod_eq_of_lt hi]
  ·rw[Dy5 (by omega),ih (i-z.length) (by rw[Dx9]at h;omega)];congr 1;rw[<-Nat.mod_eq_sub_mod (by omega)]
theorem A38{t e:TypeId}{sz bytes:Nat}{z:List Value}(hT:V4 P t e sz bytes z){l c:Nat}(cw:l<=c)(hb:bytes*c<=281474976710656){kl kc:IntKind}{k:ShV (.lf .sl)->HP}
  (hk: ∀n ob,Own ⟨some ⟨n,0,none⟩,l,c⟩ sz e (Ag7 z l) [(n,ob)]->(∃cs,ob= .cells cs e (0,0)/\cs.size=c*sz/\ ∀(i:Nat) (u:Value),(Ag7 z c)[i]?=some u->cs[i]?=some u)->Sat ((n,ob)::L)->k ⟨some ⟨n,0,none⟩,l,c⟩ ((n,ob)::L)):
  smA P (Instr.makeSlice t (.int kl (l:Int)) (.int kc (c:Int))) (.lf .sl) k L:=by
 obtain⟨i,hi,qI,rP,zv,hz,mY⟩:=hT.info;subst qI rP;have h63:(c:Int)<=9223372036854775807:=by
  have:c<=i.bytes*c:=Nat.le_mul_of_pos_left _ hT.bpos;omega
 have dI:=fun w=>run_make (P:=P) w t e i zv hT.und hi hz kl kc l c (by omega) (by omega) (by
  have h:((i.bytes*c:Nat):Int)<=281474976710656:=by omega
  rwa [D36]at h) h63
 simp only[Dr0]at dI;refine⟨fun w=>⟨_,_,w.drawn,dI w⟩,fun n ob v ⟨w,d,hn,hr⟩ hs=>?_⟩;rw[dI w]at hr;injection hr with h1 h2;have h3:Obj.cells (madeCells zv.cells (c*i.size)) e=ob:=Be5 (d:=w.drawn) h2;subst h1 hn;have kP:zv.cells.size=i.size:=by rw[<-hT.zlen,<-mY];simp
 have uK: ∀(j:Nat) (u:Value),(Ag7 z c)[j]?=some u->(madeCells zv.cells (c*i.size))[j]?=some u:=by
  intro j u hu;have hj:=(Dw0.1 hu).1;rw[Ah4,hT.zlen]at hj;rw[Az6 z c j (by rw[hT.zlen];exact hj),hT.zlen]at hu;have hp:=hT.pos;have hm:j%i.size<zv.cells.size:=by rw[kP];exact Dx6 _ hp
  simp only[madeCells,Array.getElem?_map,Array.getElem?_range,hj,if_true,D04];rw[kP,<-hu,<-mY];simp[hm]
 refine⟨⟨some ⟨w.heap.size,0,none⟩,l,c⟩,rfl,hk _ _ ⟨?_,cw,.inr ⟨w.heap.size,0,_,(0,0),rfl,by rw[<-h3],?_,.inl (Dq6 _),fun j u hu=>?_⟩⟩ ⟨_,h3.symm,size_madeCells _ _,uK⟩ hs⟩
 ·rw[Ah4,hT.zlen]
 ·rw[size_madeCells];simp
 ·rw[Dy2];refine uK j u ?_;have hj:=(Dw0.1 hu).1;rw[Ah4]at hj;rw[Az6 z c j (Eb0 hj (Du9 _ cw)),<-Az6 z l j hj];exact hu
theorem Ct1{t t2 ty e:TypeId}{sz:Nat}(hu:P.underlying t=some (.slice e))(hs:Q2 P e=some sz){A B:A4}{b off:Nat}{c:Array Value}{T:TypeId}{fz:Nat×Nat}{v:SlV}(ha:v.a=some ⟨b,off,none⟩)
  {vs:SlV} {ws:List Value} (src:Sl (A++(b,Obj.cells c T fz)::B) vs sz ws) (aW:ws.all T6=true) (dJ:off+v.len*sz<=c.size) (eP:fz.2<=fz.1\/c.size<=fz.1) {k:RsV [.lf (.int .i64)]->HP}
  (hk:k (((min vs.len v.len:Nat):Int),()) (A++(b,Obj.cells (wr c off (ws.take (min vs.len v.len*sz))) T fz)::B)):
  smW P (Builtin.copy_ #[t,t2] ty #[.slice v.a v.len v.cap,.slice vs.a vs.len vs.cap]) [.lf (.int .i64)] k (A++(b,Obj.cells c T fz)::B):=by
 intro E F w hw;have hf:=Src.take (P:=P) src (m:=min vs.len v.len) (Nat.min_le_left _ _) hw;have bS:min vs.len v.len*sz<=v.len*sz:=Du9 _ (Nat.min_le_right _ _);have hO:(ws.take (min vs.len v.len*sz)).length<=min vs.len v.len*sz:=D76 _ _;have jR:(ws.take (min vs.len v.len*sz)).all T6=true:=by
  rw[Dy1]at aW⊢;exact fun x hx=>aW x (D25 hx)
 obtain⟨w',hr,aI⟩:=S3 (P:=P) (E:=E) (A:=A) (B:=B) (F:=F) (b:=b) (T:=T) (fz:=fz) (ws.take (min vs.len v.len*sz)) c off 0 w jR (by simpa using hw) (by omega) (by intro j hj;omega);refine⟨_,w',_,?_,by simpa using aI,(((min vs.len v.len:Nat):Int),()),rfl,hk⟩;rw[ha];have jI:(Builtin.firstCells sz (vs.len.min v.len) (.slice vs.a vs.len vs.cap)).run P w= .ok (ws.take (min vs.len v.len*sz)).toArray w:=hf;have aC:(sizeOf e).run P w= .ok sz w:=H1 hs w;have key: ∀(x:Value),(Builtin.lenOf x).run P w= .ok vs.len w->(Builtin.firstCells sz (vs.len.min v.len) x).run P w= .ok (ws.take (min vs.len v.len*sz)).toArray w->
   (Builtin.copy_ #[t,t2] ty #[.slice (some ⟨b,off,none⟩) v.len v.cap,x]).run P w= .ok (.int .i64 ((vs.len.min v.len:Nat):Int)) w':=by
  intro x h1 h2;have oG:(storeCells ⟨b,off,none⟩ (ws.take (min vs.len v.len*sz))).run P w= .ok () w':=hr;simp only[Builtin.copy_,D26,Eb1,D23,Sem.run_bind,D4 hu,Result.andThen_ok,h1,aC,h2,oG,Sem.run_pure,goInt]
 exact key _ rfl jI
def Cd6(w:World):A4:=w.heap.toList.zipIdx.map fun p=>(p.2,p.1)
theorem Bg0{w:World}{b:Nat}{o:Obj}:(b,o)∈Cd6 w↔w.heap[b]?=some o:=by
 unfold Cd6;simp only[Dt4,Prod.exists,Dx0];constructor
 ·rintro⟨x,i,hm,rfl,rfl⟩;have:=Ed9.1 hm;simpa using this
 ·intro h;exact⟨o,b,Ed9.2 (by simpa using h),rfl,rfl⟩
theorem Cp7(w:World):S1 w w (Cd6 w):=by
 refine⟨?_,fun p hp=>Bg0.1 hp,rfl,rfl,rfl⟩;have:(Cd6 w).map Prod.fst=List.range w.heap.size:=by
  unfold Cd6;rw[Dv2];have h2:(Prod.fst∘fun(p:Obj×Nat)=>(p.2,p.1))=Prod.snd:=rfl;rw[h2,List.zipIdx_map_snd];simp[List.range_eq_range']
 rw[this];exact List.nodup_range
theorem C80{w w':World}{L':A4}(h:S1 w w' L')(hs: ∀p∈Cd6 w,p∈L'):Go.RowKit.Below w.heap.size w w':=by
 have hb: ∀k,k<w.heap.size->w'.heap[k]?=w.heap[k]?:=by
  intro k hk;have h1:w.heap[k]?=some w.heap[k]:=by simp[hk]
  rw[h1];exact h.blk (k,w.heap[k]) (hs _ (Bg0.2 h1))
 refine⟨h.os,h.tape,h.output,?_,hb⟩;rcases Nat.eq_zero_or_pos w.heap.size with h0|h0
 ·omega
 ·have:=hb (w.heap.size-1) (by omega);have h1:w.heap[w.heap.size-1]?=some (w.heap[w.heap.size-1]'(by omega)):=by
   rw[Ed7 (by omega)]
  rw[h1]at this;have:=(D11.1 this).1;omega
theorem law_calls{f:FuncId}{args:Array Value}{w:World}(h:Reads P f args (Cd6 w) (.bool true)):Calls P f args w fun e w'=>e= .returned (.bool true)/\Go.RowKit.Below w.heap.size w w':=by
 refine Calls.mono (h w [] w (by simpa using Cp7 w)) ?_;rintro e w' ⟨v,L',rfl,aI,rfl,rfl⟩;exact⟨rfl,C80 aI (fun p hp=>by simpa using hp)⟩
end
open Go.WideShapes
section
variable {P:Program} {w:World}
structure Dec(P:Program)(w:World)(t:TypeId)(α:Type)(enc:α->List Value)(wf:α->Prop):Prop where
 dec: ∀{H:Type} {e':TypeId×Value->H} {spare:Nat->Bool} {held:Bool} {fuel:Nat} {cs:List Value} {y:DataW H×List MemPlace},DataW.trod e' P w 0 spare held fuel t cs=some y-> ∃x,cs=enc x/\wf x
def S0(k:IntKind)(n:Int):Prop:=(Lit.int k n).wf=true
theorem dec_int{t:TypeId}{k:IntKind}(hu:P.underlying t=some (.int k)):Dec P w t Int (fun n=>[.int k n]) (S0 k):=
 ⟨fun h=>by obtain⟨n,h1,_,h2⟩:=DataW.trod_int hu h;exact⟨n,h1,h2⟩⟩
theorem dec_u8{t:TypeId}(hu:P.underlying t=some (.int .u8)):Dec P w t UInt8 (fun b=>[bv b]) (fun _=>True):=
 ⟨fun h=>by
  obtain⟨n,h1,_,h2⟩:=DataW.trod_int hu h;have hb:0<=n/\n<=255:=by
   simp only[Lit.wf,Dv4,Dy0]at h2;exact h2
  refine⟨UInt8.ofNat n.toNat,?_,trivial⟩;rw[h1];simp only[bv];congr 2;have:(UInt8.ofNat n.toNat).toNat=n.toNat:=by simp;omega
  rw[this];omega⟩
theorem Do3{t:TypeId}(hu:P.underlying t=some .string):Dec P w t ByteArray (fun s=>[.string s]) (fun s=>s.size<=maxLen):=
 ⟨fun h=>by obtain⟨n,h1,_,h2⟩:=DataW.trod_string hu h;exact⟨n,h1,h2⟩⟩
theorem cells?_some{a:Addr}{n:Nat}{cs:List Value}(h:w.cells? 0 a n=some cs):cs.length=n/\ ∀i v,cs[i]?=some v->w.cell? (a.add i)=some v:=by
 unfold World.cells? at h;rw[Dq5 (Dv6 _)]at h;have h1:=mapM_some_length h;refine⟨by simpa using h1,fun i v hv=>?_⟩;have hi:i<n:=by
  have:=(Dw0.1 hv).1;simp at h1;omega
 have:=mapM_some_get h i i (by simp[hi]);rw[this];exact hv
theorem Cn2{a:Addr}{vs:List Value}(aE:vs≠[])(h: ∀(i:Nat) (v:Value),vs[i]?=some v->w.cell? (a.add i)=some v):C9 a vs (Cd6 w):=by
 have h0:w.cell? a=some (vs[0]'(by cases vs with|nil=>exact absurd rfl aE|cons x r=>simp)):=by
  have:=h 0 (vs[0]'(by cases vs with|nil=>exact absurd rfl aE|cons x r=>simp)) (by simp)
  rwa [show a.add 0=a from rfl]at this
 have key: ∀{b:Addr} {v:Value},w.cell? b=some v->b.spot=none/\ ∃c T fz,w.heap[b.block]?=some (.cells c T fz)/\c[b.off]?=some v:=by
  intro b v hb;unfold World.cell? at hb;split at hb
  ·rename_i c T fz cL;split at hb
   ·cases hb
   ·rename_i hs;exact⟨by simpa using hs,c,T,fz,cL,hb⟩
  ·cases hb
 obtain⟨hs,c,T,fz,cL,_⟩:=key h0;refine⟨c,T,fz,Bg0.2 cL,hs,fun i v hv=>?_⟩;have hi:=h i v hv;rw[P2 hs]at hi;obtain⟨_,c',T',fz',mE,dp⟩:=key hi;simp only at mE dp;rw[cL]at mE;cases mE;exact dp
theorem B67{α:Type}{enc:α->List Value}{sz:Nat}(aC: ∀x,(enc x).length=sz): ∀(l:List α) (i j:Nat) (v:Value),j<sz->(l.flatMap enc)[i*sz+j]?=some v-> ∃h:i<l.length,(enc l[i])[j]?=some v
 |[],i,j,v,_,h=>by simp at h
 |x::r,0,j,v,hj,h=>by
  refine⟨by simp,?_⟩;rw[Du1,Dy4 (by rw[aC];omega)]at h;simpa using h
 |x::r,i+1,j,v,hj,h=>by
  rw[Du1,Dy5 (by rw[aC,Dx9];omega)]at h;have:(i+1)*sz+j-(enc x).length=i*sz+j:=by rw[aC,Dx9];omega
  rw[this]at h;obtain⟨hi,h2⟩:=B67 aC r i j v hj h;exact⟨by simp;omega,by simpa using h2⟩
theorem O5{α:Type}{enc:α->List Value}{sz:Nat}(aC: ∀x,(enc x).length=sz)(l:List α):(l.flatMap enc).length=l.length*sz:=by
 induction l with
 |nil=>simp
 |cons x r ih=>rw[Du1,Dr4,ih,aC,Dr8,Dx9];omega
structure C86(w:World){α:Type}(enc:α->List Value)(wf:α->Prop)(sz:Nat)(p:SlV×List α):Prop where
 len:p.1.len=p.2.length
 cap:p.1.cap<=maxLen
 sl:Sl (Cd6 w) p.1 sz (p.2.flatMap enc)
 all: ∀x∈p.2,wf x
theorem B10{α:Type}{n:Nat}{Q:Nat->α->Prop}(h: ∀i,i<n-> ∃x,Q i x): ∃l:List α,l.length=n/\ ∀i (hi:i<l.length),Q i l[i]:=by
 induction n with
 |zero=>exact⟨[],rfl,fun i hi=>by simp at hi⟩
 |succ n ih=>
  obtain⟨l,hl,hq⟩:=ih fun i hi=>h i (by omega);obtain⟨x,hx⟩:=h n (by omega);refine⟨l++[x],by simp[hl],fun i hi=>?_⟩;by_cases h2:i<l.length
  ·rw[List.getElem_append_left h2];exact hq i h2
  ·have:i=l.length:=by simp at hi;omega
   subst this;simpa[hl]using hx
theorem dec_slice{t e:TypeId}{sz:Nat}{α:Type}{enc:α->List Value}{wf:α->Prop}(hu:P.underlying t=some (.slice e))(hc:P.cellsOf e=sz)(aC: ∀x,(enc x).length=sz)(bH:0<sz)(D:Dec P w e α enc wf):
  Dec P w t (SlV×List α) (fun p=>[.slice p.1.a p.1.len p.1.cap]) (C86 w enc wf sz):=
 ⟨fun h=>by
  rcases Deep.open_slice hu h with⟨rfl,_⟩|⟨a,len,cap,m,n,Dd,Pl,rfl,_,bS,aU,hm,_,aB⟩
  ·exact⟨(⟨none,0,0⟩,[]),rfl,rfl,Dv6 _,Sl.nil sz,by simp⟩
  ·have cu:len<=m:=by rw[hm];split<;>omega
   obtain⟨l,hl,hq⟩:=B10 (n:=len) (Q:=fun i x=>w.cells? 0 (a.add (i*sz)) sz=some (enc x)/\wf x) fun i hi=>by
    obtain⟨cs,h1,h2⟩:=aB i (by omega);obtain⟨x,rfl,hx⟩:=D.dec h2;rw[hc]at h1;exact⟨x,h1,hx⟩
   refine⟨(⟨some a,len,cap⟩,l),rfl,hl.symm,aU,⟨?_,bS,?_⟩,fun x hx=>?_⟩
   ·rw[O5 aC,hl]
   ·by_cases h0:l.flatMap enc=[]
    ·exact .inl h0
    ·refine .inr ⟨a,rfl,Cn2 h0 fun i v hv=>?_⟩;have hi:=(Dw0.1 hv).1;rw[O5 aC]at hi;have gY:i=(i/sz)*sz+i%sz:=by rw[D77];exact(Nat.div_add_mod i sz).symm
     rw[gY]at hv;obtain⟨iJ,oB⟩:=B67 aC l (i/sz) (i%sz) v (Dx6 _ bH) hv;obtain⟨_,dQ⟩:=cells?_some (hq _ iJ).1;have:=dQ _ _ oB;rw[gY];have qV:(a.add (i/sz*sz)).add (i%sz)=a.add (i/sz*sz+i%sz):=by
      unfold Addr.add;by_cases h1:i/sz*sz=0<;>by_cases h2:i%sz=0<;>simp[h1,h2,D34]
     rw[qV]at this;exact this
   ·obtain⟨i,hi,rfl⟩:=Eb2.1 hx;exact(hq i hi).2⟩
def B78(P:Program):List Field->Nat->Nat->Bool
 |[],base,n=>Nat.beq base n
 |f::r,base,n=>Nat.beq f.offset base&&B78 P r (base+P.cellsOf f.type) n
structure C88(P:Program)(w:World)(fs:List Field)(α:Type)(enc:α->List Value)(wf:α->Prop):Prop where
 dec: ∀{H:Type} {e':TypeId×Value->H} {spare:Nat->Bool} {held:Bool} {fuel:Nat} {cs:List Value} {base:Nat},B78 P fs base cs.length=true->
  (∀f∈fs,∃y,DataW.trod e' P w 0 spare held fuel f.type ((cs.drop f.offset).take (P.cellsOf f.type))=some y)-> ∃x,cs.drop base=enc x/\wf x
theorem decF_nil:C88 P w [] Unit (fun _=>[]) (fun _=>True):=
 ⟨fun{H e' spare held fuel cs base} hc _=>⟨(),by have:=Dz0 hc;rw[this];simp,trivial⟩⟩
theorem decF_cons{f:Field}{fs:List Field}{α β:Type}{enc:α->List Value}{encs:β->List Value}{wf:α->Prop}{wfs:β->Prop}(D:Dec P w f.type α enc wf)(Ds:C88 P w fs β encs wfs):
  C88 P w (f::fs) (α×β) (fun x=>enc x.1++encs x.2) (fun x=>wf x.1/\wfs x.2):=
 ⟨fun{H e' spare held fuel cs base} hc aB=>by
  simp only[B78,Dv4]at hc;have ho:=Dz0 hc.1;obtain⟨y,hy⟩:=aB f Dq7;obtain⟨x,hx,pJ⟩:=D.dec hy;obtain⟨z,hz,hwz⟩:=Ds.dec hc.2 fun g hg=>aB g (Dr6 _ hg);refine⟨(x,z),?_,pJ,hwz⟩;rw[ho]at hx;rw[<-hx,<-hz,<-Dw6];exact(Dw1 _ _).symm⟩
theorem dec_struct{t:TypeId}{fs:Array Field}{α:Type}{enc:α->List Value}{wf:α->Prop}(hu:P.underlying t=some (.struct fs))(hc:B78 P fs.toList 0 (P.cellsOf t)=true)(D:C88 P w fs.toList α enc wf):Dec P w t α enc wf:=
 ⟨fun h=>by
  obtain⟨xs,n,_,_,hl,hC,aB⟩:=DataW.trod_struct hu h;rw[<-hl]at hc;obtain⟨x,hx,hw⟩:=D.dec hc fun f hf=>by
   obtain⟨i,hi,rfl⟩:=Eb2.1 hf;have hJ:i<fs.size:=by simpa using hi
   have:=aB i fs[i] (by simp[hJ]);rw[Dr9 (by omega)]at this;exact⟨_,this⟩
  exact⟨x,by simpa using hx,hw⟩⟩
theorem arg_str{t:TypeId}{r:Reach}{b0:Nat}{v:Value}{H:Type}{e':TypeId×Value->H}{sp:Nat->Bool}{held:Bool}{d:DataW H}{ps:List MemPlace}(hu:P.underlying t=some .string)(hv:Value.okWide P w r b0 t v)(h:DataW.Trod e' P w 0 sp held t v d ps):
  ∃s,v= .string s/\s.size<=maxLen:=by
 obtain⟨n,rfl⟩:=okWide_string hu hv;obtain⟨fuel,hf⟩:=h;obtain⟨m,h1,h2⟩:=(Do3 (w:=w) hu).dec hf;have:[Value.string n]=[.string m]:=h1;injection this with h3;injection h3 with h4;subst h4;exact⟨n,rfl,h2⟩
theorem arg_slice{t e:TypeId}{α:Type}{enc:α->List Value}{wf:α->Prop}{sz:Nat}{r:Reach}{b0:Nat}{v:Value}{H:Type}{e':TypeId×Value->H}{sp:Nat->Bool}{held:Bool}{d:DataW H}{ps:List MemPlace}(hu:P.underlying t=some (.slice e))(hv:Value.okWide P w r b0 t v)
  (D:Dec P w t (SlV×List α) (fun p=>[.slice p.1.a p.1.len p.1.cap]) (C86 w enc wf sz)) (h:DataW.Trod e' P w 0 sp held t v d ps): ∃(s:SlV) (l:List α),v= .slice s.a s.len s.cap/\C86 w enc wf sz (s,l):=by
 obtain⟨a,len,cap,rfl⟩:=okWide_slice hu hv;obtain⟨fuel,hf⟩:=h;obtain⟨⟨s,l⟩,h1,h2⟩:=D.dec hf;have:[Value.slice a len cap]=[.slice s.a s.len s.cap]:=h1;injection this with h3;exact⟨s,l,h3,h2⟩
theorem arg_struct{t:TypeId}{fs:Array Field}{α:Type}{enc:α->List Value}{wf:α->Prop}{r:Reach}{b0:Nat}{v:Value}{H:Type}{e':TypeId×Value->H}{sp:Nat->Bool}{held:Bool}{d:DataW H}{ps:List MemPlace}(hu:P.underlying t=some (.struct fs))(hv:Value.okWide P w r b0 t v)
  (D:Dec P w t α enc wf) (h:DataW.Trod e' P w 0 sp held t v d ps): ∃x,v= .agg (enc x).toArray/\wf x:=by
 obtain⟨cs,rfl,_⟩:=okWide_struct hu hv;obtain⟨fuel,hf⟩:=h;obtain⟨x,h1,h2⟩:=D.dec hf;have:cs.toList=enc x:=h1;exact⟨x,by rw[<-this],h2⟩
end
theorem xor64(x y:Int):Ao1 .xor .u64 x y=((BitVec.ofInt 64 x^^^BitVec.ofInt 64 y).toNat:Int):=by
 simp only[Ao1,IntKind.bits];rw[Bw0,Aw7];rfl
theorem Dg1{m:Nat}(a:BitVec m)(k n:Nat)(hn:n=m):Int.fdiv (a.toNat:Int) (2^(min k n))=((a>>>k).toNat:Int):=by
 subst hn;rw[Ee0,Ee1,D78 _ (by exact D49 (Int.pow_pos (by omega)))];have h2:(2:Int)^min k n=((2^min k n:Nat):Int):=by simp
 rw[h2,<-Int.natCast_ediv];congr 1;by_cases h:k<=n
 ·rw[Dx1 h]
 ·rw[Nat.min_eq_right (by omega)];have h3:=a.isLt;rw[Eb3 h3,Eb3 (Eb0 h3 (D50 (by omega) (by omega)))]
theorem shr64(a:BitVec 64)(k:Nat):Int.fdiv (a.toNat:Int) (2^(min k IntKind.u64.bits))=((a>>>k).toNat:Int):=Dg1 a _ _ rfl
theorem wf_rng{k:IntKind}{n:Int}(h:S0 k n):k.min<=n/\n<=k.max:=by
 simpa only[S0,Lit.wf,Dv4,Dy0]using h
theorem Bl5{n:Int}(h:S0 .i64 n): -9223372036854775808<=n/\n<=9223372036854775807:=by
 exact wf_rng h
theorem C20(m:Nat)(c:UInt8):BitVec.ofInt m (c.toNat:Int)=BitVec.ofNat m c.toNat:=BitVec.ofInt_natCast ..
theorem Sl.head{p:Nat×Obj}{L:A4}{v:SlV}{sz:Nat}{vs:List Value}(h:Sl [p] v sz vs):Sl (p::L) v sz vs:=h.mono fun q hq=>by
 obtain rfl:=Dr2.1 hq;exact Dq7
section
variable {P:Program} {L:A4}
theorem CallF.at'{f:FuncId}{args:Array Value}{K:Value->HP}{A X Y:A4}(h:CallF P f args A K):CallF P f args (X++A++Y) fun v L'=> ∃A',L'=X++A'++Y/\K v A':=
 fun E F w hw=>Calls.mono (CallF.frame (R:=X++Y) h E F w (hw.perm (by
   refine D37 F ?_;have:(X++A++Y).Perm (A++X++Y):=D37 Y Du8;simpa[Ds5]using this))) fun e w' ⟨v,L',he,aI,A',hL,hK⟩=>by
  subst hL;refine⟨v,X++A'++Y,he,aI.perm (D37 F ?_),A',rfl,hK⟩;have:(A'++X++Y).Perm (X++A'++Y):=D37 Y Du8;simpa[Ds5]using this
theorem K1{f:FuncId}{args:Array Value}{rs:List Sh}{k:RsV rs->HP}{K:Value->HP}{A:A4}(X Y:A4)(h:CallF P f args A K)(hL:L=X++A++Y)
  (hk: ∀v A',Sat (X++A'++Y)->K v A'-> ∃r,v=Ah7 rs r/\k r (X++A'++Y)):cl P f args rs k L:=by
 subst hL;refine CallF.mono (CallF.at' h) ?_;rintro v L' hs ⟨A',rfl,hK⟩;exact hk v A' hs hK
theorem Reads.in{f:FuncId}{args:Array Value}{A X Y:A4}{v:Value}(h:Reads P f args A v):Reads P f args (X++A++Y) v:=
 CallF.mono (CallF.at' h) (by rintro _ _ _ ⟨A',rfl,rfl,rfl⟩;exact⟨rfl,rfl⟩)
theorem Az5.permL{s:Sem Value}{K:Value->HP}{L':A4}(hp:L.Perm L')(h:Az5 P s K L'):Az5 P s K L:=
 fun E F w hw=>h E F w (hw.perm (hp.append_right F))
theorem Az5.permK{s:Sem Value}{K K':Value->HP}(h:Az5 P s K L)(hk: ∀v L',K v L'-> ∃L'',L'.Perm L''/\K' v L''):Az5 P s K' L:=by
 intro E F w hw;obtain⟨v,w',L',hr,aI,hK⟩:=h E F w hw;obtain⟨L'',hp,hK'⟩:=hk v L' hK;exact⟨v,w',L'',hr,aI.perm (hp.append_right F),hK'⟩
theorem Al3{t t2 ty e:TypeId}{sz bytes:Nat}{z:List Value}(hT:V4 P t e sz bytes z)(h2:Ax5 P t2)
  {v:SlV} {vs ws:List Value} {x:Value} {n:Nat} {seg:A4} (X Y:A4) (own:Own v sz e vs seg) (hL:L=X++seg++Y) (src:Src L x sz n ws) (gB:ws.all T6=true)
  (hb:(v.len+n)*bytes<=140737488355328) {k:RsV [.lf .sl]->HP} (hk: ∀v' seg',v'.len=v.len+n->(v.len+n<=v.cap->v'.cap=v.cap/\v'.a=v.a)->v.cap<=v'.cap->Own v' sz e (vs++ws) seg'->k (v',()) (X++seg'++Y)):
  smW P (Builtin.append_ #[t,t2] ty #[.slice v.a v.len v.cap,x]) [.lf .sl] k L:=by
 subst hL;have hp:(X++seg++Y).Perm (seg++(X++Y)):=by
  have:(X++seg++Y).Perm (seg++X++Y):=D37 Y Du8;simpa[Ds5]using this
 have src':Src (seg++(X++Y)) x sz n ws:=by
  cases src with
  |sl h=>exact .sl (h.mono fun p hq=>hp.subset hq)
  |str s=>exact .str s
 refine Az5.permL hp (Az5.permK (B15 (R:=X++Y) hT h2 own src' gB hb (k:=fun r L'=> ∃seg',L'=seg'++(X++Y)/\k r (X++seg'++Y)) fun v' seg' h1 h2 h3 h4=>⟨seg',rfl,hk v' seg' h1 h2 h3 h4⟩) ?_);rintro v' L' ⟨r,hr,seg',rfl,cU⟩;refine⟨X++seg'++Y,?_,r,hr,cU⟩;have:(seg'++X++Y).Perm (X++seg'++Y):=D37 Y Du8;simpa[Ds5]using this
theorem E6{t t2 ty e:TypeId}{sz bytes:Nat}{z:List Value}(hT:V4 P t e sz bytes z)(h2:Ax5 P t2)
  {v:SlV} {vs ws:List Value} {x:Value} {n:Nat} {seg:A4} (X Y:A4) (own:Own v sz e vs seg) (hL:L=X++seg++Y) (src:Src L x sz n ws) (gB:ws.all T6=true)
  (hb:(v.len+n)*bytes<=140737488355328) {k:RsV [.lf .sl]->HP} (hk: ∀v' seg',v'.len=v.len+n->Own v' sz e (vs++ws) seg'->k (v',()) (X++seg'++Y)):
  smW P (Builtin.append_ #[t,t2] ty #[.slice v.a v.len v.cap,x]) [.lf .sl] k L:=
 Al3 hT h2 X Y own hL src gB hb fun v' seg' h _ _ h3=>hk v' seg' h h3
theorem ifP{p:Prop}[Decidable p]{A B:HP}(h:p)(hk:A L):ifB (decide p) A B L:=ifT (Dt2 h) hk
theorem ifN{p:Prop}[Decidable p]{A B:HP}(h: ¬p)(hk:B L):ifB (decide p) A B L:=ifF (Ds7 h) hk
theorem N3{t e:TypeId}{sz bytes:Nat}{z:List Value}(hu:P.underlying t=some (.slice e))(h:((P.info? e).bind fun i=>i.zero.map fun v=>(i.size,i.bytes,v.cells.toList))=some (sz,bytes,z))
  (hz:z.length=sz) (hs:0<sz) (hb:0<bytes):V4 P t e sz bytes z:=by
 refine⟨hu,?_,hz,hs,hb⟩;cases hi:P.info? e with
 |none=>rw[hi]at h;cases h
 |some i=>
  rw[hi]at h;cases hv:i.zero with
  |none=>simp[hv]at h
  |some v=>
   simp only[Option.bind_some,hv,D04,Dz1,Dx0]at h;exact⟨i,rfl,h.1,h.2.1,v,hv,h.2.2⟩
theorem ldB{n off:Nat}{c:Array Value}{T:TypeId}{fz:Nat×Nat}{vs:List Value}(hm:(n,Obj.cells c T fz)∈L)(h:(c.toList.drop off).take vs.length=vs):C9 ⟨n,off,none⟩ vs L:=by
 refine .blk hm fun i v hv=>?_;rw[<-h,Dy8]at hv;split at hv
 ·rw[D05]at hv;simpa using hv
 ·cases hv
theorem E4{ad:Addr}{ws:List Value}{k:HP}{n off:Nat}{c:Array Value}{T:TypeId}{fz:Nat×Nat}(A B:A4)(dR:ad=⟨n,off,none⟩)(hL:L=A++(n,Obj.cells c T fz)::B)(aC:off+ws.length<=c.size)
  (eP:fz.2<=fz.1\/c.size<=fz.1) (c':Array Value) (hc:wr c off ws=c') (hk:k (A++(n,Obj.cells c' T fz)::B)):st ad ws k L:=by
 subst dR hL hc;exact⟨A,B,c,T,fz,rfl,rfl,aC,fun i hi=>by simp only;omega,hk⟩
def A77(vs:List Value)(p:Nat)(ws:List Value):List Value:=vs.take p++ws++vs.drop (p+ws.length)
theorem Be4(vs:List Value)(p:Nat)(ws:List Value)(h:p+ws.length<=vs.length):(A77 vs p ws).length=vs.length:=by
 simp only[A77,Dr4,Ds0,Ds6];omega
theorem Ap2(vs:List Value)(p:Nat)(ws:List Value)(h:p+ws.length<=vs.length)(i:Nat):(A77 vs p ws)[i]?=if p<=i/\i<p+ws.length then ws[i-p]? else vs[i]?:=by
 unfold A77;rw[Ds5,Ea6];have hl:(vs.take p).length=p:=by rw[Ds0];omega
 rw[hl];by_cases h1:i<p
 ·rw[Dq5 h1,Dq4 (by omega),Dy8,Dq5 h1]
 ·rw[Dq4 h1,Ea6];by_cases h2:i-p<ws.length
  ·rw[Dq5 h2,Dq5 (by omega)]
  ·rw[Dq4 h2,Dq4 (by omega),D05];congr 1;omega
theorem Ap1{vs:List Value}{p:Nat}{w:Value}(h:p<vs.length):A77 vs p [w]=vs.set p w:=by
 apply D51;intro i;rw[Ap2 _ _ _ (by simp only[Dr8,Du7];omega),D38];by_cases hi:p=i
 ·subst hi;simp[h]
 ·rw[Dq4 (by simp only[Dr8,Du7];omega),Dq4 hi]
theorem Own.st{v:SlV}{sz:Nat}{T:TypeId}{vs ws:List Value}{seg:A4}(own:Own v sz T vs seg)(X Y:A4){p:Nat}(hp:p+ws.length<=vs.length)(gB:0<ws.length){a ad:Addr}(ha:v.a=some a)(dR:ad=Addr.add a p){k:HP}
  (hL:L=X++seg++Y) (hk: ∀seg',Own v sz T (A77 vs p ws) seg'->k (X++seg'++Y)):st ad ws k L:=by
 subst hL dR;rcases own.row with⟨cQ,_,_⟩|⟨b,off,c,fz,cQ,rfl,aC,eP,hc⟩
 ·rw[ha]at cQ;cases cQ
 ·rw[ha]at cQ;obtain rfl:=Dq9 cQ;have hC:=own.len;have aU:=own.cap;have bS:=Du9 sz aU;refine E4 (n:=b) (off:=off+p) (c:=c) (T:=T) (fz:=fz) X Y (P2 (ad:=⟨b,off,none⟩) rfl p) (by simp) (by omega) (by omega) _ rfl ?_;have:=hk [(b,Obj.cells (wr c (off+p) ws) T fz)] ⟨by rw[Be4 _ _ _ hp];exact hC,aU,.inr ⟨b,off,_,fz,ha,rfl,by rw[N7];exact aC,by rw[N7];exact eP,fun i u hu=>?_⟩⟩
  ·simpa using this
  ·rw[Ap2 _ _ _ hp]at hu;rw[Ag1 _ _ _ _ (by omega)];split at hu
   ·rw[Dq5 (by omega),show off+i-(off+p)=i-p by omega];exact hu
   ·rw[Dq4 (by omega)];exact hc i u hu
theorem Do7(l:List UInt8)(i:Nat)(x:UInt8):(bvs l).set i (.int .u8 (x.toNat:Int))=bvs (l.set i x):=by
 simp[bvs,List.map_set,bv]
theorem Sl.slc{v:SlV}{sz:Nat}{vs:List Value}(h:Sl L v sz vs)(aC:0<sz){l h' m:Nat}(hl:l<=h')(hh:h'<=v.len)(hm:h'<=m):Sl L (Q0 v l h' m sz) sz ((vs.drop (l*sz)).take ((h'-l)*sz)):=by
 have hC:=h.len;have h1:=Du9 sz hh;have h2:=Du9 sz hl;refine⟨?_,?_,?_⟩
 ·simp only[Q0,Dr0,Ds0,Ds6];rw[Dx1];rw[D79];omega
 ·simp only[Q0,Dr0];omega
 ·by_cases h0:(vs.drop (l*sz)).take ((h'-l)*sz)=[]
  ·exact .inl h0
  ·have hO:l<h':=by
    rcases Dw8 l h' with h3|h3
    ·exact h3
    ·exfalso;apply h0;rw[Nat.sub_eq_zero_of_le h3,Dz2];rfl
   obtain⟨ad,ha,cD⟩:=h.at' (i:=l) (by omega) aC;refine .inr ?_;simp only[Q0,Dr0];rw[Dq4 (by omega),ha];refine⟨_,rfl,cD.sub (l*sz) fun i u hu=>?_⟩;rw[Dy8]at hu;split at hu
   ·rw[D05]at hu;exact hu
   ·cases hu
theorem K7{v:SlV}{l h m:Int}{sz:Nat}{k:SlV->HP}{l' h' m':Nat}(hl:l=l')(hh:h=h')(hm:m=m')(h1:l'<=h')(h2:h'<=m')(h3:m'<=v.cap)(hk:k (Q0 v l' h' m' sz) L):slc v l h m sz k L:=by
 subst hl hh hm;exact⟨⟨by omega,by omega,by omega,by omega⟩,hk⟩
theorem Ai9(l:List UInt8)(i j:Nat):((bvs l).drop (i*1)).take ((j-i)*1)=bvs ((l.drop i).take (j-i)):=by
 simp[bvs,D52,D15]
theorem Bh9{α:Type}{enc:α->List Value}{sz:Nat}(aC: ∀x,(enc x).length=sz): ∀(l:List α) (i:Nat) (h:i<l.length) (j:Nat),j<sz->(l.flatMap enc)[i*sz+j]?=(enc l[i])[j]?
 |[],i,h,j,_=>by simp at h
 |x::r,0,h,j,hj=>by
  rw[Du1,Dy4 (by rw[aC];omega),Dz2,Dy2];rfl
 |x::r,i+1,h,j,hj=>by
  rw[Du1,Dy5 (by rw[aC,Dx9];omega)];have:(i+1)*sz+j-(enc x).length=i*sz+j:=by rw[aC,Dx9];omega
  rw[this,Bh9 aC r i (by simpa using h) j hj];rfl
theorem Sl.els_len{α:Type}{enc:α->List Value}{sz:Nat}{v:SlV}{l:List α}(aC: ∀x,(enc x).length=sz)(bH:0<sz)(h:Sl L v sz (l.flatMap enc)):v.len=l.length:=by
 have h1:=h.len;rw[O5 aC]at h1;exact Nat.eq_of_mul_eq_mul_right bH h1
theorem Sl.el{α:Type}{enc:α->List Value}{sz:Nat}{v:SlV}{l:List α}(aC: ∀x,(enc x).length=sz)(bH:0<sz)(h:Sl L v sz (l.flatMap enc)){i:Nat}(hi:i<l.length):
  ∃a,v.a=some a/\C9 (Addr.add a (i*sz)) (enc l[i]) L:=by
 obtain⟨a,ha,hl⟩:=h.at' (i:=i) (by rw[h.els_len aC bH];exact hi) bH;refine⟨a,ha,hl.sub (i*sz) fun j u hu=>?_⟩;have hj:=(Dw0.1 hu).1;rw[aC]at hj;rw[Bh9 aC l i hi j hj];exact hu
def ivs(k:IntKind)(l:List Int):List Value:=l.map (Value.int k)
theorem N1(k:IntKind)(l:List Int):(ivs k l).length=l.length:=by simp[ivs]
theorem Ae2(k:IntKind)(l m:List Int):ivs k (l++m)=ivs k l++ivs k m:=by simp[ivs]
theorem Ai3(k:IntKind)(l:List Int):(ivs k l).all T6=true:=by
 induction l with
 |nil=>rfl
 |cons b r ih=>exact ih
theorem Co2{k:IntKind}{l:List Int}{i:Nat}(h:i<l.length):(ivs k l)[i]?=some (.int k l[i]):=by
 simp[ivs,h]
abbrev ISl(L:A4)(v:SlV)(k:IntKind)(l:List Int):Prop:=Sl L v 1 (ivs k l)
theorem ISl.len{L:A4}{v:SlV}{k:IntKind}{l:List Int}(h:ISl L v k l):v.len=l.length:=by
 have:=Sl.len h;rw[N1]at this;omega
theorem ISl.some{L:A4}{v:SlV}{k:IntKind}{l:List Int}(h:ISl L v k l){i:Nat}(hi:i<l.length): ∃a,v.a=some a:=by
 obtain⟨ad,cQ,hl⟩:=h.at' (i:=i) (by rw[h.len];exact hi) (by omega);exact⟨ad,cQ⟩
theorem ISl.rd{L:A4}{v:SlV}{k:IntKind}{l:List Int}(h:ISl L v k l){i:Nat}(hi:i<l.length){a:Addr}(ha:v.a=Option.some a)(j:Nat)(hj:j=i*1):C9 (Addr.add a j) [.int k l[i]] L:=by
 subst hj;obtain⟨ad,cQ,hl⟩:=h.at' (i:=i) (by rw[h.len];exact hi) (by omega);rw[ha]at cQ;obtain rfl:=Dq9 cQ;rw[Dt8];exact hl.one i (Co2 hi)
theorem Dl6(k:IntKind)(l:List Int)(i:Nat)(x:Int):(ivs k l).set i (.int k x)=ivs k (l.set i x):=by
 simp[ivs,List.map_set]
theorem Co1(k:IntKind)(l:List Int)(i j:Nat):((ivs k l).drop (i*1)).take ((j-i)*1)=ivs k ((l.drop i).take (j-i)):=by
 simp[ivs,D52,D15]
theorem ISl.const{L:A4}{b:Nat}{k:IntKind}{l:List Int}{T:TypeId}{fz:Nat×Nat}(cap:Nat)(hc:l.length<=cap)(hm:(b,Obj.cells (ivs k l).toArray T fz)∈L):ISl L ⟨Option.some ⟨b,0,none⟩,l.length,cap⟩ k l:=
 ⟨by rw[N1];simp,hc,.inr ⟨_,rfl,.blk hm fun i v hv=>by simpa using hv⟩⟩
theorem C86.bytes{w:World}{wf:UInt8->Prop}{p:SlV×List UInt8}(h:C86 w (fun b=>[bv b]) wf 1 p):BSl (Cd6 w) p.1 p.2:=by
 have h1:=h.sl;have h2:p.2.flatMap (fun b=>[bv b])=bvs p.2:=by
  generalize p.2=l;induction l with
  |nil=>rfl
  |cons x r ih=>rw[Du1,ih];rfl
 rw[h2]at h1;exact h1
end
section
variable {P:Program} {L:A4}
theorem Own.slc{v:SlV}{sz:Nat}{T:TypeId}{vs:List Value}{seg:A4}(own:Own v sz T vs seg){l h:Nat}(hl:l<=h)(hh:h<=v.len):
  Own (Q0 v l h v.cap sz) sz T ((vs.drop (l*sz)).take ((h-l)*sz)) seg:=by
 have hC:=own.len;have aU:=own.cap;have h1:=Du9 sz hh;have h2:=Du9 sz hl;have h3:=Du9 sz aU;refine⟨?_,?_,?_⟩
 ·simp only[Q0,Dr0,Ds0,Ds6];rw[Dx1];rw[D79];omega
 ·simp only[Q0,Dr0];omega
 ·rcases own.row with⟨ha,hc,rfl⟩|⟨b,off,c,fz,ha,rfl,aC,eP,dQ⟩
  ·refine .inl ⟨?_,?_,rfl⟩
   ·simp only[Q0,Dr0,ha];split<;>rfl
   ·simp only[Q0,Dr0];omega
  ·by_cases he:v.cap=l
   ·refine .inr ⟨b,off,c,fz,?_,rfl,?_,eP,?_⟩
    ·simp only[Q0,Dr0,Dq5 he,ha]
    ·simp only[Q0,Dr0];rw[he,D27,Dz2];omega
    ·intro i u hu;have:h=l:=by omega
     subst this;simp at hu
   ·refine .inr ⟨b,off+l*sz,c,fz,?_,rfl,?_,eP,?_⟩
    ·simp only[Q0,Dr0,Dq4 he,ha,D04];rw[P2 rfl]
    ·simp only[Q0,Dr0];rw[D79];have:=Du9 sz (show l<=v.cap by omega);omega
    ·intro i u hu;rw[Dy8]at hu;split at hu
     ·rw[D05]at hu;rw[D34];exact dQ _ _ hu
     ·cases hu
theorem A76{t ty:TypeId}{d:TypeDesc}(hu:P.underlying t=some d){a:Option Addr}{n c:Nat}(h:a=none\/n=0)(w:World):(Builtin.clear_ #[t] ty #[.slice a n c]).run P w= .ok (.tuple #[]) w:=by
 rcases h with rfl|rfl
 ·cases d<;>simp[Builtin.clear_,D4 hu]
 ·cases a<;>cases d<;>simp[Builtin.clear_,D4 hu]
theorem A75{t ty e:TypeId}{i:TypeInfo}{zv:Value}(hu:P.underlying t=some (.slice e))(hi:P.info? e=some i)(hz:i.zero=some zv){a:Addr}{n c:Nat}(hn:n≠0){w w':World}
  (hs:(storeCells a (Builtin.zeroCells zv.cells n).toList).run P w= .ok () w'):(Builtin.clear_ #[t] ty #[.slice (some a) n c]).run P w= .ok (.tuple #[]) w':=by
 cases n with
 |zero=>exact absurd rfl hn
 |succ n=>simp[Builtin.clear_,D4 hu,zeroValue,typeInfo,hi,hz,hs]
theorem Ai8{t ty e:TypeId}{sz bytes:Nat}{z:List Value}(hT:V4 P t e sz bytes z)(hz:z.all T6=true){v:SlV}{vs:List Value}{seg:A4}(X Y:A4)(own:Own v sz e vs seg)(hL:L=X++seg++Y){h:Nat}(h1:v.len<=h)(h2:h<=v.cap)
  {s:SlV} (hs:s=Q0 v v.len h v.cap sz) {k:RsV []->HP} (hk: ∀seg',Own v sz e vs seg'->k () (X++seg'++Y)):smW P (Builtin.clear_ #[t] ty #[.slice s.a s.len s.cap]) [] k L:=by
 subst hL hs;obtain⟨i,hi,qI,rP,zv,hzv,mY⟩:=hT.info;subst qI;have aT:(Q0 v v.len h v.cap i.size).len=h-v.len:=by simp only[Q0,Dr0]
 intro E F w hw;by_cases hn:h-v.len=0
 ·exact⟨_,w,_,A76 hT.und (.inr (by rw[aT];exact hn)) w,hw,(),rfl,hk seg own⟩
 ·rcases own.row with⟨ha,hc,rfl⟩|⟨b,off,c,fz,ha,rfl,aC,eP,dQ⟩
  ·omega
  ·have haa:(Q0 v v.len h v.cap i.size).a=some ⟨b,off+v.len*i.size,none⟩:=by
    simp only[Q0,Dr0];rw[Dq4 (by omega),ha,D04,P2 rfl]
   have hC:=own.len;have bS:=Du9 i.size h2;have lS:=Du9 i.size h1;have kP:zv.cells.size=i.size:=by rw[<-hT.zlen,<-mY];simp
   have kQ:(Builtin.zeroCells zv.cells (h-v.len)).toList.length=(h-v.len)*i.size:=by
    rw[D14,Ac5,kP]
   have aV:(h-v.len)*i.size=h*i.size-v.len*i.size:=D79 ..;have aW:(Builtin.zeroCells zv.cells (h-v.len)).toList.all T6=true:=by
    rw[Dy1]at hz⊢;intro x hx;refine hz x ?_;rw[<-mY];unfold Builtin.zeroCells at hx;simp only[Array.toList_map,Dt4]at hx;obtain⟨l,_,rfl⟩:=hx;have hO:l%zv.cells.size<zv.cells.size:=Dx6 _ (by rw[kP];exact hT.pos);rw[getElem!_pos zv.cells _ hO];simp
   obtain⟨w',hr,aI⟩:=S3 (P:=P) (E:=E) (A:=X) (B:=Y) (F:=F) (b:=b) (T:=e) (fz:=fz) (Builtin.zeroCells zv.cells (h-v.len)).toList c (off+v.len*i.size) 0 w aW (by simpa using hw) (by rw[kQ];omega) (by rw[kQ];intro j hj;omega);refine⟨_,w',X++[(b,Obj.cells (wr c (off+v.len*i.size+0) (Builtin.zeroCells zv.cells (h-v.len)).toList) e fz)]++Y,?_,by simpa using aI,(),rfl,hk _ ⟨hC,own.cap,.inr ⟨b,off,_,fz,ha,rfl,by rw[N7];exact aC,by rw[N7];exact eP,fun j u hu=>?_⟩⟩⟩
   ·rw[haa,aT];exact A75 hT.und hi hzv hn hr
   ·have hj:=(Dw0.1 hu).1;rw[Ag1 _ _ _ _ (by rw[kQ];omega),Dq4 (by omega)];exact dQ j u hu
theorem Ends.app{K:Value->HP}{v:Value}{J L:A4}(h:Ends K v L):Ends K v (J++L):=by
 obtain⟨A,J',hp,hK⟩:=h;refine⟨A,J'++J,?_,hK⟩;have h1:(J++L).Perm (L++J):=Du8;exact h1.trans (by simpa[Ds5]using hp.append_right J)
theorem Ends.cons{K:Value->HP}{v:Value}{p:Nat×Obj}{L:A4}(h:Ends K v L):Ends K v (p::L):=Ends.app (J:=[p]) h
theorem C89(c:Array Value)(vs:List Value)(h:vs.length=c.size):wr c 0 vs=vs.toArray:=by
 apply D33;intro i;rw[Ag1 _ _ _ _ (by omega)];split
 ·simp
 ·rename_i hi;rw[Ea0 (by omega),D26,D12 (by omega)]
end
set_option linter.unusedSectionVars false
section
variable {P:Program} {L:A4} {κ:Type} [DecidableEq κ]
theorem Aj5{w:World}{r:Nat}{es:Array MapEntry}{c:Nat}(h:w.heap[r]?=some (.map es c)):(getObj r).run P w= .ok (.map es c) w:=by simp[getObj,Sem.run,h]
theorem Ax8{w:World}{r:Nat}{es:Array MapEntry}{c:Nat}(o:Obj)(h:w.heap[r]?=some (.map es c)):(setObj r o).run P w= .ok () {w with heap:=w.heap.setIfInBounds r o}:=by simp[setObj,Sem.run,h]
theorem Dd7(a b:ByteArray):(a==b)=decide (a=b):=by
 cases a with|mk x=>cases b with|mk y=>
  show(x==y)=decide (ByteArray.mk x=ByteArray.mk y);by_cases h:x=y
  ·subst h;simp
  ·rw[beq_eq_false_iff_ne.2 h,Ds7 (by simpa using h)]
theorem Bt9{kt:TypeId}{v:Value}(hu:P.underlying kt=some .string\/ ∃k,P.underlying kt=some (.int k))(e:Bool)(n:Nat)(w:World):(Instr.checkKey e (n+1) kt v).run P w= .ok () w:=by
 rcases hu with hu|⟨k,hu⟩<;>simp only[Instr.checkKey,Sem.run_bind,D4 hu,Result.andThen_ok,Sem.run_pure]
def Mp(kv:κ->Value)(es:Array MapEntry)(m:List (κ×Value)):Prop:=es.toList.map (fun e=>(e.key,e.val))=m.map fun p=>(kv p.1,p.2)
theorem Mp.size{kv:κ->Value}{es:Array MapEntry}{m:List (κ×Value)}(h:Mp kv es m):es.size=m.length:=by
 have:=congrArg List.length h;simpa using this
def A36(m:List (κ×Value))(k:κ):Option Value:=(m.find? fun p=>decide (k=p.1)).map Prod.snd
def At8(m:List (κ×Value))(k:κ)(i:Nat):Option (Nat×Value):=
 match m with
 |[]=>none
 |p::r=>if k=p.1 then some (i,p.2)else At8 r k (i+1)
theorem Bf8: ∀(m:List (κ×Value)) (k:κ) (i:Nat),(At8 m k i).map Prod.snd=A36 m k
 |[],k,i=>rfl
 |p::r,k,i=>by
  unfold At8 A36;by_cases h:k=p.1
  ·rw[Dq5 h,D39 (by simpa using h)];rfl
  ·rw[Dq4 h,D53 (by simpa using h)];exact Bf8 r k (i+1)
theorem Aw3{kv:κ->Value}{d:TypeDesc}(hs: ∀a b,Instr.sameNow d (kv a) (kv b)=some (decide (a=b)))(k:κ): ∀(es:List MapEntry) (m:List (κ×Value)) (i:Nat),es.map (fun e=>(e.key,e.val))=m.map (fun p=>(kv p.1,p.2))->
  Instr.findNow d (kv k) es i=some (At8 m k i)
 |[],[],i,_=>rfl
 |[],p::r,i,h=>by simp at h
 |e::es,[],i,h=>by simp at h
 |e::es,p::r,i,h=>by
  simp only[Ds3,D28,Dx0]at h;unfold Instr.findNow At8;rw[h.1.1,hs,h.1.2];by_cases hk:k=p.1
  ·simp[hk]
  ·simp only[hk,decide_false,if_false];exact Aw3 hs k es r (i+1) h.2
structure KeyT(P:Program)(kt:TypeId)(kv:κ->Value):Prop where
 fnd: ∀(k:κ) (es:List MapEntry) (m:List (κ×Value)) (w:World),es.map (fun e=>(e.key,e.val))=m.map (fun p=>(kv p.1,p.2))->(Instr.findKey kt (kv k) es).run P w= .ok (At8 m k 0) w
 chk: ∀e k w,(Instr.checkKey e 10000 kt (kv k)).run P w= .ok () w
 bits: ∀a,Instr.sameBits 10000 (kv a) (kv a)=true
theorem Cq9{kt:TypeId}{kv:κ->Value}{d:TypeDesc}(hu:P.underlying kt=some d)(hs: ∀a b,Instr.sameNow d (kv a) (kv b)=some (decide (a=b)))(k:κ)(es:List MapEntry)(m:List (κ×Value))(w:World)(h:es.map (fun e=>(e.key,e.val))=m.map (fun p=>(kv p.1,p.2))):(Instr.findKey kt (kv k) es).run P w= .ok (At8 m k 0) w:=by
 simp only[Instr.findKey,Sem.run_bind,D4 hu,Result.andThen_ok,Aw3 hs k es m 0 h,Sem.run_pure]
theorem Dc1{kt:TypeId}(hu:P.underlying kt=some .string):KeyT P kt Value.string:=by
 refine⟨Cq9 hu fun a b=>?_,fun e k w=>Bt9 (.inl hu) e 9999 w,fun a=>?_⟩
 ·show some (a==b)=_;rw[Dd7]
 ·show(a==a)=true;rw[Dd7];simp
theorem keyInt{kt:TypeId}{ik:IntKind}(hu:P.underlying kt=some (.int ik)):KeyT P kt (Value.int ik):=by
 refine⟨Cq9 hu fun a b=>?_,fun e k w=>Bt9 (.inr ⟨_,hu⟩) e 9999 w,fun a=>?_⟩
 ·show(if ik=ik then some (a==b)else none)=_;rw[Dq5 rfl];congr 1
 ·show(ik==ik&&a==a)=true;simp
theorem Aa6{kt:TypeId}{kv:κ->Value}(K:KeyT P kt kv){es:Array MapEntry}{m:List (κ×Value)}(h:Mp kv es m)(k:κ)(w:World):(Instr.findKey kt (kv k) es.toList).run P w= .ok (At8 m k 0) w:=K.fnd k es.toList m w h
structure Cv5(P:Program)(t kt et:TypeId)(kv:κ->Value)(z:Value):Prop where
 und:P.underlying t=some (.map kt et)
 key:KeyT P kt kv
 zero: ∃i,P.info? et=some i/\i.zero=some z
theorem Bg3{t kt et:TypeId}{kv:κ->Value}{z:Value}(hu:P.underlying t=some (.map kt et))(hk:KeyT P kt kv)(hz:((P.info? et).bind fun i=>i.zero)=some z):Cv5 P t kt et kv z:=by
 refine⟨hu,hk,?_⟩;cases hi:P.info? et with
 |none=>rw[hi]at hz;cases hz
 |some i=>exact⟨i,rfl,by rw[hi]at hz;exact hz⟩
theorem Aq0{t kt et:TypeId}{kv:κ->Value}{z:Value}(hT:Cv5 P t kt et kv z){r:Nat}{es:Array MapEntry}{clock:Nat}{m:List (κ×Value)}(hm:(r,Obj.map es clock)∈L)(h:Mp kv es m)(k:κ):
  RdV P (Instr.lookup t (.map (some r)) (kv k) false) ((A36 m k).getD z) L:=by
 intro E F w hw;have hb:w.heap[r]?=some (Obj.map es clock):=hw.blk _ (Ds8 F hm);obtain⟨i,hi,hz⟩:=hT.zero;rw[<-Bf8 m k 0];simp only[Instr.lookup,Sem.run_bind,D4 hT.und,Result.andThen_ok,Aj5 hb,Sem.run_pure,hT.key.chk,Aa6 hT.key h];cases At8 m k 0 with
 |none=>simp[zeroValue,typeInfo,hi,hz]
 |some p=>simp
theorem Cb7{t kt et:TypeId}{kv:κ->Value}{z:Value}(hT:Cv5 P t kt et kv z){r:Nat}{es:Array MapEntry}{clock:Nat}{m:List (κ×Value)}(hm:(r,Obj.map es clock)∈L)(h:Mp kv es m)(k:κ):
  RdV P (Instr.lookup t (.map (some r)) (kv k) true) (.tuple #[(A36 m k).getD z,.bool (A36 m k).isSome]) L:=by
 intro E F w hw;have hb:w.heap[r]?=some (Obj.map es clock):=hw.blk _ (Ds8 F hm);obtain⟨i,hi,hz⟩:=hT.zero;rw[<-Bf8 m k 0];simp only[Instr.lookup,Sem.run_bind,D4 hT.und,Result.andThen_ok,Aj5 hb,Sem.run_pure,hT.key.chk,Aa6 hT.key h];cases At8 m k 0 with
 |none=>simp[zeroValue,typeInfo,hi,hz]
 |some p=>simp
theorem Dk9{t ty kt et:TypeId}(hu:P.underlying t=some (.map kt et)){r:Nat}{es:Array MapEntry}{clock:Nat}(hm:(r,Obj.map es clock)∈L):RdV P (Builtin.len_ #[t] ty #[.map (some r)]) (.int .i64 es.size) L:=by
 intro E F w hw;have hb:w.heap[r]?=some (Obj.map es clock):=hw.blk _ (Ds8 F hm);simp only[Builtin.len_,D26,Eb1,Sem.run_bind,D4 hu,Result.andThen_ok,Aj5 hb,Sem.run_pure,goInt]
def A79(m:List (κ×Value))(k:κ)(v:Value):List (κ×Value):=
 match m with
 |[]=>[(k,v)]
 |p::r=>if k=p.1 then(k,v)::r else p::A79 r k v
def Bl0(m:List (κ×Value))(k:κ):List (κ×Value):=
 match m with
 |[]=>[]
 |p::r=>if k=p.1 then r else p::Bl0 r k
theorem A24{kv:κ->Value}(k:κ)(v:Value): ∀(es:List MapEntry) (m:List (κ×Value)) (j:Nat),es.map (fun e=>(e.key,e.val))=m.map (fun p=>(kv p.1,p.2))->
  (At8 m k j=none->A79 m k v=m++[(k,v)])/\(∀i u,At8 m k j=some (i,u)->j<=i/\i-j<es.length/\(es[i-j]?).map (·.key)=some (kv k)/\(es.modify (i-j) fun e=>{e with key:=kv k,val:=v}).map (fun e=>(e.key,e.val))=(A79 m k v).map fun p=>(kv p.1,p.2))
 |[],[],j,_=>⟨fun _=>rfl,fun i u h=>by simp[At8]at h⟩
 |[],p::r,j,h=>by simp at h
 |e::es,[],j,h=>by simp at h
 |e::es,p::r,j,h=>by
  have h0:=h;simp only[Ds3,D28,Dx0]at h;obtain⟨i1,i2⟩:=A24 k v es r (j+1) h.2;unfold At8 A79;by_cases hk:k=p.1
  ·rw[Dq5 hk,Dq5 hk];refine⟨fun h=>(by cases h),fun i u hi=>?_⟩;simp only[Dz1,Dx0]at hi;obtain⟨rfl,rfl⟩:=hi;refine⟨Dq6 _,by simp,by simp[h.1.1,hk],?_⟩;simp[h.2]
  ·rw[Dq4 hk,Dq4 hk];refine⟨fun h=>by rw[i1 h];rfl,fun i u hi=>?_⟩;obtain⟨a1,a2,a3,a4⟩:=i2 i u hi;have e1:i-j=(i-(j+1))+1:=by omega
   rw[e1];refine⟨by omega,by simp only[Dr8];omega,by simpa using a3,?_⟩;simp only[List.modify_succ_cons,Ds3,h.1.1,h.1.2,a4]
theorem Bl7{t kt et:TypeId}{kv:κ->Value}{z:Value}(hT:Cv5 P t kt et kv z){r:Nat}{es:Array MapEntry}{clock:Nat}{m:List (κ×Value)}(A B:A4)(hL:L=A++(r,Obj.map es clock)::B)(h:Mp kv es m)(k:κ)(v:Value){K:HP}
  (hk: ∀es' clock',Mp kv es' (A79 m k v)->K (A++(r,Obj.map es' clock')::B)):smU P (Instr.mapUpdate t (.map (some r)) (kv k) v) K L:=by
 subst hL;intro E F w hw;have hb:w.heap[r]?=some (Obj.map es clock):=hw.blk (r,Obj.map es clock) (by simp);have kS:S1 E w (A++(r,Obj.map es clock)::(B++F)):=by simpa using hw
 obtain⟨i1,i2⟩:=A24 (kv:=kv) k v es.toList m 0 h;cases hf:At8 m k 0 with
 |none=>
  refine⟨{w with heap:=w.heap.setIfInBounds r (Obj.map (es.push {key:=kv k,val:=v,born:=clock}) (clock+1))},A++(r,Obj.map (es.push {key:=kv k,val:=v,born:=clock}) (clock+1))::B,?_,?_,hk _ _ ?_⟩
  ·simp only[Instr.mapUpdate,Sem.run_bind,D4 hT.und,Result.andThen_ok,Aj5 hb,hT.key.chk,Aa6 hT.key h,hf];exact Ax8 _ hb
  ·simpa using kS.put (Obj.map (es.push {key:=kv k,val:=v,born:=clock}) (clock+1))
  ·unfold Mp at h⊢;rw[i1 hf,Array.toList_push,Ds2,Ds2,h];rfl
 |some p=>
  obtain⟨i,u⟩:=p;obtain⟨a1,a2,a3,a4⟩:=i2 i u hf;rw[Dx4]at a2 a3 a4;have nL:((es[i]?).map (·.key)).getD (kv k)=kv k:=by
   rw[Ed8]at a3;rw[a3];rfl
  refine⟨{w with heap:=w.heap.setIfInBounds r (Obj.map (es.modify i fun e=>{e with key:=kv k,val:=v}) clock)},A++(r,Obj.map (es.modify i fun e=>{e with key:=kv k,val:=v}) clock)::B,?_,?_,hk _ _ ?_⟩
  ·simp only[Instr.mapUpdate,Sem.run_bind,D4 hT.und,Result.andThen_ok,Aj5 hb,hT.key.chk,Aa6 hT.key h,hf,nL,Instr.keyThatStays,hT.key.bits,if_true,Sem.run_pure];exact Ax8 _ hb
  ·simpa using kS.put (Obj.map (es.modify i fun e=>{e with key:=kv k,val:=v}) clock)
  ·unfold Mp;rw[Array.toList_modify];exact a4
theorem A60{kv:κ->Value}(k:κ): ∀(es:List MapEntry) (m:List (κ×Value)) (j:Nat),es.map (fun e=>(e.key,e.val))=m.map (fun p=>(kv p.1,p.2))->
  (At8 m k j=none->Bl0 m k=m)/\(∀i u,At8 m k j=some (i,u)->j<=i/\(es.eraseIdx (i-j)).map (fun e=>(e.key,e.val))=(Bl0 m k).map fun p=>(kv p.1,p.2))
 |[],[],j,_=>⟨fun _=>rfl,fun i u h=>by simp[At8]at h⟩
 |[],p::r,j,h=>by simp at h
 |e::es,[],j,h=>by simp at h
 |e::es,p::r,j,h=>by
  simp only[Ds3,D28,Dx0]at h;obtain⟨i1,i2⟩:=A60 k es r (j+1) h.2;unfold At8 Bl0;by_cases hk:k=p.1
  ·rw[Dq5 hk,Dq5 hk];refine⟨fun h=>(by cases h),fun i u hi=>?_⟩;simp only[Dz1,Dx0]at hi;obtain⟨rfl,rfl⟩:=hi;exact⟨Dq6 _,by simpa using h.2⟩
  ·rw[Dq4 hk,Dq4 hk];refine⟨fun h=>by rw[i1 h],fun i u hi=>?_⟩;obtain⟨a1,a4⟩:=i2 i u hi;have e1:i-j=(i-(j+1))+1:=by omega
   rw[e1];refine⟨by omega,?_⟩;simp only[List.eraseIdx_cons_succ,Ds3,h.1.1,h.1.2,a4]
theorem Bt7{t t2 ty kt et:TypeId}{kv:κ->Value}{z:Value}(hT:Cv5 P t kt et kv z){r:Nat}{es:Array MapEntry}{clock:Nat}{m:List (κ×Value)}(A B:A4)(hL:L=A++(r,Obj.map es clock)::B)(h:Mp kv es m)(k:κ){K:RsV []->HP}
  (hk: ∀es' clock',Mp kv es' (Bl0 m k)->K () (A++(r,Obj.map es' clock')::B)):smW P (Builtin.delete_ #[t,t2] ty #[.map (some r),kv k]) [] K L:=by
 subst hL;intro E F w hw;have hb:w.heap[r]?=some (Obj.map es clock):=hw.blk (r,Obj.map es clock) (by simp);have kS:S1 E w (A++(r,Obj.map es clock)::(B++F)):=by simpa using hw
 obtain⟨i1,i2⟩:=A60 (kv:=kv) k es.toList m 0 h;have key: ∀(o:Obj),(match At8 m k 0 with|some (i,_)=>setObj r (.map (es.eraseIdxIfInBounds i) clock)|none=>setObj r (.map es clock)).run P w= .ok () {w with heap:=w.heap.setIfInBounds r o}->
   (Builtin.delete_ #[t,t2] ty #[.map (some r),kv k]).run P w= .ok (.tuple #[]) {w with heap:=w.heap.setIfInBounds r o}:=by
  intro o ho;simp only[Builtin.delete_,D26,Eb1,D23,Sem.run_bind,D4 hT.und,Result.andThen_ok,Aj5 hb,hT.key.chk,Aa6 hT.key h];cases hf:At8 m k 0 with
  |none=>
   rw[hf]at ho;simp only[Sem.run_bind];rw[ho];rfl
  |some p=>
   rw[hf]at ho;simp only[Sem.run_bind];rw[ho];rfl
 cases hf:At8 m k 0 with
 |none=>
  refine⟨_,_,A++(r,Obj.map es clock)::B,key (.map es clock) (by rw[hf];exact Ax8 _ hb),?_,(),rfl,hk _ _ ?_⟩
  ·simpa using kS.put (Obj.map es clock)
  ·rw[i1 hf];exact h
 |some p=>
  obtain⟨i,u⟩:=p;obtain⟨a1,a4⟩:=i2 i u hf;rw[Dx4]at a4;refine⟨_,_,A++(r,Obj.map (es.eraseIdxIfInBounds i) clock)::B,key (.map (es.eraseIdxIfInBounds i) clock) (by rw[hf];exact Ax8 _ hb),?_,(),rfl,hk _ _ ?_⟩
  ·simpa using kS.put (Obj.map (es.eraseIdxIfInBounds i) clock)
  ·unfold Mp;have e:(es.eraseIdxIfInBounds i).toList=es.toList.eraseIdx i:=by
    unfold Array.eraseIdxIfInBounds;split
    ·simp
    ·rename_i aS;rw[List.eraseIdx_of_length_le (by simpa using aS)]
   rw[e];exact a4
theorem G5{f:FuncId}{args:Array Value}{rs:List Sh}{k:RsV rs->HP}{K:Value->HP}{A R:A4}(h:CallF P f args A K)(hp:L.Perm (A++R))
  (hk: ∀v A',K v A'-> ∃L'',(A'++R).Perm L''/\ ∃r,v=Ah7 rs r/\k r L''):cl P f args rs k L:=by
 intro E F w hw;refine Calls.mono (CallF.frame (R:=R) h E F w (hw.perm (hp.append_right F))) ?_;rintro e w' ⟨v,L',he,aI,A',rfl,hK⟩;obtain⟨L'',aH,fA⟩:=hk v A' hK;exact⟨v,L'',he,aI.perm (aH.append_right F),fA⟩
end
theorem Bs3{α:Type}{enc:α->List Value}{sz:Nat}(aC: ∀x,(enc x).length=sz): ∀(l:List α) (i:Nat),(l.flatMap enc).drop (i*sz)=(l.drop i).flatMap enc
 |[],i=>by simp
 |e::r,0=>by simp
 |e::r,i+1=>by
  rw[Du1,Dx9,Nat.add_comm,<-Dw6,D29 (aC e),Bs3 aC r i];rfl
theorem Bs2{α:Type}{enc:α->List Value}{sz:Nat}(aC: ∀x,(enc x).length=sz): ∀(l:List α) (i:Nat),(l.flatMap enc).take (i*sz)=(l.take i).flatMap enc
 |[],i=>by simp
 |e::r,0=>by simp
 |e::r,i+1=>by
  have h1:(enc e).take ((i+1)*sz)=enc e:=Dw9 (by rw[aC,Dx9];omega);have h2:(i+1)*sz-(enc e).length=i*sz:=by rw[aC,Dx9];omega
  rw[Du1,List.take_append,h1,h2,Bs2 aC r i];rfl
theorem Ay8{α:Type}{enc:α->List Value}{sz:Nat}(aC: ∀x,(enc x).length=sz)(l:List α)(i j:Nat):((l.flatMap enc).drop (i*sz)).take ((j-i)*sz)=((l.drop i).take (j-i)).flatMap enc:=by
 rw[Bs3 aC,Bs2 aC]
theorem Dp1(b:ByteArray): ∀(n i:Nat) (r:List UInt8),b.size-i=n->ByteArray.toList.loop b i r=r.reverse++b.data.toList.drop i:=by
 intro n;induction n with
 |zero=>
  intro i r h;unfold ByteArray.toList.loop;rw[Dq4 (by omega),D40 (by rw[D14];show b.size<=i;omega)];simp
 |succ n ih=>
  intro i r h;unfold ByteArray.toList.loop;have hi:i<b.size:=by omega
  rw[Dq5 hi,ih (i+1) _ (by omega)];have eV:i<b.data.toList.length:=by rw[D14];exact hi
  rw[Dv1 eV];simp[ByteArray.get!,hi]
theorem Bu9(b:ByteArray):b.toList=b.data.toList:=by
 unfold ByteArray.toList;rw[Dp1 b _ 0 [] rfl];simp
theorem Df6(a b:ByteArray):(a.toList==b.toList)=decide (a=b):=by
 rw[Bu9,Bu9];by_cases h:a=b
 ·subst h;simp
 ·rw[Ds7 h,D54];intro he;apply h;cases a with|mk x=>cases b with|mk y=>
   have:x=y:=Array.toList_inj.1 he;rw[this]
section
variable {P:Program} {L:A4}
def B05(P:Program):Nat->TypeId->List Value->List Value->Option Bool
 |0,_,_,_=>none
 |d+1,t,xs,ys=>
  match P.underlying t with
  |some .bool=>match xs,ys with|[.bool a],[.bool b]=>some (a==b)|_,_=>none
  |some (.int _)=>match xs,ys with|[.int k a],[.int k' b]=>if k=k' then some (a==b)else none|_,_=>none
  |some .string=>match xs,ys with|[.string a],[.string b]=>some (a.toList==b.toList)|_,_=>none
  |some (.struct fs)=>
   if P.stoodInHeld t=false then
    fs.toList.foldr (fun f acc => if f.name = "_" then none else acc.bind fun r => (B05 P d f.type ((xs.drop f.offset).take (P.cellsOf f.type)) ((ys.drop f.offset).take (P.cellsOf f.type))).map (· && r)) (some true)
   else none
  |_=>none
def B93(P:Program)(t:TypeId)(x:Value)(xs:List Value):Prop:=
 match P.underlying t with
 |some (.struct _)=>x= .agg xs.toArray
 |_=>xs=[x]
theorem Cx4{xs:List Value}{off s:Nat}{v:Value}(h:(xs.drop off).take s=[v]):xs.toArray[off]?=some v:=by
 have h0:((xs.drop off).take s)[0]?=some v:=by rw[h];rfl
 rw[Dy8]at h0;split at h0
 ·rw[D05]at h0;simpa using h0
 ·cases h0
theorem A08{t:TypeId}{n:Nat}{xs ys:List Value}{off:Nat}{r:Bool}(h:B05 P n t ((xs.drop off).take (P.cellsOf t)) ((ys.drop off).take (P.cellsOf t))=some r)(w:World):
  ∃a b,(part t xs.toArray off).run P w= .ok a w/\(part t ys.toArray off).run P w= .ok b w/\B93 P t a ((xs.drop off).take (P.cellsOf t))/\B93 P t b ((ys.drop off).take (P.cellsOf t)):=by
 cases n with
 |zero=>simp[B05]at h
 |succ n=>
  unfold B05 at h;have plainP: ∀{d:TypeDesc},P.underlying t=some d->(match d with| .struct _| .array _ _=>true|_=>false)=false-> ∀{a b:Value},(xs.drop off).take (P.cellsOf t)=[a]->(ys.drop off).take (P.cellsOf t)=[b]->
    ∃a b,(part t xs.toArray off).run P w= .ok a w/\(part t ys.toArray off).run P w= .ok b w/\B93 P t a ((xs.drop off).take (P.cellsOf t))/\B93 P t b ((ys.drop off).take (P.cellsOf t)):=by
   intro d hu hd a b ha hb;have hr: ∀{v:Value} {l:List Value},l=[v]->B93 P t v l:=by
    intro v l hl;unfold B93;rw[hu];cases d<;>simp_all
   have hp: ∀{zs:List Value} {v:Value},(zs.drop off).take (P.cellsOf t)=[v]->(part t zs.toArray off).run P w= .ok v w:=by
    intro zs v hv;have hg:(isAgg t).run P w= .ok false w:=by
     unfold isAgg;rw[Sem.run_bind,run_underlying hu];cases d<;>simp_all
    unfold part;rw[Sem.run_bind,hg];simp only[Result.andThen_ok,Dx5,if_false,Cx4 hv,Sem.run_pure]
   exact⟨a,b,hp ha,hp hb,hr ha,hr hb⟩
  cases hu:P.underlying t with
  |none=>rw[hu]at h;simp at h
  |some d=>
   rw[hu]at h;cases d with
   |bool=>
    simp only at h;split at h
    ·exact plainP hu rfl (by assumption) (by assumption)
    ·cases h
   |int k=>
    simp only at h;split at h
    ·exact plainP hu rfl (by assumption) (by assumption)
    ·cases h
   |string=>
    simp only at h;split at h
    ·exact plainP hu rfl (by assumption) (by assumption)
    ·cases h
   |struct fs=>
    obtain⟨i,hi⟩: ∃i,P.info? t=some i:=by
     cases hi:P.info? t with
     |none=>unfold Program.underlying at hu;simp[hi]at hu
     |some i=>exact⟨i,rfl⟩
    have hp: ∀zs:List Value,(part t zs.toArray off).run P w= .ok (.agg ((zs.drop off).take (P.cellsOf t)).toArray) w:=by
     intro zs;have hg:(isAgg t).run P w= .ok true w:=by
      unfold isAgg;rw[Sem.run_bind,run_underlying hu];simp
     unfold part;rw[Sem.run_bind,hg];simp only[Result.andThen_ok,if_true,Sem.run_bind,run_sizeOf w hi,Sem.run_pure];rw[List.extract_toArray,List.extract_eq_take_drop,Ee2]
    refine⟨_,_,hp xs,hp ys,?_,?_⟩<;>(unfold B93;rw[hu])
   |_=>simp at h
theorem Ax9(d:Nat): ∀(n:Nat) (t:TypeId) (xs ys:List Value) (r:Bool),B05 P n t xs ys=some r-> ∀(x y:Value),B93 P t x xs->B93 P t y ys-> ∀w,(Op.equalIn (d+n) t x y).run P w= .ok r w
 |0,_,_,_,_,h,_,_,_,_,_=>by simp[B05]at h
 |n+1,t,xs,ys,r,h,x,y,hx,hy,w=>by
  unfold B05 at h;unfold B93 at hx hy;cases hu:P.underlying t with
  |none=>rw[hu]at h;simp at h
  |some q=>
   rw[hu]at h hx hy;cases q with
   |bool=>
    simp only at h hx hy;subst hx hy;split at h
    ·rename_i a b e1 e2;cases e1;cases e2;cases h;exact run_equalIn_bool' w (d+n) t a b hu
    ·cases h
   |int k=>
    simp only at h hx hy;subst hx hy;split at h
    ·rename_i k a k' b e1 e2;cases e1;cases e2;split at h
     ·rename_i hk;subst hk;cases h;exact run_equalIn_int w (d+n) t k _ a b hu
     ·cases h
    ·cases h
   |string=>
    simp only at h hx hy;subst hx hy;split at h
    ·rename_i a b e1 e2;cases e1;cases e2;cases h;exact run_equalIn_string w (d+n) t a b hu
    ·cases h
   |struct fs=>
    simp only at h hx hy;subst hx hy;split at h
    ·rename_i aP;have hf:P.underlying t=some (.struct (P.fieldsOf t)):=by unfold Program.fieldsOf;rw[hu]
     have gF:P.fieldsOf t=fs:=by unfold Program.fieldsOf;rw[hu]
     show(Op.equalIn ((d+n)+1) t (.agg xs.toArray) (.agg ys.toArray)).run P w= .ok r w;rw[run_equalIn_agg w (d+n) t _ _ hf aP,gF]
     revert h
     generalize fs.toList=l;clear hu hf gF aP;induction l generalizing r with
     |nil=>intro h;cases h;simp[Op.eqFields]
     |cons f l ih=>
      intro h;rw[List.foldr_cons]at h;split at h
      ·cases h
      ·rename_i hn;rw[D71]at h;obtain⟨r',h1,h2⟩:=h;rw[Eb4]at h2;obtain⟨q,h3,rfl⟩:=h2;obtain⟨a,b,p1,p2,ra,rb⟩:=A08 h3 w;have h4:=Ax9 d n f.type _ _ q h3 a b ra rb w;have h5:=ih r' h1;unfold Op.eqFields;simp only[hn,ne_eq,not_false_eq_true,if_true,Sem.run_bind,p1,p2,h4,Result.andThen_ok];cases q
       ·simp
       ·simpa using h5
    ·cases h
   |_=>simp at h
def A80(P:Program)(t:TypeId):Bool:=match P.underlying t with|some (.struct _)=>true|_=>false
theorem Ab0{t:TypeId}(h:A80 P t=true)(xs:Array Value):B93 P t (.agg xs) xs.toList:=by
 unfold A80 at h;unfold B93;split at h
 ·simp
 ·cases h
theorem Dc9{t:TypeId}{xs ys:Array Value}{r:Bool}(hu:A80 P t=true)(h:B05 P 100 t xs.toList ys.toList=some r){k:ShV (.lf .bool)->HP}(hk:k r L):
  smP P (binOp .eql t (.agg xs) (.agg ys)) (.lf .bool) k L:=by
 refine⟨r,fun w=>?_,hk⟩;rw[run_eql_struct,Ax9 9900 100 t _ _ r h (.agg xs) (.agg ys) (Ab0 hu xs) (Ab0 hu ys) w];rfl
theorem Db6{t:TypeId}{xs ys:Array Value}{r:Bool}(hu:A80 P t=true)(h:B05 P 100 t xs.toList ys.toList=some r){k:ShV (.lf .bool)->HP}(hk:k (!r) L):
  smP P (binOp .neq t (.agg xs) (.agg ys)) (.lf .bool) k L:=by
 refine⟨!r,fun w=>?_,hk⟩;rw[run_neq_struct,Ax9 9900 100 t _ _ r h (.agg xs) (.agg ys) (Ab0 hu xs) (Ab0 hu ys) w];rfl
theorem Ab4{f:FuncId}{args captured:Array Value}{rs:List Sh}{k:RsV rs->HP}(ho:Af8 P f=true)(h:cl P f (args++captured) rs k L):clv P (.func f) args captured rs k L:=⟨f,rfl,ho,h⟩
theorem Bn5(em:Bool)(d:Nat): ∀(n:Nat) (t:TypeId) (xs:List Value) (r:Bool),B05 P n t xs xs=some r-> ∀(x:Value),B93 P t x xs-> ∀w,(Instr.checkKey em (d+n) t x).run P w= .ok () w
 |0,_,_,_,h,_,_,_=>by simp[B05]at h
 |n+1,t,xs,r,h,x,hx,w=>by
  unfold B05 at h;unfold B93 at hx;show(Instr.checkKey em ((d+n)+1) t x).run P w= .ok () w;cases hu:P.underlying t with
  |none=>rw[hu]at h;simp at h
  |some q=>
   rw[hu]at h hx;cases q with
   |bool=>simp only[Instr.checkKey,Sem.run_bind,D4 hu,Result.andThen_ok,Sem.run_pure]
   |int k=>simp only[Instr.checkKey,Sem.run_bind,D4 hu,Result.andThen_ok,Sem.run_pure]
   |string=>simp only[Instr.checkKey,Sem.run_bind,D4 hu,Result.andThen_ok,Sem.run_pure]
   |struct fs=>
    simp only at h hx;subst hx;split at h
    ·rw[Instr.checkKey];simp only[Sem.run_bind,D4 hu,Result.andThen_ok];rw[<-Array.forIn_toList]
     revert h
     generalize fs.toList=l;clear hu;induction l generalizing r with
     |nil=>intro h;simp
     |cons f l ih=>
      intro h;rw[List.foldr_cons]at h;split at h
      ·cases h
      ·rename_i hn;rw[D71]at h;obtain⟨r',h1,h2⟩:=h;rw[Eb4]at h2;obtain⟨q,h3,rfl⟩:=h2;obtain⟨a,b,p1,p2,ra,rb⟩:=A08 h3 w;have h4:=Bn5 em d n f.type _ q h3 a ra w;have h5:=ih r' h1;simp only[List.forIn_cons,hn,ne_eq,not_false_eq_true,if_true,Sem.run_bind,p1,h4,Result.andThen_ok,Sem.run_pure];exact h5
    ·cases h
   |_=>simp at h
variable {κ:Type} [DecidableEq κ]
theorem A09{kt:TypeId}{kv:κ->Value}(hq: ∀a b w,(Op.equal kt (kv a) (kv b)).run P w= .ok (decide (a=b)) w)(k:κ): ∀(es:List MapEntry) (m:List (κ×Value)) (i:Nat) (w:World),es.map (fun e=>(e.key,e.val))=m.map (fun p=>(kv p.1,p.2))->(Instr.findAsking kt (kv k) es i).run P w= .ok (At8 m k i) w
 |[],[],i,w,_=>by simp[Instr.findAsking,At8]
 |[],p::r,i,w,h=>by simp at h
 |e::es,[],i,w,h=>by simp at h
 |e::es,p::r,i,w,h=>by
  simp only[Ds3,D28,Dx0]at h;unfold Instr.findAsking At8;rw[Sem.run_bind,h.1.1,hq,h.1.2];by_cases hk:k=p.1
  ·simp[hk]
  ·simp only[Result.andThen_ok,hk,decide_false,if_false,Dx5];exact A09 hq k es r (i+1) w h.2
theorem Cn4{kt:TypeId}{kv:κ->Value}(enc:κ->List Value)(wG: ∀a,kv a= .agg (enc a).toArray)(hu:A80 P kt=true)(he: ∀a b,B05 P 100 kt (enc a) (enc b)=some (decide (a=b)))
  (hb: ∀a,Instr.sameBits 10000 (kv a) (kv a)=true):KeyT P kt kv:=by
 refine⟨fun k es m w h=>?_,fun e k w=>?_,hb⟩
 ·have hf:Instr.findKey kt (kv k) es=(do match Instr.findNow (<-underlying kt) (kv k) es 0 with|some r=>pure r|none=>Instr.findAsking kt (kv k) es):=rfl;obtain⟨fs,hs⟩: ∃fs,P.underlying kt=some (.struct fs):=by
   unfold A80 at hu;split at hu
   ·exact⟨_,by assumption⟩
   ·cases hu
  rw[hf,Sem.run_bind,D4 hs];simp only[Result.andThen_ok];have zR:(Instr.findAsking kt (kv k) es).run P w= .ok (At8 m k 0) w:=A09 (fun a b w=>by
   rw[wG a,wG b];exact Ax9 9900 100 kt _ _ _ (he a b) _ _ (Ab0 hu (enc a).toArray) (Ab0 hu (enc b).toArray) w) k es m 0 w h
  cases es with
  |nil=>
   cases m with
   |nil=>simp[Instr.findNow,At8]
   |cons p r=>simp at h
  |cons e es=>
   have hn:Instr.findNow (.struct fs) (kv k) (e::es) 0=none:=by
    unfold Instr.findNow;have:Instr.sameNow (.struct fs) (kv k) e.key=none:=by
     unfold Instr.sameNow;rw[wG k]
    rw[this]
   rw[hn];exact zR
 ·rw[wG k];exact Bn5 e 9900 100 kt _ _ (he k k) _ (Ab0 hu (enc k).toArray) w
end
section
variable {P:Program} {L:A4}
theorem Az1{t t2 ty e T:TypeId}{sz:Nat}(hu:P.underlying t=some (.slice e))(hs:Q2 P e=some sz){v:SlV}{vs:List Value}{seg:A4}(X Y:A4)(own:Own v sz T vs seg)(hL:L=X++seg++Y)
  {d:SlV} {l:Nat} {a:Addr} (ha:v.a=some a) (hd:d.a=some (Addr.add a (l*sz))) (oU:l+d.len<=v.len) {u:SlV} {ws:List Value} (src:Sl L u sz ws) (aW:ws.all T6=true) {k:RsV [.lf (.int .i64)]->HP}
  (hk: ∀seg',Own v sz T (A77 vs (l*sz) (ws.take (min u.len d.len*sz))) seg'->k (((min u.len d.len:Nat):Int),()) (X++seg'++Y)):
  smW P (Builtin.copy_ #[t,t2] ty #[.slice d.a d.len d.cap,.slice u.a u.len u.cap]) [.lf (.int .i64)] k L:=by
 subst hL;rcases own.row with⟨cQ,_,_⟩|⟨b,off,c,fz,cQ,rfl,aC,eP,hc⟩
 ·rw[ha]at cQ;cases cQ
 ·rw[ha]at cQ;obtain rfl:=Dq9 cQ;have hC:=own.len;have aU:=own.cap;have h1:=Du9 sz (show l+d.len<=v.cap by omega);have h2:=Du9 sz oU;rw[D03]at h1 h2;have bS:min u.len d.len*sz<=d.len*sz:=Du9 _ (Nat.min_le_right _ _);have hO:(ws.take (min u.len d.len*sz)).length<=min u.len d.len*sz:=D76 _ _;have hp:l*sz+(ws.take (min u.len d.len*sz)).length<=vs.length:=by omega
  have mU:X++[(b,Obj.cells c T fz)]++Y=X++(b,Obj.cells c T fz)::Y:=by simp
  rw[mU]at src⊢;refine Ct1 (off:=off+l*sz) hu hs (by rw[hd];exact congrArg some (P2 (ad:=⟨b,off,none⟩) rfl (l*sz))) src aW (by omega) eP ?_;have:=hk [(b,Obj.cells (wr c (off+l*sz) (ws.take (min u.len d.len*sz))) T fz)] ⟨by rw[Be4 _ _ _ hp];exact hC,aU,.inr ⟨b,off,_,fz,ha,rfl,by rw[N7];exact aC,by rw[N7];exact eP,fun i x hx=>?_⟩⟩
  ·simpa using this
  ·rw[Ap2 _ _ _ hp]at hx;rw[Ag1 _ _ _ _ (by omega)];split at hx
   ·rw[Dq5 (by omega),show off+i-(off+l*sz)=i-l*sz by omega];exact hx
   ·rw[Dq4 (by omega)];exact hc i x hx
theorem Bj8(l:List UInt8)(p:Nat)(ws:List UInt8):A77 (bvs l) p (bvs ws)=bvs (l.take p++ws++l.drop (p+ws.length)):=by
 simp[A77,bvs,Ds2,D15,D52]
theorem B82(l:List UInt8)(n:Nat):(bvs l).take n=bvs (l.take n):=by simp[bvs,D15]
theorem Bl4(n:Nat):Ag7 [.int .u8 0] n=bvs (List.replicate n 0):=by
 induction n with
 |zero=>rfl
 |succ n ih=>rw[Dz3];simp only[Ag7]at ih⊢;rw[Dz3,D55,ih];rfl
end
section
variable {P:Program} {w:World}
end
section
variable {P:Program} {L:A4}
theorem Ax0{t t2 ty e:TypeId}{i:TypeInfo}{z:Value}{ik:IntKind}(ht:P.underlying t=some (.slice e))(h2:P.underlying t2=some (.int ik))(hi:P.info? e=some i)(hz:i.zero=some z)(hs:0<i.size){n:Nat}(h0:0<n)(h63:(n:Int)<=9223372036854775807)(hb:n*i.bytes<=281474976710656)(w:World):
  (Builtin.append_ #[t,t2] ty #[.slice none 0 0,.int .i64 (n:Int)]).run P w=
   .ok (.slice (some ⟨w.heap.size,0,none⟩) n (grownCap w n 0 e)) (w.drew.alloc (.cells (#[]++Builtin.zeroCells z.cells n++Builtin.zeroCells z.cells (grownCap w n 0 e-n)) e)):=by
 have hw:IntKind.i64.wrap (n:Int)=n:=C1 (by omega) (by omega);have h1: ¬((n:Int)<0):=by omega
 have pD: ¬(281474976710656<(n:Int)*(i.bytes:Int)):=by
  have:((n*i.bytes:Nat):Int)<=281474976710656:=by omega
  rw[D36]at this;omega
 have hn:n≠0:=by omega
 have cN:n*i.size≠0:=Nat.mul_ne_zero hn (by omega);have yE: ¬(n=0\/i.size=0):=by omega
 have ae: ¬(281474976710656<Builtin.nextslicecap n 0*i.bytes):=by rw[nextslicecap_zero h0];omega
 have ac: ¬(9223372036854775807<(n:Int)):=by omega
 have dH:i.size≠0:=by omega
 simp[Builtin.append_,run_underlying ht,run_underlying h2,sizeOf,typeInfo,zeroValue,hi,hz,asInt,asIntOf,hw,h1,pD,hn,dH,cN,yE,ae,ac,Question.forced,run_firstCells_none,newRow,grownCap]
theorem C55{t t2 ty e:TypeId}{sz bytes:Nat}{z:List Value}{ik:IntKind}(hT:V4 P t e sz bytes z)(h2:P.underlying t2=some (.int ik)){n:Nat}(h0:0<n)(hb:n*bytes<=140737488355328){k:RsV [.lf .sl]->HP}
  (hk: ∀q cap ob,n<=cap->Own ⟨some ⟨q,0,none⟩,0,cap⟩ sz e [] [(q,ob)]->k (⟨some ⟨q,0,none⟩,n,cap⟩,()) ((q,ob)::L)):
  smW P (Builtin.append_ #[t,t2] ty #[.slice none 0 0,.int .i64 (n:Int)]) [.lf .sl] k L:=by
 obtain⟨i,hi,qI,rP,zv,hz,mY⟩:=hT.info;subst qI rP;intro E F w hw;have bS:n<=n*i.bytes:=Nat.le_mul_of_pos_right _ hT.bpos;have kP:zv.cells.size=i.size:=by rw[<-hT.zlen,<-mY];simp
 have hr:=Ax0 (ty:=ty) hT.und h2 hi hz hT.pos h0 (by omega) (by omega) w;have aS:=grownCap_ge w n 0 e;refine⟨_,_,(w.heap.size,Obj.cells (#[]++Builtin.zeroCells zv.cells n++Builtin.zeroCells zv.cells (grownCap w n 0 e-n)) e)::L,hr,?_,(⟨some ⟨w.heap.size,0,none⟩,n,grownCap w n 0 e⟩,()),rfl,?_⟩
 ·exact(hw.drew _).push (.cells (#[]++Builtin.zeroCells zv.cells n++Builtin.zeroCells zv.cells (grownCap w n 0 e-n)) e)
 ·refine hk _ _ _ aS ⟨by simp,Dv6 _,.inr ⟨w.heap.size,0,_,(0,0),rfl,rfl,?_,.inl (Dq6 _),fun j u hu=>by simp at hu⟩⟩;simp only[D48,Ac5,kP];simp only[D74,Du7,Dy2,<-D03];rw[show n+(grownCap w n 0 e-n)=grownCap w n 0 e by omega];simp
end
end Go.HL
