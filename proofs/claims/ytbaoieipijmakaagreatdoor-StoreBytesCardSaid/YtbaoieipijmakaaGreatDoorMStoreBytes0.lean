/-
  It is proved what the functions that the law StoreBytes reaches compute, part 0. There are no further conditions than those that each theorem names.
-/
import Derived.Orders
import Derived.LoopN
import Derived.Below
import Derived.KernelRfl
import Derived.Laws.Cells
import Derived.Scope
import Derived.Laws.AppendOwn
import Derived.IntWalk
import Derived.Laws.BytesString
import Derived.Laws.MakeOwn
import Derived.Deep.Slices
import Derived.ChangeArms
import Derived.WideShapes
import Derived.Laws.StructEq
import Derived.ChangeKeysEq
set_option linter.unusedVariables false
namespace Go.HL
abbrev A4:=List (Nat×Obj)
abbrev HP:=A4->Prop
structure Q9(E w:World)(L:A4):Prop where
 nd:(L.map Prod.fst).Nodup
 blk: ∀p,p∈L->w.heap[p.1]?=some p.2
 os:w.os=E.os
 tape:w.tape=E.tape
 output:w.output=E.output
def Sat(L:A4):Prop:= ∃E F w,Q9 E w (L++F)
theorem Q9.perm{E w:World}{L L':A4}(h:Q9 E w L)(p:L.Perm L'):Q9 E w L':=
 ⟨(p.map Prod.fst).nodup_iff.1 h.nd,fun q hq=>h.blk q (p.mem_iff.2 hq),h.os,h.tape,h.output⟩
theorem Q9.left{E w:World}{A B:A4}(h:Q9 E w (A++B)):Q9 E w A:=by
 refine⟨?_,fun q hq=>h.blk q (List.mem_append_left _ hq),h.os,h.tape,h.output⟩
 have:=h.nd
 rw[List.map_append,List.nodup_append]at this
 exact this.1
theorem Q9.drew{E w:World}{L:A4}(h:Q9 E w L)(d:Nat):Q9 E {w with drawn:=d} L:=⟨h.nd,h.blk,h.os,h.tape,h.output⟩
theorem Q9.lt{E w:World}{L:A4}(h:Q9 E w L){p:Nat×Obj}(hp:p∈L):p.1<w.heap.size:=
 (Array.getElem?_eq_some_iff.1 (h.blk p hp)).1
theorem Q9.push{E w:World}{L:A4}(h:Q9 E w L)(o:Obj):Q9 E {w with heap:=w.heap.push o} ((w.heap.size,o)::L):=by
 refine⟨?_,?_,h.os,h.tape,h.output⟩
 ·rw[List.map_cons,List.nodup_cons]
  refine⟨fun hm=>?_,h.nd⟩
  obtain⟨q,hq,he⟩:=List.mem_map.1 hm
  have:=h.lt hq
  simp at he
  omega
 ·intro p hp
  rcases List.mem_cons.1 hp with rfl|hp
  ·simp
  ·have:=h.lt hp
   simp only[Array.getElem?_push]
   rw[if_neg (by omega)]
   exact h.blk p hp
theorem Q9.put{E w:World}{A B:A4}{b:Nat}{o:Obj}(h:Q9 E w (A++(b,o)::B))(o':Obj):
  Q9 E {w with heap:=w.heap.setIfInBounds b o'} (A++(b,o')::B):=by
 have hb:b<w.heap.size:=h.lt (p:=(b,o)) (by simp)
 have hnd:=h.nd
 refine⟨by simpa using hnd,?_,h.os,h.tape,h.output⟩
 rw[List.map_append,List.map_cons,List.nodup_append,List.nodup_cons]at hnd
 intro p hp
 by_cases hpb:p.1=b
 ·have:p=(b,o'):=by
   rcases List.mem_append.1 hp with hp|hp
   ·exact absurd hpb (hnd.2.2 p.1 (List.mem_map.2 ⟨p,hp,rfl⟩) b (by simp))
   ·rcases List.mem_cons.1 hp with hp|hp
    ·exact hp
    ·exact absurd (List.mem_map.2 ⟨p,hp,hpb⟩) hnd.2.1.1
  subst this
  simp[hb]
 ·have hne:b≠p.1:=fun e=>hpb e.symm
  simp only[Array.getElem?_setIfInBounds_ne hne]
  refine h.blk p ?_
  rcases List.mem_append.1 hp with hp|hp
  ·exact List.mem_append_left _ hp
  ·rcases List.mem_cons.1 hp with rfl|hp
   ·exact absurd rfl hpb
   ·exact List.mem_append_right _ (List.mem_cons_of_mem _ hp)
def noQ:Exit->Act->World->Prop:=fun _ _ _=>False
def OpF(P:Program)(o:Oper)(a:Act)(L:A4)(K:Act->HP):Prop:=
 ∀E F w next,Q9 E w (L++F)->(∀a' w' L',Q9 E w' (L'++F)->K a' L'->next a' w')->o.wp P a w next noQ
def N2(P:Program)(c:Code)(Q:Exit->Act->HP)(a:Act)(L:A4):Prop:=
 ∀E F w,Q9 E w (L++F)->c.wp P (fun e a' w'=> ∃L',Q9 E w' (L'++F)/\Q e a' L') a w
def CallF(P:Program)(f:FuncId)(args:Array Value)(L:A4)(K:Value->HP):Prop:=
 ∀E F w,Q9 E w (L++F)->Calls P f args w fun e w'=> ∃v L',e= .returned v/\Q9 E w' (L'++F)/\K v L'
section
variable {P:Program}
theorem Cn9{o:Oper}{a:Act}{w:World}{K:Act->World->Prop}{Q:Exit->Act->World->Prop}(h:o.wp P a w K noQ):o.wp P a w K Q:=by
  unfold Oper.wp at*
  generalize (execOp a.eval o).run P w=r at*
  cases r with
  |ok n w'=>
    cases n<;>simp only[Oper.upon]at h⊢ <;>
      first
        |exact h
        | (refine Calls.mono h fun e w'' he=>?_
           cases e
           · exact he
           · exact he.elim
           · obtain⟨_,_,hf⟩:=he;exact hf.elim)
  |halt x w'=>cases x<;>simp only[Oper.upon]at h⊢ <;>exact h.elim
theorem C54{o:Oper}{a:Act}{w:World}{K:Act->World->Prop}(h:o.wp P a w K noQ): ∃a' w',K a' w':=by
  unfold Oper.wp at h
  generalize (execOp a.eval o).run P w=r at h
  cases r with
  |ok n w'=>
    cases n<;>simp only[Oper.upon]at h<;>
      first
        |exact⟨_,_,h⟩
        | (obtain⟨e,w'',fr,he,_⟩:=h []
           cases e
           · exact⟨_,_,he⟩
           · exact he.elim
           · obtain⟨_,_,hf⟩:=he;exact hf.elim)
        | (obtain⟨v,w'',he,_⟩:=h default []
           exact⟨_,_,he⟩)
  |halt x w'=>cases x<;>simp only[Oper.upon]at h<;>exact h.elim
theorem wp_put{ops:Array Oper}{x o:Oper}{v:Value}(hap:x.apart ops o=true)(hs: ∀cs b,o.op≠ .select cs b){K:Act->World->Prop}{a:Act}{w:World}
  (h:o.wp P (a.put x.dst v) w K noQ):o.wp P a w (fun a' w'=>(∃u,a'.tmps=(a.put o.dst u).tmps)/\K (a'.put x.dst v) w') noQ:=by
 obtain⟨h1,h2,h3⟩:=Oper.apart_spec hap
 unfold Oper.wp at*
 rw[execOp_put o hs a x.dst v h1]at h
 generalize (execOp a.eval o).run P w=r at*
 cases r with
 |ok n w'=>
  cases n<;>simp only[Oper.upon]at h⊢
  case value u=>exact⟨⟨u,rfl⟩,by rw[<-Act.put_comm a v u h2];exact h⟩
  case skip=>exact⟨⟨undef,rfl⟩,by rw[<-Act.put_comm a v undef h2];exact h⟩
  case defer d=>
   refine⟨⟨undef,?_⟩,?_⟩
   ·cases o.dst<;>rfl
   ·rw[<-Act.put_comm _ v undef h2,<-Act.put_defers]
    exact h
  case enter f args=>
   refine Calls.mono h fun e w'' he=>?_
   cases e with
   |returned u=>exact⟨⟨u,rfl⟩,by rw[<-Act.put_comm a v u h2];exact he⟩
   |panicked c=>exact he
   |outgrown=>obtain⟨_,_,hf⟩:=he;exact hf.elim
  case row row args=>exact Rows.mono h fun u w'' he=>⟨⟨u,rfl⟩,by rw[<-Act.put_comm a v u h2];exact he⟩
 |halt x w'=>cases x<;>simp only[Oper.upon]at h⊢ <;>exact h
theorem OpF.mono{o:Oper}{a:Act}{L:A4}{K K':Act->HP}(h:OpF P o a L K)(hk: ∀a' L',Sat L'->K a' L'->K' a' L'):OpF P o a L K':=
 fun E F w next hw hn=>h E F w next hw fun a' w' L' hw' hK=>hn a' w' L' hw' (hk a' L' ⟨E,F,w',hw'⟩ hK)
theorem OpF.perm{o:Oper}{a:Act}{L L':A4}{K:Act->HP}(p:L.Perm L')(h:OpF P o a L K):OpF P o a L' K:=
 fun E F w next hw hn=>h E F w next (hw.perm (p.symm.append_right F)) hn
theorem OpF.some{o:Oper}{a:Act}{L:A4}{K:Act->HP}(hs:Sat L)(h:OpF P o a L K): ∃a' L',K a' L':=by
 obtain⟨E,F,w,hw⟩:=hs
 obtain⟨a',w',L',hK⟩:=C54 (h E F w (fun a' w'=> ∃L',K a' L') hw fun a' w' L' _ hK=>⟨L',hK⟩)
 exact⟨a',L',hK⟩
theorem N2.mono{c:Code}{a:Act}{L:A4}{Q Q':Exit->Act->HP}(h:N2 P c Q a L)(hq: ∀e a' L',Q e a' L'->Q' e a' L'):N2 P c Q' a L:=
 fun E F w hw=>wp_mono (h E F w hw) fun e a' w' ⟨L',hw',hQ⟩=>⟨L',hw',hq _ _ _ hQ⟩
theorem CallF.mono{f:FuncId}{args:Array Value}{L:A4}{K K':Value->HP}(h:CallF P f args L K)(hk: ∀v L',Sat L'->K v L'->K' v L'):CallF P f args L K':=
 fun E F w hw=>Calls.mono (h E F w hw) fun e w' ⟨v,L',he,hw',hK⟩=>⟨v,L',he,hw',hk v L' ⟨E,F,w',hw'⟩ hK⟩
theorem CallF.perm{f:FuncId}{args:Array Value}{L L':A4}{K:Value->HP}(p:L.Perm L')(h:CallF P f args L K):CallF P f args L' K:=
 fun E F w hw=>h E F w (hw.perm (p.symm.append_right F))
theorem CallF.frame{f:FuncId}{args:Array Value}{L R:A4}{K:Value->HP}(h:CallF P f args L K):CallF P f args (L++R) fun v L'=> ∃L1,L'=L1++R/\K v L1:=
 fun E F w hw=>Calls.mono (h E (R++F) w (by rw[<-List.append_assoc];exact hw)) fun e w' ⟨v,L',he,hw',hK⟩=>
  ⟨v,L'++R,he,by rw[List.append_assoc];exact hw',L',rfl,hK⟩
def thenF(next:Act->HP)(Q:Exit->Act->HP):Exit->Act->HP
 | .normal,a,L=>next a L
 |e,a,L=>Q e a L
theorem N2.seq{x y:Code}{Q:Exit->Act->HP}{a:Act}{L:A4}(h:N2 P x (thenF (N2 P y Q) Q) a L):N2 P (x.seq y) Q a L:=
 fun E F w hw=>wp_seq (wp_mono (h E F w hw) fun e a' w' ⟨L',hw',hQ⟩=>by
  cases e with
  |normal=>exact hQ E F w' hw'
  |exit id=>exact⟨L',hw',hQ⟩
  |goto l=>exact⟨L',hw',hQ⟩
  |ret=>exact⟨L',hw',hQ⟩
  |panic c=>exact⟨L',hw',hQ⟩
  |outgrown=>exact⟨L',hw',hQ⟩)
theorem N2.skip{Q:Exit->Act->HP}{a:Act}{L:A4}(h:Q .normal a L):N2 P .skip Q a L:=fun _ _ _ hw=>wp_skip ⟨L,hw,h⟩
theorem N2.exit{id:Nat}{Q:Exit->Act->HP}{a:Act}{L:A4}(h:Q (.exit id) a L):N2 P (.exit id) Q a L:=fun _ _ _ hw=>wp_exit ⟨L,hw,h⟩
theorem N2.ret{Q:Exit->Act->HP}{a:Act}{L:A4}(h:Q .ret a L):N2 P .ret Q a L:=fun _ _ _ hw=>wp_ret ⟨L,hw,h⟩
theorem N2.cond{c:Operand}{x y:Code}{t:Bool}{Q:Exit->Act->HP}{a:Act}{L:A4}(hc:a.eval c= .bool t)(h:N2 P (if t then x else y) Q a L):
 N2 P (.cond c x y) Q a L:=fun E F w hw=>wp_cond hc (h E F w hw)
def Ck7(id:Nat)(Q:Exit->Act->HP):Exit->Act->HP
 | .exit id',a,L=>if id'=id then Q .normal a L else Q (.exit id') a L
 |e,a,L=>Q e a L
theorem N2.block{id:Nat}{c:Code}{Q:Exit->Act->HP}{a:Act}{L:A4}(h:N2 P c (Ck7 id Q) a L):N2 P (.block id c) Q a L:=
 fun E F w hw=>wp_block (wp_mono (h E F w hw) fun e a' w' ⟨L',hw',hQ⟩=>by
  cases e with
  |exit id'=>
   simp only[Ck7]at hQ
   simp only[Exit.inBlock]
   split
   ·rename_i e;subst e;simp only[if_true]at hQ;exact⟨L',hw',hQ⟩
   ·rename_i e;rw[if_neg e]at hQ;exact⟨L',hw',hQ⟩
  |normal=>exact⟨L',hw',hQ⟩
  |goto l=>exact⟨L',hw',hQ⟩
  |ret=>exact⟨L',hw',hQ⟩
  |panic c=>exact⟨L',hw',hQ⟩
  |outgrown=>exact⟨L',hw',hQ⟩)
theorem N2.loop{c:Code}{Q:Exit->Act->HP}(I:Nat->Act->HP){k:Nat}{a:Act}{L:A4}(h0:I k a L)
  (round: ∀k a L,I k a L->N2 P c (thenF (fun a' L'=> ∃k',k'<k/\I k' a' L') Q) a L):N2 P (.loop c) Q a L:=by
 intro E F w hw
 refine wp_loop_rounds (k+1) ?_
 have key: ∀n k a L w,k<n->I k a L->Q9 E w (L++F)->Code.rounds P c (fun e a' w'=> ∃L',Q9 E w' (L'++F)/\Q e a' L') n a w:=by
  intro n
  induction n with
  |zero=>intro k a L w hk;omega
  |succ n ih=>
   intro k a L w hk hI hw
   rw[rounds_succ]
   refine wp_mono (round k a L hI E F w hw) fun e a' w' ⟨L',hw',hQ⟩=>?_
   cases e with
   |normal=>
    obtain⟨k',hk',hI'⟩:=hQ
    exact ih k' a' L' w' (by omega) hI' hw'
   |exit id=>exact⟨L',hw',hQ⟩
   |goto l=>exact⟨L',hw',hQ⟩
   |ret=>exact⟨L',hw',hQ⟩
   |panic c=>exact⟨L',hw',hQ⟩
   |outgrown=>exact⟨L',hw',hQ⟩
 exact key (k+1) k a L w (by omega) h0 hw
end
inductive Cls where|P|R|A|W
 deriving DecidableEq
def RdS(P:Program)(s:Sem Next)(L:A4)(v:Value):Prop:= ∀E F w,Q9 E w (L++F)->s.run P w= .ok (.value v) w
abbrev A13:=List (Nat×Sem Next×Value)
abbrev KT:=Act->A13->HP
def AlG(P:Program)(s:Sem Next)(n:Nat)(ob:Obj)(v:Value):Prop:=
 ∃(w:World) (d:Nat),w.heap.size=n/\s.run P w= .ok (.value v) {w with heap:=w.heap.push ob,drawn:=d}
def AlAll(P:Program)(s:Sem Next):Prop:= ∀w:World,∃ob v d,s.run P w= .ok (.value v) {w with heap:=w.heap.push ob,drawn:=d}
section
variable {P:Program} {ops:Array Oper} {anc:Nat->Nat->Bool}
theorem RdS.mono{s:Sem Next}{L R:A4}{v:Value}(h:RdS P s L v):RdS P s (R++L) v:=fun E F w hw=>
 h E (R++F) w (hw.perm (by rw[List.append_assoc];exact(List.perm_append_comm_assoc R L F)))
theorem RdS.perm{s:Sem Next}{L L':A4}{v:Value}(p:L.Perm L')(h:RdS P s L v):RdS P s L' v:=
 fun E F w hw=>h E F w (hw.perm (p.symm.append_right F))
theorem Sat.perm{L L':A4}(p:L.Perm L')(h:Sat L):Sat L':=by
 obtain⟨E,F,w,hw⟩:=h
 exact⟨E,F,w,hw.perm (p.append_right F)⟩
def J7(ops:Array Oper)(o:Oper)(a:Act):Bool:=Region.wanted o (yielded ops a.tmps)
def M3(P:Program)(ops:Array Oper)(o:Oper)(K:KT):KT:=fun a T L=> ∃v,Yields P ops o v a/\K (a.put o.dst v) T L
def U4(P:Program)(ops:Array Oper)(i:Nat)(o:Oper)(K:KT):KT:=fun a T L=>
 J7 ops o a=true/\ ∃v,RdS P (execOp a.eval o) L v/\K (a.put o.dst v) ((i,execOp a.eval o,v)::T) L
def T3(P:Program)(ops:Array Oper)(o:Oper)(K:KT):KT:=fun a T L=>
 J7 ops o a=true/\AlAll P (execOp a.eval o)/\ ∀n ob v,AlG P (execOp a.eval o) n ob v->Sat ((n,ob)::L)->K (a.put o.dst v) T ((n,ob)::L)
def Obl(P:Program)(anc:Nat->Nat->Bool)(i:Nat)(T:A13):HP:=fun L'=> ∀q∈T,anc q.1 i=false->RdS P q.2.1 L' q.2.2
def Aa9(P:Program)(ops:Array Oper)(anc:Nat->Nat->Bool)(i:Nat)(o:Oper)(K:KT):KT:=fun a T L=>
 J7 ops o a=true/\OpF P o a L fun a' L'=>Obl P anc i T L'/\K a' T L'
def W5(ops:Array Oper)(o:Oper)(K:KT):KT:=fun a T L=>J7 ops o a=false/\K (a.put o.dst undef) T L
def Q4(P:Program)(ops:Array Oper)(anc:Nat->Nat->Bool)(c:Cls)(i:Nat)(o:Oper)(K:KT):KT:=fun a T L=>
 match c with
 | .P=>M3 P ops o K a T L
 | .R=>W5 ops o K a T L\/U4 P ops i o K a T L
 | .A=>W5 ops o K a T L\/T3 P ops o K a T L
 | .W=>W5 ops o K a T L\/Aa9 P ops anc i o K a T L
def An7(P:Program)(ops:Array Oper)(anc:Nat->Nat->Bool)(cls:Nat->Cls)(Q:Act->HP):List Nat->KT
 |[]=>fun a _ L=> ∃L',L.Perm L'/\Q a L'
 |i::r=>fun a T L=>match ops[i]? with
  |some o=>Q4 P ops anc (cls i) i o (An7 P ops anc cls Q r) a T L
  |none=>False
def Cm5(K:KT):Prop:= ∀a T L L',L.Perm L'->K a T L->K a T L'
def Bm7(K:KT):Prop:= ∀a (T T':A13) L,(∀q∈T',q∈T)->K a T L->K a T' L
theorem Obl.sub{i:Nat}{T T':A13}{L:A4}(hs: ∀q∈T',q∈T)(h:Obl P anc i T L):Obl P anc i T' L:=fun q hq ha=>h q (hs q hq) ha
theorem Obl.cons{i:Nat}{T:A13}{p:Nat×Obj}{L:A4}(h:Obl P anc i T L):Obl P anc i T (p::L):=fun q hq ha=>RdS.mono (R:=[p]) (h q hq ha)
theorem M3.mono{o:Oper}{K K':KT}{a:Act}{T:A13}{L:A4}(hs:Sat L)(hk: ∀v T L,Sat L->K (a.put o.dst v) T L->K' (a.put o.dst v) T L)(h:M3 P ops o K a T L):M3 P ops o K' a T L:=by
 obtain⟨v,hy,hK⟩:=h;exact⟨v,hy,hk _ _ _ hs hK⟩
theorem W5.mono{o:Oper}{K K':KT}{a:Act}{T:A13}{L:A4}(hs:Sat L)(hk: ∀v T L,Sat L->K (a.put o.dst v) T L->K' (a.put o.dst v) T L)(h:W5 ops o K a T L):W5 ops o K' a T L:=
 ⟨h.1,hk _ _ _ hs h.2⟩
theorem W5.toP{o:Oper}{K:KT}{a:Act}{T:A13}{L:A4}(h:W5 ops o K a T L):M3 P ops o K a T L:=⟨undef,.inr ⟨h.1,rfl⟩,h.2⟩
theorem M3.toS{o:Oper}{K:KT}{a:Act}{T:A13}{L:A4}(hw:J7 ops o a=false)(h:M3 P ops o K a T L):W5 ops o K a T L:=by
 obtain⟨v,hy,hK⟩:=h
 rcases hy with⟨h1,_⟩|⟨_,rfl⟩
 ·unfold J7 at hw;rw[hw]at h1;cases h1
 ·exact⟨hw,hK⟩
theorem U4.mono{i:Nat}{o:Oper}{K K':KT}{a:Act}{T:A13}{L:A4}(hs:Sat L)(hk: ∀v T L,Sat L->K (a.put o.dst v) T L->K' (a.put o.dst v) T L)(h:U4 P ops i o K a T L):U4 P ops i o K' a T L:=by
 obtain⟨hw,v,hy,hK⟩:=h;exact⟨hw,v,hy,hk _ _ _ hs hK⟩
theorem T3.mono{o:Oper}{K K':KT}{a:Act}{T:A13}{L:A4}(hk: ∀v T L,Sat L->K (a.put o.dst v) T L->K' (a.put o.dst v) T L)(h:T3 P ops o K a T L):T3 P ops o K' a T L:=by
 obtain⟨hw,hal,hK⟩:=h;exact⟨hw,hal,fun n ob v hg hs=>hk _ _ _ hs (hK n ob v hg hs)⟩
theorem C53{o:Oper}{K:Act->World->Prop}{a:Act}{w:World}(h:o.wp P a w K noQ):o.wp P a w (fun a' w'=>(∃u,a'.tmps=(a.put o.dst u).tmps)/\K a' w') noQ:=by
 unfold Oper.wp at*
 generalize (execOp a.eval o).run P w=r at*
 cases r with
 |ok n w'=>
  cases n<;>simp only[Oper.upon]at h⊢
  case value u=>exact⟨⟨u,rfl⟩,h⟩
  case skip=>exact⟨⟨undef,rfl⟩,h⟩
  case defer d=>exact⟨⟨undef,by cases o.dst<;>rfl⟩,h⟩
  case enter f args=>
   refine Calls.mono h fun e w'' he=>?_
   cases e with
   |returned u=>exact⟨⟨u,rfl⟩,he⟩
   |panicked c=>exact he
   |outgrown=>obtain⟨_,_,hf⟩:=he;exact hf.elim
  case row row args=>exact Rows.mono h fun u w'' he=>⟨⟨u,rfl⟩,he⟩
 |halt x w'=>cases x<;>simp only[Oper.upon]at h⊢ <;>exact h
theorem OpF.tmps{o:Oper}{a:Act}{L:A4}{K:Act->HP}(h:OpF P o a L K):OpF P o a L fun a' L'=>(∃u,a'.tmps=(a.put o.dst u).tmps)/\K a' L':=by
 intro E F w next hw hn
 have h1:=C53 (h E F w (fun a' w'=> ∃L',Q9 E w' (L'++F)/\K a' L') hw fun a' w' L' hw' hk=>⟨L',hw',hk⟩)
 exact Oper.wp_mono (fun a' w' ⟨ht,L',hw',hk⟩=>hn a' w' L' hw' ⟨ht,hk⟩) h1
theorem Aa9.mono{i:Nat}{o:Oper}{K K':KT}{a:Act}{T:A13}{L:A4}(hk: ∀a' v T L,a'.tmps=(a.put o.dst v).tmps->Sat L->K a' T L->K' a' T L)(h:Aa9 P ops anc i o K a T L):Aa9 P ops anc i o K' a T L:=by
 obtain⟨hw,hK⟩:=h;exact⟨hw,hK.tmps.mono fun a' L' hs ⟨⟨u,hu⟩,ho,hk'⟩=>⟨ho,hk _ _ _ _ hu hs hk'⟩⟩
theorem Q4.mono{c:Cls}{i:Nat}{o:Oper}{K K':KT}{a:Act}{T:A13}{L:A4}(hs:Sat L)(hk: ∀a' v T L,a'.tmps=(a.put o.dst v).tmps->Sat L->K a' T L->K' a' T L)(h:Q4 P ops anc c i o K a T L):Q4 P ops anc c i o K' a T L:=by
 have hk': ∀v T L,Sat L->K (a.put o.dst v) T L->K' (a.put o.dst v) T L:=fun v T L=>hk _ v T L rfl
 cases c
 ·exact M3.mono hs hk' h
 ·exact h.imp (W5.mono hs hk') (U4.mono hs hk')
 ·exact h.imp (W5.mono hs hk') (T3.mono hk')
 ·exact h.imp (W5.mono hs hk') (Aa9.mono hk)
theorem Q4.kperm{c:Cls}{i:Nat}{o:Oper}{K:KT}(hK:Cm5 K):Cm5 (Q4 P ops anc c i o K):=by
 intro a T L L' p h
 have hS:W5 ops o K a T L->W5 ops o K a T L':=fun⟨hw,h⟩=>⟨hw,hK _ _ _ _ p h⟩
 cases c
 ·obtain⟨v,hy,h⟩:=h;exact⟨v,hy,hK _ _ _ _ p h⟩
 ·exact h.imp hS fun⟨hw,v,hy,h⟩=>⟨hw,v,hy.perm p,hK _ _ _ _ p h⟩
 ·exact h.imp hS fun⟨hw,hal,h⟩=>⟨hw,hal,fun n ob v hg hs=>hK _ _ _ _ (p.cons _) (h n ob v hg (hs.perm (p.symm.cons _)))⟩
 ·exact h.imp hS fun⟨hw,h⟩=>⟨hw,h.perm p⟩
theorem Q4.ktmono{c:Cls}{i:Nat}{o:Oper}{K:KT}(hK:Bm7 K):Bm7 (Q4 P ops anc c i o K):=by
 intro a T T' L hs h
 have hS:W5 ops o K a T L->W5 ops o K a T' L:=fun⟨hw,h⟩=>⟨hw,hK _ _ _ _ hs h⟩
 cases c
 ·obtain⟨v,hy,h⟩:=h;exact⟨v,hy,hK _ _ _ _ hs h⟩
 ·exact h.imp hS fun⟨hw,v,hy,h⟩=>⟨hw,v,hy,hK _ _ _ _ (fun q hq=>by
   rcases List.mem_cons.1 hq with rfl|hq
   ·exact List.mem_cons_self
   ·exact List.mem_cons_of_mem _ (hs q hq)) h⟩
 ·exact h.imp hS fun⟨hw,hal,h⟩=>⟨hw,hal,fun n ob v hg hsat=>hK _ _ _ _ hs (h n ob v hg hsat)⟩
 ·exact h.imp hS fun⟨hw,h⟩=>⟨hw,h.mono fun a' L' _ ⟨ho,hk⟩=>⟨ho.sub hs,hK _ _ _ _ hs hk⟩⟩
theorem An7.kperm{cls:Nat->Cls}{Q:Act->HP}(l:List Nat):Cm5 (An7 P ops anc cls Q l):=by
 induction l with
 |nil=>exact fun a T L L' p ⟨L1,p1,h⟩=>⟨L1,p.symm.trans p1,h⟩
 |cons i r ih=>
  intro a T L L' p h
  simp only[An7]at h⊢
  cases ho:ops[i]? with
  |none=>simp[ho]at h
  |some o=>simp only[ho]at h⊢;exact Q4.kperm ih a T L L' p h
theorem An7.ktmono{cls:Nat->Cls}{Q:Act->HP}(l:List Nat):Bm7 (An7 P ops anc cls Q l):=by
 induction l with
 |nil=>exact fun a T T' L _ h=>h
 |cons i r ih=>
  intro a T T' L hs h
  simp only[An7]at h⊢
  cases ho:ops[i]? with
  |none=>simp[ho]at h
  |some o=>simp only[ho]at h⊢;exact Q4.ktmono ih a T T' L hs h
theorem O0{x o:Oper}(hap:x.apart ops o=true)(hs: ∀cs b,o.op≠ .select cs b)(a:Act)(v:Value):execOp (a.put x.dst v).eval o=execOp a.eval o:=
 execOp_put o hs a x.dst v (Oper.apart_spec hap).1
theorem H6{x o:Oper}(hap:x.apart ops o=true)(a:Act)(v:Value):J7 ops o (a.put x.dst v)=J7 ops o a:=
 wanted_put o a x.dst v (Oper.apart_spec hap).1
theorem H5{x o:Oper}(hap:x.apart ops o=true)(hs: ∀cs b,x.op≠ .select cs b)(a:Act)(v:Value):execOp (a.put o.dst v).eval x=execOp a.eval x:=
 execOp_put x hs a o.dst v (Oper.apart_spec hap).2.2
theorem F7{x o:Oper}(hap:x.apart ops o=true)(a:Act)(v:Value):J7 ops x (a.put o.dst v)=J7 ops x a:=
 wanted_put x a o.dst v (Oper.apart_spec hap).2.2
theorem V2{x o:Oper}(hap:x.apart ops o=true)(a:Act)(v u:Value):(a.put x.dst v).put o.dst u=(a.put o.dst u).put x.dst v:=
 Act.put_comm a v u (Oper.apart_spec hap).2.1
theorem An2{a a':Act}(h:a'.tmps=a.tmps):a'.eval=a.eval:=by
 funext x;cases x<;>simp[Act.eval,h]
theorem Ak9{o:Oper}{u v:Value}{a:Act}(h:Yields P ops o u a)(k:Yields P ops o v a):u=v:=by
 rcases h with⟨hw,h⟩|⟨hw,rfl⟩<;>rcases k with⟨kw,k⟩|⟨kw,rfl⟩
 ·have h1:=h default;have k1:=k default;rw[h1]at k1;injection k1 with e;injection e
 ·rw[hw]at kw;cases kw
 ·rw[hw]at kw;cases kw
 ·rfl
theorem U9{o:Oper}{v:Value}{a a':Act}(h:Yields P ops o v a)(he:execOp a'.eval o=execOp a.eval o)(hw:J7 ops o a'=J7 ops o a):Yields P ops o v a':=
 h.of_same he hw
theorem B07{x o:Oper}{v:Value}(hap:x.apart ops o=true)(hs: ∀cs b,o.op≠ .select cs b){K:Act->World->Prop}{a:Act}{w:World}
  (h:o.wp P a w (fun a' w'=>K (a'.put x.dst v) w') noQ):o.wp P (a.put x.dst v) w K noQ:=by
 obtain⟨h1,h2,h3⟩:=Oper.apart_spec hap
 unfold Oper.wp at*
 rw[execOp_put o hs a x.dst v h1]
 generalize (execOp a.eval o).run P w=r at*
 cases r with
 |ok n w'=>
  cases n<;>simp only[Oper.upon]at h⊢
  case value u=>rw[Act.put_comm a v u h2];exact h
  case skip=>rw[Act.put_comm a v undef h2];exact h
  case defer d=>
   rw[Act.put_defers,Act.put_comm _ v undef h2]
   exact h
  case enter f args=>
   refine Calls.mono h fun e w'' he=>?_
   cases e with
   |returned u=>simp only at he⊢;rw[Act.put_comm a v u h2];exact he
   |panicked c=>exact he
   |outgrown=>obtain⟨_,_,hf⟩:=he;exact hf.elim
  case row row args=>exact Rows.mono h fun u w'' he=>by rw[Act.put_comm a v u h2];exact he
 |halt x w'=>cases x<;>simp only[Oper.upon]at h⊢ <;>exact h
theorem OpF.put{x o:Oper}{v:Value}(hap:x.apart ops o=true)(hs: ∀cs b,o.op≠ .select cs b){a:Act}{L:A4}{K:Act->HP}
  (h:OpF P o (a.put x.dst v) L K):OpF P o a L fun a' L'=>(∃u,a'.tmps=(a.put o.dst u).tmps)/\K (a'.put x.dst v) L':=by
 intro E F w next hw hn
 have h1:=wp_put hap hs (h E F w (fun a' w'=> ∃L',Q9 E w' (L'++F)/\K a' L') hw fun a' w' L' hw' hk=>⟨L',hw',hk⟩)
 exact Oper.wp_mono (fun a' w' ⟨ht,L',hw',hk⟩=>hn a' w' L' hw' ⟨ht,hk⟩) h1
theorem OpF.put_rev{x o:Oper}{v:Value}(hap:x.apart ops o=true)(hs: ∀cs b,o.op≠ .select cs b){a:Act}{L:A4}{K:Act->HP}
  (h:OpF P o a L fun a' L'=>K (a'.put x.dst v) L'):OpF P o (a.put x.dst v) L K:=
 fun E F w next hw hn=>B07 hap hs (h E F w (fun a' w'=>next (a'.put x.dst v) w') hw fun a' w' L' hw' hk=>hn _ w' L' hw' hk)
end
section
variable {P:Program} {ops:Array Oper} {anc:Nat->Nat->Bool}
section swaps
variable {x i:Nat} {ox oi:Oper} (hap:ox.apart ops oi=true) (hsx: ∀cs b,ox.op≠ .select cs b) (hsi: ∀cs b,oi.op≠ .select cs b)
 {K:KT} {a:Act} {T:A13} {L:A4}
include hap hsx hsi
theorem C05(h:M3 P ops ox (M3 P ops oi K) a T L):M3 P ops oi (M3 P ops ox K) a T L:=by
 obtain⟨v,hy,u,hu,hK⟩:=h
 refine⟨u,U9 hu (O0 hap hsi a v).symm (H6 hap a v).symm,v,U9 hy (H5 hap hsx a u) (F7 hap a u),?_⟩
 rw[<-V2 hap];exact hK
theorem sw_P_R(h:M3 P ops ox (U4 P ops i oi K) a T L):U4 P ops i oi (M3 P ops ox K) a T L:=by
 obtain⟨v,hy,hw,u,hu,hK⟩:=h
 rw[O0 hap hsi]at hu hK
 refine⟨by rw[<-H6 hap a v];exact hw,u,hu,v,U9 hy (H5 hap hsx a u) (F7 hap a u),?_⟩
 rw[<-V2 hap];exact hK
theorem sw_P_A(h:M3 P ops ox (T3 P ops oi K) a T L):T3 P ops oi (M3 P ops ox K) a T L:=by
 obtain⟨v,hy,hw,hal,hK⟩:=h
 rw[O0 hap hsi]at hal hK
 refine⟨by rw[<-H6 hap a v];exact hw,hal,fun n ob u hg hs=>⟨v,U9 hy (H5 hap hsx a u) (F7 hap a u),?_⟩⟩
 rw[<-V2 hap];exact hK n ob u hg hs
theorem sw_P_W(h:M3 P ops ox (Aa9 P ops anc i oi K) a T L):Aa9 P ops anc i oi (M3 P ops ox K) a T L:=by
 obtain⟨v,hy,hw,hK⟩:=h
 refine⟨by rw[<-H6 hap a v];exact hw,(OpF.put hap hsi hK).mono fun a' L' _ ⟨⟨u,hu⟩,ho,hk⟩=>⟨ho,v,?_,hk⟩⟩
 refine U9 hy ?_ ?_
 ·rw[An2 hu];exact H5 hap hsx a u
 ·unfold J7;rw[hu];exact F7 hap a u
theorem C04(h:U4 P ops x ox (M3 P ops oi K) a T L):M3 P ops oi (U4 P ops x ox K) a T L:=by
 obtain⟨hw,v,hv,u,hu,hK⟩:=h
 refine⟨u,U9 hu (O0 hap hsi a v).symm (H6 hap a v).symm,by rw[F7 hap];exact hw,v,by rw[H5 hap hsx];exact hv,?_⟩
 rw[H5 hap hsx,<-V2 hap];exact hK
theorem sw_R_R(hkt:Bm7 K)(h:U4 P ops x ox (U4 P ops i oi K) a T L):U4 P ops i oi (U4 P ops x ox K) a T L:=by
 obtain⟨hw,v,hv,hwi,u,hu,hK⟩:=h
 rw[O0 hap hsi]at hu hK
 refine⟨by rw[<-H6 hap a v];exact hwi,u,hu,by rw[F7 hap];exact hw,v,by rw[H5 hap hsx];exact hv,?_⟩
 rw[H5 hap hsx,<-V2 hap]
 refine hkt _ _ _ _ ?_ hK
 intro q hq
 simp only[List.mem_cons]at hq⊢
 rcases hq with h|h|h
 ·exact .inr (.inl h)
 ·exact .inl h
 ·exact .inr (.inr h)
theorem sw_R_A(h:U4 P ops x ox (T3 P ops oi K) a T L):T3 P ops oi (U4 P ops x ox K) a T L:=by
 obtain⟨hw,v,hv,hwi,hal,hK⟩:=h
 rw[O0 hap hsi]at hal hK
 refine⟨by rw[<-H6 hap a v];exact hwi,hal,fun n ob u hg hs=>⟨by rw[F7 hap];exact hw,v,by rw[H5 hap hsx];exact RdS.mono (R:=[(n,ob)]) hv,?_⟩⟩
 rw[H5 hap hsx,<-V2 hap];exact hK n ob u hg hs
theorem sw_R_W(hanc:anc x i=false)(h:U4 P ops x ox (Aa9 P ops anc i oi K) a T L):Aa9 P ops anc i oi (U4 P ops x ox K) a T L:=by
 obtain⟨hw,v,hv,hwi,hK⟩:=h
 refine⟨by rw[<-H6 hap a v];exact hwi,(OpF.put hap hsi hK).mono fun a' L' _ ⟨⟨u,hu⟩,ho,hk⟩=>?_⟩
 have he:execOp a'.eval ox=execOp a.eval ox:=by rw[An2 hu];exact H5 hap hsx a u
 refine⟨ho.sub fun q hq=>List.mem_cons_of_mem _ hq,?_,v,?_,?_⟩
 ·unfold J7;rw[hu];exact(F7 hap a u).trans hw
 ·rw[he];exact ho _ List.mem_cons_self hanc
 ·rw[he];exact hk
theorem C03(hs:Sat L)(h:Aa9 P ops anc x ox (M3 P ops oi K) a T L):M3 P ops oi (Aa9 P ops anc x ox K) a T L:=by
 obtain⟨hw,hK⟩:=h
 have back: ∀{a':Act} {w u:Value},a'.tmps=(a.put ox.dst w).tmps->Yields P ops oi u a'->Yields P ops oi u a:=by
  intro a' w u ht hu
  refine U9 hu ?_ ?_
  ·rw[An2 ht];exact(O0 hap hsi a w).symm
  ·unfold J7;rw[ht];exact(H6 hap a w).symm
 obtain⟨a',L',⟨w,ht⟩,_,u,hu,_⟩:=OpF.some hs hK.tmps
 have hu0:=back ht hu
 refine⟨u,hu0,by rw[F7 hap];exact hw,?_⟩
 have hap':oi.apart ops ox=true:=by
  obtain⟨h1,h2,h3⟩:=Oper.apart_spec hap
  have h2': ∀d,oi.dst=some d->ox.dst≠some d:=fun d hd hx=>h2 d hx hd
  unfold Oper.apart
  cases hdi:oi.dst with
  |none=>
   cases hdx:ox.dst with
   |none=>rfl
   |some d=>simpa[hdx]using h1 d hdx
  |some e=>
   cases hdx:ox.dst with
   |none=>simpa[hdi]using h3 e hdi
   |some d=>
    have g1:=h1 d hdx
    have g2:=h2' e hdi
    have g3:=h3 e hdi
    rw[hdx]at g2
    simp at g2
    simp[g1,g3,g2]
 refine OpF.put_rev hap' hsx ?_
 refine hK.tmps.mono fun a'' L'' _ ⟨⟨w',ht'⟩,ho,u',hu',hk⟩=>⟨ho,?_⟩
 obtain rfl:=Ak9 hu0 (back ht' hu')
 exact hk
theorem sw_W_A(hs:Sat L)(h:Aa9 P ops anc x ox (T3 P ops oi K) a T L):T3 P ops oi (Aa9 P ops anc x ox K) a T L:=by
 obtain⟨hw,hK⟩:=h
 have exi: ∀{a':Act} {w:Value},a'.tmps=(a.put ox.dst w).tmps->execOp a'.eval oi=execOp a.eval oi:=by
  intro a' w ht;rw[An2 ht];exact O0 hap hsi a w
 have hap':oi.apart ops ox=true:=by
  obtain⟨h1,h2,h3⟩:=Oper.apart_spec hap
  have h2': ∀d,oi.dst=some d->ox.dst≠some d:=fun d hd hx=>h2 d hx hd
  unfold Oper.apart
  cases hdi:oi.dst with
  |none=>
   cases hdx:ox.dst with
   |none=>rfl
   |some d=>simpa[hdx]using h1 d hdx
  |some e=>
   cases hdx:ox.dst with
   |none=>simpa[hdi]using h3 e hdi
   |some d=>
    have g1:=h1 d hdx
    have g2:=h2' e hdi
    have g3:=h3 e hdi
    rw[hdx]at g2
    simp at g2
    simp[g1,g3,g2]
 obtain⟨a',L',⟨w,ht⟩,_,hwi,hal,_⟩:=OpF.some hs hK.tmps
 rw[exi ht]at hal
 refine⟨?_,hal,fun n ob u hg hsat=>⟨by rw[F7 hap];exact hw,?_⟩⟩
 ·unfold J7 at hwi;rw[ht]at hwi;exact(H6 hap a w).symm.trans hwi
 ·refine OpF.put_rev hap' hsx ?_
  intro E F w1 next hw1 hn
  refine hK.tmps E ((n,ob)::F) w1 next (hw1.perm List.perm_middle.symm) fun a2 w2 L2 hw2 ⟨⟨w',ht'⟩,ho,hwi',hal',hk⟩=>?_
  rw[exi ht']at hk
  have hw2':Q9 E w2 (((n,ob)::L2)++F):=hw2.perm List.perm_middle
  exact hn a2 w2 ((n,ob)::L2) hw2' ⟨ho.cons,hk n ob u hg ⟨E,F,w2,hw2'⟩⟩
theorem C06(hs:Sat L)(h:T3 P ops ox (M3 P ops oi K) a T L):M3 P ops oi (T3 P ops ox K) a T L:=by
 obtain⟨hw,hal,hK⟩:=h
 obtain⟨E,F,w,hw0⟩:=hs
 obtain⟨ob,v,d,hrun⟩:=hal w
 have hsat:Sat ((w.heap.size,ob)::L):=⟨E,F,_,hw0.push ob⟩
 obtain⟨u,hu,_⟩:=hK w.heap.size ob v ⟨w,d,rfl,hrun⟩ hsat
 have back: ∀{v u:Value},Yields P ops oi u (a.put ox.dst v)->Yields P ops oi u a:=fun{v u} h=>U9 h (O0 hap hsi a v).symm (H6 hap a v).symm
 refine⟨u,back hu,by rw[F7 hap];exact hw,by rw[H5 hap hsx];exact hal,fun n ob v hg hsat=>?_⟩
 rw[H5 hap hsx]at hg
 obtain⟨u',hu',hk⟩:=hK n ob v hg hsat
 obtain rfl:=Ak9 (back hu) (back hu')
 rw[<-V2 hap];exact hk
theorem sw_A_A(hkp:Cm5 K)(hs:Sat L)(h:T3 P ops ox (T3 P ops oi K) a T L):T3 P ops oi (T3 P ops ox K) a T L:=by
 obtain⟨hw,hal,hK⟩:=h
 obtain⟨E,F,w,hw0⟩:=hs
 obtain⟨ob,v,d,hrun⟩:=hal w
 have hsat:Sat ((w.heap.size,ob)::L):=⟨E,F,_,hw0.push ob⟩
 obtain⟨hwi,hali,_⟩:=hK w.heap.size ob v ⟨w,d,rfl,hrun⟩ hsat
 rw[O0 hap hsi]at hali
 refine⟨by rw[<-H6 hap a v];exact hwi,hali,fun n2 ob2 u hg2 hsat2=>⟨by rw[F7 hap];exact hw,by rw[H5 hap hsx];exact hal,fun n1 ob1 v1 hg1 hsat1=>?_⟩⟩
 rw[H5 hap hsx]at hg1
 have hsatx:Sat ((n2,ob2)::(n1,ob1)::L):=hsat1.perm (List.Perm.swap ..)
 have hsat1':Sat ((n1,ob1)::L):=by
  obtain⟨E,F,w,hw⟩:=hsatx
  exact⟨E,(n2,ob2)::F,w,hw.perm (by simpa using(List.perm_middle (l₁:=(n1,ob1)::L)).symm)⟩
 obtain⟨_,_,hk⟩:=hK n1 ob1 v1 hg1 hsat1'
 rw[O0 hap hsi]at hk
 have:=hk n2 ob2 u hg2 hsatx
 rw[V2 hap]at this
 exact hkp _ _ _ _ (List.Perm.swap ..) this
end swaps
def Cm1:Cls->Cls->Bool
 | .P,_| .R,_=>true
 | .W,.P| .W,.A| .A,.P| .A,.A=>true
 |_,_=>false
theorem Q4.swap{x i:Nat}{ox oi:Oper}{cx ci:Cls}(hal:Cm1 cx ci=true)(hap:ox.apart ops oi=true)(hsx: ∀cs b,ox.op≠ .select cs b)(hsi: ∀cs b,oi.op≠ .select cs b)
  (hanc:anc x i=false) {K:KT} (hkp:Cm5 K) (hkt:Bm7 K) {a:Act} {T:A13} {L:A4} (hs:Sat L)
  (h0:Q4 P ops anc cx x ox (Q4 P ops anc ci i oi K) a T L):Q4 P ops anc ci i oi (Q4 P ops anc cx x ox K) a T L:=by
 have hwa: ∀{a':Act} {v:Value},a'.tmps=(a.put ox.dst v).tmps->J7 ops oi a'=J7 ops oi a:=by
  intro a' v ht;unfold J7;rw[ht];exact H6 hap a v
 have toS: ∀{K:KT} {a T L},cx≠ .P->W5 ops ox K a T L->Q4 P ops anc cx x ox K a T L:=by
  intro K a T L hc h
  clear h0
  cases cx
  ·exact absurd rfl hc
  ·exact .inl h
  ·exact .inl h
  ·exact .inl h
 have first: ∀{M:KT},Q4 P ops anc cx x ox M a T L->M3 P ops ox M a T L\/(cx= .R/\U4 P ops x ox M a T L)\/
   (cx= .A/\T3 P ops ox M a T L)\/(cx= .W/\Aa9 P ops anc x ox M a T L):=by
  intro M h
  clear h0
  cases cx
  ·exact .inl h
  ·exact h.imp W5.toP fun h=>.inl ⟨rfl,h⟩
  ·exact h.imp W5.toP fun h=>.inr (.inl ⟨rfl,h⟩)
  ·exact h.imp W5.toP fun h=>.inr (.inr ⟨rfl,h⟩)
 by_cases hp:ci= .P\/J7 ops oi a=false
 ·have h':Q4 P ops anc cx x ox (M3 P ops oi K) a T L:=by
   refine Q4.mono hs (fun a' v T L ht _ h=>?_) h0
   clear h0
   rcases hp with rfl|hw
   ·exact h
   ·have hw':=(hwa ht).trans hw
    cases ci
    ·exact h
    ·rcases h with h|h
     ·exact h.toP
     ·exact absurd h.1 (by rw[hw'];decide)
    ·rcases h with h|h
     ·exact h.toP
     ·exact absurd h.1 (by rw[hw'];decide)
    ·rcases h with h|h
     ·exact h.toP
     ·exact absurd h.1 (by rw[hw'];decide)
  have back: ∀{M:KT},M3 P ops oi M a T L->Q4 P ops anc ci i oi M a T L:=by
   intro M h
   clear h0 h'
   rcases hp with rfl|hw
   ·exact h
   ·have hS:=h.toS hw
    cases ci
    ·exact h
    ·exact .inl hS
    ·exact .inl hS
    ·exact .inl hS
  refine back ?_
  clear back
  rcases first h' with h|⟨rfl,h⟩|⟨rfl,h⟩|⟨rfl,h⟩
  ·clear h0 first
   by_cases hc:cx= .P
   ·subst hc;exact C05 hap hsx hsi h
   ·--'x' is skipped,or it yields:then it is no P:it must have been skipped
    by_cases hwx:J7 ops ox a=true
    ·--wanted:the disjunct of its kind holds as well
     rcases(show W5 ops ox (M3 P ops oi K) a T L\/U4 P ops x ox (M3 P ops oi K) a T L\/T3 P ops ox (M3 P ops oi K) a T L\/Aa9 P ops anc x ox (M3 P ops oi K) a T L by
      cases cx
      ·exact absurd rfl hc
      ·exact h'.imp id .inl
      ·exact h'.imp id fun h=>.inr (.inl h)
      ·exact h'.imp id fun h=>.inr (.inr h))with h1|h1
     ·exact absurd h1.1 (by rw[hwx];decide)
     ·cases cx
      ·exact absurd rfl hc
      ·rcases h' with h'|h'
       ·exact absurd h'.1 (by rw[hwx];decide)
       ·exact M3.mono hs (fun _ _ _ _ h=>.inr h) (C04 hap hsx hsi h')
      ·rcases h' with h'|h'
       ·exact absurd h'.1 (by rw[hwx];decide)
       ·exact M3.mono hs (fun _ _ _ _ h=>.inr h) (C06 hap hsx hsi hs h')
      ·rcases h' with h'|h'
       ·exact absurd h'.1 (by rw[hwx];decide)
       ·exact M3.mono hs (fun _ _ _ _ h=>.inr h) (C03 hap hsx hsi hs h')
    ·refine M3.mono hs (fun v T L _ h=>toS hc (h.toS ?_)) (C05 hap hsx hsi h)
     rw[F7 hap];simpa using hwx
  ·exact M3.mono hs (fun _ _ _ _ h=>.inr h) (C04 hap hsx hsi h)
  ·exact M3.mono hs (fun _ _ _ _ h=>.inr h) (C06 hap hsx hsi hs h)
  ·exact M3.mono hs (fun _ _ _ _ h=>.inr h) (C03 hap hsx hsi hs h)
 ·have hc:ci≠ .P:=fun e=>hp (.inl e)
  have hw:J7 ops oi a=true:=by simpa using fun e=>hp (.inr e)
  have wrapP: ∀{a':Act} {T L},(cx= .P\/J7 ops ox a'=false)->M3 P ops ox K a' T L->Q4 P ops anc cx x ox K a' T L:=by
   intro a' T L hcx h
   clear h0 first toS
   rcases hcx with rfl|hcx
   ·exact h
   ·cases cx
    ·exact h
    ·exact .inl (h.toS hcx)
    ·exact .inl (h.toS hcx)
    ·exact .inl (h.toS hcx)
  have kinds:(M3 P ops ox (Q4 P ops anc ci i oi K) a T L/\(cx= .P\/J7 ops ox a=false))\/(cx= .R/\U4 P ops x ox (Q4 P ops anc ci i oi K) a T L)\/
    (cx= .A/\T3 P ops ox (Q4 P ops anc ci i oi K) a T L)\/(cx= .W/\Aa9 P ops anc x ox (Q4 P ops anc ci i oi K) a T L):=by
   clear first toS wrapP
   cases cx
   ·exact .inl ⟨h0,.inl rfl⟩
   ·exact h0.elim (fun h=>.inl ⟨h.toP,.inr h.1⟩) fun h=>.inr (.inl ⟨rfl,h⟩)
   ·exact h0.elim (fun h=>.inl ⟨h.toP,.inr h.1⟩) fun h=>.inr (.inr (.inl ⟨rfl,h⟩))
   ·exact h0.elim (fun h=>.inl ⟨h.toP,.inr h.1⟩) fun h=>.inr (.inr (.inr ⟨rfl,h⟩))
  have nos: ∀{a':Act} {v:Value} {T L},a'.tmps=(a.put ox.dst v).tmps-> ¬W5 ops oi K a' T L:=by
   intro a' v T L ht hS;have:=hS.1;rw[hwa ht,hw]at this;cases this
  have hwx': ∀{a':Act} {v:Value},a'.tmps=(a.put oi.dst v).tmps->J7 ops ox a'=J7 ops ox a:=by
   intro a' v ht;unfold J7;rw[ht];exact F7 hap a v
  clear h0
  cases ci
  ·exact absurd rfl hc
  ·--R
   rcases kinds with⟨h,hcx⟩|⟨rfl,h⟩|⟨rfl,h⟩|⟨rfl,h⟩
   ·have h2:=M3.mono (K':=U4 P ops i oi K) hs (fun v T L _ h=>h.resolve_left (nos (v:=v) rfl)) h
    exact .inr (U4.mono hs (fun v T L _ h=>wrapP (hcx.imp id fun e=>(hwx' (v:=v) rfl).trans e) h) (sw_P_R hap hsx hsi h2))
   ·have h2:=U4.mono (K':=U4 P ops i oi K) hs (fun v T L _ h=>h.resolve_left (nos (v:=v) rfl)) h
    exact .inr (U4.mono hs (fun v T L _ h=>.inr h) (sw_R_R hap hsx hsi hkt h2))
   ·cases hal
   ·cases hal
  ·--A
   rcases kinds with⟨h,hcx⟩|⟨rfl,h⟩|⟨rfl,h⟩|⟨rfl,h⟩
   ·have h2:=M3.mono (K':=T3 P ops oi K) hs (fun v T L _ h=>h.resolve_left (nos (v:=v) rfl)) h
    exact .inr (T3.mono (fun v T L _ h=>wrapP (hcx.imp id fun e=>(hwx' (v:=v) rfl).trans e) h) (sw_P_A hap hsx hsi h2))
   ·have h2:=U4.mono (K':=T3 P ops oi K) hs (fun v T L _ h=>h.resolve_left (nos (v:=v) rfl)) h
    exact .inr (T3.mono (fun v T L _ h=>.inr h) (sw_R_A hap hsx hsi h2))
   ·have h2:=T3.mono (K':=T3 P ops oi K) (fun v T L _ h=>h.resolve_left (nos (v:=v) rfl)) h
    exact .inr (T3.mono (fun v T L _ h=>.inr h) (sw_A_A hap hsx hsi hkp hs h2))
   ·have h2:=Aa9.mono (K':=T3 P ops oi K) (fun a' v T L ht _ h=>h.resolve_left (nos ht)) h
    exact .inr (T3.mono (fun v T L _ h=>.inr h) (sw_W_A hap hsx hsi hs h2))
  ·--W
   rcases kinds with⟨h,hcx⟩|⟨rfl,h⟩|⟨rfl,h⟩|⟨rfl,h⟩
   ·have h2:=M3.mono (K':=Aa9 P ops anc i oi K) hs (fun v T L _ h=>h.resolve_left (nos (v:=v) rfl)) h
    exact .inr (Aa9.mono (fun a' v T L ht _ h=>wrapP (hcx.imp id fun e=>(hwx' ht).trans e) h) (sw_P_W hap hsx hsi h2))
   ·have h2:=U4.mono (K':=Aa9 P ops anc i oi K) hs (fun v T L _ h=>h.resolve_left (nos (v:=v) rfl)) h
    exact .inr (Aa9.mono (fun a' v T L ht _ h=>.inr h) (sw_R_W hap hsx hsi hanc h2))
   ·cases hal
   ·cases hal
end
section
variable {P:Program} {ops:Array Oper} {anc:Nat->Nat->Bool}
def Ay2(ops:Array Oper)(anc:Nat->Nat->Bool)(cls:Nat->Cls)(x i:Nat):Bool:=
 match ops[x]?,ops[i]? with
 |some ox,some oi=>Cm1 (cls x) (cls i)&&ox.apart ops oi
 |_,_=>false
theorem An7.bubble{cls:Nat->Cls}{Q:Act->HP}(hns:Region.noSelect ops=true){i:Nat}{B:List Nat}: ∀(A:List Nat) (a:Act) (T:A13) (L:A4),
  (∀x∈A,Ay2 ops anc cls x i=true/\anc x i=false)->Sat L->An7 P ops anc cls Q (A++i::B) a T L->An7 P ops anc cls Q (i::(A++B)) a T L
 |[],_,_,_,_,_,h=>h
 |x::A,a,T,L,hp,hs,h=>by
  obtain⟨hx,hax⟩:=hp x List.mem_cons_self
  unfold Ay2 at hx
  cases hox:ops[x]? with
  |none=>simp[hox]at hx
  |some ox=>
   cases hoi:ops[i]? with
   |none=>simp[hox,hoi]at hx
   |some oi=>
    simp only[hox,hoi,Bool.and_eq_true]at hx
    simp only[List.cons_append,An7,hox,hoi]at h⊢
    refine Q4.swap hx.1 hx.2 (fun cs b=>Region.noSelect_spec hns x ox cs b hox) (fun cs b=>Region.noSelect_spec hns i oi cs b hoi) hax (An7.kperm _) (An7.ktmono _) hs ?_
    refine Q4.mono hs (fun a' v T L _ hs h=>?_) h
    have:=An7.bubble hns A a' T L (fun y hy=>hp y (List.mem_cons_of_mem _ hy)) hs h
    simpa only[An7,hoi]using this
theorem Q4.wp{c:Cls}{i:Nat}{o:Oper}(ho:ops[i]?=some o){K:KT}{a:Act}{T:A13}{L:A4}(h:Q4 P ops anc c i o K a T L)
  {E:World} {F:A4} {w:World} (hw:Q9 E w (L++F)) {Q:Exit->Act->World->Prop} {next:Act->World->Prop} (hn: ∀a' T' L' w',Q9 E w' (L'++F)->K a' T' L'->next a' w'):
  wpOp P ops Q i next a w:=by
 have hP:M3 P ops o K a T L->wpOp P ops Q i next a w:=fun⟨v,hy,hk⟩=>hy.wpOp ho (hn _ _ _ _ hw hk)
 have hS:W5 ops o K a T L->wpOp P ops Q i next a w:=fun h=>hP h.toP
 have wanted: ∀{o:Oper},ops[i]?=some o->J7 ops o a=true->o.wp P a w next Q->wpOp P ops Q i next a w:=by
  intro o ho hw h
  unfold wpOp
  simp only[ho]
  unfold J7 at hw
  simp only[hw,if_true]
  exact .inl h
 cases c
 ·exact hP h
 ·refine h.elim hS fun⟨hwd,v,hr,hk⟩=>wanted ho hwd ?_
  unfold Oper.wp
  rw[hr E F w hw]
  exact hn _ _ _ _ hw hk
 ·refine h.elim hS fun⟨hwd,hal,hk⟩=>wanted ho hwd ?_
  obtain⟨ob,v,d,hr⟩:=hal w
  unfold Oper.wp
  rw[hr]
  have hw':Q9 E {w with heap:=w.heap.push ob,drawn:=d} (((w.heap.size,ob)::L)++F):=(hw.push ob).drew d
  exact hn _ _ _ _ hw' (hk _ ob v ⟨w,d,rfl,hr⟩ ⟨E,F,_,hw'⟩)
 ·refine h.elim hS fun⟨hwd,hk⟩=>wanted ho hwd ?_
  exact Cn9 (hk E F w next hw fun a' w' L' hw' ⟨_,hk'⟩=>hn _ _ _ _ hw' hk')
def Aj5(acc:List Nat)(o:Oper):Nat:=
 o.after.toList.foldl (fun s e=>if Region.binds .any e then s|||2^e.on|||acc.getD e.on 0 else s) 0
def F9:List Oper->List Nat->List Nat
 |[],acc=>acc
 |o::r,acc=>F9 r (acc++[Aj5 acc o])
def Af5(M:List Nat)(x i:Nat):Bool:=(M.getD i 0).testBit x
theorem Bq7(acc:List Nat)(o:Oper)(x:Nat)(h:(Aj5 acc o).testBit x=true): ∃e∈o.after,Region.binds .any e=true/\(e.on=x\/(acc.getD e.on 0).testBit x=true):=by
 unfold Aj5 at h
 have key: ∀(l:List Edge) (s:Nat),(l.foldl (fun s e=>if Region.binds .any e then s|||2^e.on|||acc.getD e.on 0 else s) s).testBit x=true->
   s.testBit x=true\/ ∃e∈l,Region.binds .any e=true/\(e.on=x\/(acc.getD e.on 0).testBit x=true):=by
  intro l
  induction l with
  |nil=>exact fun s h=>.inl h
  |cons e l ih=>
   intro s h
   rw[List.foldl_cons]at h
   rcases ih _ h with h|⟨e',he',h⟩
   ·split at h
    ·rename_i hb
     simp only[Nat.testBit_or,Bool.or_eq_true,Nat.testBit_two_pow,decide_eq_true_eq]at h
     rcases h with(h|h)|h
     ·exact .inl h
     ·exact .inr ⟨e,List.mem_cons_self,hb,.inl h⟩
     ·exact .inr ⟨e,List.mem_cons_self,hb,.inr h⟩
    ·exact .inl h
   ·exact .inr ⟨e',List.mem_cons_of_mem _ he',h⟩
 rcases key _ 0 h with h|⟨e,he,h⟩
 ·simp at h
 ·exact⟨e,by simpa using he,h⟩
theorem Ae4: ∀(l:List Oper) (acc:List Nat) (j:Nat),(F9 l acc).getD j 0=if j<acc.length then acc.getD j 0 else
   match l[j-acc.length]? with
   |some o=>Aj5 ((F9 l acc).take j) o
   |none=>0
 |[],acc,j=>by
  simp only[F9]
  split
  ·rfl
  ·rename_i h
   simp[List.getD_eq_getElem?_getD,List.getElem?_eq_none (Nat.le_of_not_lt h)]
 |o::r,acc,j=>by
  simp only[F9]
  rw[Ae4 r (acc++[Aj5 acc o]) j]
  have htake:(F9 r (acc++[Aj5 acc o])).take (acc.length)=acc:=by
   have: ∀(l:List Oper) (acc:List Nat),∃t,F9 l acc=acc++t:=by
    intro l
    induction l with
    |nil=>exact fun acc=>⟨[],by simp[F9]⟩
    |cons o r ih=>
     intro acc
     obtain⟨t,ht⟩:=ih (acc++[Aj5 acc o])
     exact⟨Aj5 acc o::t,by rw[F9,ht];simp⟩
   obtain⟨t,ht⟩:=this r (acc++[Aj5 acc o])
   rw[ht]
   simp
  by_cases h1:j<acc.length
  ·rw[if_pos (by simp;omega),if_pos h1]
   simp[List.getD_eq_getElem?_getD,List.getElem?_append_left h1]
  ·rw[if_neg h1]
   by_cases h2:j=acc.length
   ·subst h2
    rw[if_pos (by simp)]
    simp[htake]
   ·rw[if_neg (by simp;omega)]
    have:j-acc.length=(j-(acc++[Aj5 acc o]).length)+1:=by simp;omega
    rw[this,List.getElem?_cons_succ]
theorem B55{listed:Array Bool}(down: ∀(j:Nat) (o:Oper),listed.getD j false=true->ops[j]?=some o-> ∀e∈o.after,Region.binds .any e=true->listed.getD e.on false=true):
  ∀(j:Nat) (o:Oper),ops[j]?=some o->(∀e∈o.after,Region.binds .any e=true->listed.getD e.on false=true)-> ∀x,Af5 (F9 ops.toList []) x j=true->listed.getD x false=true:=by
 intro j
 induction j using Nat.strongRecOn with
 |_ j ih=>
  intro o ho hall x hx
  unfold Af5 at hx
  rw[Ae4]at hx
  simp only[List.length_nil,Nat.not_lt_zero,if_false,Nat.sub_zero]at hx
  have hol:ops.toList[j]?=some o:=by simpa using ho
  rw[hol]at hx
  obtain⟨e,he,hb,h⟩:=Bq7 _ _ _ hx
  have hle:=hall e he hb
  rcases h with rfl|h
  ·exact hle
  ·by_cases hlt:e.on<j
   ·have hM:((F9 ops.toList []).take j).getD e.on 0=(F9 ops.toList []).getD e.on 0:=by
     simp[List.getD_eq_getElem?_getD,hlt]
    rw[hM]at h
    cases hoe:ops[e.on]? with
    |none=>
     rw[Ae4]at h
     have:ops.toList[e.on]?=none:=by simpa using hoe
     simp[this]at h
    |some oe=>exact ih e.on hlt oe hoe (down e.on oe hle hoe) x h
   ·have:((F9 ops.toList []).take j).getD e.on 0=0:=by
     rw[List.getD_eq_getElem?_getD,List.getElem?_take,if_neg hlt];rfl
    rw[this]at h
    simp at h
def Am1(ops:Array Oper)(anc:Nat->Nat->Bool)(cls:Nat->Cls):List Nat->Bool
 |[]=>true
 |x::r=>(match ops[x]? with
   |none=>false
   |some ox=>ox.after.all fun e=> !Region.binds .any e||(decide (e.on<ops.size)&& !(e.on==x)&& !r.contains e.on))&&
  r.all (fun i=> !(i==x)&&(anc x i||Ay2 ops anc cls x i))&&Am1 ops anc cls r
def Cc3(ops:Array Oper)(anc:Nat->Nat->Bool)(cls:Nat->Cls)(π:List Nat):Bool:=
 Region.noSelect ops&&(List.range ops.size).all π.contains&&Am1 ops anc cls π
theorem B97{cls:Nat->Cls}{Q:Act->HP}{Qw:Exit->Act->World->Prop}{E:World}{F:A4}(hns:Region.noSelect ops=true)
  (hQ: ∀a L w,Q9 E w (L++F)->Q a L->Qw .normal a w): ∀(k:Nat) (rem:List Nat) (listed:Array Bool) (a:Act) (T:A13) (L:A4) (w:World),
  rem.length=k->listed.size=ops.size->(∀j,j<ops.size->(j∈rem↔listed.getD j true=false))->rem.Nodup->Am1 ops (Af5 (F9 ops.toList [])) cls rem=true->
  (∀(j:Nat) (o:Oper),listed.getD j false=true->ops[j]?=some o-> ∀e∈o.after,Region.binds .any e=true->listed.getD e.on false=true)->
  Q9 E w (L++F)->An7 P ops (Af5 (F9 ops.toList [])) cls Q rem a T L->wpAny P .any ops Qw k listed a w:=by
 have unl: ∀(listed:Array Bool) (j:Nat),listed.getD j true=false->listed.getD j false=false:=by
  intro listed j h
  rcases Nat.lt_or_ge j listed.size with h'|h'
  ·simpa[h']using h
  ·simp[Array.getElem?_eq_none h']at h
 intro k
 induction k with
 |zero=>
  intro rem listed a T L w hk hsz hrem _ _ _ hw h
  have:rem=[]:=List.length_eq_zero_iff.1 hk
  subst this
  obtain⟨L',p,hq⟩:=h
  refine⟨?_,hQ a L' w (hw.perm (p.append_right F)) hq⟩
  refine List.eq_nil_iff_forall_not_mem.2 fun j hj=>?_
  obtain⟨hun,o,ho,_⟩:=mem_ready.1 hj
  have hlt:j<ops.size:=(Array.getElem?_eq_some_iff.1 ho).1
  exact absurd ((hrem j hlt).2 hun) (by simp)
 |succ k ih=>
  intro rem listed a T L w hk hsz hrem hnd hpairs down hw h
  have listed_of: ∀j,j<ops.size->j∉rem->listed.getD j false=true:=by
   intro j hlt hj
   have h1:listed.getD j true≠false:=fun e=>hj ((hrem j hlt).2 e)
   have hl:j<listed.size:=by omega
   simpa[hl]using h1
  refine⟨fun hnil=>?_,fun i hi=>?_⟩
  ·--the first that is left may come up
   exfalso
   cases rem with
   |nil=>simp at hk
   |cons x r=>
    simp only[Am1,Bool.and_eq_true]at hpairs
    obtain⟨⟨hx,_⟩,_⟩:=hpairs
    cases hox:ops[x]? with
    |none=>simp[hox]at hx
    |some ox=>
     simp only[hox,Array.all_eq_true_iff_forall_mem,Bool.or_eq_true,Bool.and_eq_true,decide_eq_true_eq,Bool.not_eq_true']at hx
     have hlt:x<ops.size:=(Array.getElem?_eq_some_iff.1 hox).1
     have:x∈Region.ready .any ops listed:=mem_ready.2 ⟨(hrem x hlt).1 List.mem_cons_self,ox,hox,fun e he hb=>by
      rcases hx e he with h|⟨⟨h1,h2⟩,h3⟩
      ·rw[hb]at h;cases h
      ·refine listed_of e.on h1 fun hm=>?_
       rcases List.mem_cons.1 hm with hm|hm
       ·simp[hm]at h2
       ·simp[hm]at h3⟩
     rw[hnil]at this
     cases this
  ·obtain⟨hun,oi,hoi,hall⟩:=mem_ready.1 hi
   have hlt:i<ops.size:=(Array.getElem?_eq_some_iff.1 hoi).1
   have hir:i∈rem:=(hrem i hlt).2 hun
   obtain⟨A,B,rfl⟩:=List.append_of_mem hir
   have hpass: ∀x∈A,Ay2 ops (Af5 (F9 ops.toList [])) cls x i=true/\Af5 (F9 ops.toList []) x i=false:=by
    intro x hx
    have hna:Af5 (F9 ops.toList []) x i=false:=by
     cases hb:Af5 (F9 ops.toList []) x i with
     |false=>rfl
     |true=>
      have:=B55 down i oi hoi hall x hb
      have hxr:x∈A++i::B:=List.mem_append_left _ hx
      by_cases hxl:x<ops.size
      ·have h2:=(hrem x hxl).1 hxr
       rw[unl _ _ h2]at this
       cases this
      ·have:x≥listed.size:=by omega
       simp[Array.getElem?_eq_none this]at*
    refine⟨?_,hna⟩
    have: ∀(A:List Nat),Am1 ops (Af5 (F9 ops.toList [])) cls (A++i::B)=true->x∈A->Af5 (F9 ops.toList []) x i=true\/Ay2 ops (Af5 (F9 ops.toList [])) cls x i=true:=by
     intro A
     induction A with
     |nil=>intro _ h;cases h
     |cons y A ihA=>
      intro hp hx
      simp only[List.cons_append,Am1,Bool.and_eq_true,List.all_eq_true,Bool.or_eq_true]at hp
      rcases List.mem_cons.1 hx with rfl|hx
      ·exact(hp.1.2 i (by simp)).2
      ·exact ihA hp.2 hx
    exact(this A hpairs hx).resolve_left (by rw[hna];decide)
   have hb:=An7.bubble hns A a T L hpass ⟨E,F,w,hw⟩ h
   simp only[An7,hoi]at hb
   refine Q4.wp hoi hb hw fun a' T' L' w' hw' hk'=>?_
   have hnd':(A++B).Nodup/\i∉A++B:=by
    rw[List.nodup_append,List.nodup_cons]at hnd
    refine⟨by rw[List.nodup_append];exact⟨hnd.1,hnd.2.1.2,fun a ha b hb=>hnd.2.2 a ha b (List.mem_cons_of_mem _ hb)⟩,fun hm=>?_⟩
    rcases List.mem_append.1 hm with hm|hm
    ·exact hnd.2.2 i hm i List.mem_cons_self rfl
    ·exact hnd.2.1.1 hm
   refine ih (A++B) (listed.setIfInBounds i true) a' T' L' w' (by simp at hk⊢;omega) (by simp[hsz]) (fun j hj=>?_) hnd'.1 ?_ ?_ hw' hk'
   ·by_cases hji:j=i
    ·subst hji
     have:j<listed.size:=by omega
     simp only[Array.getD_eq_getD_getElem?,Array.getElem?_setIfInBounds_self_of_lt this,Option.getD_some,Bool.true_eq_false,iff_false]
     exact hnd'.2
    ·rw[getD_set_ne true (Ne.symm hji),<-hrem j hj]
     simp[hji]
   ·have: ∀(A:List Nat),Am1 ops (Af5 (F9 ops.toList [])) cls (A++i::B)=true->Am1 ops (Af5 (F9 ops.toList [])) cls (A++B)=true:=by
     intro A
     induction A with
     |nil=>
      intro h
      simp only[List.nil_append,Am1,Bool.and_eq_true]at h⊢
      exact h.2
     |cons y A ihA=>
      intro hp
      simp only[List.cons_append,Am1,Bool.and_eq_true,List.all_eq_true]at hp⊢
      refine⟨⟨?_,fun z hz=>hp.1.2 z (by
       rcases List.mem_append.1 hz with hz|hz
       ·exact List.mem_append_left _ hz
       ·exact List.mem_append_right _ (List.mem_cons_of_mem _ hz))⟩,ihA hp.2⟩
      cases hoy:ops[y]? with
      |none=>simp[hoy]at hp
      |some oy=>
       have h1:=hp.1.1
       simp only[hoy,Array.all_eq_true_iff_forall_mem,Bool.or_eq_true,Bool.and_eq_true,Bool.not_eq_true']at h1⊢
       intro e he
       refine(h1 e he).imp id fun h=>⟨h.1,?_⟩
       have:=h.2
       simp at this⊢
       exact⟨this.1,this.2.2⟩
    exact this A hpairs
   ·intro j o hj hoj e he hbd
    by_cases hji:j=i
    ·subst hji
     rw[hoi]at hoj
     obtain rfl:=Option.some.inj hoj
     exact getD_set_true (hall e he hbd)
    ·exact getD_set_true (down j o (by rw[getD_set_ne false (Ne.symm hji)]at hj;exact hj) hoj e he hbd)
theorem Ak4{cls:Nat->Cls}: ∀{l:List Nat},Am1 ops anc cls l=true->l.Nodup
 |[],_=>List.nodup_nil
 |x::r,h=>by
  simp only[Am1,Bool.and_eq_true,List.all_eq_true]at h
  refine List.nodup_cons.2 ⟨fun hm=>?_,Ak4 h.2⟩
  have:=(h.1.2 x hm).1
  simp at this
theorem N2.region_any{id:Nat}(hm:P.follows .mixedOrders=true)(cls:Nat->Cls)(π:List Nat)(hok:Cc3 ops (Af5 (F9 ops.toList [])) cls π=true)
  {Q:Exit->Act->HP} {a:Act} {L:A4} (h:An7 P ops (Af5 (F9 ops.toList [])) cls (fun a L=>Q .normal a L) π a [] L):N2 P (.region id ops true) Q a L:=by
 intro E F w hw
 simp only[Cc3,Bool.and_eq_true,List.all_eq_true,List.mem_range,List.contains_iff_mem]at hok
 obtain⟨⟨hns,hall⟩,hp⟩:=hok
 refine wp_region_any hm ?_
 have hlen:π.length=ops.size:=by
  have hnd:=Ak4 hp
  have hlt: ∀x∈π,x<ops.size:=by
   intro x hx
   have: ∀(l:List Nat),Am1 ops (Af5 (F9 ops.toList [])) cls l=true->x∈l->x<ops.size:=by
    intro l
    induction l with
    |nil=>intro _ h;cases h
    |cons y r ih=>
     intro hp hx
     simp only[Am1,Bool.and_eq_true]at hp
     rcases List.mem_cons.1 hx with rfl|hx
     ·cases ho:ops[x]? with
      |none=>simp[ho]at hp
      |some o=>exact(Array.getElem?_eq_some_iff.1 ho).1
     ·exact ih hp.2 hx
   exact this π hp hx
  have h1:π.Perm (List.range ops.size):=by
   refine(List.perm_ext_iff_of_nodup hnd List.nodup_range).2 fun j=>⟨fun hj=>List.mem_range.2 (hlt j hj),fun hj=>hall j (List.mem_range.1 hj)⟩
  simpa using h1.length_eq
 rw[<-hlen]
 refine B97 (Qw:=fun e a' w'=> ∃L',Q9 E w' (L'++F)/\Q e a' L') hns (fun a L w hw hq=>⟨L,hw,hq⟩) π.length π _ a [] L _ rfl (by simp[hlen]) (fun j hj=>?_) (Ak4 hp) hp ?_ (hw.drew _) h
 ·have:j<π.length:=by omega
  simp[this,hall j hj]
 ·intro j o hj
  exfalso
  by_cases h:j<π.length<;>simp[h]at hj
theorem N2.region{id:Nat}(cls:Nat->Cls){Q:Exit->Act->HP}{a:Act}{L:A4}(h:An7 P ops (fun _ _=>true) cls (fun a L=>Q .normal a L) (List.range ops.size) a [] L):N2 P (.region id ops false) Q a L:=by
 intro E F w hw
 refine wp_region ?_
 have: ∀(l:List Nat) (a:Act) (T:A13) (L:A4) (w:World),Q9 E w (L++F)->An7 P ops (fun _ _=>true) cls (fun a L=>Q .normal a L) l a T L->
   wpOps P ops (fun e a' w'=> ∃L',Q9 E w' (L'++F)/\Q e a' L') l a w:=by
  intro l
  induction l with
  |nil=>exact fun a T L w hw ⟨L',p,hq⟩=>⟨L',hw.perm (p.append_right F),hq⟩
  |cons i r ih=>
   intro a T L w hw h
   rw[wpOps_cons]
   simp only[An7]at h
   cases ho:ops[i]? with
   |none=>simp[ho]at h
   |some o=>
    simp only[ho]at h
    exact Q4.wp ho h hw fun a' T' L' w' hw' hk=>ih a' T' L' w' hw' hk
 exact this _ a [] L w hw h
end
structure SlV where
 a:Option Addr
 len:Nat
 cap:Nat
structure FnV where
 fn:Fn
 first:Array Value
 captured:Array Value
inductive Lf where|int (k:IntKind)|bool|str|ptr|sl|map|fn
@[reducible] def LfV : Lf -> Type
 | .int _=>Int| .bool=>Bool| .str=>ByteArray| .ptr=>Option Addr| .sl=>SlV| .map=>Option Nat| .fn=>FnV
def Lf.val:(l:Lf)->LfV l->Value
 | .int k,n=>.int k n
 | .bool,b=>.bool b
 | .str,s=>.string s
 | .ptr,p=>.pointer p
 | .sl,v=>.slice v.a v.len v.cap
 | .map,r=>.map r
 | .fn,f=>.func f.fn f.first f.captured
inductive Sh where|lf (l:Lf)|agg (ls:List Lf)
@[reducible] def LfVs : List Lf -> Type
 |[]=>Unit
 |l::r=>LfV l×LfVs r
@[reducible] def ShV : Sh -> Type
 | .lf l=>LfV l
 | .agg ls=>LfVs ls
def Ar1:(ls:List Lf)->LfVs ls->List Value
 |[],_=>[]
 |l::r,x=>l.val x.1::Ar1 r x.2
def Sh.val:(s:Sh)->ShV s->Value
 | .lf l,x=>l.val x
 | .agg ls,x=>.agg (Ar1 ls x).toArray
def Sh.vals:(s:Sh)->ShV s->List Value
 | .lf l,x=>[l.val x]
 | .agg ls,x=>Ar1 ls x
@[reducible] def RsV : List Sh -> Type
 |[]=>Unit
 |s::r=>ShV s×RsV r
def C11:(ss:List Sh)->RsV ss->List Value
 |[],_=>[]
 |s::r,x=>s.val x.1::C11 r x.2
def Af9(ss:List Sh)(x:RsV ss):Value:=
 match ss,x with
 |[s],x=>s.val x.1
 |ss,x=>.tuple (C11 ss x).toArray
def Bw6:IntKind->IntKind->Bool
 | .i8,.i8| .i16,.i16| .i32,.i32| .i64,.i64| .u8,.u8| .u16,.u16| .u32,.u32| .u64,.u64=>true
 |_,_=>false
def Lf.of:(l:Lf)->Value->Option (LfV l)
 | .int k,.int k' n=>match Bw6 k k' with|true=>some n|false=>none
 | .bool,.bool b=>some b
 | .str,.string s=>some s
 | .ptr,.pointer p=>some p
 | .sl,.slice a n c=>some ⟨a,n,c⟩
 | .map,.map r=>some r
 | .fn,.func f a b=>some ⟨f,a,b⟩
 |_,_=>none
def Ce3:(ls:List Lf)->List Value->Option (LfVs ls)
 |[],[]=>some ()
 |l::r,v::vs=>match l.of v,Ce3 r vs with
  |some x,some y=>some (x,y)
  |_,_=>none
 |_,_=>none
def Sh.of:(s:Sh)->Value->Option (ShV s)
 | .lf l,v=>l.of v
 | .agg ls,.agg cs=>Ce3 ls cs.toList
 | .agg _,_=>none
def Cu0:TypeDesc->Option Lf
 | .int k=>some (.int k)| .bool=>some .bool| .string=>some .str| .pointer _=>some .ptr| .slice _=>some .sl| .map _ _=>some .map| .func _ _ _=>some .fn
 |_=>none
def Ba0(P:Program):Nat->TypeId->Option (List Lf)
 |0,_=>none
 |d+1,t=>match P.underlying t with
  |some (.struct fs)=>fs.toList.foldr (fun f acc=>match Ba0 P d f.type,acc with|some x,some y=>some (x++y)|_,_=>none) (some [])
  |some (.array n e)=>match Ba0 P d e with
   |some x=>some (List.replicate n x).flatten
   |none=>none
  |some d=>match Cu0 d with|some l=>some [l]|none=>none
  |none=>none
def P3(P:Program)(t:TypeId):Option Nat:=match P.info? t with|some i=>some i.size|none=>none
def B16(P:Program)(t:TypeId):Option Sh:=
 match Ba0 P 8 t,P3 P t,P.underlying t with
 |some ls,some n,some d=>match Nat.beq ls.length n,d with
  |true,.struct _|true,.array _ _=>some (.agg ls)
  |true,_=>match ls with|[l]=>some (.lf l)|_=>none
  |false,_=>none
 |_,_,_=>none
def B15(P:Program):List TypeId->Option (List Sh)
 |[]=>some []
 |t::r=>match B16 P t,B15 P r with|some s,some ss=>some (s::ss)|_,_=>none
def ff:HP:=fun _=>False
def ifB(t:Bool)(A B:HP):HP:=match t with|true=>A|false=>B
def A9(p:Option Addr)(k:Addr->HP):HP:=match p with|some a=>k a|none=>ff
def req(p:Prop)(k:HP):HP:=fun L=>p/\k L
def keep(φ:HP)(k:HP):HP:=fun L=>φ L/\k L
def Ba4:List HP->HP->HP
 |[],k=>k
 |φ::r,k=>keep φ (Ba4 r k)
def D4(ad:Addr)(vs:List Value):HP:=fun L=>
 ∃c T fz,(ad.block,Obj.cells c T fz)∈L/\ad.spot=none/\ ∀i v,vs[i]?=some v->c[ad.off+i]?=some v
def ld(ad:Addr)(sh:Sh)(k:ShV sh->HP):HP:=fun L=> ∃x,D4 ad (sh.vals x) L/\k x L
def wr:Array Value->Nat->List Value->Array Value
 |c,_,[]=>c
 |c,o,v::r=>wr (c.setIfInBounds o v) (o+1) r
def st(ad:Addr)(vs:List Value)(k:HP):HP:=fun L=>
 ∃A B c T fz,L=A++(ad.block,Obj.cells c T fz)::B/\ad.spot=none/\ad.off+vs.length<=c.size/\
  (∀i,i<vs.length-> ¬(fz.1<=ad.off+i/\ad.off+i<fz.2))/\k (A++(ad.block,Obj.cells (wr c ad.off vs) T fz)::B)
def nw(o:Obj)(k:Nat->HP):HP:=fun L=> ∀n,Sat ((n,o)::L)->k n ((n,o)::L)
def Ae2(P:Program)(f:FuncId):Bool:=match P.funcs[f]? with|some fn=>fn.body.isSome|none=>false
def cl(P:Program)(f:FuncId)(args:Array Value)(rs:List Sh)(k:RsV rs->HP):HP:=fun L=>
 CallF P f args L fun v L'=> ∃r,v=Af9 rs r/\k r L'
def clv(P:Program)(fn:Fn)(args captured:Array Value)(rs:List Sh)(k:RsV rs->HP):HP:=fun L=>
 ∃f,fn= .func f/\Ae2 P f=true/\CallF P f (args++captured) L fun v L'=> ∃r,v=Af9 rs r/\k r L'
def Au5(P:Program)(s:Sem Value)(K:Value->HP):HP:=fun L=>
 ∀E F w,Q9 E w (L++F)-> ∃v w' L',s.run P w= .ok v w'/\Q9 E w' (L'++F)/\K v L'
def RdV(P:Program)(s:Sem Value)(v:Value):HP:=fun L=> ∀E F w,Q9 E w (L++F)->s.run P w= .ok v w
def AlV(P:Program)(s:Sem Value):Prop:= ∀w:World,∃ob v d,s.run P w= .ok v {w with heap:=w.heap.push ob,drawn:=d}
def AlVG(P:Program)(s:Sem Value)(n:Nat)(ob:Obj)(v:Value):Prop:= ∃(w:World) (d:Nat),w.heap.size=n/\s.run P w= .ok v {w with heap:=w.heap.push ob,drawn:=d}
def smP(P:Program)(s:Sem Value)(sh:Sh)(k:ShV sh->HP):HP:=fun L=> ∃r,(∀w,s.run P w= .ok (sh.val r) w)/\k r L
def smR(P:Program)(s:Sem Value)(sh:List Sh)(k:RsV sh->HP):HP:=fun L=> ∃r,RdV P s (Af9 sh r) L/\k r L
def smA(P:Program)(s:Sem Value)(sh:Sh)(k:ShV sh->HP):HP:=fun L=>
 AlV P s/\ ∀n ob v,AlVG P s n ob v->Sat ((n,ob)::L)-> ∃r,v=sh.val r/\k r ((n,ob)::L)
def smW(P:Program)(s:Sem Value)(sh:List Sh)(k:RsV sh->HP):HP:=Au5 P s fun v L'=> ∃r,v=Af9 sh r/\k r L'
def smU(P:Program)(s:Sem Unit)(k:HP):HP:=fun L=>
 ∀E F w,Q9 E w (L++F)-> ∃w' L',s.run P w= .ok () w'/\Q9 E w' (L'++F)/\k L'
@[reducible] def OvT : Option Sh -> Type
 |none=>Value
 |some s=>ShV s
def A19:(o:Option Sh)->OvT o->Value
 |none,v=>v
 |some s,x=>s.val x
def smN(P:Program)(s:Sem Value)(a b:Option Sh)(kE:HP)(kM:OvT a->OvT b->HP):HP:=
 Au5 P s fun v L'=>(v= .tuple #[.bool false]/\kE L')\/ ∃x y,v= .tuple #[.bool true,A19 a x,A19 b y]/\kM x y L'
def smE(P:Program)(s:Sem Value)(a b:Option Sh)(k:OvT a->OvT b->HP):HP:=fun L=> ∃x y,RdV P s (.tuple #[A19 a x,A19 b y]) L/\k x y L
def jn{α:Type}(b:α->HP)(r:(α->HP)->HP):HP:=r b
def lp(sh:List Sh)(x0:RsV sh)(body:RsV sh->(RsV sh->HP)->HP):HP:=fun L=>
 ∃I:Nat->RsV sh->HP,(∃k,I k x0 L)/\ ∀k x L',I k x L'->body x (fun x' L''=> ∃k',k'<k/\I k' x' L'') L'
abbrev Env:=List (Nat×Value)
def A97:Env->Nat->Option Value
 |[],_=>none
 |(s,v)::r,t=>match Nat.beq s t with|true=>some v|false=>A97 r t
def evL(env:Env):Operand->Option Value
 | .tmp t=>A97 env t
 | .const v=>some v
 | .global g=>some (.pointer (some ⟨g,0,none⟩))
 | .func f=>some (.func (.func f) #[] #[])
def evLs(env:Env):List Operand->Option (List Value)
 |[]=>some []
 |x::r=>match evL env x,evLs env r with|some v,some vs=>some (v::vs)|_,_=>none
def De5(env:Env):List (Nat×Operand)->Option (List (Nat×Value))
 |[]=>some []
 |(i,x)::r=>match evL env x,De5 env r with|some v,some vs=>some ((i,v)::vs)|_,_=>none
def evO(env:Env):Option Operand->Option (Option Value)
 |none=>some none
 |some x=>match evL env x with|some v=>some (some v)|none=>none
def evA(env:Env)(xs:Array Operand):Option (Array Value):=match evLs env xs.toList with|some vs=>some vs.toArray|none=>none
def A28(P:Program)(t:TypeId):Option Value:=match P.info? t with|some i=>i.zero|none=>none
def S5:Value->Bool| .agg _| .tuple _=>false|_=>true
def Bb4(P:Program)(s:TypeId)(f:Nat):Option Nat:=
 match P.underlying s with
 |some (.struct fs)=>match fs[f]? with
  |some fd=>match P3 P fd.type with
   |some (_+1)=>some fd.offset
   |_=>none
  |none=>none
 |_=>none
def Cb9(P:Program)(t:TypeId)(cs:Array Value)(off:Nat):Option Value:=
 match P.underlying t,P3 P t with
 |some (.struct _),some n|some (.array _ _),some n=>some (.agg (cs.extract off (off+n)))
 |some _,some _=>cs[off]?
 |_,_=>none
def Bi8:Operand->Bool
 | .const (.pointer none)| .const (.slice none _ _)| .const (.map none)=>true
 |_=>false
def Ak8(op:BinOp)(k:IntKind)(x y:Int):Int:=
 let a:=BitVec.ofInt k.bits x
 let b:=BitVec.ofInt k.bits y
 k.wrap (match op with| .and=>(a&&&b).toNat| .or=>(a|||b).toNat| .xor=>(a^^^b).toNat|_=>(a&&& ~~~b).toNat)
def Ab3(x y:Int):Int:=if y<x then y else x
def Z6(x y:Int):Int:=if y>x then y else x
def Ck4(s:ByteArray)(i:Int):Int:=((s.data.getD i.toNat 0).toNat:Int)
def P1(v:SlV)(l h m:Int)(size:Nat):SlV:=⟨if m.toNat=l.toNat then v.a else v.a.map (·.add (l.toNat*size)),h.toNat-l.toNat,m.toNat-l.toNat⟩
def slc(v:SlV)(l h m:Int)(size:Nat)(k:SlV->HP):HP:=req (0<=l/\l<=h/\h<=m/\m<=v.cap) (k (P1 v l h m size))
def sls(s:ByteArray)(l h:Int)(k:ByteArray->HP):HP:=req (0<=l/\l<=h/\h<=s.size) (k (s.extract l.toNat h.toNat))
def ixn(i:Int)(n:Int)(k:HP):HP:=req (0<=i/\i<n) k
def Y8:List Value->Option (IntKind×List Int)
 |[]=>none
 |[.int k n]=>some (k,[n])
 | .int k n::r=>match Y8 r with|some (_,ns)=>some (k,n::ns)|none=>none
 |_=>none
section
variable (P:Program)
def Br7(op:BinOp)(kx:IntKind)(a b:Int)(k:Value->List HP->HP):HP:=
 match op with
 | .add=>k (.int kx (kx.wrap (a+b))) []
 | .sub=>k (.int kx (kx.wrap (a-b))) []
 | .mul=>k (.int kx (kx.wrap (a*b))) []
 | .quo=>req (b≠0) (k (.int kx (kx.wrap (a.tdiv b))) [])
 | .rem=>req (b≠0) (k (.int kx (a.tmod b)) [])
 | .and=>k (.int kx (Ak8 .and kx a b)) []
 | .or=>k (.int kx (Ak8 .or kx a b)) []
 | .xor=>k (.int kx (Ak8 .xor kx a b)) []
 | .andNot=>k (.int kx (Ak8 .andNot kx a b)) []
 | .eql=>k (.bool (a==b)) []
 | .neq=>k (.bool (a !=b)) []
 | .lss=>k (.bool (decide (a<b))) []
 | .leq=>k (.bool (decide (a<=b))) []
 | .gtr=>k (.bool (decide (a>b))) []
 | .geq=>k (.bool (decide (a≥b))) []
 |_=>ff
def A48(t:TypeId):Bool:=match P.underlying t with|some (.int _)=>true|_=>false
def Bi7(t:TypeId):Bool:=match P.underlying t with|some .string=>true|_=>false
def Ay6(t:TypeId):Bool:=match P.underlying t with|some .bool=>true|_=>false
def W2(t:TypeId):Bool:=match P.underlying t with|some (.pointer _)=>true|_=>false
def Cf7(t:TypeId):Bool:=match P.underlying t with|some (.slice _)=>true|_=>false
def By2(op:BinOp)(xt:TypeId)(nl:Bool)(x y:Value)(k:Value->List HP->HP):HP:=
 match x,y with
 | .int kx a,.int ky b=>match A48 P xt,op,Bw6 kx ky with
  |true,.shl,_=>req (0<=b) (k (.int kx (kx.wrap (a*2^(min b.toNat kx.bits)))) [])
  |true,.shr,_=>req (0<=b) (k (.int kx (a.fdiv (2^(min b.toNat kx.bits)))) [])
  |true,op,true=>Br7 op kx a b k
  |_,_,_=>ff
 | .string a,.string b=>match Bi7 P xt,op with
  |true,.add=>req (((a.size+b.size:Nat):Int)<=IntKind.i64.max) (k (.string (a++b)) [])
  |true,.eql=>k (.bool (a.toList==b.toList)) []
  |true,.neq=>k (.bool (!(a.toList==b.toList))) []
  |true,.lss=>k (.bool (Op.bytesLess a.toList b.toList)) []
  |true,.leq=>k (.bool (Op.bytesLess a.toList b.toList||a.toList==b.toList)) []
  |true,.gtr=>k (.bool (!(Op.bytesLess a.toList b.toList||a.toList==b.toList))) []
  |true,.geq=>k (.bool (!(Op.bytesLess a.toList b.toList))) []
  |_,_=>ff
 | .bool a,.bool b=>match Ay6 P xt,op with
  |true,.eql=>k (.bool (a==b)) []
  |true,.neq=>k (.bool (!(a==b))) []
  |_,_=>ff
 | .pointer a,.pointer b=>match W2 P xt,nl,op with
  |true,true,.eql=>(match b with|none=>k (.bool a.isNone) []|_=>ff)
  |true,true,.neq=>(match b with|none=>k (.bool (!a.isNone)) []|_=>ff)
  |true,false,.eql=>smR P (binOp .eql xt (.pointer a) (.pointer b)) [.lf .bool] fun r=>k (.bool r.1) [RdV P (binOp .eql xt (.pointer a) (.pointer b)) (.bool r.1)]
  |true,false,.neq=>smR P (binOp .neq xt (.pointer a) (.pointer b)) [.lf .bool] fun r=>k (.bool r.1) [RdV P (binOp .neq xt (.pointer a) (.pointer b)) (.bool r.1)]
  |_,_,_=>ff
 | .slice a n c,.slice b m d=>match Cf7 P xt,op,b with
  |true,.eql,none=>k (.bool a.isNone) []
  |true,.neq,none=>k (.bool (!a.isNone)) []
  |_,_,_=>ff
 | .agg a,.agg b=>match op,W2 P xt,P.eqGuardType P.depth xt with
  | .eql,false,false=>smP P (binOp .eql xt (.agg a) (.agg b)) (.lf .bool) fun r=>k (.bool r) []
  | .neq,false,false=>smP P (binOp .neq xt (.agg a) (.agg b)) (.lf .bool) fun r=>k (.bool r) []
  |_,_,_=>ff
 |_,_=>ff
def Br8(o:Oper)(env:Env)(op:BinOp)(xt:TypeId)(x y:Operand)(k:Value->List HP->HP):HP:=
 match evL env x with
 |some vx=>match evL env y with
  |some vy=>By2 P op xt (Bi8 y) vx vy k
  |none=>ff
 |none=>ff
def B60(d:Int):Option Value->Option Int
 |none=>some d
 |some (.int _ n)=>some n
 |_=>none
def Bb1(o:Oper)(env:Env)(c:Call)(W:HP->HP)(k:Value->List HP->HP):HP:=
 match evA env c.args with
 |none=>ff
 |some args=>
  match c.callee with
  | .value (.func f)=>match P.funcs[f]? with
   |some fn=>match fn.body.isSome,B15 P fn.resultTypes.toList with
    |true,some rs=>cl P f args rs fun r=>W (k (Af9 rs r) [])
    |_,_=>ff
   |none=>ff
  | .value x=>match evL env x with
   |some (.func fn first captured)=>match P.underlying o.type with
    |some (.tuple ts)=>match B15 P ts.toList with
     |some rs=>clv P fn (first++args) captured rs fun r=>W (k (Af9 rs r) [])
     |none=>ff
    |_=>match B16 P o.type with
     |some s=>clv P fn (first++args) captured [s] fun r=>W (k (s.val r.1) [])
     |none=>ff
   |_=>ff
  | .builtin b=>
   match b,args.toList,c.argTypes.toList with
   | .len,[.string s],[t]=>match P.underlying t with|some .string=>k (.int .i64 s.size) []|_=>ff
   | .len,[.slice _ n _],[t]=>match P.underlying t with|some (.slice _)=>k (.int .i64 n) []|_=>ff
   | .len,[.map r],[t]=>match P.underlying t with
    |some (.map _ _)=>smR P (Builtin.len_ c.argTypes o.type args) [.lf (.int .i64)] fun r=>k (.int .i64 r.1) [RdV P (Builtin.len_ c.argTypes o.type args) (.int .i64 r.1)]
    |_=>ff
   | .len,[x],[t]=>match P.underlying t with
    |some (.array n _)=>k (.int .i64 n) []
    |some (.pointer u)=>match P.underlying u with|some (.array n _)=>k (.int .i64 n) []|_=>ff
    |_=>ff
   | .cap,[.slice _ _ n],[t]=>match P.underlying t with|some (.slice _)=>k (.int .i64 n) []|_=>ff
   | .min,vs,_=>match Y8 vs with|some (kd,n::ns)=>k (.int kd (ns.foldl Ab3 n)) []|_=>ff
   | .max,vs,_=>match Y8 vs with|some (kd,n::ns)=>k (.int kd (ns.foldl Z6 n)) []|_=>ff
   | .append,_,_=>smW P (Builtin.append_ c.argTypes o.type args) [.lf .sl] fun r=>W (k (.slice r.1.a r.1.len r.1.cap) [])
   | .copy,_,_=>smW P (Builtin.copy_ c.argTypes o.type args) [.lf (.int .i64)] fun r=>W (k (.int .i64 r.1) [])
   | .clear,_,_=>smW P (Builtin.clear_ c.argTypes o.type args) [] fun _=>W (k (.tuple #[]) [])
   | .delete,_,_=>smW P (Builtin.delete_ c.argTypes o.type args) [] fun _=>W (k (.tuple #[]) [])
   |_,_,_=>ff
  |_=>ff
def D6(o:Oper):Cls:=
 match o.op with
 | .load _ _| .lookup _ _ _ _| .entry _=>.R
 | .binOp op xt x y _=>match op,Bi8 y,W2 P xt with
  | .eql,false,true=>.R
  | .neq,false,true=>.R
  |_,_,_=>.P
 | .alloc _| .box _ _| .buildSlice _ _ _| .makeMap _ _| .makeSlice _ _ _=>.A
 | .convert src dst _=>match P.underlying src,P.underlying dst with
  |some .string,some (.slice _)=>.A
  |some (.slice _),some .string=>.R
  |some (.slice _),some (.slice _)=>.W
  |_,_=>.P
 | .store _ _ _| .mapUpdate _ _ _ _| .insert _ _ _ _| .range _ _| .next _ _| .mapEntry _ _ _| .entryStore _ _ _ _=>.W
 | .call c=>match c.callee with
  | .builtin .len=>match c.argTypes.toList with
   |[t]=>match P.underlying t with|some (.map _ _)=>.R|_=>.P
   |_=>.P
  | .builtin .cap| .builtin .min| .builtin .max=>.P
  |_=>.W
 |_=>.P
def G1(X:Nat->Option Sh)(o:Oper)(env:Env)(W:HP->HP)(k:Value->List HP->HP):HP:=
 match o.op with
 | .move x| .assign x=>match evL env x with|some v=>k v []|none=>ff
 | .pick c a b=>match evL env c,evL env a,evL env b with
  |some (.bool t),some va,some vb=>ifB t (k va []) (k vb [])
  |_,_,_=>ff
 | .alloc t=>match A28 P t with|some z=>nw (.cells z.cells t) fun n=>k (.pointer (some ⟨n,0,none⟩)) []|none=>ff
 | .box t x=>match evL env x with|some v=>nw (.cells v.cells t) fun n=>k (.pointer (some ⟨n,0,none⟩)) []|none=>ff
 | .build t parts=>match De5 env parts.toList,A28 P t,P.underlying t with
  |some ps,some z,some (.struct fs)=>match fs.toList.mapM (fun f=>match P3 P f.type with|some n=>some (f.offset,n)|none=>none)with
   |some pl=>match Instr.fill (pl[·]?) z.cells ps with|some cs=>k (.agg cs) []|none=>ff
   |none=>ff
  |some ps,some z,some (.array _ e)=>match P3 P e with
   |some n=>match Instr.fill (fun i=>some (i*n,n)) z.cells ps with|some cs=>k (.agg cs) []|none=>ff
   |none=>ff
  |_,_,_=>ff
 | .buildSlice t len parts=>match De5 env parts.toList,P.underlying t with
  |some ps,some (.slice e)=>match P3 P e,A28 P e with
   |some n,some z=>match Nat.ble (len*n) (2^24),Nat.beq (len*n) 0,Instr.fill (fun i=>some (i*n,n)) ((Array.range (len*n)).map (z.cells[· %z.cells.size]!)) ps with
    |true,false,some cs=>nw (.cells cs e) fun b=>k (.slice (some ⟨b,0,none⟩) len len) []
    |_,_,_=>match Nat.beq len 0,ps with
     |true,[]=>nw (.cells #[] e) fun b=>k (.slice (some ⟨b,0,none⟩) 0 0) []
     |_,_=>ff
   |_,_=>ff
  |_,_=>ff
 | .load t x=>match evL env x,B16 P t with
  |some (.pointer p),some sh=>A9 p fun ad=>ld ad sh fun y=>k (sh.val y) [D4 ad (sh.vals y)]
  |_,_=>ff
 | .store t a x=>match evL env a,evL env x,P3 P t with
  |some (.pointer p),some v,some n=>match v.cells.toList.all S5&&Nat.beq v.cells.toList.length n with
   |true=>A9 p fun ad=>st ad v.cells.toList (W (k undef []))
   |false=>ff
  |_,_,_=>ff
 | .nilCheck x=>match evL env x with
  |some (.pointer p)=>A9 p fun a=>k (.pointer (some a)) []
  |_=>ff
 | .binOp op xt x y _=>Br8 P o env op xt x y k
 | .unOp op _ x=>match op,evL env x with
  | .not,some (.bool b)=>k (.bool (!b)) []
  | .neg,some (.int kd n)=>k (.int kd (kd.wrap (0-n))) []
  | .xor,some (.int kd n)=>k (.int kd (Ak8 .xor kd (if kd.signed then-1 else kd.max) n)) []
  |_,_=>ff
 | .convert src dst x=>match evL env x,P.underlying src,P.underlying dst with
  |some (.int _ n),some (.int _),some (.int kd)=>k (.int kd (kd.wrap n)) []
  |some (.string s),some .string,some .string=>k (.string s) []
  |some (.string s),some .string,some (.slice e)=>match P.underlying e with
   |some (.int .u8)=>smA P (Conv.stringToBytes e s) (.lf .sl) fun r=>k (.slice r.a r.len r.cap) []
   |_=>ff
  |some (.slice a n c),some (.slice _),some (.slice _)=>smW P (convert src dst (.slice a n c)) [.lf .sl] fun r=>W (k (.slice r.1.a r.1.len r.1.cap) [])
  |some (.slice a n c),some (.slice e),some .string=>match P.underlying e with
   |some (.int .u8)=>smR P (Conv.bytesToString (.slice a n c)) [.lf .str] fun r=>k (.string r.1) [RdV P (Conv.bytesToString (.slice a n c)) (.string r.1)]
   |_=>ff
  |_,_,_=>ff
 | .makeFunc fn first captured=>match evA env first,evA env captured with
  |some a,some b=>k (.func fn a b) []
  |_,_=>ff
 | .makeMap t none=>nw (.map #[] 0) fun n=>k (.map (some n)) []
 | .makeSlice t l c=>match evL env l,evL env c with
  |some (.int kl nl),some (.int kc nc)=>smA P (Instr.makeSlice t (.int kl nl) (.int kc nc)) (.lf .sl) fun r=>k (.slice r.a r.len r.cap) []
  |_,_=>ff
 | .slice t x lo hi mx=>match evL env x,evO env lo,evO env hi,evO env mx,P.underlying t with
  |some (.string s),some lo,some hi,some none,some .string=>match B60 0 lo,B60 s.size hi with
   |some l,some h=>sls s l h fun r=>k (.string r) []
   |_,_=>ff
  |some (.slice a n c),some lo,some hi,some mx,some (.slice e)=>match P3 P e,B60 0 lo,B60 n hi,B60 c mx,hi,mx with
   |_,_,_,_,none,some _=>ff
   |some sz,some l,some h,some m,_,_=>slc ⟨a,n,c⟩ l h m sz fun r=>k (.slice r.a r.len r.cap) []
   |_,_,_,_,_,_=>ff
  |some (.pointer p),some lo,some hi,some none,some (.array n e)=>match P3 P e,B60 0 lo,B60 n hi with
   |some sz,some l,some h=>A9 p fun a=>slc ⟨some a,n,n⟩ l h n sz fun r=>k (.slice r.a r.len r.cap) []
   |_,_,_=>ff
  |_,_,_,_,_=>ff
 | .fieldAddr s x f=>match evL env x,Bb4 P s f with
  |some (.pointer p),some off=>A9 p fun a=>k (.pointer (some (a.add off))) []
  |_,_=>ff
 | .field s x f=>match evL env x,P.underlying s with
  |some (.agg cs),some (.struct fs)=>match fs[f]? with
   |some fd=>match Cb9 P fd.type cs fd.offset with|some v=>k v []|none=>ff
   |none=>ff
  |_,_=>ff
 | .indexAddr t x i=>match evL env x,evL env i,P.underlying t with
  |some (.slice a n _),some (.int _ j),some (.slice e)=>match P3 P e with
   |some sz=>A9 a fun ad=>ixn j n (k (.pointer (some (ad.add (j.toNat*sz)))) [])
   |none=>ff
  |some (.pointer p),some (.int _ j),some (.array n e)=>match P3 P e with
   |some sz=>A9 p fun ad=>ixn j n (k (.pointer (some (ad.add (j.toNat*sz)))) [])
   |none=>ff
  |_,_,_=>ff
 | .index t x i=>match evL env x,evL env i,P.underlying t with
  |some (.string s),some (.int _ j),some .string=>ixn j s.size (k (.int .u8 (Ck4 s j)) [])
  |some (.agg cs),some (.int kk j),some (.array _ _)=>match B16 P o.type with
   |some sh=>smP P (Instr.index t (.agg cs) (.int kk j)) sh fun r=>k (sh.val r) []
   |none=>ff
  |_,_,_=>ff
 | .lookup t x i ok=>match evL env x,evL env i,P.underlying t with
  |some vm,some vi,some (.map _ e)=>match B16 P e,ok with
   |some s,false=>smR P (Instr.lookup t vm vi false) [s] fun r=>k (s.val r.1) [RdV P (Instr.lookup t vm vi false) (s.val r.1)]
   |some s,true=>smR P (Instr.lookup t vm vi true) [s,.lf .bool] fun r=>k (.tuple #[s.val r.1,.bool r.2.1]) [RdV P (Instr.lookup t vm vi true) (.tuple #[s.val r.1,.bool r.2.1])]
   |_,_=>ff
  |_,_,_=>ff
 | .mapUpdate t m i x| .insert t m i x=>match evL env m,evL env i,evL env x with
  |some vm,some vi,some vx=>smU P (Instr.mapUpdate t vm vi vx) (W (k undef []))
  |_,_,_=>ff
 | .range t x=>match evL env x with
  |some v=>smW P (Instr.range t v) [.lf .ptr] fun r=>W (k (.pointer r.1) [])
  |none=>ff
 | .next it str=>match evL env it with
  |some (.pointer p)=>smN P (Instr.next (.pointer p) str o.type) (match str with|true=>some (.lf (.int .i64))|false=>none) (match str with|true=>some (.lf (.int .i32))|false=>none)
    (W (k (.tuple #[.bool false]) [])) fun x y=>W (k (.tuple #[.bool true,A19 _ x,A19 _ y]) [])
  |_=>ff
 | .entry it=>match evL env it with
  |some (.pointer p)=>smE P (Instr.entry (.pointer p)) (X 0) (X 1) fun x y=>k (.tuple #[A19 _ x,A19 _ y]) [RdV P (Instr.entry (.pointer p)) (.tuple #[A19 _ x,A19 _ y])]
  |_=>ff
 | .extract x i=>match evL env x with
  |some (.tuple vs)=>match vs[i]? with|some v=>k v []|none=>ff
  |_=>ff
 | .call c=>Bb1 P o env c W k
 |_=>ff
def C92(n:Nat)(env:Env)(dst:Option Tmp)(v:Value)(k:Env->HP):HP:=
 match dst with
 |none=>k env
 |some d=>match Nat.blt d n with|true=>k ((d,v)::env)|false=>ff
def C98(drawn:Bool)(i:Nat)(φs:List HP)(T:List (Nat×HP)):List (Nat×HP):=match drawn with|true=>φs.map (i, ·)++T|false=>T
def Cw9(ops:List Oper)(d:Option Tmp)(j:Nat):Option Sh:=
 match ops with
 |[]=>none
 |o::r=>match o.op with
  | .extract (.tmp t) i=>match(match d with|some d=>Nat.beq t d&&Nat.beq i j|none=>false)with
   |true=>B16 P o.type
   |false=>Cw9 r d j
  |_=>Cw9 r d j
def Ad9(n:Nat)(ops:Array Oper)(anc:Nat->Nat->Bool)(drawn:Bool):List Nat->Env->List (Nat×HP)->(Env->HP)->HP
 |[],env,_,K=>K env
 |i::r,env,T,K=>match ops[i]? with
  |none=>ff
  |some o=>
   let run:Env->HP:=fun env=>G1 P (Cw9 P ops.toList o.dst) o env (Ba4 ((T.filter fun q=> !anc q.1 i).map (·.2))) fun v φs=>
    C92 n env o.dst v fun env'=>Ad9 n ops anc drawn r env' (C98 drawn i φs T) K
   let skip:Env->HP:=fun env=>C92 n env o.dst undef fun env'=>Ad9 n ops anc drawn r env' T K
   match o.guard with
   |none=>run env
   |some (j,want)=>match(match ops[j]? with|some oj=>oj.dst|none=>none)with
    |none=>ff
    |some d=>match A97 env d with
     |some (.bool t)=>ifB t (match want with|true=>run ((d,.bool true)::env)|false=>skip ((d,.bool true)::env))
       (match want with|true=>skip ((d,.bool false)::env)|false=>run ((d,.bool false)::env))
     |some (.tuple _)=>skip env
     |_=>ff
structure D5 where
 loops:List (Nat×List (Nat×Sh))
 joins:List (Nat×List (Nat×Sh))
 plans:List (Nat×List Nat)
def B42{α:Type}:List (Nat×α)->Nat->Option α
 |[],_=>none
 |(i,x)::r,j=>match Nat.beq i j with|true=>some x|false=>B42 r j
def C38(ops:Array Oper):List Nat:=ops.toList.filterMap (·.dst)
def Aa2:Code->List Nat
 | .region _ ops _=>C38 ops
 | .seq a b=>Aa2 a++Aa2 b
 | .cond _ a b=>Aa2 a++Aa2 b
 | .block _ c=>Aa2 c
 | .loop c=>Aa2 c
 | .scope c=>Aa2 c
 |_=>[]
def memN:List Nat->Nat->Bool
 |[],_=>false
 |x::r,y=>match Nat.beq x y with|true=>true|false=>memN r y
def Ak7:Code->Option Nat
 | .region id _ _=>some id
 | .seq a _=>Ak7 a
 | .block _ c=>Ak7 c
 |_=>none
def joinH(H:List (Nat×List (Nat×Sh)))(y:Code):Option (List (Nat×Sh)):=match Ak7 y with|some r=>B42 H r|none=>none
def Bh2(env:Env):(cs:List (Nat×Sh))->Option (RsV (cs.map (·.2)))
 |[]=>some ()
 |(t,s)::r=>match(match A97 env t with|some v=>s.of v|none=>none),Bh2 env r with
  |some x,some y=>some (x,y)
  |_,_=>none
def Be3:(cs:List (Nat×Sh))->RsV (cs.map (·.2))->Env
 |[],_=>[]
 |(t,s)::r,x=>(t,s.val x.1)::Be3 r x.2
def Ar5(mods:List Nat):Env->Env
 |[]=>[]
 |(t,v)::r=>match memN mods t with|true=>Ar5 mods r|false=>(t,v)::Ar5 mods r
def B75(env:Env)(c:Operand)(b:Bool):Env:=match c with| .tmp t=>(t,.bool b)::env|_=>env
def A24(H:D5)(n:Nat):Code->Nat->(Env->HP)->(Nat->Env->HP)->(Env->HP)->Env->HP
 | .skip,_,Kn,_,_,env=>Kn env
 | .region id ops false,_,Kn,_,_,env=>Ad9 P n ops (fun _ _=>true) false (List.range ops.size) env [] Kn
 | .region id ops true,_,Kn,_,_,env=>match B42 H.plans id with
  |none=>ff
  |some π=>match Cc3 ops (Af5 (F9 ops.toList [])) (fun i=>match ops[i]? with|some o=>D6 P o|none=>.P) π with
   |true=>Ad9 P n ops (Af5 (F9 ops.toList [])) true π env [] Kn
   |false=>ff
 | .seq x y,b,Kn,Kx,Kr,env=>match joinH H.joins y with
  |none=>A24 H n x b (fun env'=>A24 H n y b Kn Kx Kr env') Kx Kr env
  |some cs=>
   let j:RsV (cs.map (·.2))->HP:=fun v=>A24 H n y b Kn Kx Kr (Be3 cs v++Ar5 (Aa2 x) env)
   A24 H n x b (fun env'=>match Bh2 env' cs with|some v=>j v|none=>ff) Kx Kr env
 | .cond c x y,b,Kn,Kx,Kr,env=>match evL env c with
  |some (.bool t)=>ifB t (A24 H n x b Kn Kx Kr (B75 env c true)) (A24 H n y b Kn Kx Kr (B75 env c false))
  |_=>ff
 | .block id c,_,Kn,Kx,Kr,env=>A24 H n c id Kn (fun e env'=>match Nat.beq e id with|true=>Kn env'|false=>Kx e env') Kr env
 | .loop c,b,_,Kx,Kr,env=>match B42 H.loops b with
  |none=>ff
  |some cs=>match Bh2 env cs with
   |none=>ff
   |some x0=>lp (cs.map (·.2)) x0 fun x Dg1=>
    A24 H n c b (fun env'=>match Bh2 env' cs with|some x'=>Dg1 x'|none=>ff) Kx Kr (Be3 cs x++Ar5 (Aa2 c) env)
 | .exit id,_,_,Kx,_,env=>Kx id env
 | .ret,_,_,_,Kr,env=>Kr env
 | .scope c,b,Kn,Kx,Kr,env=>A24 H n c b Kn Kx Kr env
 | .label _,_,Kn,_,_,env=>Kn env
 |_,_,_,_,_,_=>ff
def C82(env:Env):List ResultVar->(List Value->HP)->HP
 |[],K=>K []
 | .tmp t::r,K=>match A97 env t with|some v=>C82 env r fun vs=>K (v::vs)|none=>ff
 | .cell t ty::r,K=>match A97 env t,B16 P ty with
  |some (.pointer p),some sh=>A9 p fun ad=>ld ad sh fun x=>C82 env r fun vs=>K (sh.val x::vs)
  |_,_=>ff
def Ap0:List Value->Value
 |[v]=>v
 |vs=>.tuple vs.toArray
def zipE:Nat->List Value->Env
 |_,[]=>[]
 |i,v::r=>(i,v)::zipE (i+1) r
def A8(H:D5)(fn:Func)(args:List Value)(K:Value->HP):HP:=
 match fn.body,Nat.ble args.length fn.ntmps with
 |some c,true=>
  let R:Env->HP:=fun env=>C82 P env fn.results.toList fun vs=>K (Ap0 vs)
  A24 P H fn.ntmps c 0 R (fun _ _=>ff) R (zipE 0 args)
 |_,_=>ff
end
set_option linter.unusedSimpArgs false
structure N4(n:Nat)(env:Env)(a:Act):Prop where
 size:a.tmps.size=n
 defers:a.defers=[]
 at': ∀t v,A97 env t=some v->a.tmps[t]?=some v
def A08 (P : Program) : Prop := P.funcs.all (fun fn => !(fn.name == "runtime.NumGoroutine")) = true
section
variable {P:Program} {n:Nat} {env:Env} {a:Act} (hag:N4 n env a)
include hag
theorem N4.ev{x:Operand}{v:Value}(h:evL env x=some v):a.eval x=v:=by
 cases x with
 |tmp t=>
  have:=hag.at' t v h
  simp[Act.eval,this]
 |const v=>simpa[evL,Act.eval]using h
 |global g=>simpa[evL,Act.eval]using h
 |func f=>simpa[evL,Act.eval]using h
theorem N4.evs: ∀{xs:List Operand} {vs:List Value},evLs env xs=some vs->xs.map a.eval=vs
 |[],vs,h=>by simp[evLs]at h;simp[h]
 |x::r,vs,h=>by
  simp only[evLs]at h
  split at h
  ·rename_i v vs' hv hvs
   obtain rfl:=Option.some.inj h
   simp[hag.ev hv,N4.evs hvs]
  ·cases h
theorem N4.evps: ∀{xs:List (Nat×Operand)} {vs:List (Nat×Value)},De5 env xs=some vs->xs.map (fun(i,x)=>(i,a.eval x))=vs
 |[],vs,h=>by simp[De5]at h;simp[h]
 |(i,x)::r,vs,h=>by
  simp only[De5]at h
  split at h
  ·rename_i v vs' hv hvs
   obtain rfl:=Option.some.inj h
   simp[hag.ev hv,N4.evps hvs]
  ·cases h
theorem N4.eva{xs:Array Operand}{vs:Array Value}(h:evA env xs=some vs):xs.map a.eval=vs:=by
 unfold evA at h
 split at h
 ·rename_i l hl
  obtain rfl:=Option.some.inj h
  rw[<-hag.evs hl]
  exact Array.ext' (by simp)
 ·cases h
theorem N4.evpa{xs:Array (Nat×Operand)}{vs:List (Nat×Value)}(h:De5 env xs.toList=some vs):(xs.map fun(i,x)=>(i,a.eval x)).toList=vs:=by
 rw[<-hag.evps h];simp
theorem N4.evo{x:Option Operand}{v:Option Value}(h:evO env x=some v):x.map a.eval=v:=by
 cases x with
 |none=>simpa[evO]using h
 |some x=>
  simp only[evO]at h
  split at h
  ·rename_i v' hv;obtain rfl:=Option.some.inj h;simp[hag.ev hv]
  ·cases h
end
def A68(P:Program)(c:Cls)(o:Oper)(a:Act)(L:A4)(φs:List HP)(k:Value->List HP->HP):Prop:=
 match c with
 | .P=> ∃v,(∀w,(execOp a.eval o).run P w= .ok (.value v) w)/\k v [] L
 | .R=> ∃v φ,RdS P (execOp a.eval o) L v/\(∀L',φ L'->RdS P (execOp a.eval o) L' v)/\k v [φ] L
 | .A=>AlAll P (execOp a.eval o)/\ ∀n ob v,AlG P (execOp a.eval o) n ob v->Sat ((n,ob)::L)->k v [] ((n,ob)::L)
 | .W=>OpF P o a L fun a' L'=> ∃v,a'=a.put o.dst v/\(∀φ∈φs,φ L')/\k v [] L'
theorem K0{φs:List HP}{k:HP}{L:A4}(h:Ba4 φs k L):(∀φ∈φs,φ L)/\k L:=by
 induction φs with
 |nil=>exact⟨by simp,h⟩
 |cons φ r ih=>
  obtain⟨h1,h2⟩:=h
  obtain⟨h3,h4⟩:=ih h2
  refine⟨fun ψ hψ=>?_,h4⟩
  rcases List.mem_cons.1 hψ with rfl|hψ
  ·exact h1
  ·exact h3 ψ hψ
theorem V4{p:Option Addr}{k:Addr->HP}{L:A4}(h:A9 p k L): ∃a,p=some a/\k a L:=by
 cases p with
 |none=>exact h.elim
 |some a=>exact⟨a,rfl,h⟩
theorem Ba6{t:Bool}{A B:HP}{L:A4}(h:ifB t A B L):(t=true/\A L)\/(t=false/\B L):=by
 cases t
 ·exact .inr ⟨rfl,h⟩
 ·exact .inl ⟨rfl,h⟩
theorem Ay4{k k':IntKind}(h:Bw6 k k'=true):k=k':=by cases k<;>cases k'<;>first|rfl|cases h
theorem G9{P:Program}{t:TypeId}{n:Nat}(h:P3 P t=some n)(w:World):(sizeOf t).run P w= .ok n w:=by
 unfold P3 at h
 split at h
 ·rename_i i hi;obtain rfl:=Option.some.inj h;simp[sizeOf,typeInfo,hi]
 ·cases h
theorem Ad6{P:Program}{t:TypeId}{z:Value}(h:A28 P t=some z)(w:World):(zeroValue t).run P w= .ok z w:=by
 unfold A28 at h
 split at h
 ·rename_i i hi;simp[zeroValue,typeInfo,hi,h]
 ·cases h
theorem D7{P:Program}{t:TypeId}{d:TypeDesc}(h:P.underlying t=some d)(w:World):(underlying t).run P w= .ok d w:=run_underlying h w
def C47:TypeDesc->Bool| .struct _| .array _ _=>true|_=>false
theorem Aw0{P:Program}{t:TypeId}{d:TypeDesc}(h:P.underlying t=some d)(w:World):(isAgg t).run P w= .ok (C47 d) w:=by
 simp only[isAgg,Sem.run_bind,run_underlying h,Result.andThen_ok]
 cases d<;>rfl
theorem Q9.cell{E w:World}{L:A4}(h:Q9 E w L){b:Nat}{c:Array Value}{T:TypeId}{fz:Nat×Nat}(hm:(b,Obj.cells c T fz)∈L)(i:Nat):w.cell? ⟨b,i,none⟩=c[i]?:=by
 have:=h.blk _ hm
 simp only at this
 simp[World.cell?,this]
theorem O3{ad:Addr}(hs:ad.spot=none)(i:Nat):ad.add i=⟨ad.block,ad.off+i,none⟩:=by
 obtain⟨b,o,s⟩:=ad
 simp only at hs
 subst hs
 unfold Addr.add
 split
 ·rename_i h;subst h;rfl
 ·rfl
theorem D4.cells{E w:World}{L F:A4}(h:Q9 E w (L++F)){ad:Addr}{vs:List Value}(hl:D4 ad vs L): ∀i v,vs[i]?=some v->w.cell? (ad.add i)=some v:=by
 obtain⟨c,T,fz,hm,hs,hc⟩:=hl
 intro i v hv
 rw[O3 hs,h.cell (List.mem_append_left _ hm)]
 exact hc i v hv
theorem Am5: ∀(ls:List Lf) (x:LfVs ls),(Ar1 ls x).length=ls.length
 |[],_=>rfl
 |l::r,x=>by simp[Ar1,Am5 r]
theorem B84{P:Program}{t:TypeId}{sh:Sh}(h:B16 P t=some sh): ∃d n,P.underlying t=some d/\P3 P t=some n/\
    ((∃ls,sh= .agg ls/\ls.length=n/\C47 d=true)\/
     (∃l,sh= .lf l/\n=1/\C47 d=false)):=by
  unfold B16 at h
  split at h
  · rename_i ls n d hl hn hd
    refine⟨d,n,hd,hn,?_⟩
    split at h
    · rename_i fs hb
      obtain rfl:=Option.some.inj h
      exact .inl ⟨ls,rfl,Nat.eq_of_beq_eq_true hb,rfl⟩
    · rename_i k e hb
      obtain rfl:=Option.some.inj h
      exact .inl ⟨ls,rfl,Nat.eq_of_beq_eq_true hb,rfl⟩
    · rename_i hb hns hna
      split at h
      · rename_i l
        obtain rfl:=Option.some.inj h
        refine .inr ⟨l,rfl,(Nat.eq_of_beq_eq_true hb).symm,?_⟩
        unfold C47
        split
        · exact(hns _ rfl).elim
        · exact(hna _ _ rfl).elim
        · rfl
      · cases h
    · cases h
  · cases h
theorem Ar0{P:Program}{t:TypeId}{sh:Sh}(h:B16 P t=some sh)(x:ShV sh){ad:Addr}{w:World}(hc: ∀i v,(sh.vals x)[i]?=some v->w.cell? (ad.add i)=some v):
  (loadVar t ad).run P w= .ok (sh.val x) w:=by
 obtain⟨d,n,hd,hn,h⟩:=B84 h
 unfold loadVar
 rcases h with⟨ls,rfl,rfl,hb⟩|⟨l,rfl,rfl,hb⟩
 ·simp only[Sem.run_bind,Aw0 hd,Result.andThen_ok,hb,if_true,G9 hn]
  have:=run_loadCells_list (P:=P) w ad (Ar1 ls x) hc
  rw[Am5]at this
  simp[this,Sh.val]
 ·simp only[Sem.run_bind,Aw0 hd,Result.andThen_ok,hb,Bool.false_eq_true,if_false]
  have:=hc 0 (l.val x) rfl
  simp only[Addr.add,if_true]at this
  simp[this,Sh.val]
theorem B28{v:Value}(h:S5 v=true):v.oneCell'=true:=by cases v<;>first|rfl|cases h
theorem Be8{w:World}{b i:Nat}{v:Value}{c:Array Value}{T:TypeId}{fz:Nat×Nat}(h:w.heap[b]?=some (.cells c T fz)):
  w.setCell ⟨b,i,none⟩ v={w with heap:=w.heap.setIfInBounds b (.cells (c.setIfInBounds i v) T fz)}:=by
 unfold World.setCell
 congr 1
 apply Array.ext_getElem?
 intro j
 rw[Array.getElem?_modify]
 obtain⟨hb,hg⟩:=Array.getElem?_eq_some_iff.1 h
 by_cases hj:b=j
 ·subst hj
  simp[hb,hg]
 ·rw[if_neg hj,Array.getElem?_setIfInBounds_ne hj]
theorem R4{P:Program}{E:World}{F:A4}{A B:A4}{b:Nat}{T:TypeId}{fz:Nat×Nat}: ∀(vs:List Value) (c:Array Value) (o i:Nat) (w:World),
  vs.all S5=true->Q9 E w ((A++(b,Obj.cells c T fz)::B)++F)->o+i+vs.length<=c.size->(∀j,j<vs.length-> ¬(fz.1<=o+i+j/\o+i+j<fz.2))->
  ∃w',(storeCells ⟨b,o,none⟩ vs i).run P w= .ok () w'/\Q9 E w' ((A++(b,Obj.cells (wr c (o+i) vs) T fz)::B)++F)
 |[],c,o,i,w,_,hw,_,_=>⟨w,rfl,hw⟩
 |v::r,c,o,i,w,hp,hw,hsz,hfz=>by
  simp only[List.all_cons,Bool.and_eq_true]at hp
  simp only[List.length_cons]at hsz
  have hm:(b,Obj.cells c T fz)∈(A++(b,Obj.cells c T fz)::B)++F:=by simp
  have hblk:=hw.blk _ hm
  simp only at hblk
  have hcell:w.cell? ⟨b,o+i,none⟩=some c[o+i]:=by
   rw[hw.cell hm]
   simp[show o+i<c.size by omega]
  have hfr:w.frozen? ⟨b,o+i,none⟩=false:=by
   have:=hfz 0 (by simp)
   obtain⟨lo,hi⟩:=fz
   simp only[World.frozen?,hblk]
   simp only[Nat.add_zero]at this
   rw[Bool.and_eq_false_iff,decide_eq_false_iff_not,decide_eq_false_iff_not]
   omega
  have hw1:Q9 E (w.setCell ⟨b,o+i,none⟩ v) ((A++(b,Obj.cells (c.setIfInBounds (o+i) v) T fz)::B)++F):=by
   rw[Be8 hblk]
   have hw0:Q9 E w (A++(b,Obj.cells c T fz)::(B++F)):=by simpa using hw
   have:=hw0.put (.cells (c.setIfInBounds (o+i) v) T fz)
   simpa using this
  obtain⟨w',hr,hw'⟩:=R4 r (c.setIfInBounds (o+i) v) o (i+1) _ hp.2 hw1 (by simp;omega) (fun j hj=>by
   have:=hfz (j+1) (by simp;omega)
   rw[show o+(i+1)+j=o+i+(j+1) by omega];exact this)
  refine⟨w',?_,?_⟩
  ·simp only[storeCells,Sem.run_bind]
   rw[O3 rfl,run_store P w _ v _ (B28 hp.1),hcell]
   simp only[hfr,Bool.false_eq_true,if_false,Result.andThen_ok]
   exact hr
  ·simp only[wr]
   rw[show o+i+1=o+(i+1) by omega]
   exact hw'
section
variable {P:Program} {n:Nat} {env:Env} {a:Act} {o:Oper} {φs:List HP} {k:Value->List HP->HP} {L:A4}
theorem Bf3{s:Sem Value}{w w':World}{v:Value}(h:s.run P w= .ok v w'):(do pure (.value (<-s)):Sem Next).run P w= .ok (.value v) w':=by simp[h]
theorem run_u{s:Sem Unit}{w w':World}(h:s.run P w= .ok () w'):(do s;pure .skip:Sem Next).run P w= .ok .skip w':=by simp[h]
theorem ok_A{s:Sem Value}(he: ∀w,(execOp a.eval o).run P w=(do pure (.value (<-s)):Sem Next).run P w)(hal:AlV P s)
  (hk: ∀m ob v,AlVG P s m ob v->Sat ((m,ob)::L)->k v [] ((m,ob)::L)):A68 P .A o a L φs k:=by
 have inv: ∀{w w':World} {v:Value},(execOp a.eval o).run P w= .ok (.value v) w'->s.run P w= .ok v w':=by
  intro w w' v h
  rw[he]at h
  simp only[Sem.run_bind]at h
  cases hs:s.run P w with
  |ok v' w1=>rw[hs]at h;simp at h;obtain⟨rfl,rfl⟩:=h;rfl
  |halt x w1=>rw[hs]at h;simp at h
 refine⟨fun w=>?_,fun m ob v hg hs=>?_⟩
 ·obtain⟨ob,v,d,h⟩:=hal w
  exact⟨ob,v,d,by rw[he];exact Bf3 h⟩
 ·obtain⟨w,d,hw,h⟩:=hg
  exact hk m ob v ⟨w,d,hw,inv h⟩ hs
theorem Da7{s:Sem Value}(he: ∀w,(execOp a.eval o).run P w=(do pure (.value (<-s)):Sem Next).run P w){v:Value}{φ:HP}(h1:RdV P s v L)(h2: ∀L',φ L'->RdV P s v L')
  (hk:k v [φ] L):A68 P .R o a L φs k:=
 ⟨v,φ,fun E F w hw=>by rw[he];exact Bf3 (h1 E F w hw),fun L' hφ E F w hw=>by rw[he];exact Bf3 (h2 L' hφ E F w hw),hk⟩
theorem Da6{s:Sem Value}(he: ∀w,(execOp a.eval o).run P w=(do pure (.value (<-s)):Sem Next).run P w)(h:Au5 P s (fun v L'=>(∀φ∈φs,φ L')/\k v [] L') L):A68 P .W o a L φs k:=by
 intro E F w next hw hn
 obtain⟨v,w',L',hr,hw',hφ,hk⟩:=h E F w hw
 unfold Oper.wp
 rw[he,Bf3 hr]
 exact hn _ _ _ hw' ⟨v,rfl,hφ,hk⟩
theorem ok_U{s:Sem Unit}(he: ∀w,(execOp a.eval o).run P w=(do s;pure .skip:Sem Next).run P w)
  (h: ∀E F w,Q9 E w (L++F)-> ∃w' L',s.run P w= .ok () w'/\Q9 E w' (L'++F)/\(∀φ∈φs,φ L')/\k undef [] L'):A68 P .W o a L φs k:=by
 intro E F w next hw hn
 obtain⟨w',L',hr,hw',hφ,hk⟩:=h E F w hw
 unfold Oper.wp
 rw[he,run_u hr]
 exact hn _ _ _ hw' ⟨undef,rfl,hφ,hk⟩
theorem A57(hN:A08 P){f:FuncId}{fn:Func}(hf:P.funcs[f]?=some fn)(hb:fn.body.isSome=true)(args:Array Value)(w:World):
  (callFunc f args).run P w= .ok (.enter f args) w:=by
 have hn : (fn.name == "runtime.NumGoroutine") = false := by
  have:=Array.all_eq_true_iff_forall_mem.1 hN fn (Array.mem_of_getElem? hf)
  simpa using this
 have hn' : ¬ fn.name = "runtime.NumGoroutine" := by simpa using hn
 have hb': ¬fn.body=none:=by intro h;rw[h]at hb;cases hb
 simp[callFunc,hf,hn',hb']
theorem Cc2{f:FuncId}{args:Array Value}(he: ∀w,(execOp a.eval o).run P w= .ok (.enter f args) w){K:Value->HP}(h:CallF P f args L K)
  (hk: ∀v L',K v L'->(∀φ∈φs,φ L')/\k v [] L'):A68 P .W o a L φs k:=by
 intro E F w next hw hn
 unfold Oper.wp
 rw[he]
 rw[Oper.upon_enter]
 refine Calls.mono (h E F w hw) fun e w' ⟨v,L',hv,hw',hK⟩=>?_
 subst hv
 obtain⟨h1,h2⟩:=hk v L' hK
 exact hn _ _ _ hw' ⟨v,rfl,h1,h2⟩
theorem Ay7: ∀{vs:List Value} {kd:IntKind} {ns:List Int},Y8 vs=some (kd,ns)-> ∃k0 n r,vs= .int k0 n::r/\kd=k0/\ ∃ms,ns=n::ms/\
  (∀w,(r.foldlM Builtin.min2 (.int kd n)).run P w= .ok (.int kd (ms.foldl Ab3 n)) w)/\(∀w,(r.foldlM Builtin.max2 (.int kd n)).run P w= .ok (.int kd (ms.foldl Z6 n)) w):=by
 have key: ∀(vs:List Value) (kd:IntKind) (ns:List Int),Y8 vs=some (kd,ns)->
   (∀(k1:IntKind) (n:Int) w,(vs.foldlM Builtin.min2 (.int k1 n)).run P w= .ok (.int k1 (ns.foldl Ab3 n)) w)/\(∀(k1:IntKind) (n:Int) w,(vs.foldlM Builtin.max2 (.int k1 n)).run P w= .ok (.int k1 (ns.foldl Z6 n)) w):=by
  intro vs
  induction vs with
  |nil=>intro kd ns h;simp[Y8]at h
  |cons v r ih=>
   intro kd ns h
   cases v with
   |int k1 n1=>
    cases r with
    |nil=>
     simp only[Y8,Option.some.injEq,Prod.mk.injEq]at h
     obtain⟨_,rfl⟩:=h
     exact⟨fun k n w=>by simp[Builtin.min2,Ab3],fun k n w=>by simp[Builtin.max2,Z6]⟩
    |cons v2 r2=>
     simp only[Y8]at h
     split at h
     ·rename_i k2 ns2 h2
      obtain⟨rfl,rfl⟩:=by simpa using h
      obtain⟨h3,h4⟩:=ih _ _ h2
      refine⟨fun k n w=>?_,fun k n w=>?_⟩
      ·rw[List.foldlM_cons,Sem.run_bind]
       simp only[Builtin.min2,Sem.run_pure,Result.andThen_ok]
       exact h3 k _ w
      ·rw[List.foldlM_cons,Sem.run_bind]
       simp only[Builtin.max2,Sem.run_pure,Result.andThen_ok]
       exact h4 k _ w
     ·cases h
   |_=>cases r<;>simp[Y8]at h
 intro vs kd ns h
 cases vs with
 |nil=>simp[Y8]at h
 |cons v r=>
  cases v with
  |int k0 n=>
   cases r with
   |nil=>
    simp only[Y8,Option.some.injEq,Prod.mk.injEq]at h
    obtain⟨rfl,rfl⟩:=h
    exact⟨_,_,_,rfl,rfl,[],rfl,fun w=>by simp,fun w=>by simp⟩
   |cons v2 r2=>
    simp only[Y8]at h
    split at h
    ·rename_i k2 ns2 h2
     obtain⟨rfl,rfl⟩:=by simpa using h
     obtain⟨h3,h4⟩:=key _ _ _ h2
     exact⟨_,_,_,rfl,rfl,ns2,rfl,fun w=>h3 _ _ w,fun w=>h4 _ _ w⟩
    ·cases h
  |_=>cases r<;>simp[Y8]at h
end
section
variable {P:Program} {n:Nat} {env:Env} {a:Act} {o:Oper} {φs:List HP} {k:Value->List HP->HP} {L:A4}
theorem Ao3(k:IntKind)(op:BinOp)(x y:Int)(w:World)(v:Value)(hx:op≠ .shl/\op≠ .shr)
  (h:(match op with
   | .add=>some (.int k (k.wrap (x+y)))| .sub=>some (.int k (k.wrap (x-y)))| .mul=>some (.int k (k.wrap (x*y)))
   | .quo=>if y=0 then none else some (.int k (k.wrap (x.tdiv y)))| .rem=>if y=0 then none else some (.int k (x.tmod y))
   | .and| .or| .xor| .andNot=>some (.int k (Ak8 op k x y))
   | .eql=>some (.bool (x==y))| .neq=>some (.bool (x !=y))| .lss=>some (.bool (decide (x<y)))| .leq=>some (.bool (decide (x<=y)))
   | .gtr=>some (.bool (decide (x>y)))| .geq=>some (.bool (decide (x≥y)))|_=>none)=some v) (t:TypeId):
  (binOp op t (.int k x) (.int k y)).run P w= .ok v w:=by
 cases op
 case shl=>exact absurd rfl hx.1
 case shr=>exact absurd rfl hx.2
 case quo=>
  simp only at h
  split at h
  ·cases h
  ·rename_i h0
   simp at h
   subst h
   simp[binOp,Op.intDiv,h0]
 case rem=>
  simp only at h
  split at h
  ·cases h
  ·rename_i h0
   simp at h
   subst h
   simp[binOp,Op.intDiv,h0]
 all_goals
  simp only[Option.some.injEq]at h
  subst h
  first
   |(simp[binOp,Op.intArith];done)
   |(simp[binOp,Op.intBits,Ak8];done)
   |(simp[binOp,Op.intCmp];done)
theorem Av9(op:BinOp)(t:TypeId)(x y:Operand)(k k':IntKind)(i j:Int)(w:World):(eqGuard op t x y (.int k i) (.int k' j)).run P w= .ok () w:=by
 cases op<;>simp[eqGuard]
theorem L8(op:BinOp)(t:TypeId)(x y:Operand)(i j:ByteArray)(w:World):(eqGuard op t x y (.string i) (.string j)).run P w= .ok () w:=by
 cases op<;>simp[eqGuard]
theorem Ae7(op:BinOp)(t:TypeId)(x y:Operand)(i j:Bool)(w:World):(eqGuard op t x y (.bool i) (.bool j)).run P w= .ok () w:=by
 cases op<;>simp[eqGuard]
theorem T5(op:BinOp)(t:TypeId)(x y:Operand)(i j:Option Addr)(w:World):(eqGuard op t x y (.pointer i) (.pointer j)).run P w= .ok () w:=by
 cases op<;>simp[eqGuard]
theorem Aj3(op:BinOp)(t:TypeId)(x y:Operand)(i j:Option Addr)(l m c d:Nat)(w:World):(eqGuard op t x y (.slice i l c) (.slice j m d)).run P w= .ok () w:=by
 cases op<;>simp[eqGuard]
theorem Af8(op:BinOp)(t:TypeId)(x y:Operand)(i j:Array Value)(h:P.eqGuardType P.depth t=false)(w:World):(eqGuard op t x y (.agg i) (.agg j)).run P w= .ok () w:=by
 cases op<;>simp[eqGuard,h]
theorem Bb0{op:BinOp}{kx:IntKind}{i j:Int}(hx:op≠ .shl/\op≠ .shr)(h:Br7 op kx i j k L): ∃v,k v [] L/\ ∀(t:TypeId) w,(binOp op t (.int kx i) (.int kx j)).run P w= .ok v w:=by
 cases op
 case shl=>exact absurd rfl hx.1
 case shr=>exact absurd rfl hx.2
 case quo=>obtain⟨h0,hk⟩:=h;exact⟨_,hk,fun t w=>Ao3 kx .quo i j w _ hx (by simp[h0]) t⟩
 case rem=>obtain⟨h0,hk⟩:=h;exact⟨_,hk,fun t w=>Ao3 kx .rem i j w _ hx (by simp[h0]) t⟩
 all_goals first
  |exact⟨_,h,fun t w=>Ao3 kx _ i j w _ hx rfl t⟩
  |exact h.elim
theorem isT{t:TypeId}:(A48 P t=true-> ∃k,P.underlying t=some (.int k))/\(Bi7 P t=true->P.underlying t=some .string)/\(Ay6 P t=true->P.underlying t=some .bool)/\
  (W2 P t=true-> ∃e,P.underlying t=some (.pointer e))/\(Cf7 P t=true-> ∃e,P.underlying t=some (.slice e)):=by
 refine⟨fun h=>?_,fun h=>?_,fun h=>?_,fun h=>?_,fun h=>?_⟩
 ·unfold A48 at h;split at h
  ·exact⟨_,by assumption⟩
  ·cases h
 ·unfold Bi7 at h;split at h
  ·assumption
  ·cases h
 ·unfold Ay6 at h;split at h
  ·assumption
  ·cases h
 ·unfold W2 at h;split at h
  ·exact⟨_,by assumption⟩
  ·cases h
 ·unfold Cf7 at h;split at h
  ·exact⟨_,by assumption⟩
  ·cases h
theorem Al5(d:Nat){t:TypeId}(hu:P.underlying t=some .bool)(i j:Bool)(w:World):(Op.equalIn (d+1) t (.bool i) (.bool j)).run P w= .ok (i==j) w:=by
 simp only[Op.equalIn,Sem.run_bind,D7 hu,Result.andThen_ok,Sem.run_pure]
theorem Aq7(d:Nat){t e:TypeId}(hu:P.underlying t=some (.pointer e))(i:Option Addr)(w:World):(Op.equalIn (d+1) t (.pointer i) (.pointer none)).run P w= .ok i.isNone w:=by
 cases i<;>simp only[Op.equalIn,Sem.run_bind,D7 hu,Result.andThen_ok,Sem.run_pure]<;>rfl
theorem Av8(d:Nat){t e:TypeId}(hu:P.underlying t=some (.slice e))(i:Option Addr)(l c m q:Nat)(w:World):(Op.equalIn (d+1) t (.slice i l c) (.slice none m q)).run P w= .ok i.isNone w:=by
 cases i<;>simp only[Op.equalIn,Sem.run_bind,D7 hu,Result.andThen_ok,Sem.run_pure]<;>rfl
theorem Ao4{t:TypeId}{x y:Value}{r:Bool}{w:World}(hb: ∀(op:BinOp),binOp .eql t x y=(do pure (.bool (<-Op.equal t x y)):Sem Value))(h:(Op.equalIn (9999+1) t x y).run P w= .ok r w):
  (binOp .eql t x y).run P w= .ok (.bool r) w:=by
 rw[hb .eql,Sem.run_bind]
 show((Op.equalIn (9999+1) t x y).run P w).andThen _=_
 rw[h];rfl
theorem Ao2{t:TypeId}{x y:Value}{r:Bool}{w:World}(hb: ∀(op:BinOp),binOp .neq t x y=(do pure (.bool (!(<-Op.equal t x y))):Sem Value))(h:(Op.equalIn (9999+1) t x y).run P w= .ok r w):
  (binOp .neq t x y).run P w= .ok (.bool (!r)) w:=by
 rw[hb .neq,Sem.run_bind]
 show((Op.equalIn (9999+1) t x y).run P w).andThen _=_
 rw[h];rfl
theorem Bb2(hag:N4 n env a){op:BinOp}{xt yt:TypeId}{x y:Operand}(ho:o.op= .binOp op xt x y yt)(h:Br8 P o env op xt x y k L):A68 P (D6 P o) o a L φs k:=by
 have he: ∀w,(execOp a.eval o).run P w=(do let v<-(do eqGuard op xt x y (a.eval x) (a.eval y);binOp op xt (a.eval x) (a.eval y));pure (.value v):Sem Next).run P w:=by
  intro w;simp only[execOp,ho]
 have okP: ∀{v:Value},D6 P o= .P->(∀w,(eqGuard op xt x y (a.eval x) (a.eval y)).run P w= .ok () w)->(∀w,(binOp op xt (a.eval x) (a.eval y)).run P w= .ok v w)->k v [] L->A68 P (D6 P o) o a L φs k:=by
  intro v hc hg hr hk
  rw[hc]
  exact⟨v,fun w=>by rw[he];exact Bf3 (by simp[hg w,hr w]),hk⟩
 unfold Br8 at h
 cases hx:evL env x with
 |none=>simp only[hx]at h;exact h.elim
 |some vx=>
  cases hy:evL env y with
  |none=>simp only[hx,hy]at h;exact h.elim
  |some vy=>
   simp only[hx,hy]at h
   have hx':=hag.ev hx
   have hy':=hag.ev hy
   have hcls: ∀{b:Bool},W2 P xt=b->(b=false\/Bi8 y=true\/(op≠ .eql/\op≠ .neq))->D6 P o= .P:=by
    intro b hb hh
    simp only[D6,ho]
    rw[hb]
    rcases hh with rfl|hn|⟨h1,h2⟩
    ·cases op<;>cases Bi8 y<;>rfl
    ·rw[hn];cases op<;>rfl
    ·split
     ·exact absurd rfl h1
     ·exact absurd rfl h2
     ·rfl
   unfold By2 at h
   split at h
   ·--integers
    rename_i kx i ky j
    have hp:A48 P xt=true->W2 P xt=false:=by
     intro h;obtain⟨kk,hk⟩:=(isT (P:=P)).1 h;simp[W2,hk]
    have fin: ∀{v:Value},A48 P xt=true->(∀w,(binOp op xt (.int kx i) (.int ky j)).run P w= .ok v w)->k v [] L->A68 P (D6 P o) o a L φs k:=fun hi hr hk=>
     okP (hcls (hp hi) (.inl rfl)) (fun w=>by rw[hx',hy'];exact Av9 _ _ _ _ _ _ _ _ _) (fun w=>by rw[hx',hy'];exact hr w) hk
    cases hi:A48 P xt with
    |false=>rw[hi]at h;exact False.elim h
    |true=>
     rw[hi]at h
     by_cases h1:op= .shl
     ·subst h1
      obtain⟨h0,hk⟩:=h
      exact fin hi (fun w=>by simp[binOp,Op.shift,Int.not_lt.2 h0]) hk
     ·by_cases h2:op= .shr
      ·subst h2
       obtain⟨h0,hk⟩:=h
       exact fin hi (fun w=>by simp[binOp,Op.shift,Int.not_lt.2 h0]) hk
      ·cases hke:Bw6 kx ky with
       |false=>rw[hke]at h;exact False.elim (by cases op<;>first|exact h|exact absurd rfl h1|exact absurd rfl h2)
       |true=>
        rw[hke]at h
        obtain rfl:=Ay4 hke
        have h':Br7 op kx i j k L:=by cases op<;>first|exact h|exact absurd rfl h1|exact absurd rfl h2
        obtain⟨v,hk,hr⟩:=Bb0 (P:=P) ⟨h1,h2⟩ h'
        exact fin hi (fun w=>hr _ w) hk
   ·--strings
    rename_i i j
    have hp:Bi7 P xt=true->W2 P xt=false:=by
     intro h;have hk:=(isT (P:=P)).2.1 h;simp[W2,hk]
    cases hi:Bi7 P xt with
    |false=>rw[hi]at h;exact False.elim h
    |true=>
     rw[hi]at h
     cases op
     case add=>
      obtain⟨h0,hk⟩:=h
      refine okP (hcls (hp hi) (.inl rfl)) (fun w=>by rw[hx',hy'];exact L8 _ _ _ _ _ _ _) (fun w=>?_) hk
      rw[hx',hy']
      have: ¬IntKind.i64.max<((i.size+j.size:Nat):Int):=Int.not_lt.2 h0
      simp only[binOp,Op.stringOp,Sem.run_ite]
      rw[if_neg this]
      rfl
     case eql=>exact okP (hcls (hp hi) (.inl rfl)) (fun w=>by rw[hx',hy'];exact L8 _ _ _ _ _ _ _) (fun w=>by rw[hx',hy'];rfl) h
     case neq=>exact okP (hcls (hp hi) (.inl rfl)) (fun w=>by rw[hx',hy'];exact L8 _ _ _ _ _ _ _) (fun w=>by rw[hx',hy'];rfl) h
     case lss=>exact okP (hcls (hp hi) (.inl rfl)) (fun w=>by rw[hx',hy'];exact L8 _ _ _ _ _ _ _) (fun w=>by rw[hx',hy'];rfl) h
     case leq=>exact okP (hcls (hp hi) (.inl rfl)) (fun w=>by rw[hx',hy'];exact L8 _ _ _ _ _ _ _) (fun w=>by rw[hx',hy'];rfl) h
     case gtr=>exact okP (hcls (hp hi) (.inl rfl)) (fun w=>by rw[hx',hy'];exact L8 _ _ _ _ _ _ _) (fun w=>by rw[hx',hy'];rfl) h
     case geq=>exact okP (hcls (hp hi) (.inl rfl)) (fun w=>by rw[hx',hy'];exact L8 _ _ _ _ _ _ _) (fun w=>by rw[hx',hy'];rfl) h
     all_goals exact False.elim h
   ·--bools
    rename_i i j
    have hp:Ay6 P xt=true->W2 P xt=false:=by
     intro h;have hk:=(isT (P:=P)).2.2.1 h;simp[W2,hk]
    cases hi:Ay6 P xt with
    |false=>rw[hi]at h;exact False.elim h
    |true=>
     rw[hi]at h
     have hu:=(isT (P:=P)).2.2.1 hi
     cases op
     case eql=>
      refine okP (hcls (hp hi) (.inl rfl)) (fun w=>by rw[hx',hy'];exact Ae7 _ _ _ _ _ _ _) (fun w=>?_) h
      rw[hx',hy']
      exact Ao4 (fun _=>rfl) (Al5 9999 hu i j w)
     case neq=>
      refine okP (hcls (hp hi) (.inl rfl)) (fun w=>by rw[hx',hy'];exact Ae7 _ _ _ _ _ _ _) (fun w=>?_) h
      rw[hx',hy']
      exact Ao2 (fun _=>rfl) (Al5 9999 hu i j w)
     all_goals exact False.elim h
   ·--pointers
    rename_i i j
    cases hi:W2 P xt with
    |false=>rw[hi]at h;exact False.elim h
    |true=>
     rw[hi]at h
     obtain⟨e,hu⟩:=(isT (P:=P)).2.2.2.1 hi
     cases hn:Bi8 y with
     |true=>
      rw[hn]at h
      cases op
      case eql=>
       cases j with
       |some _=>exact False.elim h
       |none=>
        refine okP (hcls hi (.inr (.inl hn))) (fun w=>by rw[hx',hy'];exact T5 _ _ _ _ _ _ _) (fun w=>?_) h
        rw[hx',hy']
        exact Ao4 (fun _=>rfl) (Aq7 9999 hu i w)
      case neq=>
       cases j with
       |some _=>exact False.elim h
       |none=>
        refine okP (hcls hi (.inr (.inl hn))) (fun w=>by rw[hx',hy'];exact T5 _ _ _ _ _ _ _) (fun w=>?_) h
        rw[hx',hy']
        exact Ao2 (fun _=>rfl) (Aq7 9999 hu i w)
      all_goals exact False.elim h
     |false=>
      rw[hn]at h
      have goR: ∀(op':BinOp),op=op'->(D6 P o= .R)->smR P (binOp op' xt (.pointer i) (.pointer j)) [.lf .bool] (fun r=>k (.bool r.1) [RdV P (binOp op' xt (.pointer i) (.pointer j)) (.bool r.1)]) L->A68 P (D6 P o) o a L φs k:=by
       rintro op' rfl hc ⟨r,hr,hk⟩
       rw[hc]
       refine Da7 (s:=(do eqGuard op xt x y (a.eval x) (a.eval y);binOp op xt (a.eval x) (a.eval y))) he (v:=.bool r.1) ?_ (fun L' h=>?_) hk
       ·intro E F w hw;rw[Sem.run_bind,hx',hy',T5];exact hr E F w hw
       ·intro E F w hw;rw[Sem.run_bind,hx',hy',T5];exact h E F w hw
      cases op
      case eql=>exact goR .eql rfl (by simp only[D6,ho,hi,hn]) h
      case neq=>exact goR .neq rfl (by simp only[D6,ho,hi,hn]) h
      all_goals exact False.elim h
   ·--slices
    rename_i i l c j m d
    have hp:Cf7 P xt=true->W2 P xt=false:=by
     intro h;obtain⟨e,hk⟩:=(isT (P:=P)).2.2.2.2 h;simp[W2,hk]
    cases hi:Cf7 P xt with
    |false=>rw[hi]at h;exact False.elim h
    |true=>
     rw[hi]at h
     obtain⟨e,hk⟩:=(isT (P:=P)).2.2.2.2 hi
     cases op
     case eql=>
      cases j with
      |some _=>exact False.elim h
      |none=>
       refine okP (hcls (hp hi) (.inl rfl)) (fun w=>by rw[hx',hy'];exact Aj3 _ _ _ _ _ _ _ _ _ _ _) (fun w=>?_) h
       rw[hx',hy']
       exact Ao4 (fun _=>rfl) (Av8 9999 hk i l c m d w)
     case neq=>
      cases j with
      |some _=>exact False.elim h
      |none=>
       refine okP (hcls (hp hi) (.inl rfl)) (fun w=>by rw[hx',hy'];exact Aj3 _ _ _ _ _ _ _ _ _ _ _) (fun w=>?_) h
       rw[hx',hy']
       exact Ao2 (fun _=>rfl) (Av8 9999 hk i l c m d w)
     all_goals exact False.elim h
   ·--structs,arrays
    rename_i i j
    cases hi:W2 P xt with
    |true=>rw[hi]at h;exact False.elim (by cases op<;>exact h)
    |false=>
     rw[hi]at h
     cases hg:P.eqGuardType P.depth xt with
     |true=>rw[hg]at h;exact False.elim (by cases op<;>exact h)
     |false=>
      rw[hg]at h
      cases op
      case eql=>
       obtain⟨r,hr,hk⟩:=h
       exact okP (hcls hi (.inl rfl)) (fun w=>by rw[hx',hy'];exact Af8 _ _ _ _ _ _ hg _) (fun w=>by rw[hx',hy'];exact hr w) hk
      case neq=>
       obtain⟨r,hr,hk⟩:=h
       exact okP (hcls hi (.inl rfl)) (fun w=>by rw[hx',hy'];exact Af8 _ _ _ _ _ _ hg _) (fun w=>by rw[hx',hy'];exact hr w) hk
      all_goals exact False.elim h
   ·exact h.elim
end
section
variable {P:Program} {n:Nat} {env:Env} {a:Act} {o:Oper} {φs:List HP} {k:Value->List HP->HP} {L:A4}
theorem Bj0(f:FuncId)(captured args:Array Value):invoke (.fn (.func f) captured) args=callFunc f (args++captured):=rfl
theorem Bk1{c:Call}{f:FuncId}(ho:o.op= .call c)(hc:c.callee= .value (.func f))(w:World):
  (execOp a.eval o).run P w=(callFunc f (c.args.map a.eval)).run P w:=by
 simp only[execOp,ho,resolve,hc,Sem.run_bind,Act.eval,Deferred.ofValue,Sem.run_pure,Result.andThen_ok,Bj0]
 congr 2
 simp
theorem Bb6{c:Call}{x:Operand}{f:FuncId}{first captured:Array Value}(ho:o.op= .call c)(hc:c.callee= .value x)(hx:a.eval x= .func (.func f) first captured)(w:World):
  (execOp a.eval o).run P w=(callFunc f ((first++c.args.map a.eval)++captured)).run P w:=by
 simp only[execOp,ho,resolve,hc,hx,Sem.run_bind,Deferred.ofValue,Sem.run_pure,Result.andThen_ok,Bj0]
theorem Ap7{c:Call}{b:Builtin}(ho:o.op= .call c)(hc:c.callee= .builtin b)(w:World):
  (execOp a.eval o).run P w=(builtin b c.argTypes o.type (c.args.map fun| .const _=>true|_=>false) (c.args.map a.eval)).run P w:=by
 simp only[execOp,ho,resolve,hc,Sem.run_bind,Sem.run_pure,Result.andThen_ok]
 rfl
theorem A23(hN:A08 P)(hag:N4 n env a){c:Call}(ho:o.op= .call c)(h:Bb1 P o env c (Ba4 φs) k L):A68 P (D6 P o) o a L φs k:=by
 unfold Bb1 at h
 cases hargs:evA env c.args with
 |none=>simp only[hargs]at h;exact False.elim h
 |some args=>
  simp only[hargs]at h
  have hargs':=hag.eva hargs
  cases hc:c.callee with
  |invoke r m=>simp only[hc]at h;exact False.elim h
  |value x=>
   have hcls:D6 P o= .W:=by simp only[D6,ho,hc]
   rw[hcls]
   have viaClv: ∀{fn:Fn} {first captured:Array Value} {rs:List Sh} {K:RsV rs->HP},a.eval x= .func fn first captured->clv P fn (first++args) captured rs K L->
     (∀r L',K r L'->(∀φ∈φs,φ L')/\k (Af9 rs r) [] L')->A68 P .W o a L φs k:=by
    rintro fn first captured rs K hx ⟨f,rfl,hf,hcall⟩ hk
    unfold Ae2 at hf
    cases hfn:P.funcs[f]? with
    |none=>rw[hfn]at hf;cases hf
    |some fn=>
     rw[hfn]at hf
     refine Cc2 (f:=f) (args:=(first++args)++captured) (fun w=>?_) hcall fun v L' ⟨r,hv,hK⟩=>by subst hv;exact hk r L' hK
     rw[Bb6 ho hc hx,hargs']
     exact A57 hN hfn hf _ w
   have generic: ∀(hxx: ∀f,x≠ .func f),A68 P .W o a L φs k:=by
    intro hxx
    have h':(match evL env x with
      |some (.func fn first captured)=>match P.underlying o.type with
       |some (.tuple ts)=>match B15 P ts.toList with
        |some rs=>clv P fn (first++args) captured rs fun r=>Ba4 φs (k (Af9 rs r) [])
        |none=>ff
       |_=>match B16 P o.type with
        |some s=>clv P fn (first++args) captured [s] fun r=>Ba4 φs (k (s.val r.1) [])
        |none=>ff
      |_=>ff:HP) L:=by
     rw[hc]at h
     cases x with
     |func f=>exact absurd rfl (hxx f)
     |_=>exact h
    cases hx:evL env x with
    |none=>rw[hx]at h';exact False.elim h'
    |some v=>
     rw[hx]at h'
     have hx':=hag.ev hx
     cases v
     case func fn first captured=>
      have one: ∀(h:(match B16 P o.type with
        |some s=>clv P fn (first++args) captured [s] fun r=>Ba4 φs (k (s.val r.1) [])
        |none=>ff:HP) L),A68 P .W o a L φs k:=by
       intro h
       cases hs:B16 P o.type with
       |none=>rw[hs]at h;exact False.elim h
       |some s=>rw[hs]at h;exact viaClv hx' h fun r L' hK=>K0 hK
      cases hu:P.underlying o.type with
      |none=>rw[hu]at h';exact one h'
      |some d=>
       rw[hu]at h'
       cases d
       case tuple ts=>
        cases hs:B15 P ts.toList with
        |none=>simp only[hs]at h';exact False.elim h'
        |some rs=>simp only[hs]at h';exact viaClv hx' h' fun r L' hK=>K0 hK
       all_goals exact one h'
     all_goals exact False.elim h'
   cases x with
   |func f=>
    rw[hc]at h
    simp only at h
    cases hfn:P.funcs[f]? with
    |none=>rw[hfn]at h;exact False.elim h
    |some fn=>
     rw[hfn]at h
     simp only at h
     cases hb:fn.body.isSome with
     |false=>rw[hb]at h;exact False.elim h
     |true=>
      rw[hb]at h
      cases hs:B15 P fn.resultTypes.toList with
      |none=>rw[hs]at h;exact False.elim h
      |some rs=>
       rw[hs]at h
       refine Cc2 (f:=f) (args:=args) (fun w=>?_) h fun v L' ⟨r,hv,hK⟩=>by subst hv;exact K0 hK
       rw[Bk1 ho hc,hargs']
       exact A57 hN hfn hb _ w
   |tmp t=>exact generic (by intro f e;cases e)
   |const v=>exact generic (by intro f e;cases e)
   |global g=>exact generic (by intro f e;cases e)
  |builtin b=>
   have heb:=fun w=>Ap7 (P:=P) (a:=a) ho hc w
   rw[hargs']at heb
   rw[hc]at h
   simp only at h
   have okP: ∀{v:Value},D6 P o= .P->(∀w,(builtin b c.argTypes o.type (c.args.map fun| .const _=>true|_=>false) args).run P w= .ok (.value v) w)->k v [] L->A68 P (D6 P o) o a L φs k:=by
    intro v hcl hr hk
    rw[hcl]
    exact⟨v,fun w=>by rw[heb];exact hr w,hk⟩
   cases b
   case len=>
    have hargT:args=args.toList.toArray:=by simp
    have hct:c.argTypes=c.argTypes.toList.toArray:=by simp
    generalize hal:args.toList=al at h
    generalize htl:c.argTypes.toList=tl at h
    rw[hal]at hargT
    rw[htl]at hct
    cases tl with
    |nil=>exact False.elim (by cases al with|nil=>exact h|cons x r=>cases r<;>cases x<;>exact h)
    |cons t tr=>
     cases tr with
     |cons t2 tr=>exact False.elim (by cases al with|nil=>exact h|cons x r=>cases r<;>cases x<;>exact h)
     |nil=>
      cases al with
      |nil=>exact False.elim h
      |cons x r=>
       cases r with
       |cons x2 r=>exact False.elim (by cases x<;>exact h)
       |nil=>
        subst hargT
        have hclsNM:(∀kk e,P.underlying t≠some (.map kk e))->D6 P o= .P:=by
         intro hm
         simp only[D6,ho,hc,htl]
        have other:(match P.underlying t with
          |some (.array n _)=>k (.int .i64 n) []
          |some (.pointer u)=>match P.underlying u with|some (.array n _)=>k (.int .i64 n) []|_=>ff
          |_=>ff:HP) L->A68 P (D6 P o) o a L φs k:=by
         intro h
         cases hu:P.underlying t with
         |none=>rw[hu]at h;exact False.elim h
         |some d=>
          rw[hu]at h
          cases d
          case array m e=>
           refine okP (hclsNM (by rw[hu];intro _ _ h;cases h)) (fun w=>?_) h
           rw[hct]
           cases x<;>simp[builtin,Builtin.len_,D7 hu,goInt]
          case pointer u=>
           cases hu2:P.underlying u with
           |none=>simp only[hu2]at h;exact False.elim h
           |some d2=>
            simp only[hu2]at h
            cases d2
            case array m e=>
             refine okP (hclsNM (by rw[hu];intro _ _ h;cases h)) (fun w=>?_) h
             rw[hct]
             cases x<;>simp[builtin,Builtin.len_,D7 hu,D7 hu2,goInt]
            all_goals exact False.elim h
          all_goals exact False.elim h
        cases x
        case string s=>
         cases hu:P.underlying t with
         |none=>simp only[hu]at h;exact False.elim h
         |some d=>
          simp only[hu]at h
          cases d
          case string=>
           refine okP (hclsNM (by rw[hu];intro _ _ h;cases h)) (fun w=>?_) h
           rw[hct]
           simp[builtin,Builtin.len_,D7 hu,goInt]
          all_goals exact False.elim h
        case slice b l cp=>
         cases hu:P.underlying t with
         |none=>simp only[hu]at h;exact False.elim h
         |some d=>
          simp only[hu]at h
          cases d
          case slice e=>
           refine okP (hclsNM (by rw[hu];intro _ _ h;cases h)) (fun w=>?_) h
           rw[hct]
           simp[builtin,Builtin.len_,D7 hu,goInt]
          all_goals exact False.elim h
        case map r=>
         cases hu:P.underlying t with
         |none=>simp only[hu]at h;exact False.elim h
         |some d=>
          simp only[hu]at h
          cases d
          case map kk e=>
           obtain⟨r,hr,hk⟩:=h
           have hcl:D6 P o= .R:=by simp only[D6,ho,hc,htl,hu]
           rw[hcl]
           exact Da7 (s:=Builtin.len_ c.argTypes o.type #[.map _]) (fun w=>by rw[heb];rfl) hr (fun L' h=>h) hk
          all_goals exact False.elim h
        all_goals exact other h
   case cap=>
    have hargT:args=args.toList.toArray:=by simp
    have hct:c.argTypes=c.argTypes.toList.toArray:=by simp
    generalize hal:args.toList=al at h
    generalize htl:c.argTypes.toList=tl at h
    rw[hal]at hargT
    rw[htl]at hct
    have hcl:D6 P o= .P:=by simp only[D6,ho,hc]
    cases al with
    |nil=>exact False.elim h
    |cons x r=>
     cases r with
     |cons x2 r=>exact False.elim (by cases x<;>exact h)
     |nil=>
      cases x
      case slice b l cp=>
       cases tl with
       |nil=>exact False.elim h
       |cons t tr=>
        cases tr with
        |cons t2 tr=>exact False.elim h
        |nil=>
         subst hargT
         cases hu:P.underlying t with
         |none=>simp only[hu]at h;exact False.elim h
         |some d=>
          simp only[hu]at h
          cases d
          case slice e=>
           refine okP hcl (fun w=>?_) h
           rw[hct]
           simp[builtin,Builtin.cap_,D7 hu,goInt]
          all_goals exact False.elim h
      all_goals exact False.elim h
   case min=>
    have hcl:D6 P o= .P:=by simp only[D6,ho,hc]
    cases hi:Y8 args.toList with
    |none=>simp only[hi]at h;exact False.elim h
    |some p=>
     obtain⟨kd,ns⟩:=p
     obtain⟨k0,m,r,hvs,rfl,ms,rfl,hmin,hmax⟩:=Ay7 (P:=P) hi
     simp only[hi]at h
     exact okP hcl (fun w=>Bf3 (by simp only[Builtin.min_,hvs];exact hmin w)) h
   case max=>
    have hcl:D6 P o= .P:=by simp only[D6,ho,hc]
    cases hi:Y8 args.toList with
    |none=>simp only[hi]at h;exact False.elim h
    |some p=>
     obtain⟨kd,ns⟩:=p
     obtain⟨k0,m,r,hvs,rfl,ms,rfl,hmin,hmax⟩:=Ay7 (P:=P) hi
     simp only[hi]at h
     exact okP hcl (fun w=>Bf3 (by simp only[Builtin.max_,hvs];exact hmax w)) h
   case append=>
    have hcl:D6 P o= .W:=by simp only[D6,ho,hc]
    rw[hcl]
    refine Da6 (s:=Builtin.append_ c.argTypes o.type args) (fun w=>by rw[heb];rfl) fun E F w hw=>?_
    obtain⟨v,w',L',hr,hw',r,rfl,hk⟩:=h E F w hw
    exact⟨_,w',L',hr,hw',K0 hk⟩
   case copy=>
    have hcl:D6 P o= .W:=by simp only[D6,ho,hc]
    rw[hcl]
    refine Da6 (s:=Builtin.copy_ c.argTypes o.type args) (fun w=>by rw[heb];rfl) fun E F w hw=>?_
    obtain⟨v,w',L',hr,hw',r,rfl,hk⟩:=h E F w hw
    exact⟨_,w',L',hr,hw',K0 hk⟩
   case clear=>
    have hcl:D6 P o= .W:=by simp only[D6,ho,hc]
    rw[hcl]
    refine Da6 (s:=Builtin.clear_ c.argTypes o.type args) (fun w=>by rw[heb];rfl) fun E F w hw=>?_
    obtain⟨v,w',L',hr,hw',r,rfl,hk⟩:=h E F w hw
    exact⟨_,w',L',hr,hw',K0 hk⟩
   case delete=>
    have hcl:D6 P o= .W:=by simp only[D6,ho,hc]
    rw[hcl]
    refine Da6 (s:=Builtin.delete_ c.argTypes o.type args) (fun w=>by rw[heb];rfl) fun E F w hw=>?_
    obtain⟨v,w',L',hr,hw',r,rfl,hk⟩:=h E F w hw
    exact⟨_,w',L',hr,hw',K0 hk⟩
   all_goals exact False.elim h
end
section
variable {P:Program} {n:Nat} {env:Env} {a:Act} {o:Oper} {φs:List HP} {k:Value->List HP->HP} {L:A4}
theorem AlV.pure{s:Sem Value}(h: ∀w:World,∃ob v,s.run P w= .ok v {w with heap:=w.heap.push ob}):AlV P s:=fun w=>by
 obtain⟨ob,v,h⟩:=h w;exact⟨ob,v,w.drawn,h⟩
theorem A79{w:World}{ob ob':Obj}{d d':Nat}(h:({w with heap:=w.heap.push ob,drawn:=d}:World)={w with heap:=w.heap.push ob',drawn:=d'}):ob=ob':=by
 have:w.heap.push ob=w.heap.push ob':=congrArg World.heap h
 exact(Array.push_eq_push.1 this).1
theorem Bh1{s:Sem Value}(hc:D6 P o= .A)(he: ∀w,(execOp a.eval o).run P w=(do pure (.value (<-s)):Sem Next).run P w){ob:Obj}{f:Nat->Value}
  (hs: ∀w,s.run P w= .ok (f w.heap.size) {w with heap:=w.heap.push ob}) (hk: ∀m,Sat ((m,ob)::L)->k (f m) [] ((m,ob)::L)):A68 P (D6 P o) o a L φs k:=by
 rw[hc]
 refine ok_A he (.pure fun w=>⟨ob,_,hs w⟩) fun m ob' v ⟨w,d,hw,hr⟩ hsat=>?_
 rw[hs w]at hr
 injection hr with h1 h2
 have h3:=A79 (d:=w.drawn) h2
 subst h3 h1 hw
 exact hk _ hsat
theorem Bb3{s:TypeId}{f off:Nat}(h:Bb4 P s f=some off){ad:Addr}(w:World):(Instr.fieldAt s (.pointer (some ad)) f).run P w= .ok (.pointer (some (ad.add off))) w:=by
 unfold Bb4 at h
 split at h
 ·rename_i fs hu
  split at h
  ·rename_i fd hfd
   split at h
   ·rename_i m hm
    obtain rfl:=Option.some.inj h
    simp[Instr.fieldAt,D7 hu,hfd,Instr.sureAddr,fieldPlace,G9 hm]
   ·cases h
  ·cases h
 ·cases h
theorem Bp9{t:TypeId}{cs:Array Value}{off:Nat}{v:Value}(h:Cb9 P t cs off=some v)(w:World):(part t cs off).run P w= .ok v w:=by
 unfold Cb9 at h
 split at h
 ·rename_i fs m hu hs
  obtain rfl:=Option.some.inj h
  simp[part,Aw0 hu,C47,G9 hs]
 ·rename_i q e m hu hs
  obtain rfl:=Option.some.inj h
  simp[part,Aw0 hu,C47,G9 hs]
 ·rename_i d m h1 h2 hu hs
  have hd:C47 d=false:=by
   unfold C47
   split
   ·exact(h1 _ rfl).elim
   ·exact(h2 _ _ rfl).elim
   ·rfl
  simp[part,Aw0 hu,hd,h]
 ·cases h
theorem Bq8: ∀(fs:List Field) (pl:List (Nat×Nat)),fs.mapM (fun f=>match P3 P f.type with|some n=>some (f.offset,n)|none=>none)=some pl->
  ∀w,(fs.mapM (m:=Sem) fun f=>do pure (f.offset,<-sizeOf f.type)).run P w= .ok pl w:=by
 intro fs
 induction fs with
 |nil=>intro pl h w;simp at h;subst h;simp
 |cons f r ih=>
  intro pl h w
  simp only[List.mapM_cons,Option.bind_eq_bind,Option.bind_eq_some_iff]at h
  obtain⟨p,hp,ps,hps,he⟩:=h
  obtain rfl:=Option.some.inj he
  split at hp
  ·rename_i m hm
   obtain rfl:=Option.some.inj hp
   simp only[List.mapM_cons,Sem.run_bind,G9 hm,Sem.run_pure,Result.andThen_ok,ih ps hps]
  ·cases hp
theorem Af7(isSlice:Bool){len cap:Nat}{lo hi mx:Option Value}{l h m:Int}(hlo:B60 0 lo=some l)(hhi:B60 len hi=some h)(hmx:B60 cap mx=some m)
  (hno:mx.isSome=true->hi.isSome=true) (hb:0<=l/\l<=h/\h<=m/\m<=cap) (w:World):(Instr.sliceBounds isSlice len cap lo hi mx).run P w= .ok (l.toNat,h.toNat,m.toNat) w:=by
 obtain⟨h0,h1,h2,h3⟩:=hb
 have hbd: ∀(k:IntKind) (i:Int) (y:Nat) (code:BoundsCode),0<=i->i<=y->(Instr.sliceBound (.int k i) y code).run P w= .ok i.toNat w:=by
  intro k i y code h1 h2
  simp[Instr.sliceBound,asIntOf,h1,h2]
 have eqOI: ∀{d:Int} {v:Option Value} {r:Int},B60 d v=some r->(v=none/\r=d)\/ ∃k,v=some (.int k r):=by
  intro d v r h
  unfold B60 at h
  split at h
  ·simp at h;exact .inl ⟨rfl,h.symm⟩
  ·simp at h;subst h;exact .inr ⟨_,rfl⟩
  ·cases h
 rcases eqOI hmx with⟨rfl,rfl⟩|⟨km,rfl⟩
 ·rcases eqOI hhi with⟨rfl,rfl⟩|⟨kh,rfl⟩
  ·rcases eqOI hlo with⟨rfl,rfl⟩|⟨kl,rfl⟩
   ·simp[Instr.sliceBounds]
   ·simp[Instr.sliceBounds,hbd kl l len _ h0 (by omega)]
  ·rcases eqOI hlo with⟨rfl,rfl⟩|⟨kl,rfl⟩
   ·simp[Instr.sliceBounds,hbd kh h cap _ (by omega) (by omega)]
   ·have:=hbd kl l h.toNat .sliceB h0 (by omega)
    simp[Instr.sliceBounds,hbd kh h cap _ (by omega) (by omega),this]
 ·rcases eqOI hhi with⟨rfl,rfl⟩|⟨kh,rfl⟩
  ·exact absurd (hno rfl) (by decide)
  ·have hh:=hbd kh h m.toNat .slice3B (by omega) (by omega)
   rcases eqOI hlo with⟨rfl,rfl⟩|⟨kl,rfl⟩
   ·simp[Instr.sliceBounds,hbd km m cap _ (by omega) (by omega),hh]
   ·have:=hbd kl l h.toNat .slice3C h0 (by omega)
    simp[Instr.sliceBounds,hbd km m cap _ (by omega) (by omega),hh,this]
end
section
variable {P:Program} {n:Nat} {env:Env} {a:Act} {o:Oper} {φs:List HP} {k:Value->List HP->HP} {L:A4}
theorem Bd0{s:Sem Value}(hc:D6 P o= .P)(he: ∀w,(execOp a.eval o).run P w=(do pure (.value (<-s)):Sem Next).run P w){v:Value}(hs: ∀w,s.run P w= .ok v w)(hk:k v [] L):A68 P (D6 P o) o a L φs k:=by
 rw[hc];exact⟨v,fun w=>by rw[he];exact Bf3 (hs w),hk⟩
theorem K6{M:HP}{L:A4}(h:M L): ∃M':HP,M'=M/\M' L:=⟨M,rfl,h⟩
theorem Bj7(hN:A08 P){X:Nat->Option Sh}(hag:N4 n env a)(h:G1 P X o env (Ba4 φs) k L):A68 P (D6 P o) o a L φs k:=by
 cases ho:o.op with
 |move x=>
  simp only[G1,ho]at h
  cases hx:evL env x with
  |none=>rw[hx]at h;exact False.elim h
  |some v=>
   rw[hx]at h
   have hc:D6 P o= .P:=by simp only[D6,ho]
   rw[hc]
   exact⟨v,fun w=>by simp only[execOp,ho,hag.ev hx];rfl,h⟩
 |assign x=>
  simp only[G1,ho]at h
  cases hx:evL env x with
  |none=>rw[hx]at h;exact False.elim h
  |some v=>
   rw[hx]at h
   have hc:D6 P o= .P:=by simp only[D6,ho]
   rw[hc]
   exact⟨v,fun w=>by simp only[execOp,ho,hag.ev hx];rfl,h⟩
 |pick c x y=>
  simp only[G1,ho]at h
  have hc:D6 P o= .P:=by simp only[D6,ho]
  have hq:=K6 h;clear h;obtain⟨M,hM,h⟩:=hq
  split at hM<;>subst hM
  ·rename_i t va vb h1 h2 h3
   rw[hc]
   have e1:=hag.ev h1
   have e2:=hag.ev h2
   have e3:=hag.ev h3
   rcases Ba6 h with⟨rfl,h⟩|⟨rfl,h⟩
   ·exact⟨va,fun w=>by simp[execOp,ho,e1,e2,asBool],h⟩
   ·exact⟨vb,fun w=>by simp[execOp,ho,e1,e3,asBool],h⟩
  ·exact False.elim h
 |alloc t=>
  simp only[G1,ho]at h
  cases hz:A28 P t with
  |none=>rw[hz]at h;exact False.elim h
  |some z=>
   rw[hz]at h
   refine Bh1 (by simp only[D6,ho]) (s:=Instr.alloc t true (.tuple #[])) (fun w=>by simp only[execOp,ho]) (ob:=.cells z.cells t) (f:=fun m=>.pointer (some ⟨m,0,none⟩)) (fun w=>?_) h
   simp[Instr.alloc,Ad6 hz,newVar,newRow]
 |box t x=>
  simp only[G1,ho]at h
  cases hx:evL env x with
  |none=>rw[hx]at h;exact False.elim h
  |some v=>
   rw[hx]at h
   refine Bh1 (by simp only[D6,ho]) (s:=Instr.box t (a.eval x)) (fun w=>by simp only[execOp,ho]) (ob:=.cells v.cells t) (f:=fun m=>.pointer (some ⟨m,0,none⟩)) (fun w=>?_) h
   rw[hag.ev hx]
   simp[Instr.box,newVar,newRow]
 |build t parts=>
  simp only[G1,ho]at h
  have hc:D6 P o= .P:=by simp only[D6,ho]
  have hq:=K6 h;clear h;obtain⟨M,hM,h⟩:=hq
  split at hM<;>subst hM
  ·rename_i ps z fs h1 h2 h3
   have hq:=K6 h;clear h;obtain⟨M,hM,h⟩:=hq
   split at hM<;>subst hM
   ·rename_i pl hpl
    have hq:=K6 h;clear h;obtain⟨M,hM,h⟩:=hq
    split at hM<;>subst hM
    ·rename_i cs hcs
     refine Bd0 hc (s:=Instr.build t (parts.map fun(i,x)=>(i,a.eval x))) (fun w=>by simp only[execOp,ho]) (fun w=>?_) h
     have hpl': ∀w,(fs.mapM (m:=Sem) fun f=>do pure (f.offset,<-sizeOf f.type)).run P w= .ok pl.toArray w:=by
      intro w
      rw[Array.mapM_eq_mapM_toList]
      rw[Sem.run_map,Bq8 fs.toList pl hpl w]
      rfl
     simp only[Instr.build,Sem.run_bind,Ad6 h2,Result.andThen_ok,D7 h3,hpl',hag.evpa h1]
     have:Instr.fill (fun x=>pl.toArray[x]?) z.cells ps=some cs:=by simpa using hcs
     rw[this]
     rfl
    ·exact False.elim h
   ·exact False.elim h
  ·rename_i ps z q e h1 h2 h3
   have hq:=K6 h;clear h;obtain⟨M,hM,h⟩:=hq
   split at hM<;>subst hM
   ·rename_i m hm
    have hq:=K6 h;clear h;obtain⟨M,hM,h⟩:=hq
    split at hM<;>subst hM
    ·rename_i cs hcs
     refine Bd0 hc (s:=Instr.build t (parts.map fun(i,x)=>(i,a.eval x))) (fun w=>by simp only[execOp,ho]) (fun w=>?_) h
     simp only[Instr.build,Sem.run_bind,Ad6 h2,Result.andThen_ok,D7 h3,G9 hm,hag.evpa h1,hcs]
     rfl
    ·exact False.elim h
   ·exact False.elim h
  ·exact False.elim h
 |buildSlice t len parts=>
  simp only[G1,ho]at h
  have hc:D6 P o= .A:=by simp only[D6,ho]
  have hq:=K6 h;clear h;obtain⟨M,hM,h⟩:=hq
  split at hM<;>subst hM
  ·rename_i ps e h1 h3
   have hq:=K6 h;clear h;obtain⟨M,hM,h⟩:=hq
   split at hM<;>subst hM
   ·rename_i m z hm hz
    have hq:=K6 h;clear h;obtain⟨M,hM,h⟩:=hq
    split at hM<;>subst hM
    ·rename_i cs hle hne hcs
     have hne':len*m≠0:=Nat.ne_of_beq_eq_false hne
     have hle': ¬16777216<len*m:=Nat.not_lt.2 (Nat.le_of_ble_eq_true hle)
     refine Bh1 hc (s:=Instr.buildSlice t len (parts.map fun(i,x)=>(i,a.eval x))) (fun w=>by simp only[execOp,ho]) (ob:=.cells cs e) (f:=fun b=>.slice (some ⟨b,0,none⟩) len len) (fun w=>?_) h
     simp only[Instr.buildSlice,Sem.run_bind,D7 h3,Result.andThen_ok,G9 hm,Sem.run_ite,hag.evpa h1]
     rw[if_neg (by simpa using hle'),if_neg hne']
     simp only[Sem.run_pure,Result.andThen_ok,Sem.run_bind,Ad6 hz,hcs]
     simp[newRow]
    ·have hq:=K6 h;clear h;obtain⟨M,hM,h⟩:=hq
     split at hM<;>subst hM
     ·rename_i hb hps
      have hl0:len=0:=Nat.eq_of_beq_eq_true hb
      subst hl0
      refine Bh1 hc (s:=Instr.buildSlice t 0 (parts.map fun(i,x)=>(i,a.eval x))) (fun w=>by simp only[execOp,ho]) (ob:=.cells #[] e) (f:=fun b=>.slice (some ⟨b,0,none⟩) 0 0) (fun w=>?_) h
      simp only[Instr.buildSlice,Sem.run_bind,D7 h3,Result.andThen_ok,G9 hm,Sem.run_ite,hag.evpa h1,Nat.zero_mul]
      have h0:(Array.range 0:Array Nat)=#[]:=Array.ext' (by simp)
      simp[newRow,Instr.fill,h0]
     ·exact False.elim h
   ·exact False.elim h
  ·exact False.elim h
 |load t x=>
  simp only[G1,ho]at h
  have hc:D6 P o= .R:=by simp only[D6,ho]
  have hq:=K6 h;clear h;obtain⟨M,hM,h⟩:=hq
  split at hM<;>subst hM
  ·rename_i p sh h1 h2
   obtain⟨ad,rfl,y,hl,hk⟩:=V4 h
   rw[hc]
   have hr: ∀L',D4 ad (sh.vals y) L'->RdV P (Instr.loadAt t (a.eval x)) (sh.val y) L':=by
    intro L' hl E F w hw
    rw[hag.ev h1]
    simp only[Instr.loadAt,Instr.sureAddr,Sem.run_bind,Sem.run_pure,Result.andThen_ok]
    exact Ar0 h2 y (hl.cells hw)
   exact Da7 (s:=Instr.loadAt t (a.eval x)) (fun w=>by simp only[execOp,ho]) (hr L hl) hr hk
  ·exact False.elim h
 |store t x y=>
  simp only[G1,ho]at h
  have hc:D6 P o= .W:=by simp only[D6,ho]
  have hq:=K6 h;clear h;obtain⟨M,hM,h⟩:=hq
  split at hM<;>subst hM
  ·rename_i p v m h1 h2 h3
   have hq:=K6 h;clear h;obtain⟨M,hM,h⟩:=hq
   split at hM<;>subst hM
   ·rename_i hb
    simp only[Bool.and_eq_true]at hb
    obtain⟨ad,rfl,A,B,c,T,fz,rfl,hs,hsz,hfz,hk⟩:=V4 h
    rw[hc]
    refine ok_U (s:=Instr.storeAt t (a.eval x) (a.eval y)) (fun w=>by simp only[execOp,ho]) fun E F w hw=>?_
    obtain⟨b,off,sp⟩:=ad
    simp only at hs hsz hfz hk hw
    subst hs
    have hlen:v.cells.size=m:=by have:=Nat.eq_of_beq_eq_true hb.2;simpa using this
    obtain⟨w',hr,hw'⟩:=R4 (P:=P) v.cells.toList c off 0 w hb.1 hw (by simpa using hsz) (by simpa using hfz)
    refine⟨w',_,?_,hw',K0 hk⟩
    rw[hag.ev h1,hag.ev h2]
    simp only[Instr.storeAt,Instr.sureAddr,Sem.run_bind,Sem.run_pure,Result.andThen_ok,storeVar,G9 h3,hlen]
    simpa using hr
   ·exact False.elim h
  ·exact False.elim h
 |ready g=>simp only[G1,ho]at h;exact False.elim h
 |waits g=>simp only[G1,ho]at h;exact False.elim h
 |nilCheck x=>
  simp only[G1,ho]at h
  have hc:D6 P o= .P:=by simp only[D6,ho]
  have hq:=K6 h;clear h;obtain⟨M,hM,h⟩:=hq
  split at hM<;>subst hM
  ·rename_i p h1
   obtain⟨ad,rfl,hk⟩:=V4 h
   rw[hc]
   exact⟨_,fun w=>by simp only[execOp,ho,hag.ev h1];rfl,hk⟩
  ·exact False.elim h
 |binOp op xt x y yt=>
  simp only[G1,ho]at h
  exact Bb2 hag ho h
 |unOp op t x=>
  simp only[G1,ho]at h
  have hc:D6 P o= .P:=by simp only[D6,ho]
  have hq:=K6 h;clear h;obtain⟨M,hM,h⟩:=hq
  split at hM<;>subst hM
  ·rename_i b h1
   exact Bd0 hc (s:=Op.unary .not (a.eval x)) (fun w=>by simp only[execOp,ho]) (fun w=>by rw[hag.ev h1];rfl) h
  ·rename_i kd m h1
   exact Bd0 hc (s:=Op.unary .neg (a.eval x)) (fun w=>by simp only[execOp,ho]) (fun w=>by rw[hag.ev h1];rfl) h
  ·rename_i kd m h1
   exact Bd0 hc (s:=Op.unary .xor (a.eval x)) (fun w=>by simp only[execOp,ho]) (fun w=>by rw[hag.ev h1];rfl) h
  ·exact False.elim h
 |convert src dst x=>
  simp only[G1,ho]at h
  have hq:=K6 h;clear h;obtain⟨M,hM,h⟩:=hq
  split at hM<;>subst hM
  ·rename_i k1 m k2 kd h1 h2 h3
   have hc:D6 P o= .P:=by simp only[D6,ho,h2,h3]
   refine Bd0 hc (s:=convert src dst (a.eval x)) (fun w=>by simp only[execOp,ho]) (fun w=>?_) h
   rw[hag.ev h1]
   simp[convert,D7 h2,D7 h3,Conv.intToInt]
  ·rename_i s h1 h2 h3
   have hc:D6 P o= .P:=by simp only[D6,ho,h2,h3]
   refine Bd0 hc (s:=convert src dst (a.eval x)) (fun w=>by simp only[execOp,ho]) (fun w=>?_) h
   rw[hag.ev h1]
   simp[convert,D7 h2,D7 h3]
  ·rename_i s e h1 h2 h3
   have hc:D6 P o= .A:=by simp only[D6,ho,h2,h3]
   have hq:=K6 h;clear h;obtain⟨M,hM,h⟩:=hq
   split at hM<;>subst hM
   ·rename_i h4
    have hconv: ∀w,(convert src dst (a.eval x)).run P w=(Conv.stringToBytes e s).run P w:=by
     intro w;rw[hag.ev h1];simp[convert,D7 h2,D7 h3,D7 h4]
    have hgood:A68 P .A o a L φs k:=by
     refine ok_A (s:=convert src dst (a.eval x)) (fun w=>by simp only[execOp,ho]) (fun w=>?_) fun m ob v hg hs=>?_
     ·obtain⟨ob,v,d,hr⟩:=h.1 w
      exact⟨ob,v,d,by rw[hconv];exact hr⟩
     ·obtain⟨w,d,hw,hr⟩:=hg
      rw[hconv]at hr
      obtain⟨r,rfl,hk⟩:=h.2 m ob v ⟨w,d,hw,hr⟩ hs
      exact hk
    rw[hc];exact hgood
   ·exact False.elim h
  ·rename_i b l c e1 e2 h1 h2 h3
   have hc:D6 P o= .W:=by simp only[D6,ho,h2,h3]
   rw[hc]
   have e1:=hag.ev h1
   refine Da6 (s:=convert src dst (.slice b l c)) (fun w=>by simp only[execOp,ho,e1]) fun E F w hw=>?_
   obtain⟨v,w',L',hr,hw',r,rfl,hk⟩:=h E F w hw
   exact⟨_,w',L',hr,hw',K0 hk⟩
  ·rename_i b l c e h1 h2 h3
   have hc:D6 P o= .R:=by simp only[D6,ho,h2,h3]
   have hq:=K6 h;clear h;obtain⟨M,hM,h⟩:=hq
   split at hM<;>subst hM
   ·rename_i h4
    have hconv: ∀w,(convert src dst (a.eval x)).run P w=(Conv.bytesToString (.slice b l c)).run P w:=by
     intro w;rw[hag.ev h1];simp[convert,D7 h2,D7 h3,D7 h4]
    obtain⟨r,hr,hk⟩:=h
    rw[hc]
    refine Da7 (s:=convert src dst (a.eval x)) (fun w=>by simp only[execOp,ho]) (v:=.string r.1) (fun E F w hw=>?_) (fun L' h E F w hw=>?_) hk
    ·rw[hconv];exact hr E F w hw
    ·rw[hconv];exact h E F w hw
   ·exact False.elim h
  ·exact False.elim h
 |sliceToArrayPointer t x=>simp only[G1,ho]at h;exact False.elim h
 |makeInterface t x=>simp only[G1,ho]at h;exact False.elim h
 |makeFunc fn first captured=>
  simp only[G1,ho]at h
  have hc:D6 P o= .P:=by simp only[D6,ho]
  have hq:=K6 h;clear h;obtain⟨M,hM,h⟩:=hq
  split at hM<;>subst hM
  ·rename_i f1 c1 h1 h2
   exact Bd0 hc (s:=Instr.makeFunc fn (first.map a.eval) (captured.map a.eval)) (fun w=>by simp only[execOp,ho]) (fun w=>by rw[hag.eva h1,hag.eva h2];rfl) h
  ·exact False.elim h
 |makeMap t r=>
  cases r with
  |some r=>simp only[G1,ho]at h;exact False.elim h
  |none=>
   simp only[G1,ho]at h
   refine Bh1 (by simp only[D6,ho]) (s:=Instr.makeMap t none) (fun w=>by simp only[execOp,ho,Option.map_none]) (ob:=.map #[] 0) (f:=fun m=>.map (some m)) (fun w=>?_) h
   simp[Instr.makeMap]
 |makeChan t s=>simp only[G1,ho]at h;exact False.elim h
 |makeSlice t l c=>
  simp only[G1,ho]at h
  have hc:D6 P o= .A:=by simp only[D6,ho]
  have hq:=K6 h;clear h;obtain⟨M,hM,h⟩:=hq
  split at hM<;>subst hM
  ·rename_i kl nl kc nc h1 h2
   have he1:=hag.ev h1
   have he2:=hag.ev h2
   rw[hc]
   refine ok_A (s:=Instr.makeSlice t (.int kl nl) (.int kc nc)) (fun w=>by simp only[execOp,ho,he1,he2]) h.1 fun m ob v hg hs=>?_
   obtain⟨r,rfl,hk⟩:=h.2 m ob v hg hs
   exact hk
  ·exact False.elim h
 |slice t x lo hi mx=>
  simp only[G1,ho]at h
  have hc:D6 P o= .P:=by simp only[D6,ho]
  have hq:=K6 h;clear h;obtain⟨M,hM,h⟩:=hq
  split at hM<;>subst hM
  ·rename_i s lo' hi' h1 h2 h3 h4 h5
   have hq:=K6 h;clear h;obtain⟨M,hM,h⟩:=hq
   split at hM<;>subst hM
   ·rename_i l hh e1 e2
    obtain⟨hb,hk⟩:=h
    refine Bd0 hc (s:=Instr.sliceAt t (a.eval x) (lo.map a.eval) (hi.map a.eval) (mx.map a.eval)) (fun w=>by simp only[execOp,ho]) (fun w=>?_) hk
    rw[hag.ev h1,hag.evo h2,hag.evo h3,hag.evo h4]
    have:=Af7 (P:=P) false (len:=s.size) (cap:=s.size) (mx:=none) (m:=s.size) e1 e2 rfl (by intro h;cases h) (by omega) w
    simp[Instr.sliceAt,Instr.slice,D7 h5,this]
   ·exact False.elim h
  ·rename_i b l0 c0 lo' hi' mx' e h1 h2 h3 h4 h5
   have hq:=K6 h;clear h;obtain⟨M,hM,h⟩:=hq
   split at hM<;>subst hM
   ·exact False.elim h
   ·rename_i hi' mx' _ _ _ _ _ _ sz l hh m e1 e2 hno e3 e4
    obtain⟨hb,hk⟩:=h
    refine Bd0 hc (s:=Instr.sliceAt t (a.eval x) (lo.map a.eval) (hi.map a.eval) (mx.map a.eval)) (fun w=>by simp only[execOp,ho]) (fun w=>?_) hk
    rw[hag.ev h1,hag.evo h2,hag.evo h3,hag.evo h4]
    have hno':mx'.isSome=true->hi'.isSome=true:=by
     intro hm
     cases hi' with
     |some _=>rfl
     |none=>
      cases mx' with
      |none=>cases hm
      |some v=>exact(hno v rfl rfl).elim
    have:=Af7 (P:=P) true (len:=l0) (cap:=c0) e2 e3 e4 hno' hb w
    simp[Instr.sliceAt,Instr.slice,D7 h5,this,G9 e1,P1]
   ·exact False.elim h
  ·rename_i p lo' hi' q e h1 h2 h3 h4 h5
   have hq:=K6 h;clear h;obtain⟨M,hM,h⟩:=hq
   split at hM<;>subst hM
   ·rename_i sz l hh e1 e2 e3
    obtain⟨ad,rfl,hb,hk⟩:=V4 h
    refine Bd0 hc (s:=Instr.sliceAt t (a.eval x) (lo.map a.eval) (hi.map a.eval) (mx.map a.eval)) (fun w=>by simp only[execOp,ho]) (fun w=>?_) hk
    rw[hag.ev h1,hag.evo h2,hag.evo h3,hag.evo h4]
    have:=Af7 (P:=P) false (len:=q) (cap:=q) (mx:=none) (m:=q) e2 e3 rfl (by intro h;cases h) (by simpa using hb) w
    simp[Instr.sliceAt,D7 h5,this,G9 e1,Instr.sureAddr,P1]
    split<;>rfl
   ·exact False.elim h
  ·exact False.elim h
 |fieldAddr s x f=>
  simp only[G1,ho]at h
  have hc:D6 P o= .P:=by simp only[D6,ho]
  have hq:=K6 h;clear h;obtain⟨M,hM,h⟩:=hq
  split at hM<;>subst hM
  ·rename_i p off h1 h2
   obtain⟨ad,rfl,hk⟩:=V4 h
   exact Bd0 hc (s:=Instr.fieldAt s (a.eval x) f) (fun w=>by simp only[execOp,ho]) (fun w=>by rw[hag.ev h1];exact Bb3 h2 w) hk
  ·exact False.elim h
 |field s x f=>
  simp only[G1,ho]at h
  have hc:D6 P o= .P:=by simp only[D6,ho]
  have hq:=K6 h;clear h;obtain⟨M,hM,h⟩:=hq
  split at hM<;>subst hM
  ·rename_i cs fs h1 h2
   have hq:=K6 h;clear h;obtain⟨M,hM,h⟩:=hq
   split at hM<;>subst hM
   ·rename_i fd h3
    have hq:=K6 h;clear h;obtain⟨M,hM,h⟩:=hq
    split at hM<;>subst hM
    ·rename_i v h4
     refine Bd0 hc (s:=Instr.field s (a.eval x) f) (fun w=>by simp only[execOp,ho]) (fun w=>?_) h
     rw[hag.ev h1]
     simp only[Instr.field,Sem.run_bind,D7 h2,Result.andThen_ok,h3,asAgg,Sem.run_pure]
     exact Bp9 h4 w
    ·exact False.elim h
   ·exact False.elim h
  ·exact False.elim h
 |indexAddr t x i=>
  simp only[G1,ho]at h
  have hc:D6 P o= .P:=by simp only[D6,ho]
  have hq:=K6 h;clear h;obtain⟨M,hM,h⟩:=hq
  split at hM<;>subst hM
  ·rename_i b l c kk j e h1 h2 h3
   have hq:=K6 h;clear h;obtain⟨M,hM,h⟩:=hq
   split at hM<;>subst hM
   ·rename_i sz h4
    obtain⟨ad,rfl,hb,hk⟩:=V4 h
    refine Bd0 hc (s:=Instr.indexAt t (a.eval x) (a.eval i)) (fun w=>by simp only[execOp,ho]) (fun w=>?_) hk
    rw[hag.ev h1,hag.ev h2]
    simp[Instr.indexAt,asIntOf,D7 h3,hb.1,hb.2,G9 h4]
   ·exact False.elim h
  ·rename_i p kk j q e h1 h2 h3
   have hq:=K6 h;clear h;obtain⟨M,hM,h⟩:=hq
   split at hM<;>subst hM
   ·rename_i sz h4
    obtain⟨ad,rfl,hb,hk⟩:=V4 h
    refine Bd0 hc (s:=Instr.indexAt t (a.eval x) (a.eval i)) (fun w=>by simp only[execOp,ho]) (fun w=>?_) hk
    rw[hag.ev h1,hag.ev h2]
    simp[Instr.indexAt,asIntOf,D7 h3,hb.1,hb.2,G9 h4,Instr.sureAddr]
   ·exact False.elim h
  ·exact False.elim h
 |index t x i=>
  simp only[G1,ho]at h
  have hc:D6 P o= .P:=by simp only[D6,ho]
  have hq:=K6 h;clear h;obtain⟨M,hM,h⟩:=hq
  split at hM<;>subst hM
  ·rename_i s kk j h1 h2 h3
   obtain⟨hb,hk⟩:=h
   refine Bd0 hc (s:=Instr.index t (a.eval x) (a.eval i)) (fun w=>by simp only[execOp,ho]) (fun w=>?_) hk
   rw[hag.ev h1,hag.ev h2]
   have hj:j.toNat<s.size:=by omega
   have hj':j.toNat<s.data.size:=hj
   simp only[Instr.index,asIntOf,Sem.run_bind,Sem.run_pure,Result.andThen_ok,D7 h3,hb.1,if_true]
   rw[getElem?_pos s j.toNat hj]
   have:Ck4 s j=(s[j.toNat].toNat:Int):=by
    unfold Ck4
    rw[Array.getD_eq_getD_getElem?,Array.getElem?_eq_getElem hj']
    rfl
   rw[this]
   rfl
  ·rename_i cs kk j q e h1 h2 h3
   have hq:=K6 h;clear h;obtain⟨M,hM,h⟩:=hq
   split at hM<;>subst hM
   ·obtain⟨r,hr,hk⟩:=h
    exact Bd0 hc (s:=Instr.index t (a.eval x) (a.eval i)) (fun w=>by simp only[execOp,ho]) (fun w=>by rw[hag.ev h1,hag.ev h2];exact hr w) hk
   ·exact False.elim h
  ·exact False.elim h
 |lookup t x i ok=>
  simp only[G1,ho]at h
  have hc:D6 P o= .R:=by simp only[D6,ho]
  rw[hc]
  have hq:=K6 h;clear h;obtain⟨M,hM,h⟩:=hq
  split at hM<;>subst hM
  ·rename_i vm vi kk e h1 h2 h3
   have e1:=hag.ev h1
   have e2:=hag.ev h2
   have hq:=K6 h;clear h;obtain⟨M,hM,h⟩:=hq
   split at hM<;>subst hM
   ·rename_i s h4
    obtain⟨r,hr,hk⟩:=h
    exact Da7 (s:=Instr.lookup t vm vi false) (fun w=>by simp only[execOp,ho,e1,e2]) hr (fun L' h=>h) hk
   ·rename_i s h4
    obtain⟨r,hr,hk⟩:=h
    exact Da7 (s:=Instr.lookup t vm vi true) (fun w=>by simp only[execOp,ho,e1,e2]) hr (fun L' h=>h) hk
   ·exact False.elim h
  ·exact False.elim h
 |mapUpdate t m i x=>
  simp only[G1,ho]at h
  have hc:D6 P o= .W:=by simp only[D6,ho]
  rw[hc]
  have hq:=K6 h;clear h;obtain⟨M,hM,h⟩:=hq
  split at hM<;>subst hM
  ·rename_i vm vi vx h1 h2 h3
   refine ok_U (s:=Instr.mapUpdate t (a.eval m) (a.eval i) (a.eval x)) (fun w=>by simp only[execOp,ho]) fun E F w hw=>?_
   rw[hag.ev h1,hag.ev h2,hag.ev h3]
   obtain⟨w',L',hr,hw',hk⟩:=h E F w hw
   exact⟨w',L',hr,hw',K0 hk⟩
  ·exact False.elim h
 |insert t m i x=>
  simp only[G1,ho]at h
  have hc:D6 P o= .W:=by simp only[D6,ho]
  rw[hc]
  have hq:=K6 h;clear h;obtain⟨M,hM,h⟩:=hq
  split at hM<;>subst hM
  ·rename_i vm vi vx h1 h2 h3
   refine ok_U (s:=Instr.mapUpdate t (a.eval m) (a.eval i) (a.eval x)) (fun w=>by simp only[execOp,ho]) fun E F w hw=>?_
   rw[hag.ev h1,hag.ev h2,hag.ev h3]
   obtain⟨w',L',hr,hw',hk⟩:=h E F w hw
   exact⟨w',L',hr,hw',K0 hk⟩
  ·exact False.elim h
 |mapEntry t m i=>simp only[G1,ho]at h;exact False.elim h
 |entryStore t m s x=>simp only[G1,ho]at h;exact False.elim h
 |range t x=>
  simp only[G1,ho]at h
  have hc:D6 P o= .W:=by simp only[D6,ho]
  rw[hc]
  have hq:=K6 h;clear h;obtain⟨M,hM,h⟩:=hq
  split at hM<;>subst hM
  ·rename_i v h1
   have e1:=hag.ev h1
   refine Da6 (s:=Instr.range t v) (fun w=>by simp only[execOp,ho,e1]) fun E F w hw=>?_
   obtain⟨v,w',L',hr,hw',r,rfl,hk⟩:=h E F w hw
   exact⟨_,w',L',hr,hw',K0 hk⟩
  ·exact False.elim h
 |next it str=>
  simp only[G1,ho]at h
  have hc:D6 P o= .W:=by simp only[D6,ho]
  rw[hc]
  have hq:=K6 h;clear h;obtain⟨M,hM,h⟩:=hq
  split at hM<;>subst hM
  ·rename_i p h1
   have e1:=hag.ev h1
   refine Da6 (s:=Instr.next (.pointer p) str o.type) (fun w=>by simp only[execOp,ho,e1]) fun E F w hw=>?_
   obtain⟨v,w',L',hr,hw',⟨rfl,hk⟩|⟨x,y,rfl,hk⟩⟩:=h E F w hw
   ·exact⟨_,w',L',hr,hw',K0 hk⟩
   ·exact⟨_,w',L',hr,hw',K0 hk⟩
  ·exact False.elim h
 |entry it=>
  simp only[G1,ho]at h
  have hc:D6 P o= .R:=by simp only[D6,ho]
  rw[hc]
  have hq:=K6 h;clear h;obtain⟨M,hM,h⟩:=hq
  split at hM<;>subst hM
  ·rename_i p h1
   have e1:=hag.ev h1
   obtain⟨x,y,hr,hk⟩:=h
   exact Da7 (s:=Instr.entry (.pointer p)) (fun w=>by simp only[execOp,ho,e1]) hr (fun L' h=>h) hk
  ·exact False.elim h
 |typeAssert x t u ok=>simp only[G1,ho]at h;exact False.elim h
 |extract x i=>
  simp only[G1,ho]at h
  have hc:D6 P o= .P:=by simp only[D6,ho]
  have hq:=K6 h;clear h;obtain⟨M,hM,h⟩:=hq
  split at hM<;>subst hM
  ·rename_i vs h1
   have hq:=K6 h;clear h;obtain⟨M,hM,h⟩:=hq
   split at hM<;>subst hM
   ·rename_i v h2
    refine Bd0 hc (s:=Instr.extract (a.eval x) i) (fun w=>by simp only[execOp,ho]) (fun w=>?_) h
    rw[hag.ev h1]
    simp[Instr.extract,h2]
   ·exact False.elim h
  ·exact False.elim h
 |call c=>
  simp only[G1,ho]at h
  exact A23 hN hag ho h
 |go c=>simp only[G1,ho]at h;exact False.elim h
 |defer c=>simp only[G1,ho]at h;exact False.elim h
 |panic x=>simp only[G1,ho]at h;exact False.elim h
 |send c x=>simp only[G1,ho]at h;exact False.elim h
 |recv t c ok=>simp only[G1,ho]at h;exact False.elim h
 |select cs b=>simp only[G1,ho]at h;exact False.elim h
end
section
variable {P:Program} {n:Nat}
def Mod(S:List Nat)(a a':Act):Prop:= ∀t,t∉S->a'.tmps[t]?=a.tmps[t]?
theorem Mod.refl(S:List Nat)(a:Act):Mod S a a:=fun _ _=>rfl
theorem Mod.trans{S:List Nat}{a b c:Act}(h:Mod S a b)(k:Mod S b c):Mod S a c:=fun t ht=>(k t ht).trans (h t ht)
theorem Mod.mono{S S':List Nat}{a b:Act}(hs: ∀t∈S,t∈S')(h:Mod S a b):Mod S' a b:=fun t ht=>h t fun hm=>ht (hs t hm)
theorem R7(s:Nat)(v:Value)(r:Env)(t:Nat):A97 ((s,v)::r) t=if s=t then some v else A97 r t:=by
 simp only[A97]
 cases h:Nat.beq s t with
 |true=>rw[if_pos (Nat.eq_of_beq_eq_true h)]
 |false=>rw[if_neg (Nat.ne_of_beq_eq_false h)]
theorem N4.cons{env:Env}{a:Act}(h:N4 n env a){t:Nat}{v:Value}(hv:a.tmps[t]?=some v):N4 n ((t,v)::env) a:=by
 refine⟨h.size,h.defers,fun s u hs=>?_⟩
 rw[R7]at hs
 split at hs
 ·rename_i e;subst e;rw[hv];exact hs
 ·exact h.at' s u hs
theorem N4.put{env:Env}{a:Act}(h:N4 n env a){d:Nat}(hd:d<n)(v:Value):N4 n ((d,v)::env) (a.put (some d) v):=by
 refine⟨by simpa[Act.put]using h.size,h.defers,fun t u ht=>?_⟩
 rw[R7]at ht
 split at ht
 ·rename_i e;subst e
  obtain rfl:=Option.some.inj ht
  simp[Act.put,h.size,hd]
 ·rename_i e
  simp only[Act.put,Array.getElem?_setIfInBounds_ne e]
  exact h.at' t u ht
theorem Bg2{env:Env}{dst:Option Tmp}{v:Value}{k:Env->HP}{L:A4}{a:Act}(hag:N4 n env a)(h:C92 n env dst v k L): ∃env',N4 n env' (a.put dst v)/\k env' L:=by
 cases dst with
 |none=>exact⟨env,hag,h⟩
 |some d=>
  simp only[C92]at h
  have hq:=K6 h;clear h;obtain⟨M,hM,h⟩:=hq
  split at hM<;>subst hM
  ·rename_i hd
   exact⟨_,hag.put (Nat.le_of_ble_eq_true hd) v,h⟩
  ·exact False.elim h
theorem Mod.put{S:List Nat}{a0 a:Act}(h:Mod S a0 a){dst:Option Tmp}(hd: ∀d,dst=some d->d∈S)(v:Value):Mod S a0 (a.put dst v):=by
 intro t ht
 cases dst with
 |none=>exact h t ht
 |some d=>
  have hne:d≠t:=fun e=>ht (e▸hd d rfl)
  simp only[Act.put,Array.getElem?_setIfInBounds_ne hne]
  exact h t ht
def Cm2(P:Program)(Tf:List (Nat×HP))(Ts:A13):Prop:= ∀q∈Ts,∃p∈Tf,p.1=q.1/\ ∀L',p.2 L'->RdS P q.2.1 L' q.2.2
theorem An1(hN:A08 P){ops:Array Oper}{anc:Nat->Nat->Bool}{drawn:Bool}{cls:Nat->Cls}(hcls: ∀i o,ops[i]?=some o->cls i=D6 P o)
  (hanc:drawn=false-> ∀x i,anc x i=true) {a0:Act} {K:Env->HP}: ∀(l:List Nat) (env:Env) (Tf:List (Nat×HP)) (Ts:A13) (a:Act) (L:A4),
  N4 n env a->(drawn=true->Cm2 P Tf Ts)->Mod (C38 ops) a0 a->Ad9 P n ops anc drawn l env Tf K L->
  An7 P ops anc cls (fun a' L'=>Mod (C38 ops) a0 a'/\ ∃env',N4 n env' a'/\K env' L') l a Ts L:=by
 intro l
 induction l with
 |nil=>exact fun env Tf Ts a L hag _ hmod h=>⟨L,List.Perm.refl _,hmod,env,hag,h⟩
 |cons i r ih=>
  intro env Tf Ts a L hag hp hmod h
  simp only[Ad9]at h
  simp only[An7]
  cases ho:ops[i]? with
  |none=>simp only[ho]at h;exact False.elim h
  |some o=>
   simp only[ho]at h⊢
   have hdst: ∀d,o.dst=some d->d∈C38 ops:=by
    intro d hd
    have:o∈ops.toList:=by simpa using Array.mem_of_getElem? ho
    exact List.mem_filterMap.2 ⟨o,this,hd⟩
   rw[hcls i o ho]
   have run: ∀env,N4 n env a->J7 ops o a=true->G1 P (Cw9 P ops.toList o.dst) o env (Ba4 ((Tf.filter fun q=> !anc q.1 i).map (·.2))) (fun v φs=>
     C92 n env o.dst v fun env'=>Ad9 P n ops anc drawn r env' (C98 drawn i φs Tf) K) L->
     Q4 P ops anc (D6 P o) i o (An7 P ops anc cls (fun a' L'=>Mod (C38 ops) a0 a'/\ ∃env',N4 n env' a'/\K env' L') r) a Ts L:=by
    intro env hag hw h
    have h1:=Bj7 hN hag h
    have next: ∀(a':Act) (v:Value) (φs:List HP) (Ts':A13) (L':A4),a'=a.put o.dst v->(drawn=true->Cm2 P (φs.map (i, ·)++Tf) Ts')->
      C92 n env o.dst v (fun env'=>Ad9 P n ops anc drawn r env' (C98 drawn i φs Tf) K) L'->
      An7 P ops anc cls (fun a' L'=>Mod (C38 ops) a0 a'/\ ∃env',N4 n env' a'/\K env' L') r a' Ts' L':=by
     rintro a' v φs Ts' L' rfl hp' hk
     obtain⟨env',hag',hk⟩:=Bg2 hag hk
     refine ih env' _ Ts' _ L' hag' (fun hd=>?_) (hmod.put hdst v) hk
     have:=hp' hd
     rw[hd]
     exact this
    unfold A68 at h1
    cases hc:D6 P o with
    |P=>
     rw[hc]at h1
     obtain⟨v,hr,hk⟩:=h1
     exact⟨v,.inl ⟨hw,hr⟩,next _ v [] Ts L rfl (fun hd=>by simpa using hp hd) hk⟩
    |R=>
     rw[hc]at h1
     obtain⟨v,φ,hr,hφ,hk⟩:=h1
     refine .inr ⟨hw,v,hr,next _ v [φ] _ L rfl (fun hd q hq=>?_) hk⟩
     rcases List.mem_cons.1 hq with rfl|hq
     ·exact⟨(i,φ),by simp,rfl,hφ⟩
     ·obtain⟨p,hp1,hp2⟩:=hp hd q hq
      exact⟨p,by simp[hp1],hp2⟩
    |A=>
     rw[hc]at h1
     obtain⟨hal,hk⟩:=h1
     exact .inr ⟨hw,hal,fun m ob v hg hs=>next _ v [] Ts _ rfl (fun hd=>by simpa using hp hd) (hk m ob v hg hs)⟩
    |W=>
     rw[hc]at h1
     refine .inr ⟨hw,OpF.mono h1 fun a' L' _ ⟨v,ha',hφ,hk⟩=>⟨fun q hq hqa=>?_,next a' v [] Ts L' ha' (fun hd=>by simpa using hp hd) hk⟩⟩
     cases hd:drawn with
     |false=>rw[hanc hd]at hqa;cases hqa
     |true=>
      obtain⟨p,hp1,hp2,hp3⟩:=hp hd q hq
      refine hp3 L' (hφ _ (List.mem_map.2 ⟨p,List.mem_filter.2 ⟨hp1,?_⟩,rfl⟩))
      rw[hp2,hqa];rfl
   have skip: ∀env,N4 n env a->J7 ops o a=false->C92 n env o.dst undef (fun env'=>Ad9 P n ops anc drawn r env' Tf K) L->
     Q4 P ops anc (D6 P o) i o (An7 P ops anc cls (fun a' L'=>Mod (C38 ops) a0 a'/\ ∃env',N4 n env' a'/\K env' L') r) a Ts L:=by
    intro env hag hw h
    obtain⟨env',hag',hk⟩:=Bg2 hag h
    have hS:W5 ops o (An7 P ops anc cls (fun a' L'=>Mod (C38 ops) a0 a'/\ ∃env',N4 n env' a'/\K env' L') r) a Ts L:=
     ⟨hw,ih env' Tf Ts _ L hag' hp (hmod.put hdst undef) hk⟩
    cases D6 P o
    ·exact hS.toP
    ·exact .inl hS
    ·exact .inl hS
    ·exact .inl hS
   cases hg:o.guard with
   |none=>
    rw[hg]at h
    refine run env hag ?_ h
    unfold J7 Region.wanted
    rw[hg]
   |some p=>
    obtain⟨j,want⟩:=p
    rw[hg]at h
    simp only at h
    cases hoj:ops[j]? with
    |none=>simp only[hoj]at h;exact False.elim h
    |some oj=>
     simp only[hoj]at h
     cases hd:oj.dst with
     |none=>simp only[hd]at h;exact False.elim h
     |some d=>
      simp only[hd]at h
      have hq:=K6 h;clear h;obtain⟨M,hM,h⟩:=hq
      split at hM<;>subst hM
      ·rename_i t hl
       have ht:=hag.at' d _ hl
       have hwant:J7 ops o a=(t==want):=by
        unfold J7 Region.wanted
        rw[hg]
        simp[yielded,hoj,hd,ht]
       rcases Ba6 h with⟨rfl,h⟩|⟨rfl,h⟩
       ·have hag':=hag.cons ht
        cases want
        ·exact skip _ hag' hwant h
        ·exact run _ hag' hwant h
       ·have hag':=hag.cons ht
        cases want
        ·exact run _ hag' hwant h
        ·exact skip _ hag' hwant h
      ·rename_i vs hl
       have ht:=hag.at' d _ hl
       refine skip _ hag ?_ h
       unfold J7 Region.wanted
       rw[hg]
       simp[yielded,hoj,hd,ht]
      ·exact False.elim h
theorem Lf.of_spec: ∀{l:Lf} {v:Value} {x:LfV l},l.of v=some x->l.val x=v:=by
 intro l v x h
 cases l<;>cases v<;>simp only[Lf.of]at h<;>first|(cases h;done)|skip
 ·rename_i k k' m
  split at h
  ·rename_i hk
   obtain rfl:=Ay4 hk
   obtain rfl:=Option.some.inj h
   rfl
  ·cases h
 all_goals (obtain rfl:=Option.some.inj h;rfl)
theorem Ap3: ∀{ls:List Lf} {vs:List Value} {x:LfVs ls},Ce3 ls vs=some x->Ar1 ls x=vs
 |[],[],_,_=>rfl
 |[],_::_,_,h=>by cases h
 |_::_,[],_,h=>by cases h
 |l::r,v::vs,x,h=>by
  simp only[Ce3]at h
  split at h
  ·rename_i y z hy hz
   obtain rfl:=Option.some.inj h
   simp[Ar1,Lf.of_spec hy,Ap3 hz]
  ·cases h
theorem Sh.of_spec{s:Sh}{v:Value}{x:ShV s}(h:s.of v=some x):s.val x=v:=by
 cases s with
 |lf l=>exact Lf.of_spec h
 |agg ls=>
  cases v<;>simp only[Sh.of]at h<;>first|(cases h;done)|skip
  rename_i cs
  simp[Sh.val,Ap3 h]
theorem Bq9(A B:Env)(t:Nat):A97 (A++B) t=match A97 A t with|some v=>some v|none=>A97 B t:=by
 induction A with
 |nil=>rfl
 |cons p r ih=>
  obtain⟨s,v⟩:=p
  rw[List.cons_append,R7,R7]
  split
  ·rfl
  ·exact ih
theorem Bh7(l:List Nat)(t:Nat):memN l t=true↔t∈l:=by
 induction l with
 |nil=>simp[memN]
 |cons x r ih=>
  simp only[memN]
  cases h:Nat.beq x t with
  |true=>have:=Nat.eq_of_beq_eq_true h;subst this;simp
  |false=>have:=Nat.ne_of_beq_eq_false h;simp[ih,Ne.symm this]
theorem Ct7(mods:List Nat)(env:Env)(t:Nat){v:Value}(h:A97 (Ar5 mods env) t=some v):A97 env t=some v/\t∉mods:=by
 induction env with
 |nil=>cases h
 |cons p r ih=>
  obtain⟨s,u⟩:=p
  simp only[Ar5]at h
  cases hm:memN mods s with
  |true=>
   rw[hm]at h
   obtain⟨h1,h2⟩:=ih h
   refine⟨?_,h2⟩
   rw[R7,if_neg]
   ·exact h1
   ·rintro rfl;exact h2 ((Bh7 _ _).1 hm)
  |false=>
   rw[hm]at h
   simp only at h
   rw[R7]at h
   split at h
   ·rename_i e;subst e
    refine⟨by rw[R7,if_pos rfl];exact h,fun hin=>?_⟩
    rw[(Bh7 _ _).2 hin]at hm;cases hm
   ·rename_i e
    obtain⟨h1,h2⟩:=ih h
    exact⟨by rw[R7,if_neg e];exact h1,h2⟩
theorem A30{env':Env}{a:Act}(hag:N4 n env' a): ∀(cs:List (Nat×Sh)) {x:RsV (cs.map (·.2))},Bh2 env' cs=some x-> ∀t v,A97 (Be3 cs x) t=some v->a.tmps[t]?=some v
 |[],_,_,t,v,h=>by cases h
 | (s,sh)::r,x,hx,t,v,h=>by
  simp only[Bh2]at hx
  split at hx
  ·rename_i y z hy hz
   obtain rfl:=Option.some.inj hx
   simp only[Be3]at h
   rw[R7]at h
   split at h
   ·rename_i e;subst e
    obtain rfl:=Option.some.inj h
    split at hy
    ·rename_i u hu
     rw[Sh.of_spec hy]
     exact hag.at' _ _ hu
    ·cases hy
   ·exact A30 hag r hz t v h
  ·cases hx
theorem N4.carry{env env':Env}{a a':Act}{mods:List Nat}(hag:N4 n env a)(hag':N4 n env' a')(hmod:Mod mods a a'){cs:List (Nat×Sh)}{x:RsV (cs.map (·.2))}(hx:Bh2 env' cs=some x):
  N4 n (Be3 cs x++Ar5 mods env) a':=by
 refine⟨hag'.size,hag'.defers,fun t v h=>?_⟩
 rw[Bq9]at h
 cases ht:A97 (Be3 cs x) t with
 |some u=>rw[ht]at h;obtain rfl:=Option.some.inj h;exact A30 hag' cs hx t _ ht
 |none=>
  rw[ht]at h
  obtain⟨h1,h2⟩:=Ct7 mods env t h
  rw[hmod t h2]
  exact hag.at' t v h1
def Dg4(n:Nat)(Kn:Env->HP)(Kx:Nat->Env->HP)(Kr:Env->HP):Exit->Act->HP
 | .normal,a,L=> ∃env,N4 n env a/\Kn env L
 | .exit id,a,L=> ∃env,N4 n env a/\Kx id env L
 | .ret,a,L=> ∃env,N4 n env a/\Kr env L
 |_,_,_=>False
theorem N2.scope{c:Code}{Q:Exit->Act->HP}{a:Act}{L:A4}(h:N2 P c Q a L)(hn: ∀l a L,¬Q (.goto l) a L):N2 P (.scope c) Q a L:=fun E F w hw=>
 wp_scope_straight (wp_mono (h E F w hw) fun e a' w' hq=>by
  cases e
  case goto l=>obtain⟨L',_,hq⟩:=hq;exact(hn l a' L' hq).elim
  all_goals exact hq)
theorem N2.label{l:Nat}{Q:Exit->Act->HP}{a:Act}{L:A4}(h:Q .normal a L):N2 P (.label l) Q a L:=fun _ _ _ hw=>wp_label ⟨L,hw,h⟩
theorem B41(hN:A08 P)(hm:P.follows .mixedOrders=true)(H:D5): ∀(c:Code) (b:Nat) (Kn:Env->HP) (Kx:Nat->Env->HP) (Kr:Env->HP) (env:Env) (a:Act) (L:A4),
  N4 n env a->A24 P H n c b Kn Kx Kr env L->N2 P c (fun e a' L'=>Mod (Aa2 c) a a'/\Dg4 n Kn Kx Kr e a' L') a L:=by
 intro c
 induction c with
 |skip=>exact fun b Kn Kx Kr env a L hag h=>N2.skip ⟨.refl _ _,env,hag,h⟩
 |region id ops draw=>
  intro b Kn Kx Kr env a L hag h
  cases draw with
  |false=>
   simp only[A24]at h
   refine N2.region (fun i=>match ops[i]? with|some o=>D6 P o|none=>.P) ?_
   exact An1 hN (drawn:=false) (fun i o ho=>by simp only[ho]) (fun _ _ _=>rfl) _ env [] [] a L hag (by intro h;cases h) (.refl _ _) h
  |true=>
   simp only[A24]at h
   cases hpl:B42 H.plans id with
   |none=>rw[hpl]at h;exact False.elim h
   |some π=>
    rw[hpl]at h
    have hq:=K6 h;clear h;obtain⟨M,hM,h⟩:=hq
    simp only at hM
    split at hM<;>subst hM
    ·rename_i hok
     refine N2.region_any hm _ π hok ?_
     exact An1 hN (drawn:=true) (fun i o ho=>by simp only[ho]) (by intro h;cases h) _ env [] [] a L hag (fun _ q hq=>by cases hq) (.refl _ _) h
    ·exact False.elim h
 |seq x y ihx ihy=>
  intro b Kn Kx Kr env a L hag h
  simp only[A24]at h
  refine N2.seq ?_
  have rest: ∀{e:Exit} {a':Act} {L':A4},e≠ .normal->Mod (Aa2 x) a a'->Dg4 n Kn Kx Kr e a' L'->Mod (Aa2 (x.seq y)) a a'/\Dg4 n Kn Kx Kr e a' L':=
   fun _ hmod hp=>⟨hmod.mono fun t ht=>List.mem_append_left _ ht,hp⟩
  cases hj:joinH H.joins y with
  |none=>
   rw[hj]at h
   refine(ihx b _ Kx Kr env a L hag h).mono fun e a' L' ⟨hmod,hp⟩=>?_
   cases e with
   |normal=>
    obtain⟨env',hag',hk⟩:=hp
    exact(ihy b Kn Kx Kr env' a' L' hag' hk).mono fun e2 a2 L2 ⟨hmod2,hp2⟩=>
     ⟨(hmod.mono fun t ht=>List.mem_append_left _ ht).trans (hmod2.mono fun t ht=>List.mem_append_right _ ht),hp2⟩
   |exit id=>exact rest (by intro h;cases h) hmod hp
   |ret=>exact rest (by intro h;cases h) hmod hp
   |goto l=>exact hp.elim
   |panic c=>exact hp.elim
   |outgrown=>exact hp.elim
  |some cs=>
   rw[hj]at h
   refine(ihx b _ Kx Kr env a L hag h).mono fun e a' L' ⟨hmod,hp⟩=>?_
   cases e with
   |normal=>
    obtain⟨env',hag',hk⟩:=hp
    have hq:=K6 hk;clear hk;obtain⟨M,hM,hk⟩:=hq
    split at hM<;>subst hM
    ·rename_i v hv
     exact(ihy b Kn Kx Kr _ a' L' (hag.carry hag' hmod hv) hk).mono fun e2 a2 L2 ⟨hmod2,hp2⟩=>
      ⟨(hmod.mono fun t ht=>List.mem_append_left _ ht).trans (hmod2.mono fun t ht=>List.mem_append_right _ ht),hp2⟩
    ·exact False.elim hk
   |exit id=>exact rest (by intro h;cases h) hmod hp
   |ret=>exact rest (by intro h;cases h) hmod hp
   |goto l=>exact hp.elim
   |panic c=>exact hp.elim
   |outgrown=>exact hp.elim
 |cond c x y ihx ihy=>
  intro b Kn Kx Kr env a L hag h
  simp only[A24]at h
  have hq:=K6 h;clear h;obtain⟨M,hM,h⟩:=hq
  split at hM<;>subst hM
  ·rename_i t hc
   have he:=hag.ev hc
   have hag': ∀{t':Bool},t=t'->N4 n (B75 env c t') a:=by
    rintro t' rfl
    cases c with
    |tmp d=>
     refine hag.cons ?_
     exact hag.at' d _ hc
    |_=>exact hag
   refine N2.cond he ?_
   rcases Ba6 h with⟨rfl,h⟩|⟨rfl,h⟩
   ·exact(ihx b Kn Kx Kr _ a L (hag' rfl) h).mono fun e a' L' ⟨hmod,hp⟩=>⟨hmod.mono fun t ht=>List.mem_append_left _ ht,hp⟩
   ·exact(ihy b Kn Kx Kr _ a L (hag' rfl) h).mono fun e a' L' ⟨hmod,hp⟩=>⟨hmod.mono fun t ht=>List.mem_append_right _ ht,hp⟩
  ·exact False.elim h
 |block id c ih=>
  intro b Kn Kx Kr env a L hag h
  simp only[A24]at h
  refine N2.block ((ih id _ _ Kr env a L hag h).mono fun e a' L' ⟨hmod,hp⟩=>?_)
  cases e with
  |normal=>exact⟨hmod,hp⟩
  |exit id'=>
   obtain⟨env',hag',hk⟩:=hp
   simp only[Ck7]
   cases hb:Nat.beq id' id with
   |true=>
    rw[hb]at hk
    rw[if_pos (Nat.eq_of_beq_eq_true hb)]
    exact⟨hmod,env',hag',hk⟩
   |false=>
    rw[hb]at hk
    rw[if_neg (Nat.ne_of_beq_eq_false hb)]
    exact⟨hmod,env',hag',hk⟩
  |ret=>exact⟨hmod,hp⟩
  |goto l=>exact hp.elim
  |panic c=>exact hp.elim
  |outgrown=>exact hp.elim
 |loop c ih=>
  intro b Kn Kx Kr env a L hag h
  simp only[A24]at h
  cases hl:B42 H.loops b with
  |none=>rw[hl]at h;exact False.elim h
  |some cs=>
   rw[hl]at h
   simp only at h
   cases hx0:Bh2 env cs with
   |none=>rw[hx0]at h;exact False.elim h
   |some x0=>
    rw[hx0]at h
    obtain⟨I,⟨k0,hI0⟩,hround⟩:=h
    refine N2.loop (fun k a' L'=> ∃x,N4 n (Be3 cs x++Ar5 (Aa2 c) env) a'/\Mod (Aa2 c) a a'/\I k x L') (k:=k0) ⟨x0,hag.carry hag (.refl _ _) hx0,.refl _ _,hI0⟩ ?_
    rintro k a' L' ⟨x,hag',hmod,hI⟩
    refine(ih b _ Kx Kr _ a' L' hag' (hround k x L' hI)).mono fun e a2 L2 ⟨hmod2,hp⟩=>?_
    cases e with
    |normal=>
     obtain⟨env2,hag2,hk⟩:=hp
     have hq:=K6 hk;clear hk;obtain⟨M,hM,hk⟩:=hq
     split at hM<;>subst hM
     ·rename_i x' hx'
      obtain⟨k',hk',hI'⟩:=hk
      exact⟨k',hk',x',hag.carry hag2 (hmod.trans hmod2) hx',hmod.trans hmod2,hI'⟩
     ·exact False.elim hk
    |exit id=>exact⟨hmod.trans hmod2,hp⟩
    |ret=>exact⟨hmod.trans hmod2,hp⟩
    |goto l=>exact hp.elim
    |panic c=>exact hp.elim
    |outgrown=>exact hp.elim
 |exit id=>exact fun b Kn Kx Kr env a L hag h=>N2.exit ⟨.refl _ _,env,hag,h⟩
 |ret=>exact fun b Kn Kx Kr env a L hag h=>N2.ret ⟨.refl _ _,env,hag,h⟩
 |rangeFunc f ps x y _ _=>exact fun b Kn Kx Kr env a L hag h=>by simp only[A24]at h;exact False.elim h
 |scope c ih=>
  intro b Kn Kx Kr env a L hag h
  simp only[A24]at h
  exact N2.scope (ih b Kn Kx Kr env a L hag h) fun l a L hq=>hq.2
 |label l=>exact fun b Kn Kx Kr env a L hag h=>N2.label ⟨.refl _ _,env,hag,h⟩
 |goto l=>exact fun b Kn Kx Kr env a L hag h=>by simp only[A24]at h;exact False.elim h
 |refuse w=>exact fun b Kn Kx Kr env a L hag h=>by simp only[A24]at h;exact False.elim h
theorem Bi0: ∀(vs:List Value) (i t:Nat) (v:Value),A97 (zipE i vs) t=some v->i<=t/\vs[t-i]?=some v
 |[],_,_,_,h=>by cases h
 |u::r,i,t,v,h=>by
  simp only[zipE]at h
  rw[R7]at h
  split at h
  ·rename_i e;subst e;exact⟨Nat.le_refl _,by simpa using h⟩
  ·rename_i e
   obtain⟨h1,h2⟩:=Bi0 r (i+1) t v h
   refine⟨by omega,?_⟩
   rw[show t-i=(t-(i+1))+1 by omega,List.getElem?_cons_succ]
   exact h2
theorem Aw1{env:Env}{a:Act}(hag:N4 n env a){E:World}{F L:A4}{w:World}(hw:Q9 E w (L++F)): ∀{rs:List ResultVar} {K:List Value->HP},C82 P env rs K L->
  ∃vs,(rs.mapM (m:=Sem) fun| .tmp t=>pure (a.tmps.getD t undef)| .cell x t=>do loadVar t (<-asAddr (a.tmps.getD x undef))).run P w= .ok vs w/\K vs L
 |[],K,h=>⟨[],rfl,h⟩
 | .tmp t::r,K,h=>by
  simp only[C82]at h
  cases hv:A97 env t with
  |none=>rw[hv]at h;exact False.elim h
  |some v=>
   rw[hv]at h
   obtain⟨vs,hr,hk⟩:=Aw1 hag hw h
   have:=hag.at' t v hv
   refine⟨v::vs,?_,hk⟩
   simp only[List.mapM_cons,Sem.run_bind,Sem.run_pure,Result.andThen_ok,hr]
   simp[this]
 | .cell t ty::r,K,h=>by
  simp only[C82]at h
  have hq:=K6 h;clear h;obtain⟨M,hM,h⟩:=hq
  split at hM<;>subst hM
  ·rename_i p sh h1 h2
   obtain⟨ad,rfl,x,hl,hk⟩:=V4 h
   obtain⟨vs,hr,hk⟩:=Aw1 hag hw hk
   have h3:=hag.at' t _ h1
   refine⟨sh.val x::vs,?_,hk⟩
   have h4:(a.tmps.getD t undef)= .pointer (some ad):=by simp[h3]
   have h5:(asAddr (a.tmps.getD t undef)).run P w= .ok ad w:=by rw[h4];rfl
   simp only[List.mapM_cons,Sem.run_bind,h5,Sem.run_pure,Result.andThen_ok,Ar0 h2 x (hl.cells hw),hr]
  ·exact False.elim h
theorem Bj8(hN:A08 P)(hm:P.follows .mixedOrders=true)(H:D5){f:FuncId}{fn:Func}(hf:P.funcs[f]?=some fn){args:Array Value}{K:Value->HP}{L:A4}
  (h:A8 P H fn args.toList K L):CallF P f args L fun v L'=>K v L':=by
 intro E F w hw
 unfold A8 at h
 cases hb:fn.body with
 |none=>simp only[hb]at h;exact False.elim h
 |some c=>
  cases hle:Nat.ble args.toList.length fn.ntmps with
  |false=>simp only[hb,hle]at h;exact False.elim h
  |true=>
   simp only[hb,hle]at h
   have hlen:args.size<=fn.ntmps:=by simpa using Nat.le_of_ble_eq_true hle
   refine calls_of_wp hf hb ?_
   have hag:N4 fn.ntmps (zipE 0 args.toList) {tmps:=args++Array.replicate (fn.ntmps-args.size) undef,defers:=[]}:=by
    refine⟨by simp;omega,rfl,fun t v ht=>?_⟩
    obtain⟨_,h1⟩:=Bi0 _ _ _ _ ht
    simp only[Nat.sub_zero]at h1
    have hlt:t<args.size:=by simpa using(List.getElem?_eq_some_iff.1 h1).1
    rw[Array.getElem?_append_left hlt]
    simpa using h1
   refine wp_mono (B41 hN hm H c 0 _ _ _ _ _ L hag h E F w hw) fun e a' w' ⟨L',hw',_,hp⟩=>?_
   have fin:(∃env,N4 fn.ntmps env a'/\C82 P env fn.results.toList (fun vs=>K (Ap0 vs)) L')->a'.defers=[]/\ ∃v,(results fn a'.tmps).run P w'= .ok v w'/\ ∃v' L',Ending.returned v= .returned v'/\Q9 E w' (L'++F)/\K v' L':=by
    rintro⟨env,hag',hk⟩
    refine⟨hag'.defers,?_⟩
    obtain⟨vs,hvs,hk⟩:=Aw1 hag' hw' hk
    have hres:(results fn a'.tmps).run P w'= .ok (if h:vs.toArray.size=1 then vs.toArray[0]else .tuple vs.toArray) w':=by
     have h1:(fn.results.mapM (m:=Sem) fun| .tmp t=>pure (a'.tmps.getD t undef)| .cell x t=>do loadVar t (<-asAddr (a'.tmps.getD x undef))).run P w'= .ok vs.toArray w':=by
      rw[Array.mapM_eq_mapM_toList,Sem.run_map,hvs]
      rfl
     unfold results
     rw[Sem.run_bind]
     refine Eq.trans (congrArg (fun r=>Result.andThen r _) h1) ?_
     rfl
    match vs,hres,hk with
    |[],hres,hk=>exact⟨_,hres,_,L',rfl,hw',hk⟩
    |[v],hres,hk=>exact⟨_,hres,_,L',rfl,hw',hk⟩
    |v1::v2::r,hres,hk=>exact⟨_,hres,_,L',by simp[Ap0],hw',hk⟩
   cases e with
   |normal=>exact fin hp
   |ret=>exact fin hp
   |exit id=>obtain⟨_,_,hf⟩:=hp;exact hf.elim
   |goto l=>exact hp.elim
   |panic c=>exact hp.elim
   |outgrown=>exact hp.elim
theorem Ar8(hN:A08 P)(hm:P.follows .mixedOrders=true){H:D5}{f:FuncId}{fn:Func}(hf:P.funcs[f]?=some fn){args:List Value}{K:Value->HP}{N:HP}{L:A4}
  (he:A8 P H fn args (fun v L=> ∃L' J,L.Perm (L'++J)/\K v L')=N) (h:N L):CallF P f args.toArray L K:=by
 subst he
 intro E F w hw
 refine Calls.mono (Bj8 (args:=args.toArray) (K:=fun v L=> ∃L' J,L.Perm (L'++J)/\K v L') hN hm H hf (by simpa using h) E F w hw) fun e w' ⟨v,L1,hv,hw1,L',J,hp,hK⟩=>⟨v,L',hv,?_,hK⟩
 have h1:Q9 E w' ((L'++F)++J):=hw1.perm (by
  refine(hp.append_right F).trans ?_
  simp only[List.append_assoc]
  exact List.perm_append_comm.append_left L')
 exact h1.left
end
section
variable {P:Program} {L:A4}
theorem A6{ad:Addr}{sh:Sh}{k:ShV sh->HP}(x:ShV sh)(h:D4 ad (sh.vals x) L)(hk:k x L):ld ad sh k L:=⟨x,h,hk⟩
theorem A5{p:Option Addr}{a:Addr}{k:Addr->HP}(h:p=some a)(hk:k a L):A9 p k L:=by subst h;exact hk
theorem Ab9{p:Prop}{k:HP}(h:p)(hk:k L):req p k L:=⟨h,hk⟩
theorem E0{i n:Int}{k:HP}(h0:0<=i)(h1:i<n)(hk:k L):ixn i n k L:=⟨⟨h0,h1⟩,hk⟩
theorem G7{t:Bool}{A B:HP}(h1:t=true->A L)(h2:t=false->B L):ifB t A B L:=by
 cases t
 ·exact h2 rfl
 ·exact h1 rfl
theorem C0{p:Prop}[Decidable p]{A B:HP}(h1:p->A L)(h2: ¬p->B L):ifB (decide p) A B L:=
 G7 (fun h=>h1 (of_decide_eq_true h)) (fun h=>h2 (of_decide_eq_false h))
theorem Aa4{x y:Int}{A B:HP}(h1:x=y->A L)(h2:x≠y->B L):ifB (x==y) A B L:=
 G7 (fun h=>h1 (by simpa using h)) (fun h=>h2 (by simpa using h))
theorem O2{x y:Int}{A B:HP}(h1:x≠y->A L)(h2:x=y->B L):ifB (x !=y) A B L:=
 G7 (fun h=>h1 (by simpa using h)) (fun h=>h2 (by simpa using h))
theorem ifT{t:Bool}{A B:HP}(h:t=true)(hk:A L):ifB t A B L:=by subst h;exact hk
theorem ifF{t:Bool}{A B:HP}(h:t=false)(hk:B L):ifB t A B L:=by subst h;exact hk
theorem F5{φ k:HP}(h:φ L)(hk:k L):keep φ k L:=⟨h,hk⟩
theorem C3{o:Obj}{k:Nat->HP}(h: ∀n,Sat ((n,o)::L)->k n ((n,o)::L)):nw o k L:=h
theorem W7{α:Type}{b:α->HP}{r:(α->HP)->HP}(Q:α->HP)(h1: ∀y L',Q y L'->b y L')(h2: ∀j:α->HP,(∀y L',Q y L'->j y L')->r j L):jn b r L:=h2 b h1
theorem G0{sh:List Sh}{x0:RsV sh}{body:RsV sh->(RsV sh->HP)->HP}(I:Nat->RsV sh->HP)(k0:Nat)(h0:I k0 x0 L)
 (h: ∀k x L',I k x L'->body x (fun x' L''=> ∃k',k'<k/\I k' x' L'') L'):lp sh x0 body L:=⟨I,⟨k0,h0⟩,h⟩
theorem S0{f:FuncId}{args:Array Value}{rs:List Sh}{k:RsV rs->HP}{K:Value->HP}(h:CallF P f args L K)(hk: ∀v L',Sat L'->K v L'-> ∃r,v=Af9 rs r/\k r L'):
 cl P f args rs k L:=CallF.mono h hk
def Reads(P:Program)(f:FuncId)(args:Array Value)(L:A4)(v:Value):Prop:=CallF P f args L fun v' L'=>v'=v/\L'=L
theorem B7{f:FuncId}{args:Array Value}{rs:List Sh}{k:RsV rs->HP}{v:Value}(h:Reads P f args L v)(r:RsV rs)(hr:v=Af9 rs r)(hk:k r L):cl P f args rs k L:=
 CallF.mono h (by rintro _ _ _ ⟨rfl,rfl⟩;exact⟨r,hr,hk⟩)
def Ends(K:Value->HP)(v:Value):HP:=fun L=> ∃L' J,L.Perm (L'++J)/\K v L'
theorem Ends.of{K:Value->HP}{v:Value}(h:K v L):Ends K v L:=⟨L,[],by simp,h⟩
theorem Ends.drop{K:Value->HP}{v:Value}{A J:A4}(h:K v A)(hp:L.Perm (A++J)):Ends K v L:=⟨A,J,hp,h⟩
theorem Reads.of{f:FuncId}{fn:Func}(hN:A08 P)(hm:P.follows .mixedOrders=true){H:D5}(hf:P.funcs[f]?=some fn){args:List Value}{v:Value}{N:HP}
 (he:A8 P H fn args (Ends fun v' L'=>v'=v/\L'=L)=N) (h:N L):Reads P f args.toArray L v:=Ar8 hN hm hf he h
theorem CallF.of{f:FuncId}{fn:Func}(hN:A08 P)(hm:P.follows .mixedOrders=true){H:D5}(hf:P.funcs[f]?=some fn){args:List Value}{K:Value->HP}{N:HP}
 (he:A8 P H fn args (Ends K)=N) (h:N L):CallF P f args.toArray L K:=Ar8 hN hm hf he h
theorem D4.mono{ad:Addr}{vs:List Value}{A:A4}(h:D4 ad vs A)(hs: ∀p∈A,p∈L):D4 ad vs L:=by
 obtain⟨c,T,fz,hm,h⟩:=h;exact⟨c,T,fz,hs _ hm,h⟩
theorem D4.sub{ad:Addr}{vs ws:List Value}(h:D4 ad vs L)(j:Nat)(hw: ∀(i:Nat) (v:Value),ws[i]?=some v->vs[j+i]?=some v):D4 (Addr.add ad j) ws L:=by
 obtain⟨c,T,fz,hm,hs,hc⟩:=h
 rw[O3 hs]
 refine⟨c,T,fz,hm,rfl,fun i v hv=>?_⟩
 have:=hc _ _ (hw i v hv)
 simp only
 rw[Nat.add_assoc];exact this
theorem D4.pre{ad:Addr}{vs ws:List Value}(h:D4 ad vs L)(hw: ∀(i:Nat) (v:Value),ws[i]?=some v->vs[i]?=some v):D4 ad ws L:=by
 obtain⟨c,T,fz,hm,hs,hc⟩:=h
 exact⟨c,T,fz,hm,hs,fun i v hv=>hc _ _ (hw i v hv)⟩
theorem D4.one{ad:Addr}{vs:List Value}(h:D4 ad vs L)(j:Nat){v:Value}(hv:vs[j]?=some v):D4 (Addr.add ad j) [v] L:=by
 refine h.sub j fun i u hu=>?_
 cases i with
 |zero=>simp at hu;subst hu;exact hv
 |succ i=>simp at hu
theorem D4.blk{b off:Nat}{c:Array Value}{T:TypeId}{fz:Nat×Nat}{vs:List Value}(hm:(b,Obj.cells c T fz)∈L)(h: ∀(i:Nat) (v:Value),vs[i]?=some v->c[off+i]?=some v):D4 ⟨b,off,none⟩ vs L:=
 ⟨c,T,fz,hm,rfl,h⟩
structure Sl(L:A4)(v:SlV)(sz:Nat)(vs:List Value):Prop where
 len:v.len*sz=vs.length
 cap:v.len<=v.cap
 ld:vs=[]\/ ∃ad,v.a=some ad/\D4 ad vs L
theorem Sl.mono{v:SlV}{sz:Nat}{vs:List Value}{A:A4}(h:Sl A v sz vs)(hs: ∀p∈A,p∈L):Sl L v sz vs:=
 ⟨h.len,h.cap,h.ld.imp id fun⟨ad,ha,hl⟩=>⟨ad,ha,hl.mono hs⟩⟩
theorem Sl.left{v:SlV}{sz:Nat}{vs:List Value}{R:A4}(h:Sl L v sz vs):Sl (L++R) v sz vs:=h.mono fun _ hp=>List.mem_append_left _ hp
theorem Sl.right{v:SlV}{sz:Nat}{vs:List Value}{R:A4}(h:Sl L v sz vs):Sl (R++L) v sz vs:=h.mono fun _ hp=>List.mem_append_right _ hp
theorem Sl.cons{v:SlV}{sz:Nat}{vs:List Value}{p:Nat×Obj}(h:Sl L v sz vs):Sl (p::L) v sz vs:=h.mono fun _ hp=>List.mem_cons_of_mem _ hp
theorem Sl.nil(sz:Nat):Sl L ⟨none,0,0⟩ sz []:=⟨by simp,Nat.le_refl _,.inl rfl⟩
theorem Sl.at'{v:SlV}{sz:Nat}{vs:List Value}(h:Sl L v sz vs){i:Nat}(hi:i<v.len)(hsz:0<sz): ∃ad,v.a=some ad/\D4 ad vs L:=by
 refine h.ld.resolve_left fun e=>?_
 have h1:=h.len
 rw[e]at h1
 have:v.len=0:=by
  rcases Nat.mul_eq_zero.1 h1 with h|h
  ·exact h
  ·omega
 omega
structure Own(v:SlV)(sz:Nat)(T:TypeId)(vs:List Value)(seg:A4):Prop where
 len:v.len*sz=vs.length
 cap:v.len<=v.cap
 row:(v.a=none/\v.cap=0/\seg=[])\/ ∃b off c fz,v.a=some ⟨b,off,none⟩/\seg=[(b,Obj.cells c T fz)]/\off+v.cap*sz<=c.size/\
  (fz.2<=fz.1\/c.size<=fz.1)/\ ∀i u,vs[i]?=some u->c[off+i]?=some u
theorem Own.sl{v:SlV}{sz:Nat}{T:TypeId}{vs:List Value}{seg:A4}(h:Own v sz T vs seg):Sl seg v sz vs:=by
 refine⟨h.len,h.cap,?_⟩
 rcases h.row with⟨ha,hc,rfl⟩|⟨b,off,c,fz,ha,rfl,_,_,hcs⟩
 ·left
  have h1:=h.cap
  have h2:=h.len
  rw[hc]at h1
  have:v.len=0:=by omega
  rw[this]at h2
  simpa using h2.symm
 ·exact .inr ⟨_,ha,.blk (List.mem_singleton.2 rfl) hcs⟩
theorem M9: ∀(vs:List Value) (c:Array Value) (o:Nat),(wr c o vs).size=c.size
 |[],c,o=>rfl
 |v::r,c,o=>by simp[wr,M9 r]
theorem Ae6: ∀(vs:List Value) (c:Array Value) (o j:Nat),o+vs.length<=c.size->(wr c o vs)[j]?=if o<=j/\j<o+vs.length then vs[j-o]? else c[j]?
 |[],c,o,j,_=>by simp[wr];omega
 |v::r,c,o,j,h=>by
  simp only[List.length_cons]at h
  simp only[wr]
  rw[Ae6 r (c.setIfInBounds o v) (o+1) j (by simp;omega)]
  by_cases h1:j=o
  ·subst h1
   rw[if_neg (by omega),if_pos (by simp)]
   simp[show j<c.size by omega]
  ·by_cases h2:o+1<=j/\j<o+1+r.length
   ·rw[if_pos h2,if_pos (by simp only[List.length_cons];omega)]
    rw[show j-o=(j-(o+1))+1 by omega,List.getElem?_cons_succ]
   ·rw[if_neg h2,if_neg (by simp only[List.length_cons];omega)]
    rw[Array.getElem?_setIfInBounds_ne (by omega)]
inductive Src (L:A4):Value->Nat->Nat->List Value->Prop
 |sl {v:SlV} {sz:Nat} {ws:List Value} (h:Sl L v sz ws):Src L (.slice v.a v.len v.cap) sz v.len ws
 |str (s:ByteArray):Src L (.string s) 1 s.size (s.data.toList.map fun b=>.int .u8 b.toNat)
theorem Src.len{x:Value}{sz n:Nat}{ws:List Value}(h:Src L x sz n ws):n*sz=ws.length:=by
 cases h with
 |sl h=>exact h.len
 |str s=>rw[Nat.mul_one,List.length_map,Array.length_toList];rfl
theorem Src.run{x:Value}{sz n:Nat}{ws:List Value}(h:Src L x sz n ws){E:World}{F:A4}{w:World}(hw:Q9 E w (L++F)):
  (Builtin.lenOf x).run P w= .ok n w/\(Builtin.firstCells sz n x).run P w= .ok ws.toArray w:=by
 cases h with
 |sl h=>
  rename_i v
  refine⟨rfl,?_⟩
  rcases h.ld with rfl|⟨ad,ha,hl⟩
  ·have h0:v.len*sz=0:=h.len
   cases hva:v.a with
   |none=>simp[Builtin.firstCells]
   |some ad=>simp only[Builtin.firstCells,h0,loadCells,loadCellsFrom];rfl
  ·rw[ha]
   simp only[Builtin.firstCells]
   rw[h.len]
   exact run_loadCells_list w ad ws (hl.cells hw)
 |str s=>
  refine⟨rfl,?_⟩
  simp only[Builtin.firstCells,Sem.run_pure]
  congr 1
  apply Array.ext'
  have:s.extract 0 s.size=s:=by simp
  rw[this]
  simp
theorem Src.take{v:SlV}{sz:Nat}{ws:List Value}(h:Sl L v sz ws){m:Nat}(hm:m<=v.len){E:World}{F:A4}{w:World}(hw:Q9 E w (L++F)):
  (Builtin.firstCells sz m (.slice v.a v.len v.cap)).run P w= .ok (ws.take (m*sz)).toArray w:=by
 rcases h.ld with rfl|⟨ad,ha,hl⟩
 ·have h0:v.len*sz=0:=h.len
  have hm0:m*sz=0:=Nat.le_zero.1 (h0▸Nat.mul_le_mul_right sz hm)
  cases hva:v.a with
  |none=>simp[Builtin.firstCells]
  |some ad=>simp only[Builtin.firstCells,hm0,loadCells,loadCellsFrom];simp
 ·rw[ha]
  simp only[Builtin.firstCells]
  have hlen:(ws.take (m*sz)).length=m*sz:=by
   rw[List.length_take,<-h.len]
   exact Nat.min_eq_left (Nat.mul_le_mul_right sz hm)
  have h1:=run_loadCells_list (P:=P) w ad (ws.take (m*sz)) (fun j u hu=>hl.cells hw j u (by
   rw[List.getElem?_take]at hu
   split at hu
   ·exact hu
   ·cases hu))
  rw[hlen]at h1
  exact h1
structure U8(P:Program)(t e:TypeId)(sz bytes:Nat)(z:List Value):Prop where
 und:P.underlying t=some (.slice e)
 info: ∃i,P.info? e=some i/\i.size=sz/\i.bytes=bytes/\ ∃zv,i.zero=some zv/\zv.cells.toList=z
 zlen:z.length=sz
 pos:0<sz
 bpos:0<bytes
theorem Aa8(z:Array Value)(n:Nat):(Builtin.zeroCells z n).size=n*z.size:=by simp[Builtin.zeroCells]
def As9(P:Program)(t:TypeId):Prop:=(∃e,P.underlying t=some (.slice e))\/P.underlying t=some .string
theorem Ae8{t t2 ty e:TypeId}{i:TypeInfo}(ht:P.underlying t=some (.slice e))(h2:As9 P t2)(hi:P.info? e=some i){base:Option Addr}{sLen sCap n:Nat}{x:Value}{w:World}
  (hlen:(Builtin.lenOf x).run P w= .ok n w) (hroom:sLen+n<=sCap) {new:Array Value} (hf:(Builtin.firstCells i.size n x).run P w= .ok new w) {w':World}
  (hst: ∀a,base=some a->(storeCells (a.add (sLen*i.size)) new.toList).run P w= .ok () w') (hno:base=none->w'=w):
  (Builtin.append_ #[t,t2] ty #[.slice base sLen sCap,x]).run P w= .ok (.slice base (sLen+n) sCap) w':=by
 cases base with
 |none=>
  obtain rfl:=hno rfl
  rcases h2 with⟨e2,h2⟩|h2<;>simp[Builtin.append_,run_underlying ht,run_underlying h2,sizeOf,typeInfo,hi,hlen,hroom,hf]
 |some a=>
  have hst:=hst a rfl
  rcases h2 with⟨e2,h2⟩|h2<;>simp[Builtin.append_,run_underlying ht,run_underlying h2,sizeOf,typeInfo,hi,hlen,hroom,hf,hst]
theorem As1{t t2 ty e:TypeId}{i:TypeInfo}{z:Value}(ht:P.underlying t=some (.slice e))(h2:As9 P t2)(hi:P.info? e=some i)(hz:i.zero=some z){base:Option Addr}{sLen sCap n:Nat}{x:Value}{w:World}
  (hlen:(Builtin.lenOf x).run P w= .ok n w) (hg: ¬sLen+n<=sCap) (h63: ¬(9223372036854775807<((sLen:Int)+(n:Int))/\i.bytes=0)) (hfit: ¬(281474976710656<Builtin.nextslicecap (sLen+n) sCap*i.bytes))
  {old new:Array Value} (hfo:(Builtin.firstCells i.size sLen (.slice base sLen sCap)).run P w.drew= .ok old w.drew) (hf:(Builtin.firstCells i.size n x).run P w.drew= .ok new w.drew):
  (Builtin.append_ #[t,t2] ty #[.slice base sLen sCap,x]).run P w=
   .ok (.slice (some ⟨w.heap.size,0,none⟩) (sLen+n) (grownCap w (sLen+n) sCap e)) (w.drew.alloc (.cells (old++new++Builtin.zeroCells z.cells (grownCap w (sLen+n) sCap e-(sLen+n))) e)):=by
 rcases h2 with⟨e2,h2⟩|h2<;>
  simp[Builtin.append_,run_underlying ht,run_underlying h2,sizeOf,typeInfo,zeroValue,hi,hz,hlen,hg,h63,hfit,Question.forced,hf,hfo,newRow,grownCap]
theorem Bs9{t t2 ty e:TypeId}{sz bytes:Nat}{z:List Value}(hT:U8 P t e sz bytes z)(h2:As9 P t2)
  {v:SlV} {vs ws:List Value} {x:Value} {n:Nat} {seg R:A4} (own:Own v sz e vs seg) (src:Src (seg++R) x sz n ws) (hws:ws.all S5=true)
  (hb:(v.len+n)*bytes<=140737488355328) {k:RsV [.lf .sl]->HP} (hk: ∀v' seg',v'.len=v.len+n->(v.len+n<=v.cap->v'.cap=v.cap/\v'.a=v.a)->v.cap<=v'.cap->Own v' sz e (vs++ws) seg'->k (v',()) (seg'++R)):
  smW P (Builtin.append_ #[t,t2] ty #[.slice v.a v.len v.cap,x]) [.lf .sl] k (seg++R):=by
 obtain⟨i,hi,his,hib,zv,hz,hzl⟩:=hT.info
 subst his hib
 intro E F w hw
 obtain⟨hlen,hfirst⟩:=src.run (P:=P) hw
 have hsz:=hT.pos
 have hzs:zv.cells.size=i.size:=by rw[<-hT.zlen,<-hzl];simp
 have hwsl:=src.len
 have hol:=own.len
 have hcat:(vs++ws).length=(v.len+n)*i.size:=by rw[List.length_append,<-hol,<-hwsl,Nat.add_mul]
 by_cases hroom:v.len+n<=v.cap
 ·--there is room
  have hle:=Nat.mul_le_mul_right i.size hroom
  rw[Nat.add_mul]at hle
  rcases own.row with⟨ha,hc,rfl⟩|⟨b,off,c,fz,ha,rfl,hcs,hfz,hcell⟩
  ·refine⟨.slice v.a (v.len+n) v.cap,w,[]++R,Ae8 hT.und h2 hi hlen hroom hfirst (by intro a h;rw[ha]at h;cases h) (fun _=>rfl),hw,(⟨v.a,v.len+n,v.cap⟩,()),rfl,?_⟩
   exact hk ⟨v.a,v.len+n,v.cap⟩ [] rfl (fun _=>⟨rfl,rfl⟩) (Nat.le_refl _) ⟨by rw[hcat],hroom,.inl ⟨ha,hc,rfl⟩⟩
  ·obtain⟨w',hr,hw'⟩:=R4 (P:=P) (E:=E) (A:=[]) (B:=R) (F:=F) (b:=b) (T:=e) (fz:=fz) ws c (off+v.len*i.size) 0 w hws (by simpa using hw) (by omega)
    (by intro j hj;omega)
   refine⟨.slice v.a (v.len+n) v.cap,w',[(b,Obj.cells (wr c (off+v.len*i.size+0) ws) e fz)]++R,?_,by simpa using hw',(⟨v.a,v.len+n,v.cap⟩,()),rfl,?_⟩
   ·refine Ae8 hT.und h2 hi hlen hroom hfirst (fun a h=>?_) (fun h=>by rw[ha]at h;cases h)
    rw[ha]at h
    obtain rfl:=Option.some.inj h
    rw[O3 rfl]
    exact hr
   ·refine hk ⟨v.a,v.len+n,v.cap⟩ _ rfl (fun _=>⟨rfl,rfl⟩) (Nat.le_refl _) ⟨by rw[hcat],hroom,.inr ⟨b,off,_,fz,ha,rfl,by rw[M9];exact hcs,by rw[M9];exact hfz,fun j u hu=>?_⟩⟩
    rw[Ae6 _ _ _ _ (by omega)]
    rw[List.getElem?_append]at hu
    split at hu
    ·rw[if_neg (by omega)];exact hcell j u hu
    ·rename_i hj
     have hju:=(List.getElem?_eq_some_iff.1 hu).1
     rw[if_pos (by omega),show off+j-(off+v.len*i.size+0)=j-vs.length by omega];exact hu
 ·--it grows
  have hlt:v.cap<v.len+n:=by omega
  have hfit: ¬(281474976710656<Builtin.nextslicecap (v.len+n) v.cap*i.bytes):=Nat.not_lt.2 (growslice_fits hlt hb)
  have hwd:Q9 E w.drew ((seg++R)++F):=hw.drew _
  have hold:=Src.take (P:=P) (m:=v.len) (L:=seg++R) (own.sl.left) (Nat.le_refl _) hwd
  have htk:vs.take (v.len*i.size)=vs:=by rw[hol];exact List.take_length
  rw[htk]at hold
  have hge:=grownCap_ge w (v.len+n) v.cap e
  have h63: ¬(9223372036854775807<((v.len:Int)+(n:Int))/\i.bytes=0):=fun h=>Nat.ne_of_gt hT.bpos h.2
  have hr:=As1 (ty:=ty) hT.und h2 hi hz hlen hroom h63 hfit hold (src.run (P:=P) hwd).2
  refine⟨_,_,[(w.heap.size,Obj.cells (vs.toArray++ws.toArray++Builtin.zeroCells zv.cells (grownCap w (v.len+n) v.cap e-(v.len+n))) e)]++R,hr,?_,(⟨some ⟨w.heap.size,0,none⟩,v.len+n,grownCap w (v.len+n) v.cap e⟩,()),rfl,?_⟩
  ·have h1:=hwd.push (.cells (vs.toArray++ws.toArray++Builtin.zeroCells zv.cells (grownCap w (v.len+n) v.cap e-(v.len+n))) e)
   have h2:Q9 E (w.drew.alloc (.cells (vs.toArray++ws.toArray++Builtin.zeroCells zv.cells (grownCap w (v.len+n) v.cap e-(v.len+n))) e)) (((w.heap.size,Obj.cells (vs.toArray++ws.toArray++Builtin.zeroCells zv.cells (grownCap w (v.len+n) v.cap e-(v.len+n))) e)::(R++F))++seg):=
    h1.perm (by
     simp only[List.cons_append,List.append_assoc]
     rw[<-List.append_assoc R F seg]
     exact List.Perm.cons _ List.perm_append_comm)
   exact h2.left
  ·refine hk ⟨some ⟨w.heap.size,0,none⟩,v.len+n,grownCap w (v.len+n) v.cap e⟩ _ rfl (fun h=>absurd h hroom) (by simp only;omega) ⟨by rw[hcat],hge,.inr ⟨w.heap.size,0,_,(0,0),rfl,rfl,?_,.inl (Nat.le_refl _),fun j u hu=>?_⟩⟩
   ·simp only[Array.size_append,List.size_toArray,Aa8,hzs,<-hol,<-hwsl,<-Nat.add_mul]
    rw[show v.len+n+(grownCap w (v.len+n) v.cap e-(v.len+n))=grownCap w (v.len+n) v.cap e by omega]
    simp
   ·have hj:=(List.getElem?_eq_some_iff.1 hu).1
    rw[Nat.zero_add,Array.getElem?_append_left (by simpa using hj),<-hu]
    simp
end
theorem C2{n:Int}(h0: -9223372036854775808<=n)(h1:n<=9223372036854775807):IntKind.i64.wrap n=n:=IntWalk.i64_in n ⟨h0,h1⟩
theorem w8_id{n:Int}(h0:0<=n)(h1:n<=255):IntKind.u8.wrap n=n:=IntWalk.u8_in n ⟨h0,h1⟩
theorem C51{n:Int}(h0:0<=n)(h1:n<=18446744073709551615):IntKind.u64.wrap n=n:=IntWalk.u64_in n ⟨h0,h1⟩
theorem Bt4(n:Int):IntKind.u32.wrap n=((BitVec.ofInt 32 n).toNat:Int):=by
 simp only[IntKind.wrap,IntKind.bits,IntKind.signed,Bool.false_and,Bool.false_eq_true,if_false,BitVec.toNat_ofInt]
 omega
theorem Bn6(n:Int):IntKind.u64.wrap n=((BitVec.ofInt 64 n).toNat:Int):=by
 simp only[IntKind.wrap,IntKind.bits,IntKind.signed,Bool.false_and,Bool.false_eq_true,if_false,BitVec.toNat_ofInt]
 omega
theorem w8_bv(n:Int):IntKind.u8.wrap n=((BitVec.ofInt 8 n).toNat:Int):=by
 simp only[IntKind.wrap,IntKind.bits,IntKind.signed,Bool.false_and,Bool.false_eq_true,if_false,BitVec.toNat_ofInt]
 omega
theorem Ar9{m:Nat}(a:BitVec m):BitVec.ofInt m (a.toNat:Int)=a:=by
 simp
theorem Cl0(a b:BitVec 32):Ak8 .xor .u32 a.toNat b.toNat=((a^^^b).toNat:Int)/\Ak8 .and .u32 a.toNat b.toNat=((a&&&b).toNat:Int)/\Ak8 .or .u32 a.toNat b.toNat=((a|||b).toNat:Int):=by
  refine⟨?_,?_,?_⟩<;>
    (simp only[Ak8,IntKind.bits]
     rw[Bt4]
     exact congrArg (fun x:BitVec 32=>(x.toNat:Int)) (by rw[Ar9,Ar9,Ar9];rfl))
def bv(b:UInt8):Value:=.int .u8 b.toNat
def bvs(l:List UInt8):List Value:=l.map bv
theorem E7(l:List UInt8):(bvs l).length=l.length:=by simp[bvs]
theorem Ai4(l m:List UInt8):bvs (l++m)=bvs l++bvs m:=by simp[bvs]
theorem K5(l:List UInt8):(bvs l).all S5=true:=by
 induction l with
 |nil=>rfl
 |cons b r ih=>exact ih
theorem Df5{l:List UInt8}{i:Nat}(h:i<l.length):(bvs l)[i]?=some (.int .u8 (l[i].toNat:Int)):=by
 simp[bvs,h,bv]
abbrev BSl(L:A4)(v:SlV)(l:List UInt8):Prop:=Sl L v 1 (bvs l)
theorem BSl.len{L:A4}{v:SlV}{l:List UInt8}(h:BSl L v l):v.len=l.length:=by
 have:=Sl.len h;rw[E7]at this;omega
theorem BSl.rd{L:A4}{v:SlV}{l:List UInt8}(h:BSl L v l){i:Nat}(hi:i<l.length){a:Addr}(ha:v.a=some a)(j:Nat)(hj:j=i*1):D4 (Addr.add a j) [.int .u8 (l[i].toNat:Int)] L:=by
 subst hj
 obtain⟨ad,ha',hl⟩:=h.at' (i:=i) (by rw[h.len];exact hi) (by omega)
 rw[ha]at ha'
 obtain rfl:=Option.some.inj ha'
 rw[Nat.mul_one]
 exact hl.one i (Df5 hi)
theorem BSl.some{L:A4}{v:SlV}{l:List UInt8}(h:BSl L v l){i:Nat}(hi:i<l.length): ∃a,v.a=some a:=by
 obtain⟨ad,ha',hl⟩:=h.at' (i:=i) (by rw[h.len];exact hi) (by omega)
 exact⟨ad,ha'⟩
section
variable {P:Program} {L:A4}
theorem Az6{w:World}{b off:Nat}{c:Array Value}{T:TypeId}(h:w.heap[b]?=some (.cells c T (0,0))):
  w.freeze ⟨b,off,none⟩ 1={w with heap:=w.heap.setIfInBounds b (.cells c T (off,off+1))}:=by
 unfold World.freeze
 rw[if_neg (by decide)]
 congr 1
 apply Array.ext_getElem?
 intro j
 rw[Array.getElem?_modify]
 obtain⟨hb,hg⟩:=Array.getElem?_eq_some_iff.1 h
 by_cases hj:b=j
 ·subst hj
  simp[hb,hg]
 ·rw[if_neg hj,Array.getElem?_setIfInBounds_ne hj]
theorem A95{t e:TypeId}(hu:P.underlying t=some (.slice e))(he:P.underlying e=some (.int .u8)){b off len cap:Nat}{c:Array Value}{T:TypeId}{k:RsV [.lf .sl]->HP}
  (hk:k (⟨some ⟨b,off,none⟩,len,cap⟩,()) ((b,.cells c T (c.size,c.size+1))::L)):
  smW P (convert t t (.slice (some ⟨b,off,none⟩) len cap)) [.lf .sl] k ((b,.cells c T (0,0))::L):=by
 intro E F w hw
 have hblk:=hw.blk (b,.cells c T (0,0)) (by simp)
 simp only at hblk
 have hw':=Q9.put (A:=[]) (B:=L++F) (b:=b) (o:=.cells c T (0,0)) (by simpa using hw) (.cells c T (c.size,c.size+1))
 refine⟨.slice (some ⟨b,off,none⟩) len cap,_,(b,.cells c T (c.size,c.size+1))::L,?_,by simpa using hw',(⟨some ⟨b,off,none⟩,len,cap⟩,()),rfl,hk⟩
 have hsh:w.shape? b=some (T,c.size):=by simp[World.shape?,hblk]
 simp only[convert,Sem.run_bind,D7 hu,Result.andThen_ok,D7 he,beq_self_eq_true,markStringish,run_shape,hsh,run_freeze,Sem.run_pure]
 rw[Az6 hblk]
theorem b2s_rd{v:SlV}{l:List UInt8}(h:BSl L v l):RdV P (Conv.bytesToString (.slice v.a v.len v.cap)) (.string ⟨l.toArray⟩) L:=by
 intro E F w hw
 have hfold: ∀(l:List UInt8) (s:ByteArray),(l.map fun b=>(b.toNat:Int)).foldl (fun r n=>r.push (UInt8.ofNat n.toNat)) s=⟨s.data++l.toArray⟩:=by
  intro l
  induction l with
  |nil=>intro s;simp
  |cons b r ih=>
   intro s
   rw[List.map_cons,List.foldl_cons,ih]
   congr 1
   apply Array.ext'
   simp
 rcases h.ld with hnil|⟨ad,ha,hl⟩
 ·have hl0:l=[]:=by simpa[bvs]using hnil
  subst hl0
  have h0:v.len=0:=h.len
  rw[h0]
  cases hva:v.a with
  |none=>rfl
  |some ad=>
   have:=run_bytesToString (P:=P) w ad 0 v.cap [] (by simp[loadCells,loadCellsFrom])
   exact this
 ·rw[ha]
  have hr:=run_loadCells_list (P:=P) w ad (bvs l) (hl.cells hw)
  rw[E7]at hr
  have hm:(l.map fun b=>(b.toNat:Int)).map (Value.int .u8)=bvs l:=by simp[bvs,bv]
  have:=run_bytesToString (P:=P) w ad l.length v.cap (l.map fun b=>(b.toNat:Int)) (by rw[hm];exact hr)
  rw[h.len,this,hfold]
  have h0:(ByteArray.empty).data=#[]:=rfl
  rw[h0,Array.empty_append]
theorem Cl5{v:SlV}{l:List UInt8}(h:BSl L v l){k:RsV [.lf .str]->HP}(hk:k (⟨l.toArray⟩,()) L):smR P (Conv.bytesToString (.slice v.a v.len v.cap)) [.lf .str] k L:=
 ⟨(⟨l.toArray⟩,()),b2s_rd h,hk⟩
theorem B94(e:TypeId)(s:ByteArray)(w:World): ∃cap ob,s.size<=cap/\ob=Obj.cells (s.data.map (fun b=>Value.int .u8 b.toNat)++Array.replicate (cap-s.size) (.int .u8 0)) e (cap,cap+1)/\
  (Conv.stringToBytes e s).run P w= .ok (.slice (some ⟨w.heap.size,0,none⟩) s.size cap) {w with heap:=w.heap.push ob,drawn:=w.drawn+1}:=by
 have hge:=grownCap_ge w s.size 0 e
 refine⟨grownCap w s.size 0 e,_,hge,rfl,?_⟩
 have hsz:(s.data.map (fun b=>Value.int .u8 b.toNat)++Array.replicate (grownCap w s.size 0 e-s.size) (Value.int .u8 0)).size=grownCap w s.size 0 e:=by
  have h1:s.data.size=s.size:=rfl
  rw[Array.size_append,Array.size_map,Array.size_replicate,h1]
  omega
 simp only[Conv.stringToBytes,Sem.run_bind,run_choose,Question.forced,Bool.false_eq_true,if_false,Result.andThen_ok,newRow,run_newObj,Sem.run_pure,markStringish,run_shape]
 have hgc:(Question.appendCap s.size 0 e).cut (w.tape w.drawn (Question.appendCap s.size 0 e))=grownCap w s.size 0 e:=rfl
 rw[hgc]
 have hsh:({w with heap:=w.heap.push (.cells (s.data.map (fun b=>Value.int .u8 b.toNat)++Array.replicate (grownCap w s.size 0 e-s.size) (Value.int .u8 0)) e),drawn:=w.drawn+1}:World).shape? w.heap.size=some (e,grownCap w s.size 0 e):=by
  simp only[World.shape?,Array.getElem?_push_size,hsz]
 rw[hsh]
 simp only[run_freeze,Result.andThen_ok,Sem.run_pure]
 rw[Az6 (c:=s.data.map (fun b=>Value.int .u8 b.toNat)++Array.replicate (grownCap w s.size 0 e-s.size) (Value.int .u8 0)) (T:=e) (by simp)]
 congr 2
 apply Array.ext_getElem?
 intro j
 by_cases hj:w.heap.size=j
 ·subst hj;simp
 ·rw[Array.getElem?_setIfInBounds_ne hj,Array.getElem?_push,Array.getElem?_push,if_neg (fun e=>hj e.symm),if_neg (fun e=>hj e.symm)]
theorem C09{e:TypeId}{s:ByteArray}{k:ShV (.lf .sl)->HP}
  (hk: ∀n ob v,v.len=s.size->Own v 1 e (bvs s.data.toList) [(n,ob)]->Sat ((n,ob)::L)->k v ((n,ob)::L)):smA P (Conv.stringToBytes e s) (.lf .sl) k L:=by
 refine⟨fun w=>?_,fun n ob v ⟨w,d,hn,hr⟩ hs=>?_⟩
 ·obtain⟨cap,ob,_,_,hr⟩:=B94 (P:=P) e s w
  exact⟨ob,_,_,hr⟩
 ·obtain⟨cap,ob',hcap,hob,hr'⟩:=B94 (P:=P) e s w
  rw[hr]at hr'
  injection hr' with h1 h2
  have h3:=A79 h2
  subst h3 h1 hn
  refine⟨⟨some ⟨w.heap.size,0,none⟩,s.size,cap⟩,rfl,hk _ _ ⟨some ⟨w.heap.size,0,none⟩,s.size,cap⟩ rfl ⟨?_,hcap,.inr ⟨w.heap.size,0,_,(cap,cap+1),rfl,by rw[hob],?_,.inr ?_,fun i u hu=>?_⟩⟩ hs⟩
  ·rw[E7,Array.length_toList,Nat.mul_one];rfl
  ·have h1:s.data.size=s.size:=rfl
   rw[Array.size_append,Array.size_map,Array.size_replicate,h1]
   show 0+cap*1<=_
   omega
  ·have h1:s.data.size=s.size:=rfl
   rw[Array.size_append,Array.size_map,Array.size_replicate,h1]
   show _<=cap
   omega
  ·have hi:=(List.getElem?_eq_some_iff.1 hu).1
   rw[E7,Array.length_toList]at hi
   rw[Nat.zero_add,Array.getElem?_append_left (by simpa using hi)]
   rw[<-hu]
   simp only[bvs,List.getElem?_map,Array.getElem?_map,Array.getElem?_toList]
   rfl
def Af3(z:List Value)(n:Nat):List Value:=(List.replicate n z).flatten
theorem Af6(z:List Value)(n:Nat):(Af3 z n).length=n*z.length:=by simp[Af3]
theorem Au6(z:List Value)(n i:Nat)(h:i<n*z.length):(Af3 z n)[i]?=z[i%z.length]?:=by
 induction n generalizing i with
 |zero=>simp at h
 |succ n ih=>
  have hz:0<z.length:=by
   rcases Nat.eq_zero_or_pos z.length with h0|h0
   ·rw[h0]at h;simp at h
   ·exact h0
  have:Af3 z (n+1)=z++Af3 z n:=by simp[Af3,List.replicate_succ]
  rw[this]
  by_cases hi:i<z.length
  ·rw[List.getElem?_append_left hi,Nat.mod_eq_of_lt hi]
  ·rw[List.getElem?_append_right (by omega),ih (i-z.length) (by rw[Nat.succ_mul]at h;omega)]
   congr 1
   rw[<-Nat.mod_eq_sub_mod (by omega)]
theorem Ay3{t e:TypeId}{sz bytes:Nat}{z:List Value}(hT:U8 P t e sz bytes z){l c:Nat}(hlc:l<=c)(hb:bytes*c<=281474976710656){kl kc:IntKind}{k:ShV (.lf .sl)->HP}
  (hk: ∀n ob,Own ⟨some ⟨n,0,none⟩,l,c⟩ sz e (Af3 z l) [(n,ob)]->(∃cs,ob= .cells cs e (0,0)/\cs.size=c*sz/\ ∀(i:Nat) (u:Value),(Af3 z c)[i]?=some u->cs[i]?=some u)->Sat ((n,ob)::L)->k ⟨some ⟨n,0,none⟩,l,c⟩ ((n,ob)::L)):
  smA P (Instr.makeSlice t (.int kl (l:Int)) (.int kc (c:Int))) (.lf .sl) k L:=by
 obtain⟨i,hi,his,hib,zv,hz,hzl⟩:=hT.info
 subst his hib
 have h63:(c:Int)<=9223372036854775807:=by
  have:c<=i.bytes*c:=Nat.le_mul_of_pos_left _ hT.bpos
  omega
 have hrun:=fun w=>run_make (P:=P) w t e i zv hT.und hi hz kl kc l c (by omega) (by omega) (by
  have h:((i.bytes*c:Nat):Int)<=281474976710656:=by omega
  rwa [Int.natCast_mul]at h) h63
 simp only[Int.toNat_natCast]at hrun
 refine⟨fun w=>⟨_,_,w.drawn,hrun w⟩,fun n ob v ⟨w,d,hn,hr⟩ hs=>?_⟩
 rw[hrun w]at hr
 injection hr with h1 h2
 have h3:Obj.cells (madeCells zv.cells (c*i.size)) e=ob:=A79 (d:=w.drawn) h2
 subst h1 hn
 have hzs:zv.cells.size=i.size:=by rw[<-hT.zlen,<-hzl];simp
 have hget: ∀(j:Nat) (u:Value),(Af3 z c)[j]?=some u->(madeCells zv.cells (c*i.size))[j]?=some u:=by
  intro j u hu
  have hj:=(List.getElem?_eq_some_iff.1 hu).1
  rw[Af6,hT.zlen]at hj
  rw[Au6 z c j (by rw[hT.zlen];exact hj),hT.zlen]at hu
  have hp:=hT.pos
  have hm:j%i.size<zv.cells.size:=by rw[hzs];exact Nat.mod_lt _ hp
  simp only[madeCells,Array.getElem?_map,Array.getElem?_range,hj,if_true,Option.map_some]
  rw[hzs,<-hu,<-hzl]
  simp[hm]
 refine⟨⟨some ⟨w.heap.size,0,none⟩,l,c⟩,rfl,hk _ _ ⟨?_,hlc,.inr ⟨w.heap.size,0,_,(0,0),rfl,by rw[<-h3],?_,.inl (Nat.le_refl _),fun j u hu=>?_⟩⟩ ⟨_,h3.symm,size_madeCells _ _,hget⟩ hs⟩
 ·rw[Af6,hT.zlen]
 ·rw[size_madeCells];simp
 ·rw[Nat.zero_add]
  refine hget j u ?_
  have hj:=(List.getElem?_eq_some_iff.1 hu).1
  rw[Af6]at hj
  rw[Au6 z c j (Nat.lt_of_lt_of_le hj (Nat.mul_le_mul_right _ hlc)),<-Au6 z l j hj]
  exact hu
theorem Ck0{t t2 ty e:TypeId}{sz:Nat}(hu:P.underlying t=some (.slice e))(hs:P3 P e=some sz){A B:A4}{b off:Nat}{c:Array Value}{T:TypeId}{fz:Nat×Nat}{v:SlV}(ha:v.a=some ⟨b,off,none⟩)
  {vs:SlV} {ws:List Value} (src:Sl (A++(b,Obj.cells c T fz)::B) vs sz ws) (hpl:ws.all S5=true) (hfit:off+v.len*sz<=c.size) (hfz:fz.2<=fz.1\/c.size<=fz.1) {k:RsV [.lf (.int .i64)]->HP}
  (hk:k (((min vs.len v.len:Nat):Int),()) (A++(b,Obj.cells (wr c off (ws.take (min vs.len v.len*sz))) T fz)::B)):
  smW P (Builtin.copy_ #[t,t2] ty #[.slice v.a v.len v.cap,.slice vs.a vs.len vs.cap]) [.lf (.int .i64)] k (A++(b,Obj.cells c T fz)::B):=by
 intro E F w hw
 have hf:=Src.take (P:=P) src (m:=min vs.len v.len) (Nat.min_le_left _ _) hw
 have hle:min vs.len v.len*sz<=v.len*sz:=Nat.mul_le_mul_right _ (Nat.min_le_right _ _)
 have hlt:(ws.take (min vs.len v.len*sz)).length<=min vs.len v.len*sz:=List.length_take_le _ _
 have hpl':(ws.take (min vs.len v.len*sz)).all S5=true:=by
  rw[List.all_eq_true]at hpl⊢
  exact fun x hx=>hpl x (List.mem_of_mem_take hx)
 obtain⟨w',hr,hw'⟩:=R4 (P:=P) (E:=E) (A:=A) (B:=B) (F:=F) (b:=b) (T:=T) (fz:=fz) (ws.take (min vs.len v.len*sz)) c off 0 w hpl' (by simpa using hw) (by omega) (by intro j hj;omega)
 refine⟨_,w',_,?_,by simpa using hw',(((min vs.len v.len:Nat):Int),()),rfl,hk⟩
 rw[ha]
 have hf2:(Builtin.firstCells sz (vs.len.min v.len) (.slice vs.a vs.len vs.cap)).run P w= .ok (ws.take (min vs.len v.len*sz)).toArray w:=hf
 have hsz:(sizeOf e).run P w= .ok sz w:=G9 hs w
 have key: ∀(x:Value),(Builtin.lenOf x).run P w= .ok vs.len w->(Builtin.firstCells sz (vs.len.min v.len) x).run P w= .ok (ws.take (min vs.len v.len*sz)).toArray w->
   (Builtin.copy_ #[t,t2] ty #[.slice (some ⟨b,off,none⟩) v.len v.cap,x]).run P w= .ok (.int .i64 ((vs.len.min v.len:Nat):Int)) w':=by
  intro x h1 h2
  have hr2:(storeCells ⟨b,off,none⟩ (ws.take (min vs.len v.len*sz))).run P w= .ok () w':=hr
  simp only[Builtin.copy_,List.getElem?_toArray,List.getElem?_cons_zero,List.getElem?_cons_succ,Sem.run_bind,D7 hu,Result.andThen_ok,h1,hsz,h2,hr2,Sem.run_pure,goInt]
 exact key _ rfl hf2
def B56(w:World):A4:=w.heap.toList.zipIdx.map fun p=>(p.2,p.1)
theorem A93{w:World}{b:Nat}{o:Obj}:(b,o)∈B56 w↔w.heap[b]?=some o:=by
 unfold B56
 simp only[List.mem_map,Prod.exists,Prod.mk.injEq]
 constructor
 ·rintro⟨x,i,hm,rfl,rfl⟩
  have:=List.mem_zipIdx_iff_getElem?.1 hm
  simpa using this
 ·intro h
  exact⟨o,b,List.mem_zipIdx_iff_getElem?.2 (by simpa using h),rfl,rfl⟩
theorem Cg7(w:World):Q9 w w (B56 w):=by
 refine⟨?_,fun p hp=>A93.1 hp,rfl,rfl,rfl⟩
 have:(B56 w).map Prod.fst=List.range w.heap.size:=by
  unfold B56
  rw[List.map_map]
  have h2:(Prod.fst∘fun(p:Obj×Nat)=>(p.2,p.1))=Prod.snd:=rfl
  rw[h2,List.zipIdx_map_snd]
  simp[List.range_eq_range']
 rw[this]
 exact List.nodup_range
theorem Cy7{w w':World}{L':A4}(h:Q9 w w' L')(hs: ∀p∈B56 w,p∈L'):Go.RowKit.Below w.heap.size w w':=by
 have hb: ∀k,k<w.heap.size->w'.heap[k]?=w.heap[k]?:=by
  intro k hk
  have h1:w.heap[k]?=some w.heap[k]:=by simp[hk]
  rw[h1]
  exact h.blk (k,w.heap[k]) (hs _ (A93.2 h1))
 refine⟨h.os,h.tape,h.output,?_,hb⟩
 rcases Nat.eq_zero_or_pos w.heap.size with h0|h0
 ·omega
 ·have:=hb (w.heap.size-1) (by omega)
  have h1:w.heap[w.heap.size-1]?=some (w.heap[w.heap.size-1]'(by omega)):=by
   rw[Array.getElem?_eq_getElem (by omega)]
  rw[h1]at this
  have:=(Array.getElem?_eq_some_iff.1 this).1
  omega
theorem law_calls{f:FuncId}{args:Array Value}{w:World}(h:Reads P f args (B56 w) (.bool true)):Calls P f args w fun e w'=>e= .returned (.bool true)/\Go.RowKit.Below w.heap.size w w':=by
 refine Calls.mono (h w [] w (by simpa using Cg7 w)) ?_
 rintro e w' ⟨v,L',rfl,hw',rfl,rfl⟩
 exact⟨rfl,Cy7 hw' (fun p hp=>by simpa using hp)⟩
end
open Go.WideShapes
section
variable {P:Program} {w:World}
structure Dec(P:Program)(w:World)(t:TypeId)(α:Type)(enc:α->List Value)(wf:α->Prop):Prop where
 dec: ∀{H:Type} {e':TypeId×Value->H} {spare:Nat->Bool} {held:Bool} {fuel:Nat} {cs:List Value} {y:DataW H×List MemPlace},DataW.trod e' P w 0 spare held fuel t cs=some y-> ∃x,cs=enc x/\wf x
def Q6(k:IntKind)(n:Int):Prop:=(Lit.int k n).wf=true
theorem dec_int{t:TypeId}{k:IntKind}(hu:P.underlying t=some (.int k)):Dec P w t Int (fun n=>[.int k n]) (Q6 k):=
 ⟨fun h=>by obtain⟨n,h1,_,h2⟩:=DataW.trod_int hu h;exact⟨n,h1,h2⟩⟩
theorem dec_u8{t:TypeId}(hu:P.underlying t=some (.int .u8)):Dec P w t UInt8 (fun b=>[bv b]) (fun _=>True):=
 ⟨fun h=>by
  obtain⟨n,h1,_,h2⟩:=DataW.trod_int hu h
  have hb:0<=n/\n<=255:=by
   simp only[Lit.wf,Bool.and_eq_true,decide_eq_true_eq]at h2
   exact h2
  refine⟨UInt8.ofNat n.toNat,?_,trivial⟩
  rw[h1]
  simp only[bv]
  congr 2
  have:(UInt8.ofNat n.toNat).toNat=n.toNat:=by simp;omega
  rw[this];omega⟩
theorem dec_str{t:TypeId}(hu:P.underlying t=some .string):Dec P w t ByteArray (fun s=>[.string s]) (fun s=>s.size<=maxLen):=
 ⟨fun h=>by obtain⟨n,h1,_,h2⟩:=DataW.trod_string hu h;exact⟨n,h1,h2⟩⟩
theorem cells?_some{a:Addr}{n:Nat}{cs:List Value}(h:w.cells? 0 a n=some cs):cs.length=n/\ ∀i v,cs[i]?=some v->w.cell? (a.add i)=some v:=by
 unfold World.cells? at h
 rw[if_pos (Nat.zero_le _)]at h
 have h1:=mapM_some_length h
 refine⟨by simpa using h1,fun i v hv=>?_⟩
 have hi:i<n:=by
  have:=(List.getElem?_eq_some_iff.1 hv).1
  simp at h1;omega
 have:=mapM_some_get h i i (by simp[hi])
 rw[this];exact hv
theorem Ce5{a:Addr}{vs:List Value}(hne:vs≠[])(h: ∀(i:Nat) (v:Value),vs[i]?=some v->w.cell? (a.add i)=some v):D4 a vs (B56 w):=by
 have h0:w.cell? a=some (vs[0]'(by cases vs with|nil=>exact absurd rfl hne|cons x r=>simp)):=by
  have:=h 0 (vs[0]'(by cases vs with|nil=>exact absurd rfl hne|cons x r=>simp)) (by simp)
  rwa [show a.add 0=a from rfl]at this
 have key: ∀{b:Addr} {v:Value},w.cell? b=some v->b.spot=none/\ ∃c T fz,w.heap[b.block]?=some (.cells c T fz)/\c[b.off]?=some v:=by
  intro b v hb
  unfold World.cell? at hb
  split at hb
  ·rename_i c T fz hblk
   split at hb
   ·cases hb
   ·rename_i hs
    exact⟨by simpa using hs,c,T,fz,hblk,hb⟩
  ·cases hb
 obtain⟨hs,c,T,fz,hblk,_⟩:=key h0
 refine⟨c,T,fz,A93.2 hblk,hs,fun i v hv=>?_⟩
 have hi:=h i v hv
 rw[O3 hs]at hi
 obtain⟨_,c',T',fz',hblk',hc'⟩:=key hi
 simp only at hblk' hc'
 rw[hblk]at hblk'
 cases hblk'
 exact hc'
theorem By0{α:Type}{enc:α->List Value}{sz:Nat}(hsz: ∀x,(enc x).length=sz): ∀(l:List α) (i j:Nat) (v:Value),j<sz->(l.flatMap enc)[i*sz+j]?=some v-> ∃h:i<l.length,(enc l[i])[j]?=some v
 |[],i,j,v,_,h=>by simp at h
 |x::r,0,j,v,hj,h=>by
  refine⟨by simp,?_⟩
  rw[List.flatMap_cons,List.getElem?_append_left (by rw[hsz];omega)]at h
  simpa using h
 |x::r,i+1,j,v,hj,h=>by
  rw[List.flatMap_cons,List.getElem?_append_right (by rw[hsz,Nat.succ_mul];omega)]at h
  have:(i+1)*sz+j-(enc x).length=i*sz+j:=by rw[hsz,Nat.succ_mul];omega
  rw[this]at h
  obtain⟨hi,h2⟩:=By0 hsz r i j v hj h
  exact⟨by simp;omega,by simpa using h2⟩
theorem N7{α:Type}{enc:α->List Value}{sz:Nat}(hsz: ∀x,(enc x).length=sz)(l:List α):(l.flatMap enc).length=l.length*sz:=by
 induction l with
 |nil=>simp
 |cons x r ih=>rw[List.flatMap_cons,List.length_append,ih,hsz,List.length_cons,Nat.succ_mul];omega
structure C48(w:World){α:Type}(enc:α->List Value)(wf:α->Prop)(sz:Nat)(p:SlV×List α):Prop where
 len:p.1.len=p.2.length
 cap:p.1.cap<=maxLen
 sl:Sl (B56 w) p.1 sz (p.2.flatMap enc)
 all: ∀x∈p.2,wf x
theorem Bs5{α:Type}{n:Nat}{Q:Nat->α->Prop}(h: ∀i,i<n-> ∃x,Q i x): ∃l:List α,l.length=n/\ ∀i (hi:i<l.length),Q i l[i]:=by
 induction n with
 |zero=>exact⟨[],rfl,fun i hi=>by simp at hi⟩
 |succ n ih=>
  obtain⟨l,hl,hq⟩:=ih fun i hi=>h i (by omega)
  obtain⟨x,hx⟩:=h n (by omega)
  refine⟨l++[x],by simp[hl],fun i hi=>?_⟩
  by_cases h2:i<l.length
  ·rw[List.getElem_append_left h2];exact hq i h2
  ·have:i=l.length:=by simp at hi;omega
   subst this
   simpa[hl]using hx
theorem dec_slice{t e:TypeId}{sz:Nat}{α:Type}{enc:α->List Value}{wf:α->Prop}(hu:P.underlying t=some (.slice e))(hc:P.cellsOf e=sz)(hsz: ∀x,(enc x).length=sz)(hpos:0<sz)(D:Dec P w e α enc wf):
  Dec P w t (SlV×List α) (fun p=>[.slice p.1.a p.1.len p.1.cap]) (C48 w enc wf sz):=
 ⟨fun h=>by
  rcases Deep.open_slice hu h with⟨rfl,_⟩|⟨a,len,cap,m,n,Dd,Pl,rfl,_,hle,hcap,hm,_,hall⟩
  ·exact⟨(⟨none,0,0⟩,[]),rfl,rfl,Nat.zero_le _,Sl.nil sz,by simp⟩
  ·have hlm:len<=m:=by rw[hm];split<;>omega
   obtain⟨l,hl,hq⟩:=Bs5 (n:=len) (Q:=fun i x=>w.cells? 0 (a.add (i*sz)) sz=some (enc x)/\wf x) fun i hi=>by
    obtain⟨cs,h1,h2⟩:=hall i (by omega)
    obtain⟨x,rfl,hx⟩:=D.dec h2
    rw[hc]at h1
    exact⟨x,h1,hx⟩
   refine⟨(⟨some a,len,cap⟩,l),rfl,hl.symm,hcap,⟨?_,hle,?_⟩,fun x hx=>?_⟩
   ·rw[N7 hsz,hl]
   ·by_cases h0:l.flatMap enc=[]
    ·exact .inl h0
    ·refine .inr ⟨a,rfl,Ce5 h0 fun i v hv=>?_⟩
     have hi:=(List.getElem?_eq_some_iff.1 hv).1
     rw[N7 hsz]at hi
     have hdiv:i=(i/sz)*sz+i%sz:=by rw[Nat.mul_comm];exact(Nat.div_add_mod i sz).symm
     rw[hdiv]at hv
     obtain⟨hil,hv2⟩:=By0 hsz l (i/sz) (i%sz) v (Nat.mod_lt _ hpos) hv
     obtain⟨_,hcell⟩:=cells?_some (hq _ hil).1
     have:=hcell _ _ hv2
     rw[hdiv]
     have hadd:(a.add (i/sz*sz)).add (i%sz)=a.add (i/sz*sz+i%sz):=by
      unfold Addr.add
      by_cases h1:i/sz*sz=0<;>by_cases h2:i%sz=0<;>simp[h1,h2,Nat.add_assoc]
     rw[hadd]at this
     exact this
   ·obtain⟨i,hi,rfl⟩:=List.mem_iff_getElem.1 hx
    exact(hq i hi).2⟩
def Bz2(P:Program):List Field->Nat->Nat->Bool
 |[],base,n=>Nat.beq base n
 |f::r,base,n=>Nat.beq f.offset base&&Bz2 P r (base+P.cellsOf f.type) n
structure Cz5(P:Program)(w:World)(fs:List Field)(α:Type)(enc:α->List Value)(wf:α->Prop):Prop where
 dec: ∀{H:Type} {e':TypeId×Value->H} {spare:Nat->Bool} {held:Bool} {fuel:Nat} {cs:List Value} {base:Nat},Bz2 P fs base cs.length=true->
  (∀f∈fs,∃y,DataW.trod e' P w 0 spare held fuel f.type ((cs.drop f.offset).take (P.cellsOf f.type))=some y)-> ∃x,cs.drop base=enc x/\wf x
theorem decF_nil:Cz5 P w [] Unit (fun _=>[]) (fun _=>True):=
 ⟨fun{H e' spare held fuel cs base} hc _=>⟨(),by have:=Nat.eq_of_beq_eq_true hc;rw[this];simp,trivial⟩⟩
theorem decF_cons{f:Field}{fs:List Field}{α β:Type}{enc:α->List Value}{encs:β->List Value}{wf:α->Prop}{wfs:β->Prop}(D:Dec P w f.type α enc wf)(Ds:Cz5 P w fs β encs wfs):
  Cz5 P w (f::fs) (α×β) (fun x=>enc x.1++encs x.2) (fun x=>wf x.1/\wfs x.2):=
 ⟨fun{H e' spare held fuel cs base} hc hall=>by
  simp only[Bz2,Bool.and_eq_true]at hc
  have ho:=Nat.eq_of_beq_eq_true hc.1
  obtain⟨y,hy⟩:=hall f List.mem_cons_self
  obtain⟨x,hx,hwx⟩:=D.dec hy
  obtain⟨z,hz,hwz⟩:=Ds.dec hc.2 fun g hg=>hall g (List.mem_cons_of_mem _ hg)
  refine⟨(x,z),?_,hwx,hwz⟩
  rw[ho]at hx
  rw[<-hx,<-hz,<-List.drop_drop]
  exact(List.take_append_drop _ _).symm⟩
theorem dec_struct{t:TypeId}{fs:Array Field}{α:Type}{enc:α->List Value}{wf:α->Prop}(hu:P.underlying t=some (.struct fs))(hc:Bz2 P fs.toList 0 (P.cellsOf t)=true)(D:Cz5 P w fs.toList α enc wf):Dec P w t α enc wf:=
 ⟨fun h=>by
  obtain⟨xs,n,_,_,hl,hlen,hall⟩:=DataW.trod_struct hu h
  rw[<-hl]at hc
  obtain⟨x,hx,hw⟩:=D.dec hc fun f hf=>by
   obtain⟨i,hi,rfl⟩:=List.mem_iff_getElem.1 hf
   have hi':i<fs.size:=by simpa using hi
   have:=hall i fs[i] (by simp[hi'])
   rw[List.getElem?_eq_getElem (by omega)]at this
   exact⟨_,this⟩
  exact⟨x,by simpa using hx,hw⟩⟩
theorem arg_slice{t e:TypeId}{α:Type}{enc:α->List Value}{wf:α->Prop}{sz:Nat}{r:Reach}{b0:Nat}{v:Value}{H:Type}{e':TypeId×Value->H}{sp:Nat->Bool}{held:Bool}{d:DataW H}{ps:List MemPlace}(hu:P.underlying t=some (.slice e))(hv:Value.okWide P w r b0 t v)
  (D:Dec P w t (SlV×List α) (fun p=>[.slice p.1.a p.1.len p.1.cap]) (C48 w enc wf sz)) (h:DataW.Trod e' P w 0 sp held t v d ps): ∃(s:SlV) (l:List α),v= .slice s.a s.len s.cap/\C48 w enc wf sz (s,l):=by
 obtain⟨a,len,cap,rfl⟩:=okWide_slice hu hv
 obtain⟨fuel,hf⟩:=h
 obtain⟨⟨s,l⟩,h1,h2⟩:=D.dec hf
 have:[Value.slice a len cap]=[.slice s.a s.len s.cap]:=h1
 injection this with h3
 exact⟨s,l,h3,h2⟩
theorem arg_struct{t:TypeId}{fs:Array Field}{α:Type}{enc:α->List Value}{wf:α->Prop}{r:Reach}{b0:Nat}{v:Value}{H:Type}{e':TypeId×Value->H}{sp:Nat->Bool}{held:Bool}{d:DataW H}{ps:List MemPlace}(hu:P.underlying t=some (.struct fs))(hv:Value.okWide P w r b0 t v)
  (D:Dec P w t α enc wf) (h:DataW.Trod e' P w 0 sp held t v d ps): ∃x,v= .agg (enc x).toArray/\wf x:=by
 obtain⟨cs,rfl,_⟩:=okWide_struct hu hv
 obtain⟨fuel,hf⟩:=h
 obtain⟨x,h1,h2⟩:=D.dec hf
 have:cs.toList=enc x:=h1
 exact⟨x,by rw[<-this],h2⟩
end
theorem xor64(x y:Int):Ak8 .xor .u64 x y=((BitVec.ofInt 64 x^^^BitVec.ofInt 64 y).toNat:Int):=by
 simp only[Ak8,IntKind.bits];rw[Bn6,Ar9];rfl
theorem C69{m:Nat}(a:BitVec m)(k n:Nat)(hn:n=m):Int.fdiv (a.toNat:Int) (2^(min k n))=((a>>>k).toNat:Int):=by
 subst hn
 rw[BitVec.toNat_ushiftRight,Nat.shiftRight_eq_div_pow,Int.fdiv_eq_ediv_of_nonneg _ (by exact Int.le_of_lt (Int.pow_pos (by omega)))]
 have h2:(2:Int)^min k n=((2^min k n:Nat):Int):=by simp
 rw[h2,<-Int.natCast_ediv]
 congr 1
 by_cases h:k<=n
 ·rw[Nat.min_eq_left h]
 ·rw[Nat.min_eq_right (by omega)]
  have h3:=a.isLt
  rw[Nat.div_eq_of_lt h3,Nat.div_eq_of_lt (Nat.lt_of_lt_of_le h3 (Nat.pow_le_pow_right (by omega) (by omega)))]
theorem shr64(a:BitVec 64)(k:Nat):Int.fdiv (a.toNat:Int) (2^(min k IntKind.u64.bits))=((a>>>k).toNat:Int):=C69 a _ _ rfl
theorem wf_rng{k:IntKind}{n:Int}(h:Q6 k n):k.min<=n/\n<=k.max:=by
 simpa only[Q6,Lit.wf,Bool.and_eq_true,decide_eq_true_eq]using h
theorem Bd5{n:Int}(h:Q6 .i64 n): -9223372036854775808<=n/\n<=9223372036854775807:=by
 exact wf_rng h
theorem Cs9(m:Nat)(c:UInt8):BitVec.ofInt m (c.toNat:Int)=BitVec.ofNat m c.toNat:=BitVec.ofInt_natCast ..
theorem Sl.head{p:Nat×Obj}{L:A4}{v:SlV}{sz:Nat}{vs:List Value}(h:Sl [p] v sz vs):Sl (p::L) v sz vs:=h.mono fun q hq=>by
 obtain rfl:=List.mem_singleton.1 hq
 exact List.mem_cons_self
section
variable {P:Program} {L:A4}
theorem CallF.at'{f:FuncId}{args:Array Value}{K:Value->HP}{A X Y:A4}(h:CallF P f args A K):CallF P f args (X++A++Y) fun v L'=> ∃A',L'=X++A'++Y/\K v A':=
 fun E F w hw=>Calls.mono (CallF.frame (R:=X++Y) h E F w (hw.perm (by
   refine List.Perm.append_right F ?_
   have:(X++A++Y).Perm (A++X++Y):=List.Perm.append_right Y List.perm_append_comm
   simpa[List.append_assoc]using this))) fun e w' ⟨v,L',he,hw',A',hL,hK⟩=>by
  subst hL
  refine⟨v,X++A'++Y,he,hw'.perm (List.Perm.append_right F ?_),A',rfl,hK⟩
  have:(A'++X++Y).Perm (X++A'++Y):=List.Perm.append_right Y List.perm_append_comm
  simpa[List.append_assoc]using this
theorem J5{f:FuncId}{args:Array Value}{rs:List Sh}{k:RsV rs->HP}{K:Value->HP}{A:A4}(X Y:A4)(h:CallF P f args A K)(hL:L=X++A++Y)
  (hk: ∀v A',Sat (X++A'++Y)->K v A'-> ∃r,v=Af9 rs r/\k r (X++A'++Y)):cl P f args rs k L:=by
 subst hL
 refine CallF.mono (CallF.at' h) ?_
 rintro v L' hs ⟨A',rfl,hK⟩
 exact hk v A' hs hK
theorem Reads.in{f:FuncId}{args:Array Value}{A X Y:A4}{v:Value}(h:Reads P f args A v):Reads P f args (X++A++Y) v:=
 CallF.mono (CallF.at' h) (by rintro _ _ _ ⟨A',rfl,rfl,rfl⟩;exact⟨rfl,rfl⟩)
theorem Au5.permL{s:Sem Value}{K:Value->HP}{L':A4}(hp:L.Perm L')(h:Au5 P s K L'):Au5 P s K L:=
 fun E F w hw=>h E F w (hw.perm (hp.append_right F))
theorem Au5.permK{s:Sem Value}{K K':Value->HP}(h:Au5 P s K L)(hk: ∀v L',K v L'-> ∃L'',L'.Perm L''/\K' v L''):Au5 P s K' L:=by
 intro E F w hw
 obtain⟨v,w',L',hr,hw',hK⟩:=h E F w hw
 obtain⟨L'',hp,hK'⟩:=hk v L' hK
 exact⟨v,w',L'',hr,hw'.perm (hp.append_right F),hK'⟩
theorem Ai5{t t2 ty e:TypeId}{sz bytes:Nat}{z:List Value}(hT:U8 P t e sz bytes z)(h2:As9 P t2)
  {v:SlV} {vs ws:List Value} {x:Value} {n:Nat} {seg:A4} (X Y:A4) (own:Own v sz e vs seg) (hL:L=X++seg++Y) (src:Src L x sz n ws) (hws:ws.all S5=true)
  (hb:(v.len+n)*bytes<=140737488355328) {k:RsV [.lf .sl]->HP} (hk: ∀v' seg',v'.len=v.len+n->(v.len+n<=v.cap->v'.cap=v.cap/\v'.a=v.a)->v.cap<=v'.cap->Own v' sz e (vs++ws) seg'->k (v',()) (X++seg'++Y)):
  smW P (Builtin.append_ #[t,t2] ty #[.slice v.a v.len v.cap,x]) [.lf .sl] k L:=by
 subst hL
 have hp:(X++seg++Y).Perm (seg++(X++Y)):=by
  have:(X++seg++Y).Perm (seg++X++Y):=List.Perm.append_right Y List.perm_append_comm
  simpa[List.append_assoc]using this
 have src':Src (seg++(X++Y)) x sz n ws:=by
  cases src with
  |sl h=>exact .sl (h.mono fun p hq=>hp.subset hq)
  |str s=>exact .str s
 refine Au5.permL hp (Au5.permK (Bs9 (R:=X++Y) hT h2 own src' hws hb (k:=fun r L'=> ∃seg',L'=seg'++(X++Y)/\k r (X++seg'++Y)) fun v' seg' h1 h2 h3 h4=>⟨seg',rfl,hk v' seg' h1 h2 h3 h4⟩) ?_)
 rintro v' L' ⟨r,hr,seg',rfl,hk'⟩
 refine⟨X++seg'++Y,?_,r,hr,hk'⟩
 have:(seg'++X++Y).Perm (X++seg'++Y):=List.Perm.append_right Y List.perm_append_comm
 simpa[List.append_assoc]using this
theorem E6{t t2 ty e:TypeId}{sz bytes:Nat}{z:List Value}(hT:U8 P t e sz bytes z)(h2:As9 P t2)
  {v:SlV} {vs ws:List Value} {x:Value} {n:Nat} {seg:A4} (X Y:A4) (own:Own v sz e vs seg) (hL:L=X++seg++Y) (src:Src L x sz n ws) (hws:ws.all S5=true)
  (hb:(v.len+n)*bytes<=140737488355328) {k:RsV [.lf .sl]->HP} (hk: ∀v' seg',v'.len=v.len+n->Own v' sz e (vs++ws) seg'->k (v',()) (X++seg'++Y)):
  smW P (Builtin.append_ #[t,t2] ty #[.slice v.a v.len v.cap,x]) [.lf .sl] k L:=
 Ai5 hT h2 X Y own hL src hws hb fun v' seg' h _ _ h3=>hk v' seg' h h3
theorem ifP{p:Prop}[Decidable p]{A B:HP}(h:p)(hk:A L):ifB (decide p) A B L:=ifT (decide_eq_true h) hk
theorem ifN{p:Prop}[Decidable p]{A B:HP}(h: ¬p)(hk:B L):ifB (decide p) A B L:=ifF (decide_eq_false h) hk
theorem M6{t e:TypeId}{sz bytes:Nat}{z:List Value}(hu:P.underlying t=some (.slice e))(h:((P.info? e).bind fun i=>i.zero.map fun v=>(i.size,i.bytes,v.cells.toList))=some (sz,bytes,z))
  (hz:z.length=sz) (hs:0<sz) (hb:0<bytes):U8 P t e sz bytes z:=by
 refine⟨hu,?_,hz,hs,hb⟩
 cases hi:P.info? e with
 |none=>rw[hi]at h;cases h
 |some i=>
  rw[hi]at h
  cases hv:i.zero with
  |none=>simp[hv]at h
  |some v=>
   simp only[Option.bind_some,hv,Option.map_some,Option.some.injEq,Prod.mk.injEq]at h
   exact⟨i,rfl,h.1,h.2.1,v,hv,h.2.2⟩
theorem ldB{n off:Nat}{c:Array Value}{T:TypeId}{fz:Nat×Nat}{vs:List Value}(hm:(n,Obj.cells c T fz)∈L)(h:(c.toList.drop off).take vs.length=vs):D4 ⟨n,off,none⟩ vs L:=by
 refine .blk hm fun i v hv=>?_
 rw[<-h,List.getElem?_take]at hv
 split at hv
 ·rw[List.getElem?_drop]at hv
  simpa using hv
 ·cases hv
theorem E3{ad:Addr}{ws:List Value}{k:HP}{n off:Nat}{c:Array Value}{T:TypeId}{fz:Nat×Nat}(A B:A4)(had:ad=⟨n,off,none⟩)(hL:L=A++(n,Obj.cells c T fz)::B)(hsz:off+ws.length<=c.size)
  (hfz:fz.2<=fz.1\/c.size<=fz.1) (c':Array Value) (hc:wr c off ws=c') (hk:k (A++(n,Obj.cells c' T fz)::B)):st ad ws k L:=by
 subst had hL hc
 exact⟨A,B,c,T,fz,rfl,rfl,hsz,fun i hi=>by simp only;omega,hk⟩
def A18(vs:List Value)(p:Nat)(ws:List Value):List Value:=vs.take p++ws++vs.drop (p+ws.length)
theorem A78(vs:List Value)(p:Nat)(ws:List Value)(h:p+ws.length<=vs.length):(A18 vs p ws).length=vs.length:=by
 simp only[A18,List.length_append,List.length_take,List.length_drop];omega
theorem Al8(vs:List Value)(p:Nat)(ws:List Value)(h:p+ws.length<=vs.length)(i:Nat):(A18 vs p ws)[i]?=if p<=i/\i<p+ws.length then ws[i-p]? else vs[i]?:=by
 unfold A18
 rw[List.append_assoc,List.getElem?_append]
 have hl:(vs.take p).length=p:=by rw[List.length_take];omega
 rw[hl]
 by_cases h1:i<p
 ·rw[if_pos h1,if_neg (by omega),List.getElem?_take,if_pos h1]
 ·rw[if_neg h1,List.getElem?_append]
  by_cases h2:i-p<ws.length
  ·rw[if_pos h2,if_pos (by omega)]
  ·rw[if_neg h2,if_neg (by omega),List.getElem?_drop]
   congr 1;omega
theorem Al7{vs:List Value}{p:Nat}{w:Value}(h:p<vs.length):A18 vs p [w]=vs.set p w:=by
 apply List.ext_getElem?
 intro i
 rw[Al8 _ _ _ (by simp only[List.length_cons,List.length_nil];omega),List.getElem?_set]
 by_cases hi:p=i
 ·subst hi;simp[h]
 ·rw[if_neg (by simp only[List.length_cons,List.length_nil];omega),if_neg hi]
theorem Own.st{v:SlV}{sz:Nat}{T:TypeId}{vs ws:List Value}{seg:A4}(own:Own v sz T vs seg)(X Y:A4){p:Nat}(hp:p+ws.length<=vs.length)(hws:0<ws.length){a ad:Addr}(ha:v.a=some a)(had:ad=Addr.add a p){k:HP}
  (hL:L=X++seg++Y) (hk: ∀seg',Own v sz T (A18 vs p ws) seg'->k (X++seg'++Y)):st ad ws k L:=by
 subst hL had
 rcases own.row with⟨ha',_,_⟩|⟨b,off,c,fz,ha',rfl,hsz,hfz,hc⟩
 ·rw[ha]at ha';cases ha'
 ·rw[ha]at ha'
  obtain rfl:=Option.some.inj ha'
  have hlen:=own.len
  have hcap:=own.cap
  have hle:=Nat.mul_le_mul_right sz hcap
  refine E3 (n:=b) (off:=off+p) (c:=c) (T:=T) (fz:=fz) X Y (O3 (ad:=⟨b,off,none⟩) rfl p) (by simp) (by omega) (by omega) _ rfl ?_
  have:=hk [(b,Obj.cells (wr c (off+p) ws) T fz)] ⟨by rw[A78 _ _ _ hp];exact hlen,hcap,.inr ⟨b,off,_,fz,ha,rfl,by rw[M9];exact hsz,by rw[M9];exact hfz,fun i u hu=>?_⟩⟩
  ·simpa using this
  ·rw[Al8 _ _ _ hp]at hu
   rw[Ae6 _ _ _ _ (by omega)]
   split at hu
   ·rw[if_pos (by omega),show off+i-(off+p)=i-p by omega];exact hu
   ·rw[if_neg (by omega)];exact hc i u hu
theorem Df4(l:List UInt8)(i:Nat)(x:UInt8):(bvs l).set i (.int .u8 (x.toNat:Int))=bvs (l.set i x):=by
 simp[bvs,List.map_set,bv]
theorem Sl.slc{v:SlV}{sz:Nat}{vs:List Value}(h:Sl L v sz vs)(hsz:0<sz){l h' m:Nat}(hl:l<=h')(hh:h'<=v.len)(hm:h'<=m):Sl L (P1 v l h' m sz) sz ((vs.drop (l*sz)).take ((h'-l)*sz)):=by
 have hlen:=h.len
 have h1:=Nat.mul_le_mul_right sz hh
 have h2:=Nat.mul_le_mul_right sz hl
 refine⟨?_,?_,?_⟩
 ·simp only[P1,Int.toNat_natCast,List.length_take,List.length_drop]
  rw[Nat.min_eq_left]
  rw[Nat.sub_mul];omega
 ·simp only[P1,Int.toNat_natCast];omega
 ·by_cases h0:(vs.drop (l*sz)).take ((h'-l)*sz)=[]
  ·exact .inl h0
  ·have hlt:l<h':=by
    rcases Nat.lt_or_ge l h' with h3|h3
    ·exact h3
    ·exfalso;apply h0
     rw[Nat.sub_eq_zero_of_le h3,Nat.zero_mul];rfl
   obtain⟨ad,ha,hld⟩:=h.at' (i:=l) (by omega) hsz
   refine .inr ?_
   simp only[P1,Int.toNat_natCast]
   rw[if_neg (by omega),ha]
   refine⟨_,rfl,hld.sub (l*sz) fun i u hu=>?_⟩
   rw[List.getElem?_take]at hu
   split at hu
   ·rw[List.getElem?_drop]at hu;exact hu
   ·cases hu
theorem K4{v:SlV}{l h m:Int}{sz:Nat}{k:SlV->HP}{l' h' m':Nat}(hl:l=l')(hh:h=h')(hm:m=m')(h1:l'<=h')(h2:h'<=m')(h3:m'<=v.cap)(hk:k (P1 v l' h' m' sz) L):slc v l h m sz k L:=by
 subst hl hh hm
 exact⟨⟨by omega,by omega,by omega,by omega⟩,hk⟩
theorem Ah1(l:List UInt8)(i j:Nat):((bvs l).drop (i*1)).take ((j-i)*1)=bvs ((l.drop i).take (j-i)):=by
 simp[bvs,List.map_drop,List.map_take]
theorem Ba9{α:Type}{enc:α->List Value}{sz:Nat}(hsz: ∀x,(enc x).length=sz): ∀(l:List α) (i:Nat) (h:i<l.length) (j:Nat),j<sz->(l.flatMap enc)[i*sz+j]?=(enc l[i])[j]?
 |[],i,h,j,_=>by simp at h
 |x::r,0,h,j,hj=>by
  rw[List.flatMap_cons,List.getElem?_append_left (by rw[hsz];omega),Nat.zero_mul,Nat.zero_add]
  rfl
 |x::r,i+1,h,j,hj=>by
  rw[List.flatMap_cons,List.getElem?_append_right (by rw[hsz,Nat.succ_mul];omega)]
  have:(i+1)*sz+j-(enc x).length=i*sz+j:=by rw[hsz,Nat.succ_mul];omega
  rw[this,Ba9 hsz r i (by simpa using h) j hj]
  rfl
theorem Sl.els_len{α:Type}{enc:α->List Value}{sz:Nat}{v:SlV}{l:List α}(hsz: ∀x,(enc x).length=sz)(hpos:0<sz)(h:Sl L v sz (l.flatMap enc)):v.len=l.length:=by
 have h1:=h.len
 rw[N7 hsz]at h1
 exact Nat.eq_of_mul_eq_mul_right hpos h1
theorem Sl.el{α:Type}{enc:α->List Value}{sz:Nat}{v:SlV}{l:List α}(hsz: ∀x,(enc x).length=sz)(hpos:0<sz)(h:Sl L v sz (l.flatMap enc)){i:Nat}(hi:i<l.length):
  ∃a,v.a=some a/\D4 (Addr.add a (i*sz)) (enc l[i]) L:=by
 obtain⟨a,ha,hl⟩:=h.at' (i:=i) (by rw[h.els_len hsz hpos];exact hi) hpos
 refine⟨a,ha,hl.sub (i*sz) fun j u hu=>?_⟩
 have hj:=(List.getElem?_eq_some_iff.1 hu).1
 rw[hsz]at hj
 rw[Ba9 hsz l i hi j hj];exact hu
def ivs(k:IntKind)(l:List Int):List Value:=l.map (Value.int k)
theorem K8(k:IntKind)(l:List Int):(ivs k l).length=l.length:=by simp[ivs]
theorem U6(k:IntKind)(l m:List Int):ivs k (l++m)=ivs k l++ivs k m:=by simp[ivs]
theorem Ag6(k:IntKind)(l:List Int):(ivs k l).all S5=true:=by
 induction l with
 |nil=>rfl
 |cons b r ih=>exact ih
theorem Cf3{k:IntKind}{l:List Int}{i:Nat}(h:i<l.length):(ivs k l)[i]?=some (.int k l[i]):=by
 simp[ivs,h]
abbrev ISl(L:A4)(v:SlV)(k:IntKind)(l:List Int):Prop:=Sl L v 1 (ivs k l)
theorem ISl.len{L:A4}{v:SlV}{k:IntKind}{l:List Int}(h:ISl L v k l):v.len=l.length:=by
 have:=Sl.len h;rw[K8]at this;omega
theorem ISl.some{L:A4}{v:SlV}{k:IntKind}{l:List Int}(h:ISl L v k l){i:Nat}(hi:i<l.length): ∃a,v.a=some a:=by
 obtain⟨ad,ha',hl⟩:=h.at' (i:=i) (by rw[h.len];exact hi) (by omega)
 exact⟨ad,ha'⟩
theorem ISl.rd{L:A4}{v:SlV}{k:IntKind}{l:List Int}(h:ISl L v k l){i:Nat}(hi:i<l.length){a:Addr}(ha:v.a=Option.some a)(j:Nat)(hj:j=i*1):D4 (Addr.add a j) [.int k l[i]] L:=by
 subst hj
 obtain⟨ad,ha',hl⟩:=h.at' (i:=i) (by rw[h.len];exact hi) (by omega)
 rw[ha]at ha'
 obtain rfl:=Option.some.inj ha'
 rw[Nat.mul_one]
 exact hl.one i (Cf3 hi)
theorem Dc2(k:IntKind)(l:List Int)(i:Nat)(x:Int):(ivs k l).set i (.int k x)=ivs k (l.set i x):=by
 simp[ivs,List.map_set]
theorem Cf2(k:IntKind)(l:List Int)(i j:Nat):((ivs k l).drop (i*1)).take ((j-i)*1)=ivs k ((l.drop i).take (j-i)):=by
 simp[ivs,List.map_drop,List.map_take]
theorem ISl.const{L:A4}{b:Nat}{k:IntKind}{l:List Int}{T:TypeId}{fz:Nat×Nat}(cap:Nat)(hc:l.length<=cap)(hm:(b,Obj.cells (ivs k l).toArray T fz)∈L):ISl L ⟨Option.some ⟨b,0,none⟩,l.length,cap⟩ k l:=
 ⟨by rw[K8];simp,hc,.inr ⟨_,rfl,.blk hm fun i v hv=>by simpa using hv⟩⟩
theorem C48.bytes{w:World}{wf:UInt8->Prop}{p:SlV×List UInt8}(h:C48 w (fun b=>[bv b]) wf 1 p):BSl (B56 w) p.1 p.2:=by
 have h1:=h.sl
 have h2:p.2.flatMap (fun b=>[bv b])=bvs p.2:=by
  generalize p.2=l
  induction l with
  |nil=>rfl
  |cons x r ih=>rw[List.flatMap_cons,ih];rfl
 rw[h2]at h1
 exact h1
end
section
variable {P:Program} {L:A4}
theorem Own.slc{v:SlV}{sz:Nat}{T:TypeId}{vs:List Value}{seg:A4}(own:Own v sz T vs seg){l h:Nat}(hl:l<=h)(hh:h<=v.len):
  Own (P1 v l h v.cap sz) sz T ((vs.drop (l*sz)).take ((h-l)*sz)) seg:=by
 have hlen:=own.len
 have hcap:=own.cap
 have h1:=Nat.mul_le_mul_right sz hh
 have h2:=Nat.mul_le_mul_right sz hl
 have h3:=Nat.mul_le_mul_right sz hcap
 refine⟨?_,?_,?_⟩
 ·simp only[P1,Int.toNat_natCast,List.length_take,List.length_drop]
  rw[Nat.min_eq_left]
  rw[Nat.sub_mul];omega
 ·simp only[P1,Int.toNat_natCast];omega
 ·rcases own.row with⟨ha,hc,rfl⟩|⟨b,off,c,fz,ha,rfl,hsz,hfz,hcell⟩
  ·refine .inl ⟨?_,?_,rfl⟩
   ·simp only[P1,Int.toNat_natCast,ha];split<;>rfl
   ·simp only[P1,Int.toNat_natCast];omega
  ·by_cases he:v.cap=l
   ·refine .inr ⟨b,off,c,fz,?_,rfl,?_,hfz,?_⟩
    ·simp only[P1,Int.toNat_natCast,if_pos he,ha]
    ·simp only[P1,Int.toNat_natCast];rw[he,Nat.sub_self,Nat.zero_mul];omega
    ·intro i u hu
     have:h=l:=by omega
     subst this
     simp at hu
   ·refine .inr ⟨b,off+l*sz,c,fz,?_,rfl,?_,hfz,?_⟩
    ·simp only[P1,Int.toNat_natCast,if_neg he,ha,Option.map_some]
     rw[O3 rfl]
    ·simp only[P1,Int.toNat_natCast]
     rw[Nat.sub_mul]
     have:=Nat.mul_le_mul_right sz (show l<=v.cap by omega)
     omega
    ·intro i u hu
     rw[List.getElem?_take]at hu
     split at hu
     ·rw[List.getElem?_drop]at hu
      rw[Nat.add_assoc]
      exact hcell _ _ hu
     ·cases hu
theorem A17{t ty:TypeId}{d:TypeDesc}(hu:P.underlying t=some d){a:Option Addr}{n c:Nat}(h:a=none\/n=0)(w:World):(Builtin.clear_ #[t] ty #[.slice a n c]).run P w= .ok (.tuple #[]) w:=by
 rcases h with rfl|rfl
 ·cases d<;>simp[Builtin.clear_,D7 hu]
 ·cases a<;>cases d<;>simp[Builtin.clear_,D7 hu]
theorem A16{t ty e:TypeId}{i:TypeInfo}{zv:Value}(hu:P.underlying t=some (.slice e))(hi:P.info? e=some i)(hz:i.zero=some zv){a:Addr}{n c:Nat}(hn:n≠0){w w':World}
  (hs:(storeCells a (Builtin.zeroCells zv.cells n).toList).run P w= .ok () w'):(Builtin.clear_ #[t] ty #[.slice (some a) n c]).run P w= .ok (.tuple #[]) w':=by
 cases n with
 |zero=>exact absurd rfl hn
 |succ n=>simp[Builtin.clear_,D7 hu,zeroValue,typeInfo,hi,hz,hs]
theorem Ah0{t ty e:TypeId}{sz bytes:Nat}{z:List Value}(hT:U8 P t e sz bytes z)(hz:z.all S5=true){v:SlV}{vs:List Value}{seg:A4}(X Y:A4)(own:Own v sz e vs seg)(hL:L=X++seg++Y){h:Nat}(h1:v.len<=h)(h2:h<=v.cap)
  {s:SlV} (hs:s=P1 v v.len h v.cap sz) {k:RsV []->HP} (hk: ∀seg',Own v sz e vs seg'->k () (X++seg'++Y)):smW P (Builtin.clear_ #[t] ty #[.slice s.a s.len s.cap]) [] k L:=by
 subst hL hs
 obtain⟨i,hi,his,hib,zv,hzv,hzl⟩:=hT.info
 subst his
 have hsl:(P1 v v.len h v.cap i.size).len=h-v.len:=by simp only[P1,Int.toNat_natCast]
 intro E F w hw
 by_cases hn:h-v.len=0
 ·exact⟨_,w,_,A17 hT.und (.inr (by rw[hsl];exact hn)) w,hw,(),rfl,hk seg own⟩
 ·rcases own.row with⟨ha,hc,rfl⟩|⟨b,off,c,fz,ha,rfl,hsz,hfz,hcell⟩
  ·omega
  ·have haa:(P1 v v.len h v.cap i.size).a=some ⟨b,off+v.len*i.size,none⟩:=by
    simp only[P1,Int.toNat_natCast]
    rw[if_neg (by omega),ha,Option.map_some,O3 rfl]
   have hlen:=own.len
   have hle:=Nat.mul_le_mul_right i.size h2
   have hle1:=Nat.mul_le_mul_right i.size h1
   have hzs:zv.cells.size=i.size:=by rw[<-hT.zlen,<-hzl];simp
   have hzlen:(Builtin.zeroCells zv.cells (h-v.len)).toList.length=(h-v.len)*i.size:=by
    rw[Array.length_toList,Aa8,hzs]
   have hsub:(h-v.len)*i.size=h*i.size-v.len*i.size:=Nat.sub_mul ..
   have hpl:(Builtin.zeroCells zv.cells (h-v.len)).toList.all S5=true:=by
    rw[List.all_eq_true]at hz⊢
    intro x hx
    refine hz x ?_
    rw[<-hzl]
    unfold Builtin.zeroCells at hx
    simp only[Array.toList_map,List.mem_map]at hx
    obtain⟨l,_,rfl⟩:=hx
    have hlt:l%zv.cells.size<zv.cells.size:=Nat.mod_lt _ (by rw[hzs];exact hT.pos)
    rw[getElem!_pos zv.cells _ hlt]
    simp
   obtain⟨w',hr,hw'⟩:=R4 (P:=P) (E:=E) (A:=X) (B:=Y) (F:=F) (b:=b) (T:=e) (fz:=fz) (Builtin.zeroCells zv.cells (h-v.len)).toList c (off+v.len*i.size) 0 w hpl (by simpa using hw) (by rw[hzlen];omega) (by rw[hzlen];intro j hj;omega)
   refine⟨_,w',X++[(b,Obj.cells (wr c (off+v.len*i.size+0) (Builtin.zeroCells zv.cells (h-v.len)).toList) e fz)]++Y,?_,by simpa using hw',(),rfl,hk _ ⟨hlen,own.cap,.inr ⟨b,off,_,fz,ha,rfl,by rw[M9];exact hsz,by rw[M9];exact hfz,fun j u hu=>?_⟩⟩⟩
   ·rw[haa,hsl]
    exact A16 hT.und hi hzv hn hr
   ·have hj:=(List.getElem?_eq_some_iff.1 hu).1
    rw[Ae6 _ _ _ _ (by rw[hzlen];omega),if_neg (by omega)]
    exact hcell j u hu
theorem Ends.app{K:Value->HP}{v:Value}{J L:A4}(h:Ends K v L):Ends K v (J++L):=by
 obtain⟨A,J',hp,hK⟩:=h
 refine⟨A,J'++J,?_,hK⟩
 have h1:(J++L).Perm (L++J):=List.perm_append_comm
 exact h1.trans (by simpa[List.append_assoc]using hp.append_right J)
theorem Ends.cons{K:Value->HP}{v:Value}{p:Nat×Obj}{L:A4}(h:Ends K v L):Ends K v (p::L):=Ends.app (J:=[p]) h
theorem Cz7(c:Array Value)(vs:List Value)(h:vs.length=c.size):wr c 0 vs=vs.toArray:=by
 apply Array.ext_getElem?
 intro i
 rw[Ae6 _ _ _ _ (by omega)]
 split
 ·simp
 ·rename_i hi
  rw[Array.getElem?_eq_none (by omega),List.getElem?_toArray,List.getElem?_eq_none (by omega)]
end
set_option linter.unusedSectionVars false
section
variable {P:Program} {L:A4} {κ:Type} [DecidableEq κ]
theorem Ah6{w:World}{r:Nat}{es:Array MapEntry}{c:Nat}(h:w.heap[r]?=some (.map es c)):(getObj r).run P w= .ok (.map es c) w:=by simp[getObj,Sem.run,h]
theorem At3{w:World}{r:Nat}{es:Array MapEntry}{c:Nat}(o:Obj)(h:w.heap[r]?=some (.map es c)):(setObj r o).run P w= .ok () {w with heap:=w.heap.setIfInBounds r o}:=by simp[setObj,Sem.run,h]
theorem C44(a b:ByteArray):(a==b)=decide (a=b):=by
 cases a with|mk x=>cases b with|mk y=>
  show(x==y)=decide (ByteArray.mk x=ByteArray.mk y)
  by_cases h:x=y
  ·subst h;simp
  ·rw[beq_eq_false_iff_ne.2 h,decide_eq_false (by simpa using h)]
theorem Bl4{kt:TypeId}{v:Value}(hu:P.underlying kt=some .string\/ ∃k,P.underlying kt=some (.int k))(e:Bool)(n:Nat)(w:World):(Instr.checkKey e (n+1) kt v).run P w= .ok () w:=by
 rcases hu with hu|⟨k,hu⟩<;>simp only[Instr.checkKey,Sem.run_bind,D7 hu,Result.andThen_ok,Sem.run_pure]
def Mp(kv:κ->Value)(es:Array MapEntry)(m:List (κ×Value)):Prop:=es.toList.map (fun e=>(e.key,e.val))=m.map fun p=>(kv p.1,p.2)
theorem Mp.size{kv:κ->Value}{es:Array MapEntry}{m:List (κ×Value)}(h:Mp kv es m):es.size=m.length:=by
 have:=congrArg List.length h
 simpa using this
def Ay1(m:List (κ×Value))(k:κ):Option Value:=(m.find? fun p=>decide (k=p.1)).map Prod.snd
def Ap2(m:List (κ×Value))(k:κ)(i:Nat):Option (Nat×Value):=
 match m with
 |[]=>none
 |p::r=>if k=p.1 then some (i,p.2)else Ap2 r k (i+1)
theorem A91: ∀(m:List (κ×Value)) (k:κ) (i:Nat),(Ap2 m k i).map Prod.snd=Ay1 m k
 |[],k,i=>rfl
 |p::r,k,i=>by
  unfold Ap2 Ay1
  by_cases h:k=p.1
  ·rw[if_pos h,List.find?_cons_of_pos (by simpa using h)];rfl
  ·rw[if_neg h,List.find?_cons_of_neg (by simpa using h)];exact A91 r k (i+1)
theorem Ar4{kv:κ->Value}{d:TypeDesc}(hs: ∀a b,Instr.sameNow d (kv a) (kv b)=some (decide (a=b)))(k:κ): ∀(es:List MapEntry) (m:List (κ×Value)) (i:Nat),es.map (fun e=>(e.key,e.val))=m.map (fun p=>(kv p.1,p.2))->
  Instr.findNow d (kv k) es i=some (Ap2 m k i)
 |[],[],i,_=>rfl
 |[],p::r,i,h=>by simp at h
 |e::es,[],i,h=>by simp at h
 |e::es,p::r,i,h=>by
  simp only[List.map_cons,List.cons.injEq,Prod.mk.injEq]at h
  unfold Instr.findNow Ap2
  rw[h.1.1,hs,h.1.2]
  by_cases hk:k=p.1
  ·simp[hk]
  ·simp only[hk,decide_false,if_false]
   exact Ar4 hs k es r (i+1) h.2
structure KeyT(P:Program)(kt:TypeId)(kv:κ->Value):Prop where
 fnd: ∀(k:κ) (es:List MapEntry) (m:List (κ×Value)) (w:World),es.map (fun e=>(e.key,e.val))=m.map (fun p=>(kv p.1,p.2))->(Instr.findKey kt (kv k) es).run P w= .ok (Ap2 m k 0) w
 chk: ∀e k w,(Instr.checkKey e 10000 kt (kv k)).run P w= .ok () w
 bits: ∀a,Instr.sameBits 10000 (kv a) (kv a)=true
theorem Ch6{kt:TypeId}{kv:κ->Value}{d:TypeDesc}(hu:P.underlying kt=some d)(hs: ∀a b,Instr.sameNow d (kv a) (kv b)=some (decide (a=b)))(k:κ)(es:List MapEntry)(m:List (κ×Value))(w:World)(h:es.map (fun e=>(e.key,e.val))=m.map (fun p=>(kv p.1,p.2))):(Instr.findKey kt (kv k) es).run P w= .ok (Ap2 m k 0) w:=by
 simp only[Instr.findKey,Sem.run_bind,D7 hu,Result.andThen_ok,Ar4 hs k es m 0 h,Sem.run_pure]
theorem C27{kt:TypeId}(hu:P.underlying kt=some .string):KeyT P kt Value.string:=by
 refine⟨Ch6 hu fun a b=>?_,fun e k w=>Bl4 (.inl hu) e 9999 w,fun a=>?_⟩
 ·show some (a==b)=_
  rw[C44]
 ·show(a==a)=true
  rw[C44];simp
theorem keyInt{kt:TypeId}{ik:IntKind}(hu:P.underlying kt=some (.int ik)):KeyT P kt (Value.int ik):=by
 refine⟨Ch6 hu fun a b=>?_,fun e k w=>Bl4 (.inr ⟨_,hu⟩) e 9999 w,fun a=>?_⟩
 ·show(if ik=ik then some (a==b)else none)=_
  rw[if_pos rfl]
  congr 1
 ·show(ik==ik&&a==a)=true
  simp
theorem Y4{kt:TypeId}{kv:κ->Value}(K:KeyT P kt kv){es:Array MapEntry}{m:List (κ×Value)}(h:Mp kv es m)(k:κ)(w:World):(Instr.findKey kt (kv k) es.toList).run P w= .ok (Ap2 m k 0) w:=K.fnd k es.toList m w h
structure Cm4(P:Program)(t kt et:TypeId)(kv:κ->Value)(z:Value):Prop where
 und:P.underlying t=some (.map kt et)
 key:KeyT P kt kv
 zero: ∃i,P.info? et=some i/\i.zero=some z
theorem A96{t kt et:TypeId}{kv:κ->Value}{z:Value}(hu:P.underlying t=some (.map kt et))(hk:KeyT P kt kv)(hz:((P.info? et).bind fun i=>i.zero)=some z):Cm4 P t kt et kv z:=by
 refine⟨hu,hk,?_⟩
 cases hi:P.info? et with
 |none=>rw[hi]at hz;cases hz
 |some i=>exact⟨i,rfl,by rw[hi]at hz;exact hz⟩
theorem Am4{t kt et:TypeId}{kv:κ->Value}{z:Value}(hT:Cm4 P t kt et kv z){r:Nat}{es:Array MapEntry}{clock:Nat}{m:List (κ×Value)}(hm:(r,Obj.map es clock)∈L)(h:Mp kv es m)(k:κ):
  RdV P (Instr.lookup t (.map (some r)) (kv k) false) ((Ay1 m k).getD z) L:=by
 intro E F w hw
 have hb:w.heap[r]?=some (Obj.map es clock):=hw.blk _ (List.mem_append_left F hm)
 obtain⟨i,hi,hz⟩:=hT.zero
 rw[<-A91 m k 0]
 simp only[Instr.lookup,Sem.run_bind,D7 hT.und,Result.andThen_ok,Ah6 hb,Sem.run_pure,hT.key.chk,Y4 hT.key h]
 cases Ap2 m k 0 with
 |none=>simp[zeroValue,typeInfo,hi,hz]
 |some p=>simp
theorem B33{t kt et:TypeId}{kv:κ->Value}{z:Value}(hT:Cm4 P t kt et kv z){r:Nat}{es:Array MapEntry}{clock:Nat}{m:List (κ×Value)}(hm:(r,Obj.map es clock)∈L)(h:Mp kv es m)(k:κ):
  RdV P (Instr.lookup t (.map (some r)) (kv k) true) (.tuple #[(Ay1 m k).getD z,.bool (Ay1 m k).isSome]) L:=by
 intro E F w hw
 have hb:w.heap[r]?=some (Obj.map es clock):=hw.blk _ (List.mem_append_left F hm)
 obtain⟨i,hi,hz⟩:=hT.zero
 rw[<-A91 m k 0]
 simp only[Instr.lookup,Sem.run_bind,D7 hT.und,Result.andThen_ok,Ah6 hb,Sem.run_pure,hT.key.chk,Y4 hT.key h]
 cases Ap2 m k 0 with
 |none=>simp[zeroValue,typeInfo,hi,hz]
 |some p=>simp
theorem Db4{t ty kt et:TypeId}(hu:P.underlying t=some (.map kt et)){r:Nat}{es:Array MapEntry}{clock:Nat}(hm:(r,Obj.map es clock)∈L):RdV P (Builtin.len_ #[t] ty #[.map (some r)]) (.int .i64 es.size) L:=by
 intro E F w hw
 have hb:w.heap[r]?=some (Obj.map es clock):=hw.blk _ (List.mem_append_left F hm)
 simp only[Builtin.len_,List.getElem?_toArray,List.getElem?_cons_zero,Sem.run_bind,D7 hu,Result.andThen_ok,Ah6 hb,Sem.run_pure,goInt]
def A20(m:List (κ×Value))(k:κ)(v:Value):List (κ×Value):=
 match m with
 |[]=>[(k,v)]
 |p::r=>if k=p.1 then(k,v)::r else p::A20 r k v
def Bd1(m:List (κ×Value))(k:κ):List (κ×Value):=
 match m with
 |[]=>[]
 |p::r=>if k=p.1 then r else p::Bd1 r k
theorem Ax1{kv:κ->Value}(k:κ)(v:Value): ∀(es:List MapEntry) (m:List (κ×Value)) (j:Nat),es.map (fun e=>(e.key,e.val))=m.map (fun p=>(kv p.1,p.2))->
  (Ap2 m k j=none->A20 m k v=m++[(k,v)])/\(∀i u,Ap2 m k j=some (i,u)->j<=i/\i-j<es.length/\(es[i-j]?).map (·.key)=some (kv k)/\(es.modify (i-j) fun e=>{e with key:=kv k,val:=v}).map (fun e=>(e.key,e.val))=(A20 m k v).map fun p=>(kv p.1,p.2))
 |[],[],j,_=>⟨fun _=>rfl,fun i u h=>by simp[Ap2]at h⟩
 |[],p::r,j,h=>by simp at h
 |e::es,[],j,h=>by simp at h
 |e::es,p::r,j,h=>by
  have h0:=h
  simp only[List.map_cons,List.cons.injEq,Prod.mk.injEq]at h
  obtain⟨i1,i2⟩:=Ax1 k v es r (j+1) h.2
  unfold Ap2 A20
  by_cases hk:k=p.1
  ·rw[if_pos hk,if_pos hk]
   refine⟨fun h=>(by cases h),fun i u hi=>?_⟩
   simp only[Option.some.injEq,Prod.mk.injEq]at hi
   obtain⟨rfl,rfl⟩:=hi
   refine⟨Nat.le_refl _,by simp,by simp[h.1.1,hk],?_⟩
   simp[h.2]
  ·rw[if_neg hk,if_neg hk]
   refine⟨fun h=>by rw[i1 h];rfl,fun i u hi=>?_⟩
   obtain⟨a1,a2,a3,a4⟩:=i2 i u hi
   have e1:i-j=(i-(j+1))+1:=by omega
   rw[e1]
   refine⟨by omega,by simp only[List.length_cons];omega,by simpa using a3,?_⟩
   simp only[List.modify_succ_cons,List.map_cons,h.1.1,h.1.2,a4]
theorem Bd7{t kt et:TypeId}{kv:κ->Value}{z:Value}(hT:Cm4 P t kt et kv z){r:Nat}{es:Array MapEntry}{clock:Nat}{m:List (κ×Value)}(A B:A4)(hL:L=A++(r,Obj.map es clock)::B)(h:Mp kv es m)(k:κ)(v:Value){K:HP}
  (hk: ∀es' clock',Mp kv es' (A20 m k v)->K (A++(r,Obj.map es' clock')::B)):smU P (Instr.mapUpdate t (.map (some r)) (kv k) v) K L:=by
 subst hL
 intro E F w hw
 have hb:w.heap[r]?=some (Obj.map es clock):=hw.blk (r,Obj.map es clock) (by simp)
 have hw0:Q9 E w (A++(r,Obj.map es clock)::(B++F)):=by simpa using hw
 obtain⟨i1,i2⟩:=Ax1 (kv:=kv) k v es.toList m 0 h
 cases hf:Ap2 m k 0 with
 |none=>
  refine⟨{w with heap:=w.heap.setIfInBounds r (Obj.map (es.push {key:=kv k,val:=v,born:=clock}) (clock+1))},A++(r,Obj.map (es.push {key:=kv k,val:=v,born:=clock}) (clock+1))::B,?_,?_,hk _ _ ?_⟩
  ·simp only[Instr.mapUpdate,Sem.run_bind,D7 hT.und,Result.andThen_ok,Ah6 hb,hT.key.chk,Y4 hT.key h,hf]
   exact At3 _ hb
  ·simpa using hw0.put (Obj.map (es.push {key:=kv k,val:=v,born:=clock}) (clock+1))
  ·unfold Mp at h⊢
   rw[i1 hf,Array.toList_push,List.map_append,List.map_append,h]
   rfl
 |some p=>
  obtain⟨i,u⟩:=p
  obtain⟨a1,a2,a3,a4⟩:=i2 i u hf
  rw[Nat.sub_zero]at a2 a3 a4
  have hkey:((es[i]?).map (·.key)).getD (kv k)=kv k:=by
   rw[Array.getElem?_toList]at a3
   rw[a3];rfl
  refine⟨{w with heap:=w.heap.setIfInBounds r (Obj.map (es.modify i fun e=>{e with key:=kv k,val:=v}) clock)},A++(r,Obj.map (es.modify i fun e=>{e with key:=kv k,val:=v}) clock)::B,?_,?_,hk _ _ ?_⟩
  ·simp only[Instr.mapUpdate,Sem.run_bind,D7 hT.und,Result.andThen_ok,Ah6 hb,hT.key.chk,Y4 hT.key h,hf,hkey,Instr.keyThatStays,hT.key.bits,if_true,Sem.run_pure]
   exact At3 _ hb
  ·simpa using hw0.put (Obj.map (es.modify i fun e=>{e with key:=kv k,val:=v}) clock)
  ·unfold Mp
   rw[Array.toList_modify]
   exact a4
theorem A04{kv:κ->Value}(k:κ): ∀(es:List MapEntry) (m:List (κ×Value)) (j:Nat),es.map (fun e=>(e.key,e.val))=m.map (fun p=>(kv p.1,p.2))->
  (Ap2 m k j=none->Bd1 m k=m)/\(∀i u,Ap2 m k j=some (i,u)->j<=i/\(es.eraseIdx (i-j)).map (fun e=>(e.key,e.val))=(Bd1 m k).map fun p=>(kv p.1,p.2))
 |[],[],j,_=>⟨fun _=>rfl,fun i u h=>by simp[Ap2]at h⟩
 |[],p::r,j,h=>by simp at h
 |e::es,[],j,h=>by simp at h
 |e::es,p::r,j,h=>by
  simp only[List.map_cons,List.cons.injEq,Prod.mk.injEq]at h
  obtain⟨i1,i2⟩:=A04 k es r (j+1) h.2
  unfold Ap2 Bd1
  by_cases hk:k=p.1
  ·rw[if_pos hk,if_pos hk]
   refine⟨fun h=>(by cases h),fun i u hi=>?_⟩
   simp only[Option.some.injEq,Prod.mk.injEq]at hi
   obtain⟨rfl,rfl⟩:=hi
   exact⟨Nat.le_refl _,by simpa using h.2⟩
  ·rw[if_neg hk,if_neg hk]
   refine⟨fun h=>by rw[i1 h],fun i u hi=>?_⟩
   obtain⟨a1,a4⟩:=i2 i u hi
   have e1:i-j=(i-(j+1))+1:=by omega
   rw[e1]
   refine⟨by omega,?_⟩
   simp only[List.eraseIdx_cons_succ,List.map_cons,h.1.1,h.1.2,a4]
theorem Bl0{t t2 ty kt et:TypeId}{kv:κ->Value}{z:Value}(hT:Cm4 P t kt et kv z){r:Nat}{es:Array MapEntry}{clock:Nat}{m:List (κ×Value)}(A B:A4)(hL:L=A++(r,Obj.map es clock)::B)(h:Mp kv es m)(k:κ){K:RsV []->HP}
  (hk: ∀es' clock',Mp kv es' (Bd1 m k)->K () (A++(r,Obj.map es' clock')::B)):smW P (Builtin.delete_ #[t,t2] ty #[.map (some r),kv k]) [] K L:=by
 subst hL
 intro E F w hw
 have hb:w.heap[r]?=some (Obj.map es clock):=hw.blk (r,Obj.map es clock) (by simp)
 have hw0:Q9 E w (A++(r,Obj.map es clock)::(B++F)):=by simpa using hw
 obtain⟨i1,i2⟩:=A04 (kv:=kv) k es.toList m 0 h
 have key: ∀(o:Obj),(match Ap2 m k 0 with|some (i,_)=>setObj r (.map (es.eraseIdxIfInBounds i) clock)|none=>setObj r (.map es clock)).run P w= .ok () {w with heap:=w.heap.setIfInBounds r o}->
   (Builtin.delete_ #[t,t2] ty #[.map (some r),kv k]).run P w= .ok (.tuple #[]) {w with heap:=w.heap.setIfInBounds r o}:=by
  intro o ho
  simp only[Builtin.delete_,List.getElem?_toArray,List.getElem?_cons_zero,List.getElem?_cons_succ,Sem.run_bind,D7 hT.und,Result.andThen_ok,Ah6 hb,hT.key.chk,Y4 hT.key h]
  cases hf:Ap2 m k 0 with
  |none=>
   rw[hf]at ho
   simp only[Sem.run_bind]
   rw[ho]
   rfl
  |some p=>
   rw[hf]at ho
   simp only[Sem.run_bind]
   rw[ho]
   rfl
 cases hf:Ap2 m k 0 with
 |none=>
  refine⟨_,_,A++(r,Obj.map es clock)::B,key (.map es clock) (by rw[hf];exact At3 _ hb),?_,(),rfl,hk _ _ ?_⟩
  ·simpa using hw0.put (Obj.map es clock)
  ·rw[i1 hf];exact h
 |some p=>
  obtain⟨i,u⟩:=p
  obtain⟨a1,a4⟩:=i2 i u hf
  rw[Nat.sub_zero]at a4
  refine⟨_,_,A++(r,Obj.map (es.eraseIdxIfInBounds i) clock)::B,key (.map (es.eraseIdxIfInBounds i) clock) (by rw[hf];exact At3 _ hb),?_,(),rfl,hk _ _ ?_⟩
  ·simpa using hw0.put (Obj.map (es.eraseIdxIfInBounds i) clock)
  ·unfold Mp
   have e:(es.eraseIdxIfInBounds i).toList=es.toList.eraseIdx i:=by
    unfold Array.eraseIdxIfInBounds
    split
    ·simp
    ·rename_i hge
     rw[List.eraseIdx_of_length_le (by simpa using hge)]
   rw[e];exact a4
theorem G5{f:FuncId}{args:Array Value}{rs:List Sh}{k:RsV rs->HP}{K:Value->HP}{A R:A4}(h:CallF P f args A K)(hp:L.Perm (A++R))
  (hk: ∀v A',K v A'-> ∃L'',(A'++R).Perm L''/\ ∃r,v=Af9 rs r/\k r L''):cl P f args rs k L:=by
 intro E F w hw
 refine Calls.mono (CallF.frame (R:=R) h E F w (hw.perm (hp.append_right F))) ?_
 rintro e w' ⟨v,L',he,hw',A',rfl,hK⟩
 obtain⟨L'',hp2,hk2⟩:=hk v A' hK
 exact⟨v,L'',he,hw'.perm (hp2.append_right F),hk2⟩
end
theorem Bj6{α:Type}{enc:α->List Value}{sz:Nat}(hsz: ∀x,(enc x).length=sz): ∀(l:List α) (i:Nat),(l.flatMap enc).drop (i*sz)=(l.drop i).flatMap enc
 |[],i=>by simp
 |e::r,0=>by simp
 |e::r,i+1=>by
  rw[List.flatMap_cons,Nat.succ_mul,Nat.add_comm,<-List.drop_drop,List.drop_left' (hsz e),Bj6 hsz r i]
  rfl
theorem Bj5{α:Type}{enc:α->List Value}{sz:Nat}(hsz: ∀x,(enc x).length=sz): ∀(l:List α) (i:Nat),(l.flatMap enc).take (i*sz)=(l.take i).flatMap enc
 |[],i=>by simp
 |e::r,0=>by simp
 |e::r,i+1=>by
  have h1:(enc e).take ((i+1)*sz)=enc e:=List.take_of_length_le (by rw[hsz,Nat.succ_mul];omega)
  have h2:(i+1)*sz-(enc e).length=i*sz:=by rw[hsz,Nat.succ_mul];omega
  rw[List.flatMap_cons,List.take_append,h1,h2,Bj5 hsz r i]
  rfl
theorem Au2{α:Type}{enc:α->List Value}{sz:Nat}(hsz: ∀x,(enc x).length=sz)(l:List α)(i j:Nat):((l.flatMap enc).drop (i*sz)).take ((j-i)*sz)=((l.drop i).take (j-i)).flatMap enc:=by
 rw[Bj6 hsz,Bj5 hsz]
theorem Df8(b:ByteArray): ∀(n i:Nat) (r:List UInt8),b.size-i=n->ByteArray.toList.loop b i r=r.reverse++b.data.toList.drop i:=by
 intro n
 induction n with
 |zero=>
  intro i r h
  unfold ByteArray.toList.loop
  rw[if_neg (by omega),List.drop_of_length_le (by rw[Array.length_toList];show b.size<=i;omega)]
  simp
 |succ n ih=>
  intro i r h
  unfold ByteArray.toList.loop
  have hi:i<b.size:=by omega
  rw[if_pos hi,ih (i+1) _ (by omega)]
  have hi2:i<b.data.toList.length:=by rw[Array.length_toList];exact hi
  rw[List.drop_eq_getElem_cons hi2]
  simp[ByteArray.get!,hi]
theorem Bm5(b:ByteArray):b.toList=b.data.toList:=by
 unfold ByteArray.toList
 rw[Df8 b _ 0 [] rfl];simp
theorem C63(a b:ByteArray):(a.toList==b.toList)=decide (a=b):=by
 rw[Bm5,Bm5]
 by_cases h:a=b
 ·subst h;simp
 ·rw[decide_eq_false h,beq_eq_false_iff_ne]
  intro he
  apply h
  cases a with|mk x=>cases b with|mk y=>
   have:x=y:=Array.toList_inj.1 he
   rw[this]
section
variable {P:Program} {L:A4}
def Bs0(P:Program):Nat->TypeId->List Value->List Value->Option Bool
 |0,_,_,_=>none
 |d+1,t,xs,ys=>
  match P.underlying t with
  |some .bool=>match xs,ys with|[.bool a],[.bool b]=>some (a==b)|_,_=>none
  |some (.int _)=>match xs,ys with|[.int k a],[.int k' b]=>if k=k' then some (a==b)else none|_,_=>none
  |some .string=>match xs,ys with|[.string a],[.string b]=>some (a.toList==b.toList)|_,_=>none
  |some (.struct fs)=>
   if P.stoodInHeld t=false then
    fs.toList.foldr (fun f acc => if f.name = "_" then none else acc.bind fun r => (Bs0 P d f.type ((xs.drop f.offset).take (P.cellsOf f.type)) ((ys.drop f.offset).take (P.cellsOf f.type))).map (· && r)) (some true)
   else none
  |_=>none
def B06(P:Program)(t:TypeId)(x:Value)(xs:List Value):Prop:=
 match P.underlying t with
 |some (.struct _)=>x= .agg xs.toArray
 |_=>xs=[x]
theorem Co1{xs:List Value}{off s:Nat}{v:Value}(h:(xs.drop off).take s=[v]):xs.toArray[off]?=some v:=by
 have h0:((xs.drop off).take s)[0]?=some v:=by rw[h];rfl
 rw[List.getElem?_take]at h0
 split at h0
 ·rw[List.getElem?_drop]at h0
  simpa using h0
 ·cases h0
theorem Av6{t:TypeId}{n:Nat}{xs ys:List Value}{off:Nat}{r:Bool}(h:Bs0 P n t ((xs.drop off).take (P.cellsOf t)) ((ys.drop off).take (P.cellsOf t))=some r)(w:World):
  ∃a b,(part t xs.toArray off).run P w= .ok a w/\(part t ys.toArray off).run P w= .ok b w/\B06 P t a ((xs.drop off).take (P.cellsOf t))/\B06 P t b ((ys.drop off).take (P.cellsOf t)):=by
 cases n with
 |zero=>simp[Bs0]at h
 |succ n=>
  unfold Bs0 at h
  have plainP: ∀{d:TypeDesc},P.underlying t=some d->(match d with| .struct _| .array _ _=>true|_=>false)=false-> ∀{a b:Value},(xs.drop off).take (P.cellsOf t)=[a]->(ys.drop off).take (P.cellsOf t)=[b]->
    ∃a b,(part t xs.toArray off).run P w= .ok a w/\(part t ys.toArray off).run P w= .ok b w/\B06 P t a ((xs.drop off).take (P.cellsOf t))/\B06 P t b ((ys.drop off).take (P.cellsOf t)):=by
   intro d hu hd a b ha hb
   have hr: ∀{v:Value} {l:List Value},l=[v]->B06 P t v l:=by
    intro v l hl
    unfold B06
    rw[hu]
    cases d<;>simp_all
   have hp: ∀{zs:List Value} {v:Value},(zs.drop off).take (P.cellsOf t)=[v]->(part t zs.toArray off).run P w= .ok v w:=by
    intro zs v hv
    have hg:(isAgg t).run P w= .ok false w:=by
     unfold isAgg
     rw[Sem.run_bind,run_underlying hu]
     cases d<;>simp_all
    unfold part
    rw[Sem.run_bind,hg]
    simp only[Result.andThen_ok,Bool.false_eq_true,if_false,Co1 hv,Sem.run_pure]
   exact⟨a,b,hp ha,hp hb,hr ha,hr hb⟩
  cases hu:P.underlying t with
  |none=>rw[hu]at h;simp at h
  |some d=>
   rw[hu]at h
   cases d with
   |bool=>
    simp only at h
    split at h
    ·exact plainP hu rfl (by assumption) (by assumption)
    ·cases h
   |int k=>
    simp only at h
    split at h
    ·exact plainP hu rfl (by assumption) (by assumption)
    ·cases h
   |string=>
    simp only at h
    split at h
    ·exact plainP hu rfl (by assumption) (by assumption)
    ·cases h
   |struct fs=>
    obtain⟨i,hi⟩: ∃i,P.info? t=some i:=by
     cases hi:P.info? t with
     |none=>unfold Program.underlying at hu;simp[hi]at hu
     |some i=>exact⟨i,rfl⟩
    have hp: ∀zs:List Value,(part t zs.toArray off).run P w= .ok (.agg ((zs.drop off).take (P.cellsOf t)).toArray) w:=by
     intro zs
     have hg:(isAgg t).run P w= .ok true w:=by
      unfold isAgg
      rw[Sem.run_bind,run_underlying hu]
      simp
     unfold part
     rw[Sem.run_bind,hg]
     simp only[Result.andThen_ok,if_true,Sem.run_bind,run_sizeOf w hi,Sem.run_pure]
     rw[List.extract_toArray,List.extract_eq_take_drop,Nat.add_sub_cancel_left]
    refine⟨_,_,hp xs,hp ys,?_,?_⟩<;>(unfold B06;rw[hu])
   |_=>simp at h
theorem At4(d:Nat): ∀(n:Nat) (t:TypeId) (xs ys:List Value) (r:Bool),Bs0 P n t xs ys=some r-> ∀(x y:Value),B06 P t x xs->B06 P t y ys-> ∀w,(Op.equalIn (d+n) t x y).run P w= .ok r w
 |0,_,_,_,_,h,_,_,_,_,_=>by simp[Bs0]at h
 |n+1,t,xs,ys,r,h,x,y,hx,hy,w=>by
  unfold Bs0 at h
  unfold B06 at hx hy
  cases hu:P.underlying t with
  |none=>rw[hu]at h;simp at h
  |some q=>
   rw[hu]at h hx hy
   cases q with
   |bool=>
    simp only at h hx hy
    subst hx hy
    split at h
    ·rename_i a b e1 e2
     cases e1;cases e2
     cases h
     exact run_equalIn_bool' w (d+n) t a b hu
    ·cases h
   |int k=>
    simp only at h hx hy
    subst hx hy
    split at h
    ·rename_i k a k' b e1 e2
     cases e1;cases e2
     split at h
     ·rename_i hk
      subst hk
      cases h
      exact run_equalIn_int w (d+n) t k _ a b hu
     ·cases h
    ·cases h
   |string=>
    simp only at h hx hy
    subst hx hy
    split at h
    ·rename_i a b e1 e2
     cases e1;cases e2
     cases h
     exact run_equalIn_string w (d+n) t a b hu
    ·cases h
   |struct fs=>
    simp only at h hx hy
    subst hx hy
    split at h
    ·rename_i hst
     have hf:P.underlying t=some (.struct (P.fieldsOf t)):=by unfold Program.fieldsOf;rw[hu]
     have hfs:P.fieldsOf t=fs:=by unfold Program.fieldsOf;rw[hu]
     show(Op.equalIn ((d+n)+1) t (.agg xs.toArray) (.agg ys.toArray)).run P w= .ok r w
     rw[run_equalIn_agg w (d+n) t _ _ hf hst,hfs]
     revert h
     generalize fs.toList=l
     clear hu hf hfs hst
     induction l generalizing r with
     |nil=>intro h;cases h;simp[Op.eqFields]
     |cons f l ih=>
      intro h
      rw[List.foldr_cons]at h
      split at h
      ·cases h
      ·rename_i hn
       rw[Option.bind_eq_some_iff]at h
       obtain⟨r',h1,h2⟩:=h
       rw[Option.map_eq_some_iff]at h2
       obtain⟨q,h3,rfl⟩:=h2
       obtain⟨a,b,p1,p2,ra,rb⟩:=Av6 h3 w
       have h4:=At4 d n f.type _ _ q h3 a b ra rb w
       have h5:=ih r' h1
       unfold Op.eqFields
       simp only[hn,ne_eq,not_false_eq_true,if_true,Sem.run_bind,p1,p2,h4,Result.andThen_ok]
       cases q
       ·simp
       ·simpa using h5
    ·cases h
   |_=>simp at h
def A22(P:Program)(t:TypeId):Bool:=match P.underlying t with|some (.struct _)=>true|_=>false
theorem Y7{t:TypeId}(h:A22 P t=true)(xs:Array Value):B06 P t (.agg xs) xs.toList:=by
 unfold A22 at h
 unfold B06
 split at h
 ·simp
 ·cases h
theorem C36{t:TypeId}{xs ys:Array Value}{r:Bool}(hu:A22 P t=true)(h:Bs0 P 100 t xs.toList ys.toList=some r){k:ShV (.lf .bool)->HP}(hk:k r L):
  smP P (binOp .eql t (.agg xs) (.agg ys)) (.lf .bool) k L:=by
 refine⟨r,fun w=>?_,hk⟩
 rw[run_eql_struct,At4 9900 100 t _ _ r h (.agg xs) (.agg ys) (Y7 hu xs) (Y7 hu ys) w]
 rfl
theorem C22{t:TypeId}{xs ys:Array Value}{r:Bool}(hu:A22 P t=true)(h:Bs0 P 100 t xs.toList ys.toList=some r){k:ShV (.lf .bool)->HP}(hk:k (!r) L):
  smP P (binOp .neq t (.agg xs) (.agg ys)) (.lf .bool) k L:=by
 refine⟨!r,fun w=>?_,hk⟩
 rw[run_neq_struct,At4 9900 100 t _ _ r h (.agg xs) (.agg ys) (Y7 hu xs) (Y7 hu ys) w]
 rfl
theorem Z2{f:FuncId}{args captured:Array Value}{rs:List Sh}{k:RsV rs->HP}(ho:Ae2 P f=true)(h:cl P f (args++captured) rs k L):clv P (.func f) args captured rs k L:=⟨f,rfl,ho,h⟩
theorem Bf4(em:Bool)(d:Nat): ∀(n:Nat) (t:TypeId) (xs:List Value) (r:Bool),Bs0 P n t xs xs=some r-> ∀(x:Value),B06 P t x xs-> ∀w,(Instr.checkKey em (d+n) t x).run P w= .ok () w
 |0,_,_,_,h,_,_,_=>by simp[Bs0]at h
 |n+1,t,xs,r,h,x,hx,w=>by
  unfold Bs0 at h
  unfold B06 at hx
  show(Instr.checkKey em ((d+n)+1) t x).run P w= .ok () w
  cases hu:P.underlying t with
  |none=>rw[hu]at h;simp at h
  |some q=>
   rw[hu]at h hx
   cases q with
   |bool=>simp only[Instr.checkKey,Sem.run_bind,D7 hu,Result.andThen_ok,Sem.run_pure]
   |int k=>simp only[Instr.checkKey,Sem.run_bind,D7 hu,Result.andThen_ok,Sem.run_pure]
   |string=>simp only[Instr.checkKey,Sem.run_bind,D7 hu,Result.andThen_ok,Sem.run_pure]
   |struct fs=>
    simp only at h hx
    subst hx
    split at h
    ·rw[Instr.checkKey]
     simp only[Sem.run_bind,D7 hu,Result.andThen_ok]
     rw[<-Array.forIn_toList]
     revert h
     generalize fs.toList=l
     clear hu
     induction l generalizing r with
     |nil=>intro h;simp
     |cons f l ih=>
      intro h
      rw[List.foldr_cons]at h
      split at h
      ·cases h
      ·rename_i hn
       rw[Option.bind_eq_some_iff]at h
       obtain⟨r',h1,h2⟩:=h
       rw[Option.map_eq_some_iff]at h2
       obtain⟨q,h3,rfl⟩:=h2
       obtain⟨a,b,p1,p2,ra,rb⟩:=Av6 h3 w
       have h4:=Bf4 em d n f.type _ q h3 a ra w
       have h5:=ih r' h1
       simp only[List.forIn_cons,hn,ne_eq,not_false_eq_true,if_true,Sem.run_bind,p1,h4,Result.andThen_ok,Sem.run_pure]
       exact h5
    ·cases h
   |_=>simp at h
variable {κ:Type} [DecidableEq κ]
theorem Av7{kt:TypeId}{kv:κ->Value}(hq: ∀a b w,(Op.equal kt (kv a) (kv b)).run P w= .ok (decide (a=b)) w)(k:κ): ∀(es:List MapEntry) (m:List (κ×Value)) (i:Nat) (w:World),es.map (fun e=>(e.key,e.val))=m.map (fun p=>(kv p.1,p.2))->(Instr.findAsking kt (kv k) es i).run P w= .ok (Ap2 m k i) w
 |[],[],i,w,_=>by simp[Instr.findAsking,Ap2]
 |[],p::r,i,w,h=>by simp at h
 |e::es,[],i,w,h=>by simp at h
 |e::es,p::r,i,w,h=>by
  simp only[List.map_cons,List.cons.injEq,Prod.mk.injEq]at h
  unfold Instr.findAsking Ap2
  rw[Sem.run_bind,h.1.1,hq,h.1.2]
  by_cases hk:k=p.1
  ·simp[hk]
  ·simp only[Result.andThen_ok,hk,decide_false,if_false,Bool.false_eq_true]
   exact Av7 hq k es r (i+1) w h.2
theorem Ce7{kt:TypeId}{kv:κ->Value}(enc:κ->List Value)(hkv: ∀a,kv a= .agg (enc a).toArray)(hu:A22 P kt=true)(he: ∀a b,Bs0 P 100 kt (enc a) (enc b)=some (decide (a=b)))
  (hb: ∀a,Instr.sameBits 10000 (kv a) (kv a)=true):KeyT P kt kv:=by
 refine⟨fun k es m w h=>?_,fun e k w=>?_,hb⟩
 ·have hf:Instr.findKey kt (kv k) es=(do match Instr.findNow (<-underlying kt) (kv k) es 0 with|some r=>pure r|none=>Instr.findAsking kt (kv k) es):=rfl
  obtain⟨fs,hs⟩: ∃fs,P.underlying kt=some (.struct fs):=by
   unfold A22 at hu
   split at hu
   ·exact⟨_,by assumption⟩
   ·cases hu
  rw[hf,Sem.run_bind,D7 hs]
  simp only[Result.andThen_ok]
  have hask:(Instr.findAsking kt (kv k) es).run P w= .ok (Ap2 m k 0) w:=Av7 (fun a b w=>by
   rw[hkv a,hkv b]
   exact At4 9900 100 kt _ _ _ (he a b) _ _ (Y7 hu (enc a).toArray) (Y7 hu (enc b).toArray) w) k es m 0 w h
  cases es with
  |nil=>
   cases m with
   |nil=>simp[Instr.findNow,Ap2]
   |cons p r=>simp at h
  |cons e es=>
   have hn:Instr.findNow (.struct fs) (kv k) (e::es) 0=none:=by
    unfold Instr.findNow
    have:Instr.sameNow (.struct fs) (kv k) e.key=none:=by
     unfold Instr.sameNow
     rw[hkv k]
    rw[this]
   rw[hn]
   exact hask
 ·rw[hkv k]
  exact Bf4 e 9900 100 kt _ _ (he k k) _ (Y7 hu (enc k).toArray) w
end
section
variable {P:Program} {L:A4}
theorem Au3{t t2 ty e T:TypeId}{sz:Nat}(hu:P.underlying t=some (.slice e))(hs:P3 P e=some sz){v:SlV}{vs:List Value}{seg:A4}(X Y:A4)(own:Own v sz T vs seg)(hL:L=X++seg++Y)
  {d:SlV} {l:Nat} {a:Addr} (ha:v.a=some a) (hd:d.a=some (Addr.add a (l*sz))) (hdl:l+d.len<=v.len) {u:SlV} {ws:List Value} (src:Sl L u sz ws) (hpl:ws.all S5=true) {k:RsV [.lf (.int .i64)]->HP}
  (hk: ∀seg',Own v sz T (A18 vs (l*sz) (ws.take (min u.len d.len*sz))) seg'->k (((min u.len d.len:Nat):Int),()) (X++seg'++Y)):
  smW P (Builtin.copy_ #[t,t2] ty #[.slice d.a d.len d.cap,.slice u.a u.len u.cap]) [.lf (.int .i64)] k L:=by
 subst hL
 rcases own.row with⟨ha',_,_⟩|⟨b,off,c,fz,ha',rfl,hsz,hfz,hc⟩
 ·rw[ha]at ha';cases ha'
 ·rw[ha]at ha'
  obtain rfl:=Option.some.inj ha'
  have hlen:=own.len
  have hcap:=own.cap
  have h1:=Nat.mul_le_mul_right sz (show l+d.len<=v.cap by omega)
  have h2:=Nat.mul_le_mul_right sz hdl
  rw[Nat.add_mul]at h1 h2
  have hle:min u.len d.len*sz<=d.len*sz:=Nat.mul_le_mul_right _ (Nat.min_le_right _ _)
  have hlt:(ws.take (min u.len d.len*sz)).length<=min u.len d.len*sz:=List.length_take_le _ _
  have hp:l*sz+(ws.take (min u.len d.len*sz)).length<=vs.length:=by omega
  have hL2:X++[(b,Obj.cells c T fz)]++Y=X++(b,Obj.cells c T fz)::Y:=by simp
  rw[hL2]at src⊢
  refine Ck0 (off:=off+l*sz) hu hs (by rw[hd];exact congrArg some (O3 (ad:=⟨b,off,none⟩) rfl (l*sz))) src hpl (by omega) hfz ?_
  have:=hk [(b,Obj.cells (wr c (off+l*sz) (ws.take (min u.len d.len*sz))) T fz)] ⟨by rw[A78 _ _ _ hp];exact hlen,hcap,.inr ⟨b,off,_,fz,ha,rfl,by rw[M9];exact hsz,by rw[M9];exact hfz,fun i x hx=>?_⟩⟩
  ·simpa using this
  ·rw[Al8 _ _ _ hp]at hx
   rw[Ae6 _ _ _ _ (by omega)]
   split at hx
   ·rw[if_pos (by omega),show off+i-(off+l*sz)=i-l*sz by omega];exact hx
   ·rw[if_neg (by omega)];exact hc i x hx
theorem Bc1(l:List UInt8)(p:Nat)(ws:List UInt8):A18 (bvs l) p (bvs ws)=bvs (l.take p++ws++l.drop (p+ws.length)):=by
 simp[A18,bvs,List.map_append,List.map_take,List.map_drop]
theorem Bz5(l:List UInt8)(n:Nat):(bvs l).take n=bvs (l.take n):=by simp[bvs,List.map_take]
theorem Bd3(n:Nat):Af3 [.int .u8 0] n=bvs (List.replicate n 0):=by
 induction n with
 |zero=>rfl
 |succ n ih=>rw[List.replicate_succ];simp only[Af3]at ih⊢;rw[List.replicate_succ,List.flatten_cons,ih];rfl
end
@[reducible] def _root_.Go.Value.i (n : Int) : Value := .int .i64 n
@[reducible] def _root_.Go.Value.sv (v : SlV) : Value := .slice v.a v.len v.cap
@[reducible] def _root_.Go.Value.q (p : Option Addr) : Value := .pointer p
@[reducible] def _root_.Go.Value.t (vs : Array Value) : Value := .tuple vs
@[reducible] def _root_.Go.Value.w (s : ByteArray) : Value := .string s
@[reducible] def _root_.Go.Value.b (b : Bool) : Value := .bool b
@[reducible] def lI : Sh := .lf (.int .i64)
def Hn:D5:=⟨[],[],[]⟩
end Go.HL
