/-
  It is proved what the functions that the law StoreWear reaches compute, part 3. There are no further conditions than those that each theorem names.
-/
import Derived.Test.YtbaoieipijmakaaGreatDoorMStoreWear2
set_option linter.unusedVariables false
set_option linter.unusedSimpArgs false
namespace Go.Proofs.YtbaoieipijmakaaGreatDoor
open Go.HL
structure DG(d:Dev)(n:Nat):Prop where
 ok:Q2 d
 few:d.torn.length+n<=1048576
def T3(d:Dev)(b:Int)(h:Hd)(p:List UInt8):Int×Dev:=if(Ah4 h p d.c.S).2≠0 then((Ah4 h p d.c.S).2,d)else prog d b h.2.2.2.2.1 (Ah4 h p d.c.S).1
def V4(d:Dev)(b ep:Int):Int×Dev:=T3 d b (1,0,1,ep,0,()) []
def Bl0(b ep at' kind n:Int):Dev->Nat->List (List UInt8)->Int×Dev
 |d,_,[]=>(0,d)
 |d,i,p::r=>if(T3 d b (kind,i,n,ep,at'+i,()) p).1=0 then Bl0 b ep at' kind n (T3 d b (kind,i,n,ep,at'+i,()) p).2 (i+1) r else T3 d b (kind,i,n,ep,at'+i,()) p
def Aq9(d:Dev)(b ep at' kind:Int)(l:List (List UInt8)):Int×Dev:=if l=[]then(2,d)else Bl0 b ep at' kind l.length d 0 l
def itB(x:It):List Int:=[x.1,x.2.1,x.2.2.1]
instance (l:List Int):Decidable (inB l):=by unfold inB;infer_instance
def Ah9(l:List It):List UInt8:=(l.flatMap itB).map B49
def Y8(d:Dev)(b ep at':Int)(l:List It):Int×Dev:=if inB (l.flatMap itB)then T3 d b (4,0,1,ep,at',()) (Ah9 l)else(3,d)
def N7(d:Dev)(b:Int):List (List UInt8)×Int:=if H8 d b 0≠0 then([],H8 d b 0)else((List.range d.c.P).map fun(p:Nat)=>(P0 d b (p:Int)).1,0)
theorem imgR_0{h:Hd}{p:List UInt8}{size:Int}(e:(Ah4 h p size).2=0):Ad8 h=0:=by
 unfold Ah4 at e
 split at e
 ·simp at e
 ·split at e
  ·rename_i h2;exact absurd e h2
  ·rename_i h2;exact Classical.not_not.1 h2
theorem C58{d:Dev}{b:Int}{h:Hd}{p:List UInt8}(e:(T3 d b h p).1=0):Ad8 h=0:=by
 unfold T3 at e
 split at e
 ·rename_i h2;exact absurd e h2
 ·rename_i h2;exact imgR_0 (Classical.not_not.1 h2)
theorem C57{d:Dev}{n:Nat}(g:DG d (n+1))(b:Int)(h:Hd)(p:List UInt8):DG (T3 d b h p).2 n:=by
 unfold T3
 split
 ·exact⟨g.ok,by have:=g.few;show d.torn.length+n<=_;omega⟩
 ·refine⟨B97 g.ok _ _ _,?_⟩
  have h1:=B96 d b h.2.2.2.2.1 (Ah4 h p d.c.S).1
  have:=g.few
  omega
theorem DG.le{d:Dev}{n m:Nat}(g:DG d n)(h:m<=n):DG d m:=⟨g.ok,by have:=g.few;omega⟩
theorem p3{A B C:A4}:(A++(B++C)).Perm (B++(A++C)):=List.perm_append_comm_assoc A B C
def DevK(H:Nat->Dev->A4->Prop)(m:Nat)(q:Int×Dev)(R:A4)(r:Value)(L':A4):Prop:= ∃A',L'=A'++R/\r= .i q.1/\H m q.2 A'
theorem A65(m:Nat)(d:Dev)(A R:A4)(h:FH m d A)(g:DG d 1)(b:Int)(hd:Hd)(u:SlV)(p:List UInt8)(hu:BSl R u p):
  CallF PP 193 #[.pointer (some ⟨m,0,none⟩),.i b,.agg #[.i hd.1,.i hd.2.1,.i hd.2.2.1,.i hd.2.2.2.1,.i hd.2.2.2.2.1],.slice u.a u.len u.cap] (A++R) (DevK FH m (T3 d b hd p) R):=by
 refine c193 (some ⟨m,0,none⟩) b hd u ?_
 unfold s193
 have hc:=g.ok.c.s
 refine B7 (Reads.in (X:=[]) (Y:=R) (Am2 m d A h)) ((d.c.B,d.c.P,d.c.S,d.c.W,()),()) rfl ?_
 refine R4 (Ca1 (A++R) hd u p hu.right (d.c.S:Int) (by omega)) ?_
 rintro _ _-⟨s,sg,rfl,rfl,own⟩
 refine⟨(s,(Ah4 hd p d.c.S).2,()),rfl,B8 (fun(h0:(Ah4 hd p d.c.S).2=0)=>?_) (fun(h0: ¬(Ah4 hd p d.c.S).2=0)=>?_)⟩
 ·refine R4 (CallF.perm p3 (B08 m d A (sg++R) h g.ok (by have:=g.few;omega) b hd.2.2.2.2.1 s (Ah4 hd p d.c.S).1 own.sl.left)) ?_
  rintro _ _-⟨A',rfl,rfl,h'⟩
  have e:T3 d b hd p=prog d b hd.2.2.2.2.1 (Ah4 hd p d.c.S).1:=by unfold T3;rw[if_neg (by simpa using h0)]
  refine⟨((prog d b hd.2.2.2.2.1 (Ah4 hd p d.c.S).1).1,()),rfl,.drop (A:=A'++R) (J:=sg) ⟨A',rfl,by rw[e],by rw[e];exact h'⟩ ?_⟩
  exact(p3.trans List.perm_append_comm)
 ·have e:T3 d b hd p=((Ah4 hd p d.c.S).2,d):=by unfold T3;rw[if_pos h0]
  exact .app (.of ⟨A,rfl,by rw[e],by rw[e];exact h⟩)
theorem C66(m:Nat)(d:Dev)(A R:A4)(h:FH m d A)(g:DG d 1)(b ep:Int):CallF PP 254 #[.pointer (some ⟨m,0,none⟩),.i b,.i ep] (A++R) (DevK FH m (V4 d b ep) R):=by
 refine c254 (some ⟨m,0,none⟩) b ep ?_
 unfold s254
 refine R4 (A65 m d A R h g b (1,0,1,ep,0,()) ⟨none,0,0⟩ [] (Sl.nil 1)) ?_
 rintro _ _-⟨A',rfl,rfl,h'⟩
 exact⟨((V4 d b ep).1,()),rfl,.of ⟨A',rfl,rfl,h'⟩⟩
theorem Cj4(m:Nat)(d:Dev)(A R:A4)(h:FH m d A)(u:SlV)(l:List PV)(hu:W3 R u l)(hl:l.length<=1000000)(g:DG d l.length)(b ep at' kind:Int)(hat:P9 .i64 at'):
  CallF PP 135 #[.pointer (some ⟨m,0,none⟩),.i b,.i ep,.i at',.i kind,.slice u.a u.len u.cap] (A++R) (DevK FH m (Aq9 d b ep at' kind (l.map Prod.snd)) R):=by
 refine c135 (some ⟨m,0,none⟩) b ep at' kind u ?_
 unfold s135
 have hul:=hu.len
 have hat':=Bb9 hat
 refine B8 (fun(h0:(u.len:Int)=0)=>?_) (fun(h0: ¬(u.len:Int)=0)=>?_)
 ·have e:l.map Prod.snd=[]:=by rw[List.map_eq_nil_iff];exact List.length_eq_zero_iff.1 (by omega)
  exact .of ⟨A,rfl,by unfold Aq9;rw[if_pos e],by unfold Aq9;rw[if_pos e];exact h⟩
 have hne:l.map Prod.snd≠[]:=fun e=>h0 (by have:=congrArg List.length e;rw[List.length_map,List.length_nil]at this;omega)
 have hA:Aq9 d b ep at' kind (l.map Prod.snd)=Bl0 b ep at' kind l.length d 0 (l.map Prod.snd):=by unfold Aq9;rw[if_neg hne,List.length_map]
 rw[hA]
 refine G3 (fun z' z L'=> ∃(i:Nat) (x:Int) (d':Dev) (A':A4),i<=l.length/\z'=l.length-i/\z=((i:Int),kind,x,(l.length:Int),ep,at'+i,())/\L'=A'++R/\FH m d' A'/\DG d' (l.length-i)/\(0<i->at'<=15)/\Bl0 b ep at' kind l.length d 0 (l.map Prod.snd)=Bl0 b ep at' kind l.length d' i ((l.drop i).map Prod.snd)) l.length
  ⟨0,0,d,A,by omega,by omega,by rw[hul];simp,rfl,h,g,by omega,by simp⟩ ?_
 rintro z' z _ ⟨i,x,d',A',hi,rfl,rfl,rfl,h',g',h15,hst⟩
 dsimp only
 refine B8 (fun(hlt:(i:Int)<u.len)=>?_) (fun(hge: ¬(i:Int)<u.len)=>?_)
 ·have hi':i<l.length:=by omega
  refine Ct9 (hu.sl.mono A72) rfl (by rw[List.length_map];exact hi') fun a ha=>?_
  rw[List.getElem_map]at ha
  refine A6 l[i].1 ha (R4 (A65 m d' A' R h' (g'.le (by omega)) b (kind,(i:Int),(l.length:Int),ep,at'+i,()) l[i].1 l[i].2 (hu.val _ (List.getElem_mem hi'))) ?_)
  rintro _ _-⟨A2,rfl,rfl,h2⟩
  rw[List.drop_eq_getElem_cons hi',List.map_cons,Bl0]at hst
  refine⟨((T3 d' b (kind,(i:Int),(l.length:Int),ep,at'+i,()) l[i].2).1,()),rfl,B8 (fun(h0:(T3 d' b (kind,(i:Int),(l.length:Int),ep,at'+i,()) l[i].2).1=0)=>?_) (fun(h0: ¬(T3 d' b (kind,(i:Int),(l.length:Int),ep,at'+i,()) l[i].2).1=0)=>?_)⟩
  ·have hk:=Af2 (C58 h0)
   simp only at hk
   rw[if_pos h0]at hst
   refine D9 (by omega) (D9 (by omega) ⟨l.length-(i+1),by omega,i+1,i,_,A2,by omega,rfl,?_,rfl,h2,C57 (n:=l.length-(i+1)) (g'.le (by omega)) _ _ _,fun _=>by omega,hst⟩)
   rw[show at'+(i:Int)+1=at'+((i+1:Nat):Int) by omega]
   rfl
  ·rw[if_neg h0]at hst
   exact .of ⟨A2,rfl,by rw[hst],by rw[hst];exact h2⟩
 ·obtain rfl:i=l.length:=by omega
  rw[List.drop_length,List.map_nil,Bl0]at hst
  exact .of ⟨A',rfl,by rw[hst],by rw[hst];exact h'⟩
theorem C88{a b:List Int}:inB (a++b)↔inB a/\inB b:=by
 unfold inB
 constructor
 ·exact fun h=>⟨fun n hn=>h n (List.mem_append_left _ hn),fun n hn=>h n (List.mem_append_right _ hn)⟩
 ·rintro⟨h1,h2⟩ n hn
  rcases List.mem_append.1 hn with h|h
  ·exact h1 n h
  ·exact h2 n h
theorem inB_no{l:List It}{x:It}(hx:x∈l)(h: ¬inB (itB x)): ¬inB (l.flatMap itB):=fun hh=>h fun n hn=>hh n (List.mem_flatMap.2 ⟨x,hx,hn⟩)
theorem B00(l:List It):(Ah9 l).length=3*l.length:=by
 unfold Ah9
 rw[List.length_map]
 induction l with
 |nil=>rfl
 |cons x r ih=>rw[List.flatMap_cons,List.length_append,ih];simp[itB];omega
theorem Bm4(l:List It)(x:It):Ah9 (l++[x])=Ah9 l++(itB x).map B49:=by simp[Ah9]
theorem B72(m:Nat)(d:Dev)(A R:A4)(h:FH m d A)(u:SlV)(l:List It)(hu:Sl R u 3 (l.flatMap O4))(hl:l.length<=300)(g:DG d 1)(b ep at':Int):
  CallF PP 249 #[.pointer (some ⟨m,0,none⟩),.i b,.i ep,.i at',.slice u.a u.len u.cap] (A++R) (DevK FH m (Y8 d b ep at' l) R):=by
 refine c249 (some ⟨m,0,none⟩) b ep at' u ?_
 unfold s249
 have hul:=hu.els_len E3 (by decide)
 refine G3 (fun z' z L'=> ∃(i:Nat) (s:SlV) (sg J:A4),i<=l.length/\z'=l.length-i/\z=(s,(i:Int),())/\L'=sg++(J++(A++R))/\Own s 1 eB (bvs (Ah9 (l.take i))) sg/\inB ((l.take i).flatMap itB)) l.length ⟨0,⟨none,0,0⟩,[],[],by omega,by omega,rfl,rfl,F6,by intro n hn;simp at hn⟩ ?_
 rintro z' z _ ⟨i,s,sg,J,hi,rfl,rfl,rfl,own,hin⟩
 dsimp only
 refine B8 (fun(hlt:(i:Int)<u.len)=>?_) (fun(hge: ¬(i:Int)<u.len)=>?_)
 ·have hi':i<l.length:=by omega
  refine V1 E3 (by decide) (((hu.mono A72).mono A72).mono A72) rfl hi' fun a ha=>?_
  refine A6 (l[i]:It) ha (C4 fun n2 _=>?_)
  have hlen:=B00 (l.take i)
  rw[List.length_take]at hlen
  refine R4 (CallF.perm List.perm_middle (Bx6 ((n2,Obj.cells #[.i l[i].1,.i l[i].2.1,.i l[i].2.2.1] 3)::(J++(A++R))) s (Ah9 (l.take i)) sg own (by omega) ⟨some ⟨n2,0,none⟩,3,3⟩ (itB l[i]) ⟨rfl,Nat.le_refl _,.inr ⟨_,rfl,ldB List.mem_cons_self rfl⟩⟩ (by simp[itB]))) ?_
  rintro _ _-⟨sg2,rfl,⟨hb,v2,rfl,own2⟩|⟨hb,rfl⟩⟩
  ·refine⟨(v2,true,()),rfl,ifT rfl (D9 (by omega) ⟨l.length-(i+1),by omega,i+1,v2,sg2,(n2,Obj.cells #[.i l[i].1,.i l[i].2.1,.i l[i].2.2.1] 3)::J,by omega,rfl,rfl,by simp,?_,?_⟩)⟩
   ·rw[List.take_succ_eq_append_getElem hi',Bm4];exact own2
   ·rw[List.take_succ_eq_append_getElem hi',List.flatMap_append,C88,List.flatMap_singleton];exact⟨hin,hb⟩
  ·have e:Y8 d b ep at' l=(3,d):=by unfold Y8;rw[if_neg (inB_no (List.getElem_mem hi') hb)]
   exact⟨(⟨none,0,0⟩,false,()),rfl,ifF rfl (.app (.cons (.app (.of ⟨A,rfl,by rw[e],by rw[e];exact h⟩))))⟩
 ·obtain rfl:i=l.length:=by omega
  rw[List.take_length]at own hin
  refine R4 (CallF.perm (L:=A++(sg++(J++R))) ?_ (A65 m d A (sg++(J++R)) h g b (4,0,1,ep,at',()) s (Ah9 l) own.sl.left)) ?_
  ·classical
   rw[List.perm_iff_count]
   intro z
   simp only[List.count_append]
   omega
  rintro _ _-⟨A2,rfl,rfl,h2⟩
  have e:Y8 d b ep at' l=T3 d b (4,0,1,ep,at',()) (Ah9 l):=by unfold Y8;rw[if_pos hin]
  refine⟨(_,()),rfl,.drop (A:=A2++R) (J:=sg++J) ⟨A2,rfl,by rw[e],by rw[e];exact h2⟩ ?_⟩
  classical
  rw[List.perm_iff_count]
  intro z
  simp only[List.count_append]
  omega
def Dc4(q:List (List UInt8)×Int)(A:A4)(r:Value)(L':A4):Prop:= ∃(v:SlV) (gs:List PG) (seg:A4),r= .tuple #[.slice v.a v.len v.cap,.i q.2]/\L'=seg++(pgs gs++A)/\Own v 1 tB (gs.map PG.val) seg/\(∀g∈gs,g.Ok)/\gs.map PG.l=q.1
theorem Cg0{d:Dev}{b:Int}{p:Nat}(hp:p<d.c.P):H8 d b p=H8 d b 0:=by
 unfold H8
 have h1:(0<=(p:Int)/\(p:Int)<d.c.P):=by omega
 have h2:(0<=(0:Int)/\(0:Int)<d.c.P):=by omega
 simp only[h1,h2,and_self,not_true_eq_false,if_false]
theorem Be2{d:Dev}(ok:Q2 d)(b p:Int):(P0 d b p).2=H8 d b p:=by
 unfold P0
 split
 ·rfl
 ·rename_i h
  have h0:H8 d b p=0:=Classical.not_not.1 h
  have:=Aj4 h0
  split
  ·rename_i hn
   have hlt:b.toNat<d.bs.length:=by omega
   rw[List.getElem?_eq_getElem hlt]at hn;cases hn
  ·split<;>exact h0.symm
theorem DG.pb{d:Dev}(ok:Q2 d):4<=d.c.P/\d.c.P<=16:=ok.c.p
def B40(d:Dev)(b:Int)(A:A4)(i:Nat)(s:SlV)(L':A4):Prop:= ∃(gs:List PG) (sg J:A4),L'.Perm (sg++(pgs gs++(J++A)))/\Own s 1 tB (gs.map PG.val) sg/\(∀g∈gs,g.Ok)/\gs.map PG.l=(List.range i).map fun(p:Nat)=>(P0 d b (p:Int)).1
theorem B40.nil(d:Dev)(b:Int)(A:A4):B40 d b A 0 ⟨none,0,0⟩ A:=⟨[],[],[],List.Perm.refl _,F6,by simp,rfl⟩
theorem B40.p{d:Dev}{b:Int}{A:A4}{i:Nat}{s:SlV}{L':A4}(h:B40 d b A i s L'): ∃G:A4,L'.Perm (A++G):=by
 obtain⟨gs,sg,J,hp,-⟩:=h
 exact⟨sg++(pgs gs++J),pc fun z=>by have:=pcn hp z;simp only[B6]at this⊢;omega⟩
theorem B40.fin{d:Dev}{b:Int}{A:A4}{s:SlV}{L':A4}(h:B40 d b A d.c.P s L')(h0:H8 d b 0=0):HL.Ends (Dc4 (N7 d b) A) (.tuple #[.slice s.a s.len s.cap,.i 0]) L':=by
 obtain⟨gs,sg,J,hp,own,hok,hg⟩:=h
 have e:N7 d b=((List.range d.c.P).map fun(p:Nat)=>(P0 d b (p:Int)).1,0):=by unfold N7;rw[if_neg (by simpa using h0)]
 exact .drop (A:=sg++(pgs gs++A)) (J:=J) ⟨s,gs,sg,by rw[e],rfl,own,hok,by rw[e];exact hg⟩ (pc fun z=>by have:=pcn hp z;simp only[B6]at this⊢;omega)
theorem B40.snoc{d:Dev}{b:Int}{A:A4}{i:Nat}{s:SlV}{L':A4}(h:B40 d b A i s L')(hi:i<=16)(g:PG)(hg:g.Ok)(hl:g.l=(P0 d b i).1){L2:A4}(hp2:L2.Perm (g.seg++L')){k:SlV->HP}(hk: ∀s' L',B40 d b A (i+1) s' L'->k s' L'):
  apv PP tPs tPs tPs tB s 1 [g.val] k L2:=by
 obtain⟨gs,sg,J,hp,own,hok,hgl⟩:=h
 have hln:=congrArg List.length hgl
 rw[List.length_map,List.length_map,List.length_range]at hln
 have hsl:=own.len
 rw[List.length_map]at hsl
 refine Ai7 Bi6 Cm3 (Y:=g.seg++(pgs gs++(J++A))) own (pc fun z=>by have:=pcn hp z;have:=pcn hp2 z;simp only[B6]at*;omega) rfl rfl (by omega) fun s2 sg2 _ own2=>hk _ _ ⟨gs++[g],sg2,J,?_,?_,?_,?_⟩
 ·rw[P3,Av9]
  exact pc fun z=>by simp only[B6];omega
 ·rw[List.map_append];exact own2
 ·intro g' hg'
  rcases List.mem_append.1 hg' with h1|h1
  ·exact hok g' h1
  ·rw[List.mem_singleton.1 h1];exact hg
 ·rw[List.range_succ,List.map_append,List.map_append,hgl,List.map_singleton,List.map_singleton,hl]
theorem B40.err{d:Dev}{b:Int}{A:A4}{i:Nat}{s:SlV}{L' J L2:A4}(h:B40 d b A i s L')(hi:i<d.c.P){z:Int}(hz:z=H8 d b i)(hne:z≠0)(hp:L2.Perm (J++L')):HL.Ends (Dc4 (N7 d b) A) (.tuple #[.slice none 0 0,.i z]) L2:=by
 obtain⟨G,hG⟩:=h.p
 have e:N7 d b=([],z):=by rw[Cg0 hi]at hz;unfold N7;rw[<-hz,if_pos hne]
 exact .drop (A:=A) (J:=J++G) ⟨⟨none,0,0⟩,[],[],by rw[e],rfl,F6,by simp,by rw[e];rfl⟩ (pc fun z=>by have:=pcn hG z;have:=pcn hp z;simp only[B6]at*;omega)
theorem C78(m:Nat)(d:Dev)(A:A4)(h:FH m d A)(ok:Q2 d)(b:Int):CallF PP 223 #[.pointer (some ⟨m,0,none⟩),.i b] A (Dc4 (N7 d b) A):=by
 refine c223 (some ⟨m,0,none⟩) b ?_
 unfold s223
 have hP:=DG.pb ok
 refine ifF rfl (B7 (Am2 m d A h) ((d.c.B,d.c.P,d.c.S,d.c.W,()),()) rfl ?_)
 refine G3 (fun z' z L'=> ∃(i:Nat) (s:SlV),i<=d.c.P/\z'=d.c.P-i/\z=(s,(i:Int),())/\B40 d b A i s L'/\(0<i->H8 d b 0=0)) d.c.P ⟨0,⟨none,0,0⟩,by omega,by omega,rfl,B40.nil d b A,by omega⟩ ?_
 rintro z' z L1 ⟨i,s,hi,rfl,rfl,hI,h0⟩
 dsimp only
 obtain⟨G,hG⟩:=hI.p
 refine B8 (fun(hlt:(i:Int)<d.c.P)=>?_) (fun(hge: ¬(i:Int)<d.c.P)=>?_)
 ·have hi':i<d.c.P:=by omega
  refine G2 (Bm7 m d A h ok b i) hG ?_
  rintro _ _ ⟨g,rfl,rfl,hg,hgl⟩
  have hre:=Be2 ok b (i:Int)
  have hpp:((g.seg++A)++G).Perm (g.seg++L1):=pc fun z=>by have:=pcn hG z;simp only[B6]at*;omega
  refine⟨_,List.Perm.refl _,(g.v,(P0 d b (i:Int)).2,()),rfl,B8 (fun(he:(P0 d b (i:Int)).2=0)=>?_) (fun(he: ¬(P0 d b (i:Int)).2=0)=>hI.err hi' hre he hpp)⟩
  exact hI.snoc (by omega) g hg hgl hpp fun s' L' hI'=>D9 (by omega) ⟨d.c.P-(i+1),by omega,i+1,s',by omega,rfl,rfl,hI',fun _=>by rw[<-Cg0 hi',<-hre];exact he⟩
 ·obtain rfl:i=d.c.P:=by omega
  exact hI.fin (h0 (by omega))
theorem Cc2{d:Dev}(ok:Q2 d)(b:Int):(N7 d b).1.length<=16/\ ∀x∈(N7 d b).1,x.length<=512:=by
 have hP:=ok.c.p
 have hS:=ok.c.s
 unfold N7
 split
 ·exact⟨by simp,by simp⟩
 ·refine⟨by simp;omega,fun x hx=>?_⟩
  simp only[List.mem_map]at hx
  obtain⟨p,hp,rfl⟩:=hx
  have hp2:p<d.c.P:=List.mem_range.1 hp
  unfold P0
  split
  ·simp
  ·split
   ·simp
   ·rename_i k hk
    have hm:k∈d.bs:=List.mem_of_getElem? hk
    have h1:=ok.pg k hm
    split
    ·simp[blk];omega
    ·rw[Int.toNat_natCast,List.getD_eq_getElem?_getD,List.getElem?_eq_getElem (by omega),Option.getD_some,h1.2 _ (List.getElem_mem _)];omega
theorem C62{L:A4}{v:SlV}{gs:List PG}{seg Y:A4}(own:Own v 1 tB (gs.map PG.val) seg)(hg: ∀g∈gs,g.Ok)(hp:L.Perm (seg++(pgs gs++Y))):W3 L v (pvs gs):=
 A66 own hg (fun x hx=>hp.symm.subset (by simp[hx])) (fun x hx=>hp.symm.subset (by simp[hx]))
theorem Av1(gs:List PG):(pvs gs).map Prod.snd=gs.map PG.l:=by unfold pvs;rw[List.map_map];rfl
theorem Cq7{d:Dev}(ok:Q2 d){b:Int}{gs:List PG}(hl:gs.map PG.l=(N7 d b).1):(pvs gs).length<=16/\ ∀x∈pvs gs,x.2.length<=512:=by
 have h:=Cc2 ok b
 rw[<-hl,<-Av1,List.length_map]at h
 exact⟨h.1,fun x hx=>h.2 _ (List.mem_map_of_mem hx)⟩
def Aq4(x:It):Prop:=1<=x.2.1/\x.2.1<=255/\1<=x.2.2.1/\x.2.2.1<=255
theorem Bd3{p:List UInt8}: ∀{n i:Nat} {nx:Int} {y:List It×Int},1<=nx->Ak2 p n i nx=some y->(∀x∈y.1,nx<=x.2.1/\Aq4 x)/\y.1.Pairwise (fun a b=>a.2.1<b.2.1)
 |0,i,nx,y,_,h=>by obtain rfl:=Option.some.inj h;simp
 |n+1,i,nx,y,h1,h=>by
  rw[Ak2]at h
  split at h
  ·rename_i hc
   rw[Option.map_eq_some_iff]at h
   obtain⟨y2,h2,rfl⟩:=h
   have hb: ∀k,(p.getD k 0).toNat<=255:=fun k=>by have:=(p.getD k 0).toNat_lt;omega
   have e1:(H6 p i).2.1=((p.getD (i*3+1) 0).toNat:Int):=rfl
   have e2:(H6 p i).2.2.1=((p.getD (i*3+2) 0).toNat:Int):=rfl
   have h3:=hb (i*3+1)
   have h4:=hb (i*3+2)
   have hpos:1<=(H6 p i).2.2.1:=by have:=hc.2.1;omega
   obtain⟨i1,i2⟩:=Bd3 (by omega) h2
   refine⟨fun x hx=>?_,?_⟩
   ·rcases List.mem_cons.1 hx with rfl|hx
    ·exact⟨by omega,by omega,by omega,hpos,by omega⟩
    ·have:=i1 x hx
     exact⟨by omega,this.2⟩
   ·rw[List.pairwise_cons]
    exact⟨fun x hx=>by have:=(i1 x hx).1;omega,i2⟩
  ·cases h
theorem Ct4{ps:List (List UInt8)}{ep:Int}{q:Nat}{x:It}(h:O8 ps ep q=some x):x.2.1=q:=by
 unfold O8 at h
 split at h
 ·split at h
  ·split at h
   ·obtain rfl:=Option.some.inj h;rfl
   ·cases h
  ·cases h
 ·cases h
theorem Ay6{ps:List (List UInt8)}{ep:Int}{last:Nat}(hl:last<=15): ∀{k p:Nat},1<=p->(∀x∈Af3 (O8 ps ep) last k p,(p:Int)<=x.2.1/\Aq4 x)/\(Af3 (O8 ps ep) last k p).Pairwise (fun a b=>a.2.1<b.2.1)
 |0,p,_=>by simp[Af3]
 |k+1,p,h1=>by
  rw[Af3]
  split
  ·rename_i hp
   cases hf:O8 ps ep p with
   |none=>
    obtain⟨i1,i2⟩:=Ay6 (ps:=ps) (ep:=ep) hl (k:=k) (p:=p+1) (by omega)
    exact⟨fun x hx=>by have:=i1 x hx;exact⟨by omega,this.2⟩,i2⟩
   |some x0=>
    have h2:=Ct4 hf
    have h3:=Bh4 hf
    obtain⟨i1,i2⟩:=Ay6 (ps:=ps) (ep:=ep) hl (k:=k) (p:=p+x0.2.2.1.toNat) (by omega)
    refine⟨fun x hx=>?_,?_⟩
    ·rcases List.mem_cons.1 hx with rfl|hx
     ·exact⟨by omega,by omega,by omega,by omega,by omega⟩
     ·have:=i1 x hx
      exact⟨by omega,this.2⟩
    ·rw[List.pairwise_cons]
     exact⟨fun x hx=>by have:=(i1 x hx).1;omega,i2⟩
  ·simp
theorem B73{p:List UInt8}{last:Nat}{l:List It}(h:Az6 p last=some l):(∀x∈l,Aq4 x)/\l.Pairwise (fun a b=>a.2.1<b.2.1):=by
 unfold Az6 at h
 split at h
 ·cases h
 ·split at h
  ·rename_i y hy
   split at h
   ·obtain rfl:=Option.some.inj h
    obtain⟨h1,h2⟩:=Bd3 (by omega) hy
    exact⟨fun x hx=>(h1 x hx).2,h2⟩
   ·cases h
  ·cases h
theorem B75(ps:List (List UInt8)):(∀x∈(Q4 ps).1.2.2,Aq4 x)/\(Q4 ps).1.2.2.Pairwise (fun a b=>a.2.1<b.2.1):=by
 unfold Q4
 split
 ·simp
 ·split
  ·split
   ·rename_i l hl
    split at hl
    ·unfold A56 at hl
     rw[Option.bind_eq_some_iff]at hl
     obtain⟨p,-,hp⟩:=hl
     exact B73 hp
    ·cases hl
   ·have hla:M1 ps<=15:=by have:=A82 ps (min ps.length 16-1);unfold M1;omega
    obtain⟨h1,h2⟩:=Ay6 (ps:=ps) (ep:=epR ps) hla (k:=17) (p:=1) (by omega)
    exact⟨fun x hx=>(h1 x hx).2,h2⟩
  ·simp
theorem Cn3(ps:List (List UInt8)):0<=(Q4 ps).1.1/\(Q4 ps).1.1<=1073741824:=by
 have h: ∀l,Aa3 ps 0 (1,0,1,epR ps,0,())=some l->0<=epR ps/\epR ps<=1073741824:=by
  intro l hl
  unfold Aa3 at hl
  split at hl
  ·split at hl
   ·split at hl
    ·rename_i b hb hc
     have h1:=Af2 (Bt7 hc.1)
     rw[hc.2]at h1
     simp only at h1
     omega
    ·cases hl
   ·cases hl
  ·cases hl
 unfold Q4
 split
 ·simp
 ·split
  ·rename_i hs
   have:=h _ hs
   split
   ·exact this
   ·exact this
  ·simp
def Ck2(b:List UInt8)(s:ByteArray):List UInt8×Int:=if 65536<s.size then([],4)else(b++O9 s.size 4++s.data.toList,0)
def TxtK(b:List UInt8)(s:ByteArray)(A:A4)(v:Value)(L':A4):Prop:= ∃(u:SlV) (seg:A4),v= .tuple #[.slice u.a u.len u.cap,.i (Ck2 b s).2]/\L'=seg++A/\Own u 1 eB (bvs (Ck2 b s).1) seg
theorem B66(s:ByteArray):s.data.toList.length=s.size:=by rw[Array.length_toList];rfl
theorem wput4(b:List UInt8)(n:Nat)(h:n<=65536):As8 b n 4=(b++O9 n 4,0):=by
 have:=Ai8 (b:=b) (n:=n) (w:=4) (by omega) (by omega) (by simp;omega)
 simpa using this
theorem C28(s:ByteArray):(s.data.toList.map fun b=>Value.int .u8 b.toNat)=bvs s.data.toList:=rfl
theorem B46(A:A4)(v:SlV)(b:List UInt8)(hb:BSl A v b)(hl:b.length<=1000000)(s:ByteArray)(hs:s.size<=maxLen):
  CallF PP 177 #[.slice v.a v.len v.cap,.string s] A (TxtK b s A):=by
 refine CallF.of (args:=[.slice v.a v.len v.cap,.string s]) B4 B5 Tryz.func177 (e177 v s _) ?_
 unfold t177
 refine C0 (fun(h1:(s.size:Int)>65536)=>.of ?_) (fun(h1: ¬(s.size:Int)>65536)=>?_)
 ·have e:Ck2 b s=([],4):=by unfold Ck2;rw[if_pos (by omega)]
  exact⟨⟨none,0,0⟩,[],by rw[e],rfl,by rw[e];exact F6⟩
 ·have e:Ck2 b s=(b++O9 s.size 4++s.data.toList,0):=by unfold Ck2;rw[if_neg (by omega)]
  refine J5 [] [] (A51 A v b hb hl s.size 4 (by omega)) (by simp) ?_
  rintro w A'-⟨u,seg,rfl,rfl,own⟩
  rw[wput4 b s.size (by omega)]at own⊢
  refine⟨(u,0,()),rfl,?_⟩
  have hul:=own.sl.len
  rw[E9,List.length_append,Z9]at hul
  refine E6 Am0 srcS [] A own (by simp) (.str s) (K4 _) (by first|omega|(simp only;omega)) fun u' seg' hu' own'=>?_
  rw[C28,<-Ah0]at own'
  exact .of ⟨u',seg',by rw[e],rfl,by rw[e];exact own'⟩
def RD(m:Nat)(b:List UInt8)(at':Nat)(A:A4):Prop:= ∃(s:SlV) (seg:A4),A=(m,Obj.cells #[.slice s.a s.len s.cap,.i at'] 389)::seg/\Own s 1 eB (bvs b) seg/\at'<=b.length/\b.length<=1000000
theorem Co0(A:A4)(v:SlV)(b:List UInt8)(hb:BSl A v b)(hl:b.length<=1000000):
  CallF PP 240 #[.slice v.a v.len v.cap] A fun r L'=> ∃m R,r= .pointer (some ⟨m,0,none⟩)/\L'=R++A/\RD m b 0 R:=by
 refine CallF.of (args:=[.slice v.a v.len v.cap]) B4 B5 Tryz.func240 (e240 v _) ?_
 unfold t240
 have hlen:=hb.len
 refine C4 fun q _=>E6 Am0 Cm4 [] A Ae8 (by simp) (.sl hb.cons) (K4 _) (by first|omega|(simp only;omega)) fun s seg hs own=>?_
 rw[List.nil_append]at own
 exact C4 fun m _=>.of ⟨m,_::seg,rfl,by simp,s,seg,rfl,own,by omega,hl⟩
def A22(b:List UInt8)(a:Nat)(w:Int):Nat:=if(V2 b a w).2=0 then a+w.toNat else a
theorem B86{b:List UInt8}{a:Nat}{w:Int}(h:a<=b.length):A22 b a w<=b.length:=by
 unfold A22
 split
 ·rename_i h1
  have:=(Aj8 b a w).2.2.2 h1
  omega
 ·exact h
theorem num_cl(m:Nat)(b:List UInt8)(a:Nat)(A:A4)(h:RD m b a A)(w:Int):
  CallF PP 243 #[.pointer (some ⟨m,0,none⟩),.i w] A fun r L'=>r= .tuple #[.i (V2 b a w).1,.i (V2 b a w).2]/\RD m b (A22 b a w) L':=by
 obtain⟨s,seg,rfl,own,ha,hl⟩:=h
 refine CallF.of (args:=[.pointer (some ⟨m,0,none⟩),.i w]) B4 B5 Tryz.func243 (e243 (some ⟨m,0,none⟩) w _) ?_
 unfold t243
 have hsl:BSl ((m,Obj.cells #[.slice s.a s.len s.cap,.i a] 389)::seg) s b:=own.sl.cons
 refine ifF rfl (A5 rfl (A5 rfl (A6 s (ldB List.mem_cons_self rfl) (A6 (a:Int) (ldB List.mem_cons_self rfl) ?_))))
 have hr:=Aj8 b a w
 have hn:=B86 (w:=w) ha
 unfold A22 at hn⊢
 refine B7 (A52 _ s b hsl (by omega) a w) ((V2 b a w).1,(V2 b a w).2,()) rfl ?_
 generalize V2 b a w=g at hr hn⊢
 refine Z7 (fun(he:g.2=0)=>?_) (fun(he:g.2≠0)=>.of ⟨rfl,by rw[if_neg he];exact⟨s,seg,rfl,own,ha,hl⟩⟩)
 obtain⟨u,rfl⟩: ∃u:Nat,w=u:=⟨w.toNat,by have:=hr.2.2.2 he;omega⟩
 have h7:=hr.2.2.2 he
 have hw:IntKind.i64.wrap ((a:Int)+u)=((a+u:Nat):Int):=by rw[C1 (by omega) (by omega)];omega
 refine A5 rfl (A6 (a:Int) (ldB List.mem_cons_self rfl) (A5 rfl (E0 [] seg rfl rfl (by simp) (.inl (Nat.le_refl _)) #[.slice s.a s.len s.cap,.i ((a+u:Nat):Int)] (by rw[hw];rfl) (.of ⟨rfl,?_⟩))))
 rw[if_pos he,Int.toNat_natCast]at hn⊢
 exact⟨s,seg,rfl,own,hn,hl⟩
theorem Cc6(m:Nat)(b:List UInt8)(a:Nat)(A:A4)(h:RD m b a A):Reads PP 242 #[.pointer (some ⟨m,0,none⟩)] A (.i ((b.length:Int)-a)):=by
 obtain⟨s,seg,rfl,own,ha,hl⟩:=h
 refine Reads.of (args:=[.pointer (some ⟨m,0,none⟩)]) B4 B5 Tryz.func242 (e242 (some ⟨m,0,none⟩) _) ?_
 unfold t242
 have hlen:=own.sl.len
 rw[E9,Nat.mul_one]at hlen
 refine ifF rfl (A5 rfl (A5 rfl (A6 s (ldB List.mem_cons_self rfl) (A6 (a:Int) (ldB List.mem_cons_self rfl) (.of ⟨?_,rfl⟩)))))
 rw[hlen,C1 (by omega) (by omega)]
def G5(b:List UInt8)(a:Nat):List UInt8×Nat×Int:=
 if(V2 b a 4).2≠0 then([],a,(V2 b a 4).2)else if 65536<(V2 b a 4).1 then([],a,4)else if(b.length:Int)<a+4+(V2 b a 4).1 then([],a,6)
 else((b.drop (a+4)).take (V2 b a 4).1.toNat,a+4+(V2 b a 4).1.toNat,0)
def C30(l:List UInt8):Value:=.string ⟨l.toArray⟩
theorem Bx2{L:A4}{s:SlV}{b:List UInt8}(h:BSl L s b){i j:Nat}(h1:i<=j)(h2:j<=b.length):BSl L (O6 s i j s.cap 1) ((b.drop i).take (j-i)):=by
 have hl:=h.len
 have hc:=h.cap
 have:=Sl.slc (m:=s.cap) h (by omega) h1 (by omega) (by omega)
 rwa [Af8]at this
theorem B53(m:Nat)(b:List UInt8)(a:Nat)(A:A4)(h:RD m b a A):
  CallF PP 241 #[.pointer (some ⟨m,0,none⟩)] A fun r L'=>r= .tuple #[C30 (G5 b a).1,.i (G5 b a).2.2]/\RD m b (G5 b a).2.1 L':=by
 obtain⟨s,seg,rfl,own,ha,hl⟩:=h
 refine CallF.of (args:=[.pointer (some ⟨m,0,none⟩)]) B4 B5 Tryz.func241 (e241 (some ⟨m,0,none⟩) _) ?_
 unfold t241
 have hsl: ∀{o:Obj},BSl ((m,o)::seg) s b:=own.sl.cons
 have hlen:=own.sl.len
 rw[E9,Nat.mul_one]at hlen
 have hcap:=own.cap
 refine ifF rfl (A5 rfl (A5 rfl (A6 s (ldB List.mem_cons_self rfl) (A6 (a:Int) (ldB List.mem_cons_self rfl) ?_))))
 have hr:=Aj8 b a 4
 unfold G5
 refine B7 (A52 _ s b hsl (by omega) a 4) ((V2 b a 4).1,(V2 b a 4).2,()) rfl ?_
 generalize V2 b a 4=g at hr⊢
 refine O0 (fun(he:g.2≠0)=>.of ?_) (fun(he:g.2=0)=>?_)
 ·rw[if_pos he];exact⟨rfl,s,seg,rfl,own,ha,hl⟩
 have h4:=hr.2.2.2 he
 have hw:IntKind.i64.wrap ((a:Int)+4)=((a+4:Nat):Int):=by rw[C1 (by omega) (by omega)];omega
 rw[if_neg (by omega)]
 refine A5 rfl (A6 (a:Int) (ldB List.mem_cons_self rfl) ?_)
 simp only[hw]
 refine C0 (fun(h5:g.1>65536)=>.of ?_) (fun(h5: ¬g.1>65536)=>?_)
 ·rw[if_pos h5];exact⟨rfl,s,seg,rfl,own,ha,hl⟩
 rw[if_neg h5]
 refine A5 rfl (A6 s (ldB List.mem_cons_self rfl) ?_)
 rw[C1 (n:=(s.len:Int)-((a+4:Nat):Int)) (by omega) (by omega)]
 refine C0 (fun(h6:g.1>(s.len:Int)-((a+4:Nat):Int))=>.of ?_) (fun(h6: ¬g.1>(s.len:Int)-((a+4:Nat):Int))=>?_)
 ·rw[if_pos (by omega)];exact⟨rfl,s,seg,rfl,own,ha,hl⟩
 rw[if_neg (by omega)]
 obtain⟨u,hu⟩: ∃u:Nat,g.1=u:=⟨g.1.toNat,by omega⟩
 have hw2:IntKind.i64.wrap (((a+4:Nat):Int)+g.1)=((a+4+u:Nat):Int):=by rw[hu,C1 (by omega) (by omega)];omega
 rw[hw2,hu,Int.toNat_natCast]
 refine A5 rfl (E0 [] seg rfl rfl (by simp) (.inl (Nat.le_refl _)) #[.slice s.a s.len s.cap,.i ((a+4+u:Nat):Int)] rfl ?_)
 refine A5 rfl (A5 rfl (A6 s (ldB List.mem_cons_self rfl) (A6 ((a+4+u:Nat):Int) (ldB List.mem_cons_self rfl) ?_)))
 refine K1 (l':=a+4) (h':=a+4+u) (m':=s.cap) rfl rfl rfl (by omega) (by omega) (Nat.le_refl _) ?_
 have hc:=Bx2 (hsl (o:=Obj.cells #[.slice s.a s.len s.cap,.i ((a+4+u:Nat):Int)] 389)) (i:=a+4) (j:=a+4+u) (by omega) (by omega)
 rw[show a+4+u-(a+4)=u by omega]at hc
 exact Cj2 hc (.of ⟨rfl,s,seg,rfl,own,(show a+4+u<=b.length by omega),hl⟩)
abbrev Tab(L:A4):Prop:=D0 ⟨0,0,none⟩ [.i 1,.i 2,.i 4,.i 8] L
theorem Tab.mono{A L:A4}(h:Tab A)(hs: ∀p∈A,p∈L):Tab L:=D0.mono h hs
theorem Tab.cons{L:A4}{p:Nat×Obj}(h:Tab L):Tab (p::L):=D0.mono h fun _ hp=>List.mem_cons_of_mem _ hp
def Bq1:List Int->Int->Int->Int
 |[],_,_=>0
 |k::r,n,p=>if k≥n/\k<=p-2 then k else Bq1 r n p
def cls(n p:Int):Int:=if n<1\/p<2 then 0 else Bq1 [1,2,4,8] n p
theorem Cu3(L:A4)(hT:Tab L)(n p:Int)(hp:p<=9223372036854775807):Reads PP 108 #[.i n,.i p] L (.i (cls n p)):=by
 refine Reads.of (args:=[.i n,.i p]) B4 B5 Tryz.func108 (e108 n p _) ?_
 unfold t108 cls
 refine C0 (fun(h1:n<1)=>.of ⟨by rw[if_pos (.inl h1)],rfl⟩) (fun(h1: ¬n<1)=>?_)
 refine C0 (fun(h2:p<2)=>.of ⟨by rw[if_pos (.inr h2)],rfl⟩) (fun(h2: ¬p<2)=>?_)
 rw[if_neg (by omega)]
 refine A6 (1,2,4,8,()) hT ?_
 refine G3 (fun z' z L'=>L'=L/\ ∃i:Nat,i<=4/\z'=4-i/\z=((i:Int),())/\Bq1 (([1,2,4,8]:List Int).drop i) n p=Bq1 [1,2,4,8] n p) 4 ⟨rfl,0,by omega,by omega,rfl,rfl⟩ ?_
 rintro z' z L1 ⟨hL1,i,hi,rfl,rfl,hc⟩
 rw[hL1]
 have hw:IntKind.i64.wrap (p-2)=p-2:=C1 (by omega) (by omega)
 refine C0 (fun(hlt:(i:Int)<4)=>?_) (fun(hge: ¬(i:Int)<4)=>?_)
 ·obtain⟨k,r,hdr,hrun,hdr2⟩: ∃(k:Int) (r:List Int),([1,2,4,8]:List Int).drop i=k::r/\(∀w,(Instr.index 266 (.agg #[.i 1,.i 2,.i 4,.i 8]) (.i (i:Int))).run PP w= .ok (.i k) w)/\([1,2,4,8]:List Int).drop (i+1)=r:=by
   have h4:i=0\/i=1\/i=2\/i=3:=by omega
   rcases h4 with rfl|rfl|rfl|rfl
   ·exact⟨1,[2,4,8],rfl,fun w=>by kernel_rfl,rfl⟩
   ·exact⟨2,[4,8],rfl,fun w=>by kernel_rfl,rfl⟩
   ·exact⟨4,[8],rfl,fun w=>by kernel_rfl,rfl⟩
   ·exact⟨8,[],rfl,fun w=>by kernel_rfl,rfl⟩
  rw[hdr,show Bq1 (k::r) n p=(if k≥n/\k<=p-2 then k else Bq1 r n p)from rfl]at hc
  have hnext: ¬(k≥n/\k<=p-2)-> ∃k',k'<4-i/\L=L/\ ∃j:Nat,j<=4/\k'=4-j/\((IntKind.i64.wrap ((i:Int)+1),()):Int×Unit)=((j:Int),())/\Bq1 (([1,2,4,8]:List Int).drop j) n p=Bq1 [1,2,4,8] n p:=by
   intro hn
   refine⟨4-(i+1),by omega,rfl,i+1,by omega,rfl,?_,?_⟩
   ·rw[C1 (by first|omega|(simp only;omega)) (by first|omega|(simp only;omega))]
    rfl
   ·rw[hdr2]
    rw[if_neg hn]at hc
    exact hc
  refine⟨k,hrun,?_⟩
  simp only[hw]
  refine C0 (fun(h3:k≥n)=>?_) (fun(h3: ¬k≥n)=>hnext fun h=>h3 h.1)
  refine C0 (fun(h4:k<=p-2)=>.of ⟨?_,rfl⟩) (fun(h4: ¬k<=p-2)=>hnext fun h=>h4 h.2)
  rw[if_pos ⟨h3,h4⟩]at hc
  rw[hc]
 ·obtain rfl:i=4:=by omega
  refine .of ⟨?_,rfl⟩
  rw[<-hc];rfl
theorem Db3(n p:Int):0<=cls n p/\cls n p<=8:=by
 unfold cls
 split
 ·exact⟨by decide,by decide⟩
 ·simp only[Bq1]
  repeat' split
  all_goals omega
theorem cls_ge{n p:Int}(h:cls n p≠0):n<=cls n p/\cls n p<=p-2/\1<=cls n p/\cls (cls n p) p=cls n p:=by
 unfold cls at h
 split at h
 ·exact absurd rfl h
 ·rename_i h0
  have hc:cls n p=Bq1 [1,2,4,8] n p:=by unfold cls;rw[if_neg h0]
  rw[hc]
  simp only[Bq1]at h⊢
  split at h
  ·rename_i h1
   rw[if_pos h1]
   exact⟨h1.1,h1.2,by decide,by unfold cls;rw[if_neg (by omega)];simp only[Bq1];rw[if_pos (by omega)]⟩
  ·rename_i h1
   rw[if_neg h1]
   split at h
   ·rename_i h2
    rw[if_pos h2]
    exact⟨h2.1,h2.2,by decide,by unfold cls;rw[if_neg (by omega)];simp only[Bq1];rw[if_neg (by omega),if_pos (by omega)]⟩
   ·rename_i h2
    rw[if_neg h2]
    split at h
    ·rename_i h3
     rw[if_pos h3]
     exact⟨h3.1,h3.2,by decide,by unfold cls;rw[if_neg (by omega)];simp only[Bq1];rw[if_neg (by omega),if_neg (by omega),if_pos (by omega)]⟩
    ·rename_i h3
     rw[if_neg h3]
     split at h
     ·rename_i h4
      rw[if_pos h4]
      exact⟨h4.1,h4.2,by decide,by unfold cls;rw[if_neg (by omega)];simp only[Bq1];rw[if_neg (by omega),if_neg (by omega),if_neg (by omega),if_pos (by omega)]⟩
     ·exact absurd rfl h
theorem A84(L:A4)(n:Int):Reads PP 107 #[.i n] L (.bool (decide (1<=n/\n<=255))):=by
 refine Reads.of (args:=[.i n]) B4 B5 Tryz.func107 (e107 n _) ?_
 unfold t107
 refine C0 (fun(h:n≥1)=>.of ⟨?_,rfl⟩) (fun(h: ¬n≥1)=>.of ⟨by rw[decide_eq_false (by omega)],rfl⟩)
 congr 1
 rw[decide_eq_decide]
 omega
abbrev Cf:=Int×Int×Int×Int×Unit
def H9(key value:Int)(c:Cf):Int:=
 if key<1\/key>255\/value<0\/value>65536\/D4 c.2.2.1=0 then 0 else cls ((key+value+12+D4 c.2.2.1-1)/D4 c.2.2.1) c.2.1
theorem Ag2{n:Int}(h:D4 n≠0):48<=D4 n/\D4 n<=496:=by
 unfold D4 at h⊢
 split at h
 ·rename_i h1;rw[if_pos h1];omega
 ·exact absurd rfl h
theorem Bt9(L:A4)(hT:Tab L)(key value:Int)(c:Cf)(hc:c.2.1<=9223372036854775807):Reads PP 47 #[.i key,.i value,.agg #[.i c.1,.i c.2.1,.i c.2.2.1,.i c.2.2.2.1]] L (.i (H9 key value c)):=by
 refine Reads.of (args:=[.i key,.i value,.agg #[.i c.1,.i c.2.1,.i c.2.2.1,.i c.2.2.2.1]]) B4 B5 Tryz.func47 (e47 key value c _) ?_
 unfold t47
 refine C4 fun n1 _=>?_
 generalize ho:(n1,Obj.cells #[.i c.1,.i c.2.1,.i c.2.2.1,.i c.2.2.2.1] 23)=o1
 have lc:D0 ⟨n1,0,none⟩ [.i c.1,.i c.2.1,.i c.2.2.1,.i c.2.2.2.1] (o1::L):=ldB (by rw[<-ho];exact List.mem_cons_self) rfl
 clear ho
 refine A6 c.2.2.1 (lc.one 2 rfl) (B7 (Ag5 _ c.2.2.1) (D4 c.2.2.1,()) rfl (B7 (A84 _ key) (decide (1<=key/\key<=255),()) rfl ?_))
 have hno:(key<1\/key>255\/value<0\/value>65536\/D4 c.2.2.1=0)->HL.Ends (fun v' L'=>v'=Value.i (H9 key value c)/\L'=L) (.i 0) (o1::L):=fun h=>.cons (.of ⟨by unfold H9;rw[if_pos h],rfl⟩)
 by_cases hk:1<=key/\key<=255
 case neg=>rw[decide_eq_false hk];exact ifT rfl (hno (by omega))
 rw[decide_eq_true hk]
 refine ifF rfl (C0 (fun(h1:value<0)=>hno (by omega)) (fun(h1: ¬value<0)=>C0 (fun(h2:value>65536)=>hno (by omega)) (fun(h2: ¬value>65536)=>?_)))
 refine Z7 (fun(h3:D4 c.2.2.1=0)=>hno (by omega)) (fun(h3:D4 c.2.2.1≠0)=>Aa7 h3 ?_)
 have hr:=Ag2 h3
 have hp:H9 key value c=cls ((key+value+12+D4 c.2.2.1-1)/D4 c.2.2.1) c.2.1:=by unfold H9;rw[if_neg (by omega)]
 have e1:IntKind.i64.wrap (key+value)=key+value:=C1 (by omega) (by omega)
 have e2:IntKind.i64.wrap (key+value+12)=key+value+12:=C1 (by omega) (by omega)
 have e3:IntKind.i64.wrap (key+value+12+D4 c.2.2.1)=key+value+12+D4 c.2.2.1:=C1 (by omega) (by omega)
 have e4:IntKind.i64.wrap (key+value+12+D4 c.2.2.1-1)=key+value+12+D4 c.2.2.1-1:=C1 (by omega) (by omega)
 have e5:Int.tdiv (key+value+12+D4 c.2.2.1-1) (D4 c.2.2.1)=(key+value+12+D4 c.2.2.1-1)/D4 c.2.2.1:=Int.tdiv_eq_ediv_of_nonneg (by omega)
 have e6:IntKind.i64.wrap ((key+value+12+D4 c.2.2.1-1)/D4 c.2.2.1)=(key+value+12+D4 c.2.2.1-1)/D4 c.2.2.1:=by
  have h1:=Int.ediv_le_self (D4 c.2.2.1) (show 0<=key+value+12+D4 c.2.2.1-1 by omega)
  have h2:=Int.ediv_nonneg (show 0<=key+value+12+D4 c.2.2.1-1 by omega) (show 0<=D4 c.2.2.1 by omega)
  exact C1 (by omega) (by omega)
 simp only[e1,e2,e3,e4,e5,e6]
 refine A6 c.2.1 (lc.one 1 rfl) (B7 (Cu3 _ hT.cons _ c.2.1 hc) (cls ((key+value+12+D4 c.2.2.1-1)/D4 c.2.2.1) c.2.1,()) rfl (.cons (.of ⟨by rw[hp],rfl⟩)))
theorem C98(n:Nat)(hn:n<=1099511627776):CallF PP 290 #[.slice none 0 0,.i n] [] fun r L'=> ∃(s:SlV) (seg:A4),r= .slice s.a s.len s.cap/\L'=seg/\Own s 1 eB [] seg:=by
 refine CallF.of (args:=[.slice none 0 0,.i n]) B4 B5 Tryz.func290 (e290 ⟨none,0,0⟩ n _) ?_
 unfold t290
 refine U0 (fun y L'=>L'=[]) ?_ (fun j hj=>ifN (show¬(n:Int)<0 by omega) (hj _ _ rfl))
 rintro _ _ rfl
 have e0:IntKind.i64.wrap (((0:Nat):Int)-((0:Nat):Int))=0:=by decide
 have e1:IntKind.i64.wrap ((n:Int)-0)=n:=C1 (by omega) (by omega)
 simp only[e0,e1]
 refine C0 (fun(h:(n:Int)>0)=>?_) (fun(h: ¬(n:Int)>0)=>.of ⟨⟨none,0,0⟩,[],rfl,rfl,F6⟩)
 refine K1 (l':=0) (h':=0) (m':=0) rfl rfl rfl (by decide) (by decide) (by decide) ?_
 have hs0:O6 ⟨none,0,0⟩ ((0:Nat):Int) ((0:Nat):Int) ((0:Nat):Int) 1=⟨none,0,0⟩:=by simp[O6]
 rw[hs0]
 refine Cs7 (n:=n) (ik:=.i64) Am0 (by kernel_rfl) (by omega) (by omega) fun q cap ob hcap own=>?_
 refine K1 (l':=0) (h':=0) (m':=cap) rfl rfl rfl (by omega) (by omega) (Nat.le_refl _) ?_
 have hs:O6 ⟨some ⟨q,0,none⟩,n,cap⟩ ((0:Nat):Int) ((0:Nat):Int) (cap:Int) 1=⟨some ⟨q,0,none⟩,0,cap⟩:=by
  simp only[O6]
  rw[if_neg (by omega)]
  simp[Addr.add]
 rw[hs]
 exact .of ⟨⟨some ⟨q,0,none⟩,0,cap⟩,[(q,ob)],rfl,rfl,own⟩
theorem Ch8(A:A4)(v:SlV)(l:List PV)(h:W3 A v l)(hb:(Ah5 l).length<=1099511627776)(hl:l.length<=1099511627776):
  CallF PP 233 #[.slice v.a v.len v.cap] A fun r L'=> ∃(s:SlV) (seg:A4),r= .slice s.a s.len s.cap/\L'=seg++A/\Own s 1 eB (bvs (Ah5 l)) seg:=by
 refine CallF.of (args:=[.slice v.a v.len v.cap]) B4 B5 Tryz.func233 (e233 v _) ?_
 unfold t233
 have hlen:=h.len
 refine G3 (fun z' z L'=>L'=A/\ ∃i:Nat,i<=l.length/\z'=l.length-i/\z=(((Ah5 (l.take i)).length:Int),(i:Int),())) l.length ⟨rfl,0,by omega,by omega,rfl⟩ ?_
 rintro z' z L1 ⟨hL1,i,hi,rfl,rfl⟩
 rw[hL1]
 refine C0 (fun(hlt:(i:Int)<(v.len:Int))=>?_) (fun(hge: ¬(i:Int)<(v.len:Int))=>?_)
 ·have hi':i<l.length:=by omega
  obtain⟨a,ha,hld⟩:=h.at' hi'
  have hbl:=(h.val _ (List.getElem_mem hi')).len
  have hs:=Bj4 l hi'
  have hle:=Ap7 l (i+1)
  have hsl:(Ah5 (l.take (i+1))).length=(Ah5 (l.take i)).length+l[i].1.len:=by rw[hs,List.length_append,hbl]
  refine A5 ha (E1 (show(0:Int)<=(i:Int) by omega) hlt (A6 l[i].1 hld ?_))
  have e1:IntKind.i64.wrap (((Ah5 (l.take i)).length:Int)+(l[i].1.len:Int))=((Ah5 (l.take (i+1))).length:Int):=by rw[C1 (by omega) (by omega),hsl];omega
  simp only[e1]
  refine ifN (show¬((Ah5 (l.take (i+1))).length:Int)<0 by omega) ⟨l.length-(i+1),by omega,rfl,i+1,by omega,rfl,?_⟩
  rw[C1 (by first|omega|(simp only;omega)) (by first|omega|(simp only;omega))]
  rfl
 ·obtain rfl:i=l.length:=by omega
  rw[List.take_length]
  refine J5 [] A (C98 (Ah5 l).length hb) rfl ?_
  rintro _ seg0-⟨s0,_,rfl,rfl,own0⟩
  refine⟨(s0,()),rfl,?_⟩
  rw[List.nil_append]
  refine G3 (fun z' z L'=> ∃(i:Nat) (s:SlV) (seg:A4),i<=l.length/\z'=l.length-i/\z=(s,(i:Int),())/\L'=seg++A/\Own s 1 eB (bvs (Ah5 (l.take i))) seg) l.length ⟨0,s0,seg0,by omega,by omega,rfl,rfl,own0⟩ ?_
  rintro z' z _ ⟨i,s,seg,hi,rfl,rfl,rfl,own⟩
  refine C0 (fun(hlt:(i:Int)<(v.len:Int))=>?_) (fun(hge: ¬(i:Int)<(v.len:Int))=>?_)
  ·have hi':i<l.length:=by omega
   obtain⟨a,ha,hld⟩:=h.at' hi'
   have hbl:=(h.val _ (List.getElem_mem hi')).len
   have hs:=Bj4 l hi'
   have hle:=Ap7 l (i+1)
   have hsl:(Ah5 (l.take (i+1))).length=(Ah5 (l.take i)).length+l[i].1.len:=by rw[hs,List.length_append,hbl]
   have hol:=own.sl.len
   rw[E9]at hol
   refine A5 ha (E1 (show(0:Int)<=(i:Int) by omega) hlt (A6 l[i].1 (hld.mono fun x hx=>List.mem_append_right _ hx) ?_))
   refine E6 Am0 Cm4 [] A own rfl (.sl (Sl.right (h.val _ (List.getElem_mem hi')))) (K4 _) (by omega) fun s' seg' hs' own'=>?_
   rw[<-Ah0,<-hs]at own'
   refine⟨l.length-(i+1),by omega,i+1,s',seg',by omega,rfl,?_,rfl,own'⟩
   rw[C1 (by first|omega|(simp only;omega)) (by first|omega|(simp only;omega))]
   rfl
  ·obtain rfl:i=l.length:=by omega
   rw[List.take_length]at own
   exact .of ⟨s,seg,rfl,rfl,own⟩
theorem Aw8(A:A4)(v:SlV)(l:List PV)(h:W3 A v l)(hb:(Ah5 l).length<=1099511627776)(hl:l.length<=1099511627776):
  CallF PP 178 #[.slice v.a v.len v.cap] A fun r L'=> ∃(s:SlV) (seg:A4),r= .slice s.a s.len s.cap/\L'=seg++A/\Own s 1 eB (bvs (Ah5 l)) seg:=by
 refine CallF.of (args:=[.slice v.a v.len v.cap]) B4 B5 Tryz.func178 (e178 v _) ?_
 unfold t178
 refine J5 [] [] (Ch8 A v l h hb hl) (by simp) ?_
 rintro _ _-⟨s,seg,rfl,rfl,own⟩
 refine⟨(s,()),rfl,?_⟩
 rw[List.nil_append,List.append_nil]
 exact .of ⟨s,seg,rfl,rfl,own⟩
def Bp7(key val:List UInt8):List UInt8:=O9 key.length 4++key++(O9 val.length 4++val)
def encA(key val:List UInt8):List UInt8:=Bp7 key val++O9 (H5 (Bp7 key val)).toNat 4
theorem Bw9(key val:List UInt8):(Bp7 key val).length=key.length+val.length+8:=by
 unfold Bp7
 simp only[List.length_append,Z9];omega
theorem Ct8(key val:List UInt8):(encA key val).length=key.length+val.length+12:=by
 unfold encA
 rw[List.length_append,Bw9,Z9]
def Ap6(n r:Nat)(b:List UInt8):List (List UInt8):=(List.range n).map fun i=>(b.drop (i*r)).take r
theorem Bq2(n r:Nat)(b:List UInt8):Ap6 (n+1) r b=Ap6 n r b++[(b.drop (n*r)).take r]:=by simp[Ap6,List.range_succ]
def T4(key val:List UInt8)(c:Cf):List (List UInt8)×Int:=
 if key.length<1\/key.length>255 then([],2)else if val.length>65536 then([],4)else
 if H9 key.length val.length c=0 then([],14)else(Ap6 (H9 key.length val.length c).toNat (D4 c.2.2.1).toNat (encA key val),0)
def Dc6(key val:List UInt8)(c:Cf)(A:A4)(r:Value)(L':A4):Prop:= ∃(ov:SlV) (oseg:A4) (gs:List PG),r= .tuple #[.slice ov.a ov.len ov.cap,.i (T4 key val c).2]/\L'=oseg++(pgs gs++A)/\Own ov 1 tB (gs.map PG.val) oseg/\(∀g∈gs,g.Ok)/\gs.map PG.l=(T4 key val c).1
theorem Dc6.err{key val:List UInt8}{c:Cf}{A:A4}{e:Int}(h:T4 key val c=([],e)):Dc6 key val c A (.tuple #[.slice none 0 0,.i e]) A:=
 ⟨⟨none,0,0⟩,[],[],by rw[h],rfl,F6,by simp,by rw[h];rfl⟩
theorem A26{key value:Int}{c:Cf}(h:H9 key value c≠0):1<=key/\key<=255/\0<=value/\value<=65536/\D4 c.2.2.1≠0/\1<=H9 key value c/\H9 key value c<=8/\H9 key value c<=c.2.1-2/\key+value+12<=H9 key value c*D4 c.2.2.1/\cls (H9 key value c) c.2.1=H9 key value c:=by
 unfold H9 at h⊢
 split at h
 ·exact absurd rfl h
 ·rename_i h0
  rw[if_neg h0]
  obtain⟨h1,h2,h3,h4⟩:=cls_ge h
  have h5:=Db3 ((key+value+12+D4 c.2.2.1-1)/D4 c.2.2.1) c.2.1
  have hr:=Ag2 (show D4 c.2.2.1≠0 by omega)
  refine⟨by omega,by omega,by omega,by omega,by omega,h3,h5.2,h2,?_,h4⟩
  generalize D4 c.2.2.1=room at*
  generalize hq:(key+value+12+room-1)/room=q at*
  have hq2:key+value+12+room-1<(q+1)*room:=by rw[<-hq];exact Int.lt_ediv_add_one_mul_self _ (by omega)
  rw[Int.add_mul,Int.one_mul]at hq2
  have:=Int.mul_le_mul_of_nonneg_right h1 (show 0<=room by omega)
  omega
theorem By8(s:ByteArray):s.data.toList.length=s.size:=B66 s
theorem C05(A:A4)(hT:Tab A)(key:ByteArray)(hk:key.size<=maxLen)(u:SlV)(val:List UInt8)(hu:BSl A u val)(c:Cf)(hc:c.2.1<=9223372036854775807):
  CallF PP 111 #[.string key,.slice u.a u.len u.cap,.agg #[.i c.1,.i c.2.1,.i c.2.2.1,.i c.2.2.2.1]] A (Dc6 key.data.toList val c A):=by
 refine CallF.of (args:=[.string key,.slice u.a u.len u.cap,.agg #[.i c.1,.i c.2.1,.i c.2.2.1,.i c.2.2.2.1]]) B4 B5 Tryz.func111 (e111 key u c _) ?_
 unfold t111
 have hul:=hu.len
 have hks:=By8 key
 refine C4 fun n1 _=>?_
 generalize ho:(n1,Obj.cells #[.i c.1,.i c.2.1,.i c.2.2.1,.i c.2.2.2.1] 23)=o1
 have lc: ∀L:A4,o1∈L->D0 ⟨n1,0,none⟩ [.i c.1,.i c.2.1,.i c.2.2.1,.i c.2.2.2.1] L:=fun L hm=>ldB (by rw[<-ho]at hm;exact hm) rfl
 clear ho
 refine B7 (A84 _ key.size) (decide (1<=(key.size:Int)/\(key.size:Int)<=255),()) rfl ?_
 by_cases h1:1<=(key.size:Int)/\(key.size:Int)<=255
 case neg=>
  rw[decide_eq_false h1]
  exact ifT rfl (.cons (.of (Dc6.err (by unfold T4;rw[if_pos (by omega)]))))
 rw[decide_eq_true h1]
 refine ifF rfl (C0 (fun(h2:(u.len:Int)>65536)=>.cons (.of (Dc6.err (by unfold T4;rw[if_neg (by omega),if_pos (by omega)])))) (fun(h2: ¬(u.len:Int)>65536)=>?_))
 have hpe:H9 (key.size:Int) (u.len:Int) c=H9 (key.data.toList.length:Int) (val.length:Int) c:=by rw[hks,hul]
 refine A6 c (lc _ List.mem_cons_self) (B7 (Bt9 _ hT.cons key.size u.len c hc) (H9 key.size u.len c,()) rfl ?_)
 rw[hpe]
 refine Z7 (fun(h3:H9 (key.data.toList.length:Int) (val.length:Int) c=0)=>.cons (.of (Dc6.err (by unfold T4;rw[if_neg (by omega),if_neg (by omega),if_pos h3])))) (fun(h3:H9 (key.data.toList.length:Int) (val.length:Int) c≠0)=>?_)
 have hcr:T4 key.data.toList val c=(Ap6 (H9 key.data.toList.length val.length c).toNat (D4 c.2.2.1).toNat (encA key.data.toList val),0):=by unfold T4;rw[if_neg (by omega),if_neg (by omega),if_neg h3]
 obtain⟨_,_,_,_,hr0,hn1,hn8,_,htot,_⟩:=A26 h3
 have hrr:=Ag2 hr0
 unfold Dc6
 rw[hcr]
 generalize hN:H9 (key.data.toList.length:Int) (val.length:Int) c=N at hn1 hn8 htot
 obtain⟨n,rfl⟩: ∃n:Nat,N=n:=⟨N.toNat,by omega⟩
 obtain⟨room,hroom⟩: ∃r:Nat,D4 c.2.2.1=r:=⟨(D4 c.2.2.1).toNat,by omega⟩
 rw[hroom]at hrr
 simp only[hroom,Int.toNat_natCast]
 refine J5 [] [] (B46 (o1::A) ⟨none,0,0⟩ [] (Sl.nil 1) (by decide) key hk) (by simp) ?_
 rintro _ _-⟨s1,sg1,rfl,rfl,own1⟩
 have hw1:Ck2 [] key=(O9 key.data.toList.length 4++key.data.toList,0):=by unfold Ck2;rw[if_neg (by omega),hks];rfl
 rw[hw1]at own1⊢
 rw[List.nil_append,List.append_nil]
 refine⟨(s1,0,()),rfl,Cj2 (v:=u) (l:=val) (Sl.right (R:=sg1) (Sl.cons hu)) ?_⟩
 have hvs:(ByteArray.mk val.toArray).size=val.length:=by show val.toArray.size=_;simp
 refine J5 [] [] (B46 (sg1++(o1::A)) ⟨none,0,0⟩ [] (Sl.nil 1) (by decide) ⟨val.toArray⟩ (by rw[hvs];show val.length<=9223372036854775807;omega)) (by simp) ?_
 rintro _ _-⟨s2,sg2,rfl,rfl,own2⟩
 have hw2:Ck2 [] ⟨val.toArray⟩=(O9 val.length 4++val,0):=by
  unfold Ck2
  rw[hvs,if_neg (by omega)];simp
 rw[hw2]at own2⊢
 rw[List.nil_append,List.append_nil]
 refine⟨(s2,0,()),rfl,C4 fun n2 _=>?_⟩
 have hparts:W3 ((n2,Obj.cells #[.slice s1.a s1.len s1.cap,.slice s2.a s2.len s2.cap] 27)::(sg2++(sg1++(o1::A)))) ⟨some ⟨n2,0,none⟩,2,2⟩ [(s1,O9 key.data.toList.length 4++key.data.toList),(s2,O9 val.length 4++val)]:=by
  refine⟨⟨rfl,Nat.le_refl _,.inr ⟨_,rfl,ldB List.mem_cons_self rfl⟩⟩,fun x hx=>?_⟩
  have hx':x=(s1,O9 key.data.toList.length 4++key.data.toList)\/x=(s2,O9 val.length 4++val):=by simpa using hx
  rcases hx' with rfl|rfl
  ·exact own1.sl.left.right.cons
  ·exact own2.sl.left.cons
 have hcat:Ah5 [((s1,O9 key.data.toList.length 4++key.data.toList):PV),(s2,O9 val.length 4++val)]=Bp7 key.data.toList val:=by simp[Ah5,Bp7]
 have hel:=Bw9 key.data.toList val
 refine J5 [] [] (Aw8 _ ⟨some ⟨n2,0,none⟩,2,2⟩ _ hparts (by rw[hcat];omega) (by simp)) (by simp) ?_
 rintro _ _-⟨s3,sg3,rfl,rfl,own3⟩
 rw[hcat]at own3
 rw[List.nil_append,List.append_nil]
 refine⟨(s3,()),rfl,?_⟩
 generalize (n2,Obj.cells #[.slice s1.a s1.len s1.cap,.slice s2.a s2.len s2.cap] 27)=o2
 refine B7 (B58 _ s3 (Bp7 key.data.toList val) own3.sl.left (by omega)) (H5 (Bp7 key.data.toList val),()) rfl ?_
 have hcs:0<=H5 (Bp7 key.data.toList val)/\H5 (Bp7 key.data.toList val)<4294967296:=T2 0 _
 refine J5 [] [] (A51 (sg3++(o2::(sg2++(sg1++(o1::A))))) s3 (Bp7 key.data.toList val) own3.sl.left (by omega) (H5 (Bp7 key.data.toList val)) 4 (by omega)) (by simp) ?_
 rintro _ _-⟨s4,sg4,rfl,rfl,own4⟩
 have hw4:As8 (Bp7 key.data.toList val) (H5 (Bp7 key.data.toList val)) 4=(encA key.data.toList val,0):=by
  rw[Ai8 (by decide) (by omega) (by show(H5 (Bp7 key.data.toList val)).toNat<4294967296;omega)]
  rfl
 rw[hw4]at own4⊢
 rw[List.nil_append,List.append_nil]
 refine⟨(s4,0,()),rfl,?_⟩
 have hal:=Ct8 key.data.toList val
 generalize encA key.data.toList val=E at own4 hal
 have hbase: ∃J0,sg4++(sg3++(o2::(sg2++(sg1++(o1::A)))))=J0++A/\o1∈J0/\BSl J0 s4 E:=⟨sg4++(sg3++(o2::(sg2++(sg1++[o1])))),by simp,by simp,own4.sl.left⟩
 obtain⟨J0,hJ0,ho1,hE0⟩:=hbase
 rw[hJ0]
 clear hJ0 own4 own3 own2 own1 hparts hcat hel hcs hw4 hw1 hw2
 refine G3 (fun z' z L'=> ∃(i:Nat) (s v:SlV) (seg:A4) (gs:List PG) (J X Y:A4),i<=n/\z'=n-i/\z=(s,v,(i:Int),())/\L'=X++seg++Y/\(X++Y).Perm (pgs gs++(J++(J0++A)))/\BSl J0 s (E.drop (i*room))/\
   Own v 1 tB (gs.map PG.val) seg/\(∀g∈gs,g.Ok)/\gs.map PG.l=Ap6 i room E) n
  ⟨0,s4,⟨none,0,0⟩,[],[],[],[],J0++A,by omega,by omega,rfl,rfl,List.Perm.refl _,by rw[Nat.zero_mul,List.drop_zero];exact hE0,F6,by simp,rfl⟩ ?_
 rintro z' z L ⟨i,s,v,seg,gs,J,X,Y,hi,rfl,rfl,rfl,hp,hs,own,hok,hgs⟩
 have hsub: ∀x∈J0,x∈X++seg++Y:=by
  intro x hx
  have h5:x∈X++Y:=(hp.mem_iff (a:=x)).2 (by simp[hx])
  have h6:x∈X\/x∈Y:=by simpa using h5
  rcases h6 with h6|h6<;>simp[h6]
 have hgl:gs.length=i:=by have:=congrArg List.length hgs;rw[List.length_map,Ap6,List.length_map,List.length_range]at this;exact this
 have hvl:=own.len
 rw[List.length_map]at hvl
 refine C0 (fun(hlt:(i:Int)<(n:Int))=>?_) (fun(hge: ¬(i:Int)<(n:Int))=>?_)
 ·refine A6 c.2.2.1 ((lc _ (hsub _ ho1)).one 2 rfl) (B7 (Ag5 _ c.2.2.1) (D4 c.2.2.1,()) rfl ?_)
  rw[hroom]
  have hsl:=hs.len
  have hscap:=hs.cap
  have him:V3 (s.len:Int) (room:Int)=((min s.len room:Nat):Int):=by unfold V3;omega
  simp only[him]
  have hsL:BSl (X++seg++Y) s (E.drop (i*room)):=Sl.mono hs hsub
  refine K1 (l':=0) (h':=min s.len room) (m':=s.cap) rfl rfl rfl (by omega) (by omega) (Nat.le_refl _) ?_
  have hcut:=Bx2 hsL (i:=0) (j:=min s.len room) (by omega) (by omega)
  have hct:((E.drop (i*room)).drop 0).take (min s.len room-0)=(E.drop (i*room)).take room:=by
   rw[List.drop_zero,Nat.sub_zero,hsl,Nat.min_comm]
   exact(List.take_eq_take_min).symm
  rw[hct]at hcut
  generalize O6 s ((0:Nat):Int) ((min s.len room:Nat):Int) (s.cap:Int) 1=c1 at hcut⊢
  refine C4 fun n3 _=>?_
  have hparts:W3 ((n3,Obj.cells #[.slice c1.a c1.len c1.cap] 27)::(X++seg++Y)) ⟨some ⟨n3,0,none⟩,1,1⟩ [(c1,(E.drop (i*room)).take room)]:=by
   refine⟨⟨rfl,Nat.le_refl _,.inr ⟨_,rfl,ldB List.mem_cons_self rfl⟩⟩,fun x hx=>?_⟩
   have hx':x=(c1,(E.drop (i*room)).take room):=by simpa using hx
   subst hx'
   exact Sl.cons hcut
  have hcat:Ah5 [((c1,(E.drop (i*room)).take room):PV)]=(E.drop (i*room)).take room:=by simp[Ah5]
  refine J5 [] [] (Aw8 _ ⟨some ⟨n3,0,none⟩,1,1⟩ _ hparts (by rw[hcat,List.length_take];omega) (by simp)) (by simp) ?_
  rintro _ _-⟨s9,sg9,rfl,rfl,own9⟩
  rw[hcat]at own9
  rw[List.nil_append,List.append_nil]
  refine⟨(s9,()),rfl,C4 fun n4 _=>?_⟩
  generalize (n3,Obj.cells #[.slice c1.a c1.len c1.cap] 27)=o3
  refine E6 Bi6 Cm3 ((n4,Obj.cells #[.slice s9.a s9.len s9.cap] 27)::(sg9++(o3::X))) Y own (by simp) (n:=1) (ws:=[PG.val ⟨s9,sg9,(E.drop (i*room)).take room⟩]) (x:=.slice (some ⟨n4,0,none⟩) 1 1) (Src.sl (v:=⟨some ⟨n4,0,none⟩,1,1⟩) ⟨rfl,Nat.le_refl _,.inr ⟨_,rfl,ldB List.mem_cons_self rfl⟩⟩) rfl (by omega) fun v8 seg8 hv8 own8=>?_
  generalize (n4,Obj.cells #[.slice s9.a s9.len s9.cap] 27)=o4
  refine K1 (l':=min s.len room) (h':=s.len) (m':=s.cap) rfl rfl rfl (by omega) (by omega) (Nat.le_refl _) ?_
  have hcut2:=Bx2 hs (i:=min s.len room) (j:=s.len) (by omega) (by omega)
  have hct2:((E.drop (i*room)).drop (min s.len room)).take (s.len-min s.len room)=E.drop ((i+1)*room):=by
   rw[List.take_of_length_le (by rw[List.length_drop,<-hsl];omega),List.drop_drop]
   rcases Nat.le_total room s.len with h9|h9
   ·rw[Nat.min_eq_right h9,Nat.add_mul,Nat.one_mul]
   ·rw[List.length_drop]at hsl
    rw[Nat.min_eq_left h9,List.drop_of_length_le (by omega),List.drop_of_length_le (by rw[Nat.add_mul];omega)]
  rw[hct2]at hcut2
  refine⟨n-(i+1),by omega,i+1,_,v8,seg8,gs++[⟨s9,sg9,(E.drop (i*room)).take room⟩],o4::o3::J,_,_,by omega,rfl,?_,rfl,?_,hcut2,?_,?_,?_⟩
  ·rw[C1 (by first|omega|(simp only;omega)) (by first|omega|(simp only;omega))]
   rfl
  ·rw[P3,Av9]
   classical
   rw[List.perm_iff_count]at hp⊢
   intro z
   have:=hp z
   simp only[List.append_eq,List.cons_append,List.count_append,List.count_cons,List.count_nil]at this⊢
   omega
  ·rw[List.map_append];exact own8
  ·intro z hz
   rcases List.mem_append.1 hz with h5|h5
   ·exact hok z h5
   ·rw[List.mem_singleton.1 h5];exact own9
  ·rw[List.map_append,hgs,Bq2];rfl
 ·obtain rfl:i=n:=by omega
  refine .drop (A:=seg++(pgs gs++A)) (J:=J++J0) ⟨v,seg,gs,rfl,rfl,own,hok,hgs⟩ ?_
  classical
  rw[List.perm_iff_count]at hp⊢
  intro z
  have:=hp z
  simp only[List.append_eq,List.cons_append,List.count_append,List.count_cons,List.count_nil]at this⊢
  omega
def Ah3(b:List UInt8):List UInt8×List UInt8×Int:=
 if(G5 b 0).2.2≠0 then([],[],(G5 b 0).2.2)else
 if(G5 b (G5 b 0).2.1).2.2≠0 then([],[],(G5 b (G5 b 0).2.1).2.2)else
 if(V2 b (G5 b (G5 b 0).2.1).2.1 4).2≠0 then([],[],(V2 b (G5 b (G5 b 0).2.1).2.1 4).2)else
 if b.length>(G5 b (G5 b 0).2.1).2.1+4\/(G5 b 0).1.length<1\/(G5 b 0).1.length>255 then([],[],5)else
 if H5 (b.take (G5 b (G5 b 0).2.1).2.1)≠(V2 b (G5 b (G5 b 0).2.1).2.1 4).1 then([],[],12)else
 ((G5 b 0).1,(G5 b (G5 b 0).2.1).1,0)
def A08(b:List UInt8)(A:A4)(r:Value)(L':A4):Prop:= ∃g:PG,r= .tuple #[C30 (Ah3 b).1,g.val,.i (Ah3 b).2.2]/\L'=g.seg++A/\g.Ok/\g.l=(Ah3 b).2.1
theorem A08.err{b:List UInt8}{A:A4}{e:Int}(h:Ah3 b=([],[],e)):A08 b A (.tuple #[.string ⟨#[]⟩,.slice none 0 0,.i e]) A:=⟨pg0,by rw[h];rfl,rfl,Be7,by rw[h];rfl⟩
theorem Aj7{b:List UInt8}{a:Nat}(h:a<=b.length):a<=(G5 b a).2.1/\(G5 b a).2.1<=b.length/\(G5 b a).1.length<=65536/\((G5 b a).2.2=0->(G5 b a).2.1=a+4+(G5 b a).1.length):=by
 have hg:=Aj8 b a 4
 unfold G5
 split
 ·rename_i h1
  exact⟨Nat.le_refl _,h,by simp,fun h2=>absurd h2 h1⟩
 ·split
  ·exact⟨Nat.le_refl _,h,by simp,fun h=>absurd h (by simp)⟩
  ·split
   ·exact⟨Nat.le_refl _,h,by simp,fun h=>absurd h (by simp)⟩
   ·rename_i h1 h2 h3
    simp only
    rw[List.length_take,List.length_drop]
    omega
theorem By9(l:List UInt8):(ByteArray.mk l.toArray).size=l.length:=by show l.toArray.size=_;simp
theorem C81(A:A4)(v:SlV)(l:List PV)(h:W3 A v l)(hb:(Ah5 l).length<=1000000)(hl:l.length<=1099511627776):
  CallF PP 183 #[.slice v.a v.len v.cap] A (A08 (Ah5 l) A):=by
 refine CallF.of (args:=[.slice v.a v.len v.cap]) B4 B5 Tryz.func183 (e183 v _) ?_
 unfold t183
 refine J5 [] [] (Aw8 A v l h (by omega) hl) (by simp) ?_
 rintro _ _-⟨s,seg,rfl,rfl,own⟩
 rw[List.nil_append,List.append_nil]
 generalize Ah5 l=b at hb own⊢
 refine⟨(s,()),rfl,J5 [] [] (Co0 (seg++A) s b own.sl.left hb) (by simp) ?_⟩
 rintro _ _-⟨m,R0,rfl,rfl,hr0⟩
 rw[List.nil_append,List.append_nil]
 have hsl: ∀R:A4,BSl (R++(seg++A)) s b:=fun R=>own.sl.left.right
 have hslen:=own.sl.len
 rw[E9,Nat.mul_one]at hslen
 have hscap:=own.cap
 refine⟨(some ⟨m,0,none⟩,()),rfl,J5 [] (seg++A) (B53 m b 0 R0 hr0) rfl ?_⟩
 rintro _ R1-⟨rfl,hr1⟩
 rw[List.nil_append]
 obtain⟨q1,q2,q3,q4⟩:=Aj7 (b:=b) (a:=0) (Nat.zero_le _)
 refine⟨(⟨(G5 b 0).1.toArray⟩,(G5 b 0).2.2,()),rfl,?_⟩
 refine O0 (fun(he:(G5 b 0).2.2≠0)=>.app (.app (.of (A08.err (by unfold Ah3;rw[if_pos he]))))) (fun(he:(G5 b 0).2.2=0)=>?_)
 refine J5 [] (seg++A) (B53 m b (G5 b 0).2.1 R1 hr1) rfl ?_
 rintro _ R2-⟨rfl,hr2⟩
 rw[List.nil_append]
 obtain⟨w1,w2,w3,w4⟩:=Aj7 (b:=b) (a:=(G5 b 0).2.1) q2
 refine⟨(⟨(G5 b (G5 b 0).2.1).1.toArray⟩,(G5 b (G5 b 0).2.1).2.2,()),rfl,?_⟩
 refine O0 (fun(he2:(G5 b (G5 b 0).2.1).2.2≠0)=>.app (.app (.of (A08.err (by unfold Ah3;rw[if_neg (by omega),if_pos he2]))))) (fun(he2:(G5 b (G5 b 0).2.1).2.2=0)=>?_)
 have hj:Ah3 b=if(V2 b (G5 b (G5 b 0).2.1).2.1 4).2≠0 then([],[],(V2 b (G5 b (G5 b 0).2.1).2.1 4).2)else
   if b.length>(G5 b (G5 b 0).2.1).2.1+4\/(G5 b 0).1.length<1\/(G5 b 0).1.length>255 then([],[],5)else
   if H5 (b.take (G5 b (G5 b 0).2.1).2.1)≠(V2 b (G5 b (G5 b 0).2.1).2.1 4).1 then([],[],12)else
   ((G5 b 0).1,(G5 b (G5 b 0).2.1).1,0):=by unfold Ah3;rw[if_neg (by omega),if_neg (by omega)]
 refine B7 (Reads.in (X:=[]) (Y:=seg++A) (Cc6 m b _ R2 hr2)) ((b.length:Int)-(G5 b (G5 b 0).2.1).2.1,()) rfl ?_
 generalize (G5 b 0).1=key at q3 hj⊢
 generalize G5 b (G5 b 0).2.1=t2 at hr2 w2 hj⊢
 obtain⟨val,e,z⟩:=t2
 simp only at hr2 w2 hj⊢
 refine J5 [] (seg++A) (num_cl m b e R2 hr2 4) rfl ?_
 rintro _ R3-⟨rfl,hr3⟩
 rw[List.nil_append]
 refine⟨((V2 b e 4).1,(V2 b e 4).2,()),rfl,?_⟩
 refine O0 (fun(he3:(V2 b e 4).2≠0)=>.app (.app (.of (A08.err (by rw[hj,if_pos he3]))))) (fun(he3:(V2 b e 4).2=0)=>?_)
 have hnx:A22 b e 4=e+4:=by unfold A22;rw[if_pos he3];rfl
 rw[hnx]at hr3
 have hge:=(Aj8 b e 4).2.2.2 he3
 refine B7 (Reads.in (X:=[]) (Y:=seg++A) (Cc6 m b _ R3 hr3)) ((b.length:Int)-(e+4:Nat),()) rfl ?_
 refine C0 (fun(h4:(b.length:Int)-(e+4:Nat)>0)=>.app (.app (.of (A08.err (by rw[hj,if_neg (by omega),if_pos (by omega)]))))) (fun(h4: ¬(b.length:Int)-(e+4:Nat)>0)=>?_)
 refine B7 (A84 _ _) (decide (1<=((ByteArray.mk key.toArray).size:Int)/\((ByteArray.mk key.toArray).size:Int)<=255),()) rfl ?_
 rw[By9]
 by_cases h5:1<=(key.length:Int)/\(key.length:Int)<=255
 case neg=>
  rw[decide_eq_false h5]
  exact ifT rfl (.app (.app (.of (A08.err (by rw[hj,if_neg (by omega),if_pos (by omega)])))))
 rw[decide_eq_true h5]
 have hwe:IntKind.i64.wrap ((s.len:Int)-((b.length:Int)-(e:Int)))=((e:Nat):Int):=by rw[hslen,C1 (by omega) (by omega)];omega
 simp only[hwe]
 refine ifF rfl (K1 (l':=0) (h':=e) (m':=s.cap) rfl rfl rfl (by omega) (by omega) (Nat.le_refl _) ?_)
 have hcut:=Bx2 (hsl R3) (i:=0) (j:=e) (by omega) (by omega)
 rw[List.drop_zero,Nat.sub_zero]at hcut
 refine B7 (Bx5 _ _ (b.take e) hcut (by rw[List.length_take];omega) (V2 b e 4).1) (H5 (b.take e)==(V2 b e 4).1,()) rfl ?_
 by_cases h6:H5 (b.take e)=(V2 b e 4).1
 ·have hjj:Ah3 b=(key,val,0):=by rw[hj,if_neg (by omega),if_neg (by omega),if_neg (by simpa using h6)]
  refine ifF (by simp[h6]) (Cx4 fun n ob w hw own2 _=>?_)
  unfold A08
  rw[hjj]
  refine .drop (A:=[(n,ob)]++A) (J:=R3++seg) ⟨⟨w,[(n,ob)],val⟩,rfl,rfl,own2,rfl⟩ ?_
  classical
  rw[List.perm_iff_count]
  intro x
  simp only[List.append_eq,List.cons_append,List.count_append,List.count_cons,List.count_nil]
  omega
 ·refine ifT (by simp[h6]) (.app (.app (.of (A08.err (by rw[hj,if_neg (by omega),if_neg (by omega),if_pos h6])))))
theorem Be1{d:Dev}(ok:Q2 d)(b p:Int):(P0 d b p).1.length<=512:=by
 have hS:=ok.c.s
 unfold P0
 split
 ·simp
 ·split
  ·simp
  ·rename_i k hk
   split
   ·show(blk d.c.S).length<=512
    unfold blk
    rw[List.length_replicate];omega
   ·show(k.pages.getD p.toNat []).length<=512
    rw[List.getD_eq_getElem?_getD]
    cases h:k.pages[p.toNat]? with
    |none=>simp
    |some l=>have:=(ok.pg k (List.mem_of_getElem? hk)).2 l (List.mem_of_getElem? h);simp only[Option.getD_some];omega
def S1(d:Dev)(b pg:Int):Hd×List UInt8×Int:=
 if(P0 d b pg).2=0 then if(G9 (P0 d b pg).1).2.2=0 then G9 (P0 d b pg).1 else(hz,[],8)else(hz,[],8)
theorem A23{d:Dev}(ok:Q2 d)(b pg:Int):(S1 d b pg).2.1.length<=512:=by
 unfold S1
 split
 ·split
  ·exact Nat.le_trans (Ar8 _) (Be1 ok b pg)
  ·simp
 ·simp
def R6(d:Dev)(b pg:Int):Nat->Option (List (List UInt8))
 |0=>some []
 |n+1=>match R6 d b pg n with
  |some l=>if(S1 d b (pg+n)).2.2=0 then some (l++[(S1 d b (pg+n)).2.1])else none
  |none=>none
theorem Ao7{d:Dev}{b pg:Int}: ∀{n m:Nat},n<=m->R6 d b pg n=none->R6 d b pg m=none
  |n,m,h,hn=>by
    induction m with
    | zero => obtain rfl:n=0:=by omega
              exact hn
    |succ m ih=>
      rcases Nat.lt_or_ge m n with h1|h1
      · obtain rfl:n=m+1:=by omega
        exact hn
      · rw[R6,ih h1]
theorem Av7{d:Dev}(ok:Q2 d){b pg:Int}: ∀{n:Nat} {l:List (List UInt8)},R6 d b pg n=some l->l.length=n/\ ∀x∈l,x.length<=512
 |0,l,h=>by obtain rfl:=Option.some.inj h;exact⟨rfl,by simp⟩
 |n+1,l,h=>by
  rw[R6]at h
  split at h
  ·rename_i l' hl'
   split at h
   ·obtain rfl:=Option.some.inj h
    obtain⟨h1,h2⟩:=Av7 ok hl'
    refine⟨by simp[h1],fun x hx=>?_⟩
    rcases List.mem_append.1 hx with hx|hx
    ·exact h2 x hx
    ·rw[List.mem_singleton.1 hx];exact A23 ok _ _
   ·cases h
  ·cases h
theorem Ao8{d:Dev}{b pg:Int}{n:Nat}{l:List (List UInt8)}(h:R6 d b pg n=some l)(h0:0<n):(S1 d b pg).2.2=0:=by
 cases h1:R6 d b pg 1 with
 |none=>rw[Ao7 h0 h1]at h;cases h
 |some l1=>
  rw[R6,R6]at h1
  simp only[Int.natCast_zero,Int.add_zero]at h1
  split at h1
  ·assumption
  ·cases h1
def Ax7(p:It)(h:Hd):Prop:=h.1=2/\h.2.1=0/\h.2.2.2.1=p.2.2.1/\h.2.2.2.2.1=p.2.1
instance (p:It) (h:Hd):Decidable (Ax7 p h):=by unfold Ax7;infer_instance
def C6(d:Dev)(p:It):List UInt8×List UInt8×Int:=
 if(P0 d p.1 0).2≠0 then([],[],(P0 d p.1 0).2)else
 if(S1 d p.1 p.2.1).2.2=0/\Ax7 p (S1 d p.1 p.2.1).1 then
  match R6 d p.1 p.2.1 (S1 d p.1 p.2.1).1.2.2.1.toNat with
  |some l=>Ah3 l.flatten
  |none=>([],[],8)
 else([],[],8)
def Ag0(q:List UInt8×List UInt8×Int)(A:A4)(r:Value)(L':A4):Prop:= ∃g:PG,r= .tuple #[C30 q.1,g.val,.i q.2.2]/\L'=g.seg++A/\g.Ok/\g.l=q.2.1
theorem Ag0.err{q:List UInt8×List UInt8×Int}{A:A4}{e:Int}(h:q=([],[],e)):Ag0 q A (.tuple #[.string ⟨#[]⟩,.slice none 0 0,.i e]) A:=⟨pg0,by rw[h];rfl,rfl,Be7,by rw[h];rfl⟩
theorem Ag0.no{q:List UInt8×List UInt8×Int}{A J L2:A4}{e:Int}(h:q=([],[],e))(hp:L2.Perm (A++J)):HL.Ends (Ag0 q A) (.tuple #[.string ⟨#[]⟩,.slice none 0 0,.i e]) L2:=.drop (Ag0.err h) hp
theorem Ap2(gs:List PG):Ah5 (pvs gs)=(gs.map PG.l).flatten:=by
 induction gs with
 |nil=>rfl
 |cons g r ih=>simp only[Ah5,pvs,List.map_cons,List.flatMap_cons,List.flatten_cons]at ih⊢;rw[ih]
theorem Bw2: ∀(l:List (List UInt8)),(∀x∈l,x.length<=512)->l.flatten.length<=l.length*512
 |[],_=>by simp
 |x::r,h=>by
  have h1:=Bw2 r fun y hy=>h y (by simp[hy])
  have h2:=h x (by simp)
  simp only[List.flatten_cons,List.length_append,List.length_cons]
  omega
theorem A96(m:Nat)(d:Dev)(A:A4)(h:FH m d A)(ok:Q2 d)(p:It)(hp1:P9 .i64 p.2.1):CallF PP 118 #[.pointer (some ⟨m,0,none⟩),.agg #[.i p.1,.i p.2.1,.i p.2.2.1]] A (Ag0 (C6 d p) A):=by
 refine c118 (some ⟨m,0,none⟩) p ?_
 unfold s118
 have hpw:=Bb9 hp1
 have hP:=DG.pb ok
 refine R4 (Bm7 m d A h ok p.1 0) ?_
 rintro _ _-⟨g0,rfl,rfl,-,-⟩
 refine⟨(g0.v,(P0 d p.1 0).2,()),rfl,B8 (fun(h0:(P0 d p.1 0).2=0)=>?_) (fun(h0: ¬(P0 d p.1 0).2=0)=>Ag0.no (by unfold C6;rw[if_pos h0]) List.perm_append_comm)⟩
 have hno: ¬((S1 d p.1 p.2.1).2.2=0/\Ax7 p (S1 d p.1 p.2.1).1)->C6 d p=([],[],8):=fun hh=>by unfold C6;rw[if_neg (by simpa using h0),if_neg hh]
 refine G3 (fun z' z L'=> ∃(gs:List PG) (s:SlV) (sg J:A4) (n:Nat),z=(s,(n:Int),())/\z'=20-gs.length/\L'.Perm (sg++(pgs gs++(J++A)))/\Own s 1 tB (gs.map PG.val) sg/\(∀g∈gs,g.Ok)/\gs.length<=n/\n<=16/\R6 d p.1 p.2.1 gs.length=some (gs.map PG.l)/\
  ((gs=[]/\n=1)\/(0<gs.length/\0<=p.2.1/\p.2.1<=16/\Ax7 p (S1 d p.1 p.2.1).1/\(S1 d p.1 p.2.1).1.2.2.1=n))) 20
  ⟨[],⟨none,0,0⟩,[],g0.seg,1,rfl,rfl,List.Perm.refl _,F6,by simp,by simp,by omega,rfl,.inl ⟨rfl,rfl⟩⟩ ?_
 rintro z' z L1 ⟨gs,s,sg,J,n,rfl,rfl,hpm,own,hok,hgn,hn16,hpc,hst⟩
 dsimp only
 have hsl:=own.sl.len
 rw[List.length_map]at hsl
 refine B8 (fun(hlt:(s.len:Int)<n)=>?_) (fun(hge: ¬(s.len:Int)<n)=>?_)
 ·have hadd: -9223372036854775808<=p.2.1+(s.len:Int)/\p.2.1+(s.len:Int)<=9223372036854775807:=by
   rcases hst with⟨rfl,-⟩|⟨-,h1,h2,-⟩
   ·simp at hsl;omega
   ·omega
  refine D9 hadd (G2 (Bm7 m d A h ok p.1 (p.2.1+s.len)) (R:=sg++(pgs gs++J)) (pc fun z=>by have:=pcn hpm z;simp only[B6]at*;omega) ?_)
  have hse:p.2.1+(s.len:Int)=p.2.1+(gs.length:Int):=by omega
  rw[hse]
  rintro _ _ ⟨g1,rfl,rfl,hg1,hgl1⟩
  have hbad:(S1 d p.1 (p.2.1+(gs.length:Int))).2.2≠0->C6 d p=([],[],8):=by
   intro hh
   rcases hst with⟨rfl,-⟩|⟨hgp,-,-,hhd,hnn⟩
   ·exact hno fun h=>hh (by simpa using h.1)
   ·have h3:R6 d p.1 p.2.1 (gs.length+1)=none:=by rw[R6,hpc];simp only;rw[if_neg hh]
    have h4:=Ao8 hpc hgp
    unfold C6
    rw[if_neg (by simpa using h0),if_pos ⟨h4,hhd⟩,hnn,Int.toNat_natCast,Ao7 (show gs.length+1<=n by omega) h3]
  refine⟨_,List.Perm.refl _,(g1.v,(P0 d p.1 (p.2.1+(gs.length:Int))).2,()),rfl,B8 (fun(he:(P0 d p.1 (p.2.1+(gs.length:Int))).2=0)=>?_) (fun(he: ¬(P0 d p.1 (p.2.1+(gs.length:Int))).2=0)=>Ag0.no (J:=g1.seg++(sg++(pgs gs++J))) (hbad (by unfold S1;rw[if_neg he];decide)) (pc fun z=>by simp only[B6]at*;omega))⟩
  refine G2 (Av6 (g1.seg++A) g1.v (P0 d p.1 (p.2.1+(gs.length:Int))).1 (by rw[<-hgl1];exact Sl.left hg1.sl) (by have:=Be1 ok p.1 (p.2.1+(gs.length:Int));omega)) (List.Perm.refl _) ?_
  rintro _ _ ⟨s2,sg2,rfl,rfl,own2⟩
  generalize hq:G9 (P0 d p.1 (p.2.1+(gs.length:Int))).1=q at own2
  refine⟨_,List.Perm.refl _,(q.1,s2,q.2.2,()),rfl,B8 (fun(he2:q.2.2=0)=>?_) (fun(he2: ¬q.2.2=0)=>Ag0.no (J:=sg2++(g1.seg++(sg++(pgs gs++J)))) (hbad (by unfold S1;rw[if_pos he,if_neg (by rw[hq];exact he2)];decide)) (pc fun z=>by simp only[B6]at*;omega))⟩
  have hpq:S1 d p.1 (p.2.1+(gs.length:Int))=q:=by unfold S1;rw[if_pos he,hq,if_pos he2]
  have hqk:=Af2 (Bt7 (b:=(P0 d p.1 (p.2.1+(gs.length:Int))).1) (by rw[hq];exact he2))
  rw[hq]at hqk
  have hql:q.2.1.length<=512:=by rw[<-hpq];exact A23 ok _ _
  refine U0 (fun y L'=>L'=sg2++(g1.seg++A)++(sg++(pgs gs++J))/\ ∃n':Nat,y=((n':Int),())/\gs.length<n'/\n'<=16/\0<=p.2.1/\p.2.1<=16/\Ax7 p (S1 d p.1 p.2.1).1/\(S1 d p.1 p.2.1).1.2.2.1=n') ?_ ?_
  ·rintro _ _ ⟨rfl,n',rfl,hn1,hn2,hp0,hp16,hhd,hnn⟩
   refine Ai7 Bi6 Cm3 own (Y:=sg2++(g1.seg++A)++(pgs gs++J)) (ws:=[pvV (s2,q.2.1)]) (pc fun z=>by simp only[B6]at*;omega) rfl rfl (by omega) fun s3 sg3 hs3 own3=>?_
   refine⟨20-(gs.length+1),by omega,gs++[⟨s2,sg2,q.2.1⟩],s3,sg3,g1.seg++J,n',rfl,by simp,?_,?_,?_,by simp;omega,hn2,?_,.inr ⟨by simp,hp0,hp16,hhd,hnn⟩⟩
   ·rw[P3,Av9]
    exact pc fun z=>by simp only[B6]at*;omega
   ·rw[List.map_append];exact own3
   ·intro g hg
    rcases List.mem_append.1 hg with hg|hg
    ·exact hok g hg
    ·rw[List.mem_singleton.1 hg];exact own2
   ·rw[List.length_append,List.length_singleton,R6,hpc]
    simp only
    rw[hpq,if_pos he2,List.map_append];rfl
  ·intro j hj
   refine B8 (fun(hl0:(s.len:Int)=0)=>?_) (fun(hl0: ¬(s.len:Int)=0)=>?_)
   ·have hg0:gs.length=0:=by omega
    have hpq0:S1 d p.1 p.2.1=q:=by rw[<-hpq,hg0];simp
    have hne: ¬Ax7 p q.1->HL.Ends (Ag0 (C6 d p) A) (.tuple #[.string ⟨#[]⟩,.slice none 0 0,.i 8]) (sg2++(g1.seg++A)++(sg++(pgs gs++J))):=fun hh=>
     Ag0.no (J:=sg2++(g1.seg++(sg++(pgs gs++J)))) (hno fun hx=>hh (by rw[<-hpq0];exact hx.2)) (pc fun z=>by simp only[B6]at*;omega)
    refine B8 (fun(e1:q.1.1=2)=>?_) (fun e1=>hne fun hx=>e1 hx.1)
    refine B8 (fun(e2:q.1.2.1=0)=>?_) (fun e2=>hne fun hx=>e2 hx.2.1)
    refine B8 (fun(e3:q.1.2.2.2.1=p.2.2.1)=>?_) (fun e3=>hne fun hx=>e3 hx.2.2.1)
    refine B8 (fun(e4:q.1.2.2.2.2.1=p.2.1)=>?_) (fun e4=>hne fun hx=>e4 hx.2.2.2)
    have hf:=Aj4 (by rw[<-Be2 ok];exact he)
    rw[hg0]at hf
    exact hj _ _ ⟨rfl,q.1.2.2.1.toNat,by rw[Int.toNat_of_nonneg (by omega)],by omega,by omega,by omega,by omega,by rw[hpq0];exact⟨e1,e2,e3,e4⟩,by rw[hpq0];omega⟩
   ·rcases hst with⟨rfl,-⟩|⟨-,hp0,hp16,hhd,hnn⟩
    ·simp at hsl;omega
    ·exact hj _ _ ⟨rfl,n,rfl,by omega,hn16,hp0,hp16,hhd,hnn⟩
 ·rcases hst with⟨rfl,rfl⟩|⟨hgp,hp0,hp16,hhd,hnn⟩
  ·simp at hsl;omega
  have hgn':gs.length=n:=by omega
  have hb:=Av7 ok hpc
  have hcat:(Ah5 (pvs gs)).length<=1000000:=by
   rw[Ap2]
   have:=Bw2 _ hb.2
   rw[hb.1]at this
   omega
  refine R4 (C81 L1 s (pvs gs) (A66 own hok (B07 hpm) fun x hx=>hpm.symm.subset (by simp[hx])) hcat (by simp[pvs];omega)) ?_
  rintro _ _-⟨g,rfl,rfl,hg,hgl⟩
  have hfe:C6 d p=Ah3 (Ah5 (pvs gs)):=by
   unfold C6
   rw[if_neg (by simpa using h0),if_pos ⟨Ao8 hpc hgp,hhd⟩,hnn,Int.toNat_natCast,<-hgn',hpc,Ap2]
  refine⟨(⟨(Ah3 (Ah5 (pvs gs))).1.toArray⟩,g.v,(Ah3 (Ah5 (pvs gs))).2.2,()),rfl,.drop (A:=g.seg++A) (J:=sg++(pgs gs++J)) ⟨g,by rw[hfe];rfl,rfl,hg,by rw[hfe];exact hgl⟩ (pc fun z=>by have:=pcn hpm z;simp only[B6]at*;omega)⟩
set_option linter.unusedSectionVars false
end Go.Proofs.YtbaoieipijmakaaGreatDoor
namespace Go.HL
section
variable {P:Program} {L A Y:A4}
theorem own_st{v:SlV}{sz:Nat}{T:TypeId}{vs ws:List Value}{seg:A4}(own:Own v sz T vs seg){p:Nat}(hp:p+ws.length<=vs.length)(hws:0<ws.length){a ad:Addr}(ha:v.a=some a)(had:ad=Addr.add a p){k:HP}
  (hL:L.Perm (seg++Y)) (hk: ∀seg' L',L'.Perm (seg'++Y)->Own v sz T (A00 vs p ws) seg'->k L'):st ad ws k L:=by
 subst had
 rcases own.row with⟨ha',_,_⟩|⟨b,off,c,fz,ha',rfl,hsz,hfz,hc⟩
 ·rw[ha]at ha';cases ha'
 ·rw[ha]at ha'
  obtain rfl:=Option.some.inj ha'
  have hlen:=own.len
  have hcap:=own.cap
  have hle:=Nat.mul_le_mul_right sz hcap
  refine Bz1 (n:=b) (off:=off+p) (c:=c) (T:=T) (fz:=fz) (Y:=Y) hL (O1 (ad:=⟨b,off,none⟩) rfl p) (by omega) (by omega) _ rfl fun L' hL'=>?_
  refine hk [(b,Obj.cells (wr c (off+p) ws) T fz)] L' hL' ⟨by rw[A61 _ _ _ hp];exact hlen,hcap,.inr ⟨b,off,_,fz,ha,rfl,by rw[M7];exact hsz,by rw[M7];exact hfz,fun i u hu=>?_⟩⟩
  rw[Ak5 _ _ _ hp]at hu
  rw[Ad0 _ _ _ _ (by omega)]
  split at hu
  ·rw[if_pos (by omega),show off+i-(off+p)=i-p by omega];exact hu
  ·rw[if_neg (by omega)];exact hc i u hu
theorem Cp2{α:Type}{enc:α->List Value}{sz:Nat}(hsz: ∀x,(enc x).length=sz)(hpos:0<sz){l:List α}{n:Nat}(hn:n<l.length)(x:α):A00 (l.flatMap enc) (n*sz) (enc x)=(l.set n x).flatMap enc:=by
 have hfl:=N4 hsz l
 have hfl2:=N4 hsz (l.set n x)
 rw[List.length_set]at hfl2
 have h0:n*sz+sz<=l.length*sz:=by rw[<-Nat.succ_mul];exact Nat.mul_le_mul_right sz hn
 apply List.ext_getElem?
 intro i
 rw[Ak5 _ _ _ (by rw[hsz,hfl];exact h0),hsz]
 by_cases hi:i<l.length*sz
 ·have hq:i/sz<l.length:=by rw[Nat.div_lt_iff_lt_mul hpos];exact hi
  have hr:i%sz<sz:=Nat.mod_lt _ hpos
  have hi2:i=i/sz*sz+i%sz:=by rw[Nat.mul_comm];exact(Nat.div_add_mod i sz).symm
  generalize i/sz=q at hq hi2
  generalize i%sz=r at hr hi2
  subst hi2
  rw[A90 hsz (l.set n x) q (by simpa using hq) r hr,A90 hsz l q hq r hr,List.getElem_set]
  by_cases hqn:n=q
  ·subst hqn
   rw[if_pos (by omega),if_pos rfl]
   congr 1;omega
  ·rw[if_neg,if_neg hqn]
   intro hc
   rcases Nat.lt_or_ge n q with h|h
   ·have:=Nat.mul_le_mul_right sz (show n+1<=q by omega)
    rw[Nat.succ_mul]at this
    omega
   ·have:=Nat.mul_le_mul_right sz (show q+1<=n by omega)
    rw[Nat.succ_mul]at this
    omega
 ·rw[if_neg (by omega),List.getElem?_eq_none (by omega),List.getElem?_eq_none (by omega)]
theorem Ay5{α:Type}{enc:α->List Value}{sz:Nat}(hsz: ∀x,(enc x).length=sz)(hpos:0<sz){v:SlV}{T:TypeId}{l:List α}{seg:A4}(own:Own v sz T (l.flatMap enc) seg)(hs: ∀p∈seg,p∈L){i:Int}{n:Nat}(hi:i=n)(hn:n<l.length){k:Addr->HP}
  (hk: ∀b,v.a=some b->D0 (Addr.add b (n*sz)) (enc l[n]) L->k (Addr.add b (n*sz)) L):elp v.a v.len i sz k L:=by
 subst hi
 obtain⟨a,ha,hl⟩:=own.sl.el hsz hpos hn
 refine A5 ha (E1 (by omega) (by have:=own.sl.els_len hsz hpos;omega) ?_)
 rw[Int.toNat_natCast]
 exact hk a ha (hl.mono hs)
theorem B61{α:Type}{enc:α->List Value}{sz:Nat}(hsz: ∀x,(enc x).length=sz)(hpos:0<sz){v:SlV}{T:TypeId}{l:List α}{seg:A4}(own:Own v sz T (l.flatMap enc) seg){b:Addr}(hb:v.a=some b){n:Nat}(hn:n<l.length)(x:α)(hL:L.Perm (seg++Y)){k:HP}
  (hk: ∀seg' L',L'.Perm (seg'++Y)->Own v sz T ((l.set n x).flatMap enc) seg'->k L'):st (Addr.add b (n*sz)) (enc x) k L:=by
 have h0:n*sz+sz<=l.length*sz:=by rw[<-Nat.succ_mul];exact Nat.mul_le_mul_right sz hn
 refine own_st own (p:=n*sz) (by rw[hsz,N4 hsz];exact h0) (by rw[hsz];exact hpos) hb rfl hL fun seg' L' hL' o=>hk seg' L' hL' ?_
 rw[Cp2 hsz hpos hn]at o;exact o
variable {κ:Type} [DecidableEq κ]
theorem Aj9{t kt et:TypeId}{kv:κ->Value}{z:Value}(hT:Ck0 P t kt et kv z){r:Nat}{es:Array MapEntry}{clock:Nat}{m:List (κ×Value)}(hL:L.Perm ((r,Obj.map es clock)::Y))(h:Mp kv es m)(k:κ)(v:Value){K:HP}
  (hk: ∀es' clock' L',Mp kv es' (A02 m k v)->L'.Perm ((r,Obj.map es' clock')::Y)->K L'):smU P (Instr.mapUpdate t (.map (some r)) (kv k) v) K L:=by
 obtain⟨A2,B2,rfl⟩:=List.append_of_mem (hL.symm.subset List.mem_cons_self)
 refine Bc1 hT A2 B2 rfl h k v fun es' clock' hm=>hk es' clock' _ hm ?_
 exact List.perm_middle.trans (((List.perm_cons _).1 (List.perm_middle.symm.trans hL)).cons _)
theorem Bi9{t t2 ty kt et:TypeId}{kv:κ->Value}{z:Value}(hT:Ck0 P t kt et kv z){r:Nat}{es:Array MapEntry}{clock:Nat}{m:List (κ×Value)}(hL:L.Perm ((r,Obj.map es clock)::Y))(h:Mp kv es m)(k:κ){K:RsV []->HP}
  (hk: ∀es' clock' L',Mp kv es' (Bb5 m k)->L'.Perm ((r,Obj.map es' clock')::Y)->K () L'):smW P (Builtin.delete_ #[t,t2] ty #[.map (some r),kv k]) [] K L:=by
 obtain⟨A2,B2,rfl⟩:=List.append_of_mem (hL.symm.subset List.mem_cons_self)
 refine Bj0 hT A2 B2 rfl h k fun es' clock' hm=>hk es' clock' _ hm ?_
 exact List.perm_middle.trans (((List.perm_cons _).1 (List.perm_middle.symm.trans hL)).cons _)
theorem Cq3(k:κ):Aw4 ([]:List (κ×Value)) k=none:=rfl
theorem Q7(p:κ×Value)(m:List (κ×Value))(k:κ):Aw4 (p::m) k=if k=p.1 then some p.2 else Aw4 m k:=by
 unfold Aw4
 by_cases h:k=p.1
 ·rw[if_pos h,List.find?_cons_of_pos (by simpa using h)];rfl
 ·rw[if_neg h,List.find?_cons_of_neg (by simpa using h)]
theorem Aw3: ∀(m:List (κ×Value)) (k:κ) (v:Value) (k':κ),Aw4 (A02 m k v) k'=if k'=k then some v else Aw4 m k'
 |[],k,v,k'=>by rw[A02,Q7]
 |p::r,k,v,k'=>by
  rw[A02]
  by_cases h:k=p.1
  ·rw[if_pos h,Q7,Q7]
   by_cases h2:k'=k
   ·subst h2;simp
   ·simp only[h2,if_false];rw[if_neg (fun e=>h2 (e.trans h.symm))]
  ·rw[if_neg h,Q7,Q7,Aw3 r k v k']
   by_cases h2:k'=p.1
   ·rw[if_pos h2,if_pos h2,if_neg (fun e=>h (e.symm.trans h2))]
   ·rw[if_neg h2,if_neg h2]
theorem Bf6: ∀(m:List (κ×Value)) (k:κ) (v:Value),(m.map Prod.fst).Nodup->((A02 m k v).map Prod.fst).Nodup/\ ∀x,x∈(A02 m k v).map Prod.fst↔x=k\/x∈m.map Prod.fst
 |[],k,v,_=>by simp[A02]
 |p::r,k,v,h=>by
  rw[A02]
  rw[List.map_cons,List.nodup_cons]at h
  by_cases hk:k=p.1
  ·rw[if_pos hk]
   subst hk
   refine⟨by simpa using h,fun x=>by simp⟩
  ·rw[if_neg hk]
   obtain⟨h1,h2⟩:=Bf6 r k v h.2
   refine⟨?_,fun x=>?_⟩
   ·rw[List.map_cons,List.nodup_cons]
    exact⟨fun hx=>((h2 _).1 hx).elim (fun e=>hk e.symm) h.1,h1⟩
   ·rw[List.map_cons,List.mem_cons,h2,List.map_cons,List.mem_cons]
    constructor
    ·rintro(a|a|a)<;>simp[a]
    ·rintro(a|a|a)<;>simp[a]
theorem Cb7{m:List (κ×Value)}{k:κ}(h:k∉m.map Prod.fst):Aw4 m k=none:=by
 induction m with
 |nil=>rfl
 |cons p r ih=>
  rw[List.map_cons,List.mem_cons,not_or]at h
  rw[Q7,if_neg h.1,ih h.2]
theorem Bf7: ∀(m:List (κ×Value)) (k k':κ),(m.map Prod.fst).Nodup->Aw4 (Bb5 m k) k'=if k'=k then none else Aw4 m k'
 |[],k,k',_=>by simp[Bb5,Cq3]
 |p::r,k,k',h=>by
  rw[Bb5]
  rw[List.map_cons,List.nodup_cons]at h
  by_cases hk:k=p.1
  ·rw[if_pos hk,Q7]
   by_cases h2:k'=k
   ·rw[if_pos h2,h2,hk];exact Cb7 h.1
   ·rw[if_neg h2,if_neg (fun e=>h2 (e.trans hk.symm))]
  ·rw[if_neg hk,Q7,Q7,Bf7 r k k' h.2]
   by_cases h2:k'=p.1
   ·rw[if_pos h2,if_pos h2,if_neg (fun e=>hk (e.symm.trans h2))]
   ·rw[if_neg h2,if_neg h2]
theorem Bf9: ∀(m:List (κ×Value)) (k:κ),(m.map Prod.fst).Nodup->((Bb5 m k).map Prod.fst).Nodup/\ ∀x,x∈(Bb5 m k).map Prod.fst->x∈m.map Prod.fst
 |[],k,_=>by simp[Bb5]
 |p::r,k,h=>by
  rw[Bb5]
  rw[List.map_cons,List.nodup_cons]at h
  by_cases hk:k=p.1
  ·rw[if_pos hk]
   exact⟨h.2,fun x hx=>by simp[hx]⟩
  ·rw[if_neg hk]
   obtain⟨h1,h2⟩:=Bf9 r k h.2
   refine⟨?_,fun x hx=>?_⟩
   ·rw[List.map_cons,List.nodup_cons]
    exact⟨fun hx=>h.1 (h2 _ hx),h1⟩
   ·rw[List.map_cons,List.mem_cons]at hx⊢
    exact hx.imp id (h2 x)
end
end Go.HL
namespace Go.Proofs.YtbaoieipijmakaaGreatDoor
open Go.HL
section
variable {α:Type} (key:α->Int)
def Aq5:List α->α->List α
 |[],x=>[x]
 |y::r,x=>if key x<key y then y::Aq5 r x else x::y::r
def Al2(l:List α):List α:=(l.foldl (Aq5 key) []).reverse
theorem Ax2: ∀(r:List α) (x:α),(Aq5 key r x).Perm (x::r)
 |[],x=>List.Perm.refl _
 |y::r,x=>by
  rw[Aq5]
  split
  ·exact((Ax2 r x).cons y).trans (List.Perm.swap x y r)
  ·exact List.Perm.refl _
theorem Y2: ∀(l acc:List α),(l.foldl (Aq5 key) acc).Perm (l++acc)
 |[],acc=>List.Perm.refl _
 |x::l,acc=>by
  rw[List.foldl_cons]
  refine(Y2 l _).trans ?_
  exact((Ax2 key acc x).append_left l).trans (List.perm_middle)
theorem O2(l:List α):(Al2 key l).Perm l:=by
 unfold Al2
 refine(List.reverse_perm _).trans ?_
 have:=Y2 key l []
 rwa [List.append_nil]at this
theorem Ax1: ∀(r:List α) (x:α),r.Pairwise (fun a b=>key b<=key a)->(Aq5 key r x).Pairwise (fun a b=>key b<=key a)
 |[],x,_=>by simp[Aq5]
 |y::r,x,h=>by
  rw[Aq5]
  rw[List.pairwise_cons]at h
  split
  ·rename_i hlt
   rw[List.pairwise_cons]
   refine⟨fun z hz=>?_,Ax1 r x h.2⟩
   rcases List.mem_cons.1 ((Ax2 key r x).subset hz)with rfl|hz
   ·omega
   ·exact h.1 z hz
  ·rename_i hge
   rw[List.pairwise_cons]
   refine⟨fun z hz=>?_,by rw[List.pairwise_cons];exact h⟩
   rcases List.mem_cons.1 hz with rfl|hz
   ·omega
   ·have:=h.1 z hz;omega
theorem Ab6: ∀(l acc:List α),acc.Pairwise (fun a b=>key b<=key a)->(l.foldl (Aq5 key) acc).Pairwise (fun a b=>key b<=key a)
 |[],acc,h=>h
 |x::l,acc,h=>Ab6 l _ (Ax1 key acc x h)
theorem Bg7(l:List α):(Al2 key l).Pairwise (fun a b=>key a<=key b):=by
 unfold Al2
 rw[List.pairwise_reverse]
 exact Ab6 key l [] List.Pairwise.nil
theorem Bu9{β:Type}(f:α->β)(kb:β->Int)(h: ∀x,kb (f x)=key x): ∀(r:List α) (x:α),(Aq5 key r x).map f=Aq5 kb (r.map f) (f x)
 |[],x=>rfl
 |y::r,x=>by
  rw[Aq5,List.map_cons,Aq5,h,h]
  split
  ·rw[List.map_cons,Bu9 f kb h r x]
  ·rfl
theorem Ai5{β:Type}(f:α->β)(kb:β->Int)(h: ∀x,kb (f x)=key x): ∀(l acc:List α),(l.foldl (Aq5 key) acc).map f=(l.map f).foldl (Aq5 kb) (acc.map f)
 |[],acc=>rfl
 |x::l,acc=>by rw[List.foldl_cons,List.map_cons,List.foldl_cons,Ai5 f kb h l,Bu9 key f kb h]
theorem Cd7{β:Type}(f:α->β)(kb:β->Int)(h: ∀x,kb (f x)=key x)(l:List α):(Al2 key l).map f=Al2 kb (l.map f):=by
 unfold Al2
 rw[List.map_reverse,Ai5 key f kb h,List.map_nil]
end
abbrev HD:=Int×Int×List It
structure HE where
 b:Int
 ep:Int
 v:SlV
 seg:A4
 l:List It
def HE.enc(h:HE):List Value:=[.i h.b,.i h.ep,.slice h.v.a h.v.len h.v.cap]
def HE.Ok(h:HE):Prop:=Own h.v 3 B28 (h.l.flatMap O4) h.seg
def HE.dat(h:HE):HD:=(h.b,h.ep,h.l)
theorem HE.enc_len(h:HE):h.enc.length=3:=rfl
def S8(l:List HE):A4:=l.flatMap HE.seg
theorem Ce6(a b:List HE):S8 (a++b)=S8 a++S8 b:=List.flatMap_append
theorem Ce5(a:HE):S8 [a]=a.seg:=by simp[S8]
theorem Ay2{α:Type}(f:α->A4){a b:List α}(h:a.Perm b)(z:Nat×Obj):cnt (a.flatMap f) z=cnt (b.flatMap f) z:=by
 induction h with
 |nil=>rfl
 |cons x _ ih=>simp only[List.flatMap_cons,B6,ih]
 |swap x y l=>simp only[List.flatMap_cons,B6];omega
 |trans _ _ i1 i2=>rw[i1,i2]
abbrev eHl:TypeId:=154
abbrev tHl:TypeId:=143
theorem elemHl:U3 PP tHl eHl 3 40 [.i 0,.i 0,.slice none 0 0]:=M5 (by kernel_rfl) (by kernel_rfl) rfl (by decide) (by decide)
theorem srcHl:Ar0 PP tHl:=.inl ⟨eHl,by kernel_rfl⟩
abbrev tPPs:TypeId:=243
theorem Db0:U3 PP tPPs tPs 1 24 [.slice none 0 0]:=M5 (by kernel_rfl) (by kernel_rfl) rfl (by decide) (by decide)
theorem srcPPs:Ar0 PP tPPs:=.inl ⟨tPs,by kernel_rfl⟩
theorem cmp_rd(L:A4)(x y:HE)(hx:0<=x.ep/\x.ep<=4294967296)(hy:0<=y.ep/\y.ep<=4294967296):
  Reads PP 226 #[.agg #[.i x.b,.i x.ep,.slice x.v.a x.v.len x.v.cap],.agg #[.i y.b,.i y.ep,.slice y.v.a y.v.len y.v.cap]] L (.i (x.ep-y.ep)):=by
 unfold Reads
 refine c226 (x.b,x.ep,x.v,()) (y.b,y.ep,y.v,()) ?_
 unfold s226
 exact D9 (by simp only;omega) (.of ⟨rfl,rfl⟩)
theorem Cr4(v:SlV)(hs:List HE)(seg R:A4)(own:Own v 3 eHl (hs.flatMap HE.enc) seg)(hep: ∀h∈hs,0<=h.ep/\h.ep<=4294967296)(hlen:hs.length<=1000):
  CallF PP 321 #[.slice v.a v.len v.cap,.i 0,.i hs.length,.func (.func 226) #[] #[]] (seg++R) fun r L'=> ∃seg',r= .tuple #[]/\L'=seg'++R/\Own v 3 eHl ((Al2 HE.ep hs).flatMap HE.enc) seg':=by
 refine c321 v 0 hs.length ⟨.func 226,#[],#[]⟩ ?_
 unfold s321
 refine D9 (by omega) ?_
 refine G3 (fun z' z L'=> ∃(i:Nat) (acc:List HE) (sg:A4),z=((i:Int),())/\z'=2000-i/\1<=i/\i<=max 1 hs.length/\acc=(hs.take i).foldl (Aq5 HE.ep) []/\L'.Perm (sg++R)/\Own v 3 eHl ((acc.reverse++hs.drop i).flatMap HE.enc) sg) 1999
  ⟨1,_,seg,rfl,rfl,by omega,by omega,rfl,List.Perm.refl _,?_⟩ ?_
 ·cases hs with
  |nil=>exact own
  |cons h t=>exact own
 rintro z' z L1 ⟨i,acc,sg,rfl,rfl,hi1,hi2,hacc,hp,own1⟩
 dsimp only
 have hap:acc.Perm (hs.take i):=by rw[hacc];have:=Y2 HE.ep (hs.take i) [];rwa [List.append_nil]at this
 have hal:acc.length=min i hs.length:=by rw[hap.length_eq,List.length_take]
 refine B8 (fun(hlt:(i:Int)<hs.length)=>?_) (fun(hge: ¬(i:Int)<hs.length)=>?_)
 ·have hi:i<hs.length:=by omega
  have hdr:hs.drop i=hs[i]::hs.drop (i+1):=List.drop_eq_getElem_cons hi
  generalize hx:hs[i]=x at hdr
  have hxe:0<=x.ep/\x.ep<=4294967296:=hep x (by rw[<-hx];exact List.getElem_mem hi)
  have hst: ∀acc',acc'=Aq5 HE.ep acc x->acc'=(hs.take (i+1)).foldl (Aq5 HE.ep) []:=fun acc' h=>by
   rw[h,List.take_succ_eq_append_getElem hi,List.foldl_append,<-hacc,hx];rfl
  rw[hdr]at own1
  have hdone: ∀(r p:List HE) (sg' L':A4),L'.Perm (sg'++R)->Own v 3 eHl ((r.reverse++x::(p++hs.drop (i+1))).flatMap HE.enc) sg'->Aq5 HE.ep acc x=p.reverse++x::r->
    ∃k',k'<2000-i/\ ∃(i':Nat) (acc:List HE) (sg:A4),((((i:Int)+1:Int),()):RsV [lI])=((i':Int),())/\k'=2000-i'/\1<=i'/\i'<=max 1 hs.length/\acc=(hs.take i').foldl (Aq5 HE.ep) []/\L'.Perm (sg++R)/\Own v 3 eHl ((acc.reverse++hs.drop i').flatMap HE.enc) sg:=by
   intro r p sg' L' hp' own' he
   refine⟨2000-(i+1),by omega,i+1,Aq5 HE.ep acc x,sg',rfl,rfl,by omega,by omega,hst _ rfl,hp',?_⟩
   rw[he,List.reverse_append,List.reverse_cons,List.reverse_reverse]
   simpa[List.append_assoc]using own'
  refine G3 (fun z' z L'=> ∃(r p:List HE) (sg:A4),z=((r.length:Int),())/\z'=r.length/\acc=p.reverse++r/\Aq5 HE.ep acc x=p.reverse++Aq5 HE.ep r x/\L'.Perm (sg++R)/\Own v 3 eHl ((r.reverse++x::(p++hs.drop (i+1))).flatMap HE.enc) sg) acc.length
   ⟨acc,[],sg,by rw[hal,Nat.min_eq_left (by omega)],rfl,rfl,rfl,hp,own1⟩ ?_
  rintro z' z L2 ⟨r,p,sg2,rfl,rfl,hrp,hins,hp2,own2⟩
  dsimp only
  have hrl:r.length<=1000:=by have:=congrArg List.length hrp;rw[List.length_append]at this;omega
  refine U0 (fun _ L'=>L'=L2/\ ∃y r',r=y::r'/\x.ep<y.ep) ?_ ?_
  ·rintro _ _ ⟨rfl,y,r',rfl,hlt2⟩
   have hln:((y::r').length:Int)-1=(r'.length:Int):=by simp
   have hfl:(y::r').reverse++x::(p++hs.drop (i+1))=r'.reverse++y::(x::(p++hs.drop (i+1))):=by simp
   rw[hfl]at own2
   have hn1:r'.length<(r'.reverse++y::(x::(p++hs.drop (i+1)))).length:=by simp
   have hn2:r'.length+1<(r'.reverse++y::(x::(p++hs.drop (i+1)))).length:=by simp
   have g1:(r'.reverse++y::(x::(p++hs.drop (i+1))))[r'.length]'hn1=y:=by rw[List.getElem_append_right (by simp)];simp
   have g2:(r'.reverse++y::(x::(p++hs.drop (i+1))))[r'.length+1]'hn2=x:=by rw[List.getElem_append_right (by simp)];simp
   refine D9 (by simp only[hln];omega) (D9 (by simp only[hln];omega) ?_)
   rw[hln]
   refine Ay5 HE.enc_len (by decide) own2 (B07 hp2) rfl hn1 fun b0 hb0 ha3=>?_
   refine Ay5 HE.enc_len (by decide) own2 (B07 hp2) (n:=r'.length+1) (by simp) hn2 fun b1 hb1 ha4=>?_
   rw[g1]at ha3
   rw[g2]at ha4
   refine A6 (y.b,y.ep,y.v,()) ha3 (A6 (x.b,x.ep,x.v,()) ha4 ?_)
   refine B61 HE.enc_len (by decide) own2 hb1 hn2 y hp2 fun sg3 L3 hp3 own3=>?_
   have e3:(r'.reverse++y::(x::(p++hs.drop (i+1)))).set (r'.length+1) y=r'.reverse++y::(y::(p++hs.drop (i+1))):=by
    rw[List.set_append_right _ _ (by simp)];simp
   rw[e3]at own3
   refine Ay5 HE.enc_len (by decide) own3 (B07 hp3) (n:=r'.length) rfl (by simp) fun b2 hb2 ha5=>?_
   refine B61 HE.enc_len (by decide) own3 hb2 (by simp) x hp3 fun sg4 L4 hp4 own4=>?_
   have e4:(r'.reverse++y::(y::(p++hs.drop (i+1)))).set r'.length x=r'.reverse++x::((y::p)++hs.drop (i+1)):=by
    rw[List.set_append_right _ _ (by simp)];simp
   rw[e4]at own4
   refine D9 (by omega) ⟨r'.length,by simp,r',y::p,sg4,rfl,rfl,?_,?_,hp4,own4⟩
   ·rw[hrp];simp
   ·rw[hins,Aq5,if_pos hlt2];simp
  ·intro j hj
   refine B8 (fun(h0:(r.length:Int)>0)=>?_) (fun(h0: ¬(r.length:Int)>0)=>?_)
   ·obtain⟨y,r',rfl⟩: ∃y r',r=y::r':=by
     cases r with
     |nil=>simp at h0
     |cons y r'=>exact⟨y,r',rfl⟩
    have hln:((y::r').length:Int)-1=(r'.length:Int):=by simp
    have hfl:(y::r').reverse++x::(p++hs.drop (i+1))=r'.reverse++y::(x::(p++hs.drop (i+1))):=by simp
    have own2':=own2
    rw[hfl]at own2'
    have hn1:r'.length<(r'.reverse++y::(x::(p++hs.drop (i+1)))).length:=by simp
    have hn2:r'.length+1<(r'.reverse++y::(x::(p++hs.drop (i+1)))).length:=by simp
    have g1:(r'.reverse++y::(x::(p++hs.drop (i+1))))[r'.length]'hn1=y:=by rw[List.getElem_append_right (by simp)];simp
    have g2:(r'.reverse++y::(x::(p++hs.drop (i+1))))[r'.length+1]'hn2=x:=by rw[List.getElem_append_right (by simp)];simp
    have hye:0<=y.ep/\y.ep<=4294967296:=hep y (List.mem_of_mem_take (hap.subset (by rw[hrp];simp)))
    refine Ay5 HE.enc_len (by decide) own2' (B07 hp2) (n:=r'.length+1) (by simp) hn2 fun b1 hb1 ha1=>?_
    refine D9 (by simp only[hln];omega) ?_
    rw[hln]
    refine Ay5 HE.enc_len (by decide) own2' (B07 hp2) rfl hn1 fun b2 hb2 ha2=>?_
    rw[g2]at ha1
    rw[g1]at ha2
    refine A6 (x.b,x.ep,x.v,()) ha1 (A6 (y.b,y.ep,y.v,()) ha2 ?_)
    refine Y4 (by kernel_rfl) (B7 (cmp_rd L2 x y hxe hye) (x.ep-y.ep,()) rfl (B8 (fun(hc:x.ep-y.ep<0)=>hj _ _ ⟨rfl,y,r',rfl,by omega⟩) (fun(hc: ¬x.ep-y.ep<0)=>D9 (by omega) ?_)))
    refine hdone (y::r') p sg2 L2 hp2 own2 ?_
    rw[hins,Aq5,if_neg (by omega)]
   ·obtain rfl:r=[]:=by
     cases r with
     |nil=>rfl
     |cons y r'=>simp at h0
    exact D9 (by omega) (hdone [] p sg2 L2 hp2 own2 hins)
 ·have e:acc.reverse++hs.drop i=Al2 HE.ep hs:=by
   rw[List.drop_eq_nil_of_le (by omega),List.append_nil,hacc,List.take_of_length_le (by omega)];rfl
  rw[e]at own1
  exact .drop (A:=sg++R) (J:=[]) ⟨sg,rfl,rfl,own1⟩ (by simpa using hp)
theorem Cm1(v:SlV)(hs:List HE)(seg R:A4)(own:Own v 3 eHl (hs.flatMap HE.enc) seg)(hep: ∀h∈hs,0<=h.ep/\h.ep<=4294967296)(hlen:hs.length<=19):
  CallF PP 225 #[.slice v.a v.len v.cap,.func (.func 226) #[] #[]] (seg++R) fun r L'=> ∃seg',r= .tuple #[]/\L'=seg'++R/\Own v 3 eHl ((Al2 HE.ep hs).flatMap HE.enc) seg':=by
 refine c225 v ⟨.func 226,#[],#[]⟩ ?_
 unfold s225
 have hvl:=own.sl.els_len HE.enc_len (by decide)
 have key:CallF PP 288 #[.slice v.a v.len v.cap,.i v.len,.func (.func 226) #[] #[]] (seg++R) fun r L'=> ∃seg',r= .tuple #[]/\L'=seg'++R/\Own v 3 eHl ((Al2 HE.ep hs).flatMap HE.enc) seg':=by
  refine c288 v v.len ⟨.func 226,#[],#[]⟩ ?_
  unfold s288
  refine G3 (fun z' z L'=>z'=0/\z=(0,20,())/\L'=seg++R) 0 ⟨rfl,rfl,rfl⟩ ?_
  rintro z' z _ ⟨rfl,rfl,rfl⟩
  dsimp only
  refine ifN (show¬((20:Int)<=v.len) by omega) ?_
  have hcall:=Cr4 v hs seg R own hep (by omega)
  rw[<-hvl]at hcall
  refine R4 hcall ?_
  rintro _ _-⟨seg',rfl,rfl,own'⟩
  refine⟨(),rfl,G3 (fun z' z L'=>z'=0/\z=(20,())/\L'=seg'++R) 0 ⟨rfl,rfl,rfl⟩ ?_⟩
  rintro z' z _ ⟨rfl,rfl,rfl⟩
  dsimp only
  exact ifN (show¬((20:Int)<v.len) by omega) (.of ⟨seg',rfl,rfl,own'⟩)
 refine R4 key ?_
 rintro _ _-⟨seg',rfl,rfl,own'⟩
 exact⟨(),rfl,.of ⟨seg',rfl,rfl,own'⟩⟩
structure BP where
 v:SlV
 gs:List PG
 seg:A4
def BP.val(b:BP):Value:=.slice b.v.a b.v.len b.v.cap
def BP.all(b:BP):A4:=b.seg++pgs b.gs
def BP.ls(b:BP):List (List UInt8):=b.gs.map PG.l
structure BP.Ok(b:BP):Prop where
 own:Own b.v 1 tB (b.gs.map PG.val) b.seg
 ok: ∀g∈b.gs,g.Ok
 few:b.gs.length<=16
 small: ∀g∈b.gs,g.l.length<=512
def Ac8(l:List BP):A4:=l.flatMap BP.all
theorem Bj8(a b:List BP):Ac8 (a++b)=Ac8 a++Ac8 b:=List.flatMap_append
theorem Bj7(a:BP):Ac8 [a]=a.all:=by simp[Ac8]
theorem BP.Ok.parts{L Y:A4}{b:BP}(h:b.Ok)(hp:L.Perm (b.all++Y)):W3 L b.v (pvs b.gs):=
 C62 h.own h.ok (Y:=Y) (hp.trans (pc fun z=>by simp only[BP.all,B6];omega))
theorem BP.Ok.bnd{b:BP}(h:b.Ok):(pvs b.gs).length<=1000000/\ ∀x∈pvs b.gs,x.2.length<=1000000:=by
 refine⟨by have:=h.few;simp[pvs];omega,fun x hx=>?_⟩
 simp only[pvs,List.mem_map]at hx
 obtain⟨g,hg,rfl⟩:=hx
 have:=h.small g hg
 simp only;omega
def Bk7(d:Dev)(b:Nat):Option HD:=if(Q4 (N7 d b).1).2 then some ((b:Int),(Q4 (N7 d b).1).1.1,(Q4 (N7 d b).1).1.2.2)else none
def Az9(d:Dev)(n:Nat):List HD:=(List.range n).filterMap (Bk7 d)
def epK(h:HD):Int:=h.2.1
def J7(d:Dev):List HD:=Al2 epK (Az9 d d.c.B)
theorem Au4{d:Dev}{b:Nat}{x:HD}(h:Bk7 d b=some x):x.1=b/\(0<=x.2.1/\x.2.1<=1073741824)/\(∀y∈x.2.2,Aq4 y)/\x.2.2.Pairwise (fun a b=>a.2.1<b.2.1):=by
 unfold Bk7 at h
 split at h
 ·obtain rfl:=Option.some.inj h
  have h1:=B75 (N7 d b).1
  exact⟨rfl,Cn3 _,h1.1,h1.2⟩
 ·cases h
theorem Ar6{d:Dev}{n:Nat}{x:HD}(h:x∈Az9 d n): ∃b:Nat,b<n/\Bk7 d b=some x:=by
 unfold Az9 at h
 rw[List.mem_filterMap]at h
 obtain⟨b,hb,hx⟩:=h
 exact⟨b,List.mem_range.1 hb,hx⟩
theorem Au7(d:Dev)(n:Nat):Az9 d (n+1)=Az9 d n++(Bk7 d n).toList:=by
 unfold Az9
 rw[List.range_succ,List.filterMap_append]
 congr 1
theorem Ar7(d:Dev)(n:Nat):(Az9 d n).length<=n:=by
 have:=List.length_filterMap_le (Bk7 d) (List.range n)
 rw[List.length_range]at this;exact this
structure Q1(d:Dev)(lv:SlV)(hs:List HE)(hseg:A4)(pv:SlV)(bs:List BP)(pseg:A4):Prop where
 own:Own lv 3 eHl (hs.flatMap HE.enc) hseg
 ok: ∀h∈hs,h.Ok
 dat:hs.map HE.dat=J7 d
 pown:Own pv 1 tPs (bs.map BP.val) pseg
 pok: ∀b∈bs,b.Ok
 pdat:bs.map BP.ls=(List.range d.c.B).map fun(b:Nat)=>(N7 d b).1
def HoldK(d:Dev)(A:A4)(r:Value)(L':A4):Prop:= ∃(lv:SlV) (hs:List HE) (hseg:A4) (pv:SlV) (bs:List BP) (pseg:A4),r= .tuple #[.slice lv.a lv.len lv.cap,.slice pv.a pv.len pv.cap,.i 0]/\
 L'=hseg++(S8 hs++(pseg++(Ac8 bs++A)))/\Q1 d lv hs hseg pv bs pseg
theorem Cq8{d:Dev}(ok:Q2 d)(hdn:d.down=false){b:Nat}(hb:b<d.c.B):(N7 d b).2=0:=by
 have hP:=ok.c.p
 have hl:=ok.len
 have:H8 d b 0=0:=by
  unfold H8
  rw[if_neg (by simp[hdn]),if_neg (by omega),if_neg (by omega)]
 unfold N7
 rw[if_neg (by simp[this])]
theorem C94(m:Nat)(d:Dev)(A:A4)(h:FH m d A)(ok:Q2 d)(hdn:d.down=false):CallF PP 165 #[.pointer (some ⟨m,0,none⟩)] A (HoldK d A):=by
 refine c165 (some ⟨m,0,none⟩) ?_
 unfold s165
 have hB:=ok.c.b
 refine B7 (Am2 m d A h) ((d.c.B,d.c.P,d.c.S,d.c.W,()),()) rfl ?_
 refine G3 (fun z' z L'=> ∃(i:Nat) (lv:SlV) (hs:List HE) (hseg:A4) (pv:SlV) (bs:List BP) (pseg J:A4),i<=d.c.B/\z'=d.c.B-i/\z=(lv,pv,(i:Int),())/\L'.Perm (hseg++(S8 hs++(pseg++(Ac8 bs++(J++A)))))/\
   Own lv 3 eHl (hs.flatMap HE.enc) hseg/\(∀h∈hs,h.Ok)/\hs.map HE.dat=Az9 d i/\Own pv 1 tPs (bs.map BP.val) pseg/\(∀b∈bs,b.Ok)/\bs.map BP.ls=(List.range i).map fun(b:Nat)=>(N7 d b).1) d.c.B
  ⟨0,⟨none,0,0⟩,[],[],⟨none,0,0⟩,[],[],[],by omega,by omega,rfl,List.Perm.refl _,F6,by simp,rfl,F6,by simp,rfl⟩ ?_
 rintro z' z L1 ⟨i,lv,hs,hseg,pv,bs,pseg,J,hi,rfl,rfl,hp,own,hok,hdat,pown,pok,pdat⟩
 dsimp only
 have hbl:bs.length=i:=by have:=congrArg List.length pdat;rw[List.length_map,List.length_map,List.length_range]at this;exact this
 have hhl:hs.length<=i:=by have:=congrArg List.length hdat;rw[List.length_map]at this;have h2:=Ar7 d i;omega
 have hlv:=own.sl.els_len HE.enc_len (by decide)
 have hpv:=pown.sl.len
 rw[List.length_map]at hpv
 refine B8 (fun(hlt:(i:Int)<d.c.B)=>?_) (fun(hge: ¬(i:Int)<d.c.B)=>?_)
 ·have hi':i<d.c.B:=by omega
  refine G2 (C78 m d A h ok i) (R:=hseg++(S8 hs++(pseg++(Ac8 bs++J)))) (pc fun z=>by have:=pcn hp z;simp only[B6]at*;omega) ?_
  rintro _ _ ⟨v,gs,seg,rfl,rfl,gown,gok,gl⟩
  have hbn:=Cq7 ok gl
  have hbo:BP.Ok ⟨v,gs,seg⟩:=⟨gown,gok,by simpa[pvs]using hbn.1,fun g hg=>hbn.2 (g.v,g.l) (List.mem_map_of_mem (f:=fun g:PG=>(g.v,g.l)) hg)⟩
  rw[Cq8 ok hdn hi']
  refine⟨_,List.Perm.refl _,(v,0,()),rfl,ifT rfl ?_⟩
  refine Ai7 Db0 srcPPs pown (Y:=seg++(pgs gs++A)++(hseg++(S8 hs++(Ac8 bs++J)))) (ws:=[BP.val (⟨v,gs,seg⟩:BP)]) (pc fun z=>by simp only[B6];omega) rfl rfl (by omega) fun pv2 pseg2 hpl2 pown2=>?_
  refine R4 (C43 _ v (pvs gs) (hbo.parts (b:=⟨v,gs,seg⟩) (Y:=pseg2++(A++(hseg++(S8 hs++(Ac8 bs++J))))) (pc fun z=>by simp only[BP.all,B6];omega)) hbo.bnd.1 hbo.bnd.2) ?_
  rintro _ _-⟨w,wseg,rfl,rfl,wown⟩
  have hls:(pvs gs).map Prod.snd=(N7 d i).1:=by rw[Av1,gl]
  rw[hls]at wown⊢
  have hpd:(bs++[(⟨v,gs,seg⟩:BP)]).map BP.ls=(List.range (i+1)).map fun(b:Nat)=>(N7 d b).1:=by rw[List.map_append,pdat,List.range_succ,List.map_append,List.map_singleton,List.map_singleton];exact congrArg (fun t=>_++[t]) gl
  have hpok: ∀b∈bs++[(⟨v,gs,seg⟩:BP)],BP.Ok b:=fun b hb=>by
   rcases List.mem_append.1 hb with hb|hb
   ·exact pok b hb
   ·rw[List.mem_singleton.1 hb];exact hbo
  have hpo:Own pv2 1 tPs ((bs++[(⟨v,gs,seg⟩:BP)]).map BP.val) pseg2:=by rw[List.map_append];exact pown2
  refine⟨(((Q4 (N7 d i).1).1.1,(Q4 (N7 d i).1).1.2.1,w,()),(Q4 (N7 d i).1).2,()),rfl,G0 (fun(hs2:(Q4 (N7 d i).1).2=true)=>?_) (fun(hs2:(Q4 (N7 d i).1).2=false)=>?_)⟩
  ·have hreg:Bk7 d i=some ((i:Int),(Q4 (N7 d i).1).1.1,(Q4 (N7 d i).1).1.2.2):=by unfold Bk7;rw[if_pos hs2]
   refine Ai7 elemHl srcHl own (Y:=wseg++(pseg2++(seg++(pgs gs++A)++((S8 hs++(Ac8 bs++J)))))) (ws:=HE.enc ⟨i,(Q4 (N7 d i).1).1.1,w,wseg,(Q4 (N7 d i).1).1.2.2⟩) (pc fun z=>by simp only[B6];omega) rfl rfl (by omega) fun lv2 hseg2 hl2 own2=>?_
   refine D9 (by omega) ⟨d.c.B-(i+1),by omega,i+1,lv2,hs++[⟨i,(Q4 (N7 d i).1).1.1,w,wseg,(Q4 (N7 d i).1).1.2.2⟩],hseg2,pv2,bs++[(⟨v,gs,seg⟩:BP)],pseg2,J,by omega,rfl,rfl,?_,?_,?_,?_,hpo,hpok,hpd⟩
   ·rw[Ce6,Ce5,Bj8,Bj7]
    exact pc fun z=>by simp only[BP.all,B6];omega
   ·rw[List.flatMap_append,List.flatMap_singleton];exact own2
   ·intro x hx
    rcases List.mem_append.1 hx with hx|hx
    ·exact hok x hx
    ·rw[List.mem_singleton.1 hx];exact wown
   ·rw[Au7,hreg,List.map_append,hdat];rfl
  ·have hreg:Bk7 d i=none:=by unfold Bk7;rw[if_neg (by simp[hs2])]
   refine D9 (by omega) ⟨d.c.B-(i+1),by omega,i+1,lv,hs,hseg,pv2,bs++[(⟨v,gs,seg⟩:BP)],pseg2,J++wseg,by omega,rfl,rfl,?_,own,hok,?_,hpo,hpok,hpd⟩
   ·rw[Bj8,Bj7]
    exact pc fun z=>by simp only[BP.all,B6];omega
   ·rw[Au7,hreg,hdat];simp
 ·obtain rfl:i=d.c.B:=by omega
  have hep: ∀x∈hs,0<=x.ep/\x.ep<=4294967296:=by
   intro x hx
   have hm:x.dat∈Az9 d d.c.B:=by rw[<-hdat];exact List.mem_map_of_mem hx
   obtain⟨b,-,hb⟩:=Ar6 hm
   have h1:=(Au4 hb).2.1
   have h2:x.dat.2.1=x.ep:=rfl
   omega
  refine R4 (CallF.perm hp.symm (Cm1 lv hs hseg (S8 hs++(pseg++(Ac8 bs++(J++A)))) own hep (by omega))) ?_
  rintro _ _-⟨hseg2,rfl,rfl,own2⟩
  refine⟨(),rfl,.drop (A:=hseg2++(S8 (Al2 HE.ep hs)++(pseg++(Ac8 bs++A)))) (J:=J) ⟨lv,Al2 HE.ep hs,hseg2,pv,bs,pseg,rfl,rfl,own2,fun x hx=>hok x ((O2 HE.ep hs).subset hx),?_,pown,pok,pdat⟩ ?_⟩
  ·rw[Cd7 HE.ep HE.dat epK (fun _=>rfl),hdat];rfl
  ·exact pc fun z=>by have:=Ay2 HE.seg (O2 HE.ep hs) z;simp only[S8,B6];omega
def Bb2(kind:Int)(h:HE)(l:List It):List (HE×It):=(l.filter fun x=>decide (x.1=kind)).map fun x=>(h,x)
def Bb3(kind:Int)(hs:List HE):List (HE×It):=hs.flatMap fun h=>Bb2 kind h h.l
theorem Ar3(kind:Int)(h:HE)(a b:List It):Bb2 kind h (a++b)=Bb2 kind h a++Bb2 kind h b:=by simp[Bb2]
theorem Bs4{kind:Int}{h:HE}{x:It}(e:x.1=kind):Bb2 kind h [x]=[(h,x)]:=by simp[Bb2,e]
theorem C37{kind:Int}{h:HE}{x:It}(e: ¬x.1=kind):Bb2 kind h [x]=[]:=by simp[Bb2,e]
theorem A55(kind:Int)(a b:List HE):Bb3 kind (a++b)=Bb3 kind a++Bb3 kind b:=List.flatMap_append
theorem Bs5(kind:Int)(h:HE):Bb3 kind [h]=Bb2 kind h h.l:=by simp[Bb3]
theorem Bs6{kind:Int}{hs:List HE}{q:HE×It}(h:q∈Bb3 kind hs):q.1∈hs/\q.2∈q.1.l/\q.2.1=kind:=by
 unfold Bb3 Bb2 at h
 simp only[List.mem_flatMap,List.mem_map,List.mem_filter,decide_eq_true_eq]at h
 obtain⟨a,ha,x,⟨hx,he⟩,rfl⟩:=h
 exact⟨ha,hx,he⟩
theorem Br9{α:Type}(l:List α){i:Nat}(hi:i<l.length):l=l.take i++l[i]::l.drop (i+1):=by
 rw[<-List.drop_eq_getElem_cons hi,List.take_append_drop]
theorem W6{α:Type}(l:List α){i:Nat}(hi:i<l.length):l.take (i+1)=l.take i++[l[i]]:=by rw[List.take_succ_eq_append_getElem hi]
theorem Ch0(v:SlV)(hs:List HE)(kind:Int)(fn:FnV)(I:List (HE×It)->A4->Prop)(hlen:hs.length<=1000000)(hb: ∀h∈hs,h.l.length<=1000000)
  (hI: ∀done L,I done L->Sl L v 3 (hs.flatMap HE.enc)/\ ∀h∈hs,Sl L h.v 3 (h.l.flatMap O4))
  (step: ∀(done rest:List (HE×It)) (h:HE) (x:It) (L:A4) (k:RsV []->HP),Bb3 kind hs=done++(h,x)::rest->I done L->(∀L',I (done++[(h,x)]) L'->k () L')->
   clv PP fn.fn (fn.first++#[.agg #[.i h.b,.i h.ep,.slice h.v.a h.v.len h.v.cap],.agg #[.i x.1,.i x.2.1,.i x.2.2.1]]) fn.captured [] k L)
  {L:A4} (h0:I [] L):CallF PP 166 #[.slice v.a v.len v.cap,.i kind,.func fn.fn fn.first fn.captured] L fun r L'=>r= .tuple #[]/\I (Bb3 kind hs) L':=by
 refine c166 v kind fn ?_
 unfold s166
 have hvl:=(hI _ _ h0).1.els_len HE.enc_len (by decide)
 refine G3 (fun z' z L'=> ∃i:Nat,i<=hs.length/\z'=hs.length-i/\z=((i:Int),())/\I (Bb3 kind (hs.take i)) L') hs.length ⟨0,by omega,by omega,rfl,h0⟩ ?_
 rintro z' z L1 ⟨i,hi,rfl,rfl,hI1⟩
 dsimp only
 refine B8 (fun(hlt:(i:Int)<v.len)=>?_) (fun(hge: ¬(i:Int)<v.len)=>?_)
 ·have hi':i<hs.length:=by omega
  refine V1 HE.enc_len (by decide) (hI _ _ hI1).1 rfl hi' fun a ha=>?_
  have hmem:hs[i]∈hs:=List.getElem_mem hi'
  have hsp:=Br9 hs hi'
  have htk:=W6 hs hi'
  generalize hs[i]=h at ha hmem hsp htk
  refine A6 (h.b,h.ep,h.v,()) ha ?_
  dsimp only
  have hhl:=((hI _ _ hI1).2 h hmem).els_len E3 (by decide)
  have hhb:=hb h hmem
  refine G3 (fun z' z L'=> ∃j:Nat,j<=h.l.length/\z'=h.l.length-j/\z=((j:Int),())/\I (Bb3 kind (hs.take i)++Bb2 kind h (h.l.take j)) L') h.l.length ⟨0,by omega,by omega,rfl,by simpa[Bb2]using hI1⟩ ?_
  rintro z' z L2 ⟨j,hj,rfl,rfl,hI2⟩
  dsimp only
  refine B8 (fun(hlt2:(j:Int)<h.v.len)=>?_) (fun(hge2: ¬(j:Int)<h.v.len)=>?_)
  ·have hj':j<h.l.length:=by omega
   refine V1 E3 (by decide) ((hI _ _ hI2).2 h hmem) rfl hj' fun a2 ha2=>?_
   have hsp2:=Br9 h.l hj'
   have htk2:=W6 h.l hj'
   generalize h.l[j]=x at ha2 hsp2 htk2
   refine A6 x ha2 (B8 (fun(hk:x.1=kind)=>?_) (fun(hk: ¬x.1=kind)=>?_))
   ·refine step (Bb3 kind (hs.take i)++Bb2 kind h (h.l.take j)) (Bb2 kind h (h.l.drop (j+1))++Bb3 kind (hs.drop (i+1))) h x L2 _ ?_ hI2 fun L' hI3=>?_
    ·conv=>lhs;rw[hsp]
     rw[A55,show h::hs.drop (i+1)=[h]++hs.drop (i+1)from rfl,A55,Bs5]
     conv=>lhs;rw[hsp2]
     rw[Ar3,show x::h.l.drop (j+1)=[x]++h.l.drop (j+1)from rfl,Ar3,Bs4 hk]
     simp[List.append_assoc]
    ·refine D9 (by omega) ⟨h.l.length-(j+1),by omega,j+1,by omega,rfl,rfl,?_⟩
     rw[htk2,Ar3,Bs4 hk,<-List.append_assoc];exact hI3
   ·refine D9 (by omega) ⟨h.l.length-(j+1),by omega,j+1,by omega,rfl,rfl,?_⟩
    rw[htk2,Ar3,C37 hk,List.append_nil];exact hI2
  ·obtain rfl:j=h.l.length:=by omega
   refine D9 (by omega) ⟨hs.length-(i+1),by omega,i+1,by omega,rfl,rfl,?_⟩
   rw[htk,A55,Bs5]
   rw[List.take_length]at hI2
   exact hI2
 ·obtain rfl:i=hs.length:=by omega
  rw[List.take_length]at hI1
  exact .of ⟨rfl,hI1⟩
abbrev LE:=ByteArray×It
def LE.enc(x:LE):List Value:=[.string x.1,.i x.2.1,.i x.2.2.1,.i x.2.2.2.1]
theorem LE.enc_len(x:LE):(LE.enc x).length=4:=rfl
def Aq3(l:List UInt8):ByteArray:=⟨l.toArray⟩
def Cp5(h:HD)(x:It):It:=(h.1,x.2.1,h.2.1,())
def Z6(d:Dev)(q:HD×It):Option LE:=if(C6 d (Cp5 q.1 q.2)).2.2=0 then some (Aq3 (C6 d (Cp5 q.1 q.2)).1,Cp5 q.1 q.2)else none
def Ae9(d:Dev)(q:HD×It):List It:=(Ai1 (N7 d q.1.1).1 q.2).flatMap fun b=>(Ab0 b).1
def C04(q:HE×It):HD×It:=(q.1.dat,q.2)
abbrev eLv:TypeId:=162
theorem C02:U3 PP 144 eLv 4 40 [.string ⟨#[]⟩,.i 0,.i 0,.i 0]:=M5 (by kernel_rfl) (by kernel_rfl) rfl (by decide) (by decide)
theorem srcLv:Ar0 PP 144:=.inl ⟨eLv,by kernel_rfl⟩
def plV(p:It):Value:=.agg #[.i p.1,.i p.2.1,.i p.2.2.1]
theorem mapL:Ck0 PP 246 9 102 Value.string (plV (0,0,0,())):=A76 (by kernel_rfl) (Cz2 (by kernel_rfl)) (by kernel_rfl)
theorem Cg7(x y:It):Bp6 PP 100 Az4 (O4 x) (O4 y)=some (decide (x=y)):=by
 have h:Bp6 PP 100 Az4 [.i x.1,.i x.2.1,.i x.2.2.1] [.i y.1,.i y.2.1,.i y.2.2.1]=some (x.1==y.1&&(x.2.1==y.2.1&&(x.2.2.1==y.2.2.1&&true))):=by kernel_rfl
 unfold O4
 rw[h]
 clear h
 refine congrArg some ?_
 obtain⟨a,b,c,⟨⟩⟩:=x
 obtain⟨a',b',c',⟨⟩⟩:=y
 rw[Bool.eq_iff_iff];simp
theorem C44(a:It):Instr.sameBits 10000 (plV a) (plV a)=true:=by
 have h: ∀n,Instr.sameBits (n+1) (plV a) (plV a)=true:=by intro n;simp[plV,Instr.sameBits]
 have h2:=h 9999
 rw[show 9999+1=10000 from rfl]at h2
 exact h2
theorem mapK:Ck0 PP 249 102 4 plV (.bool false):=A76 (by kernel_rfl) (Cc9 O4 (fun _=>rfl) Cw7 Cg7 C44) (by kernel_rfl)
def Bo6(l:List LE):List (ByteArray×Value):=l.foldl (fun m x=>A02 m x.1 (plV x.2)) []
def B17(l:List It):List (It×Value):=l.foldl (fun m p=>A02 m p (.bool true)) []
theorem A29(l:List LE)(x:LE):Bo6 (l++[x])=A02 (Bo6 l) x.1 (plV x.2):=by simp[Bo6]
theorem A30(l:List It)(x:It):B17 (l++[x])=A02 (B17 l) x (.bool true):=by simp[B17]
def I1(n6 n7:Nat)(F:A4)(all:List LE)(L:A4):Prop:= ∃(av:SlV) (aseg:A4) (es:Array MapEntry) (ck:Nat) (J:A4),L.Perm ((n6,Obj.cells #[.slice av.a av.len av.cap] 144)::((n7,Obj.map es ck)::(aseg++(J++F))))/\
 Own av 4 eLv (all.flatMap LE.enc) aseg/\Mp Value.string es (Bo6 all)
theorem I1.sub{n6 n7:Nat}{F:A4}{all:List LE}{L:A4}(h:I1 n6 n7 F all L): ∀x∈F,x∈L:=by
 obtain⟨av,aseg,es,ck,J,hL,-⟩:=h
 exact fun x hx=>hL.symm.subset (by simp[hx])
theorem Cn9(m:Nat)(d:Dev)(A:A4)(h:FH m d A)(ok:Q2 d)(n1 n6 n7 n8:Nat)(T1:TypeId)(R F:A4)(hF:F.Perm (A++R))(h1:(n1,Obj.cells #[.pointer (some ⟨m,0,none⟩)] T1)∈F)(h8:(n8,Obj.cells #[.map (some n7)] 246)∈F)
  (all:List LE) (hal:all.length<=1000000) (he:HE) (x:It) (hx:Aq4 x) (L:A4) (hL:I1 n6 n7 F all L):
  CallF PP 167 #[.agg #[.i he.b,.i he.ep,.slice he.v.a he.v.len he.v.cap],.agg #[.i x.1,.i x.2.1,.i x.2.2.1],.pointer (some ⟨n1,0,none⟩),.pointer (some ⟨n6,0,none⟩),.pointer (some ⟨n8,0,none⟩)] L
   fun r L'=>r= .tuple #[]/\I1 n6 n7 F (all++(Z6 d (he.dat,x)).toList) L':=by
 refine c167 (he.b,he.ep,he.v,()) x (some ⟨n1,0,none⟩) (some ⟨n6,0,none⟩) (some ⟨n8,0,none⟩) ?_
 unfold s167
 dsimp only
 have hx':=hx
 unfold Aq4 at hx'
 have hpl:Cp5 he.dat x=(he.b,x.2.1,he.ep,()):=rfl
 refine A5 rfl (A6 (some ⟨m,0,none⟩) (ldB (hL.sub _ h1) rfl) ?_)
 have hL0:=hL
 obtain⟨av,aseg,es,ck,J,hp,own,hm⟩:=hL
 have hfe:=A96 m d A h ok (Cp5 he.dat x) (Bb8 (by rw[hpl];simp only;omega))
 refine G2 (R:=(n6,Obj.cells #[.slice av.a av.len av.cap] 144)::((n7,Obj.map es ck)::(aseg++(J++R)))) hfe (pc fun z=>by have:=pcn hp z;have:=pcn hF z;simp only[B6,C5]at*;omega) ?_
 rintro _ _ ⟨g,rfl,rfl,hg,hgl⟩
 generalize hq:C6 d (Cp5 he.dat x)=q
 have hI1:I1 n6 n7 F all (g.seg++A++((n6,Obj.cells #[.slice av.a av.len av.cap] 144)::((n7,Obj.map es ck)::(aseg++(J++R))))):=
  ⟨av,aseg,es,ck,g.seg++J,pc fun z=>by have:=pcn hF z;simp only[B6,C5]at*;omega,own,hm⟩
 refine⟨_,List.Perm.refl _,(Aq3 q.1,g.v,q.2.2,()),rfl,B8 (fun(h0:q.2.2=0)=>?_) (fun(h0: ¬q.2.2=0)=>?_)⟩
 ·have hlo:Z6 d (he.dat,x)=some (Aq3 q.1,Cp5 he.dat x):=by unfold Z6;simp only;rw[hq,if_pos h0]
  rw[hlo]
  obtain⟨av,aseg,es,ck,J,hp,own,hm⟩:=hI1
  have hl:=own.sl.els_len LE.enc_len (by decide)
  refine A5 rfl (A6 av (ldB (hp.symm.subset List.mem_cons_self) rfl) ?_)
  refine Ai7 C02 srcLv own (Y:=(n6,Obj.cells #[.slice av.a av.len av.cap] 144)::((n7,Obj.map es ck)::(J++F))) (ws:=LE.enc (Aq3 q.1,Cp5 he.dat x)) (pc fun z=>by have:=pcn hp z;simp only[B6,C5]at*;omega) rfl rfl (by omega) fun av2 aseg2 hl2 own2=>?_
  refine Bz1 (n:=n6) (off:=0) (c:=#[.slice av.a av.len av.cap]) (T:=144) (fz:=(0,0)) (Y:=(n7,Obj.map es ck)::(aseg2++(J++F))) (pc fun z=>by simp only[B6,C5];omega) rfl (by simp) (.inl (Nat.le_refl _)) #[.slice av2.a av2.len av2.cap] rfl fun L2 hp2=>?_
  refine A5 rfl (A6 (some n7) (ldB (c:=#[.map (some n7)]) (T:=246) (fz:=(0,0)) (hp2.symm.subset (by simp[h8])) rfl) ?_)
  refine Aj9 mapL (es:=es) (clock:=ck) (Y:=(n6,Obj.cells #[.slice av2.a av2.len av2.cap] 144)::(aseg2++(J++F))) (pc fun z=>by have:=pcn hp2 z;simp only[B6,C5]at*;omega) hm (Aq3 q.1) (plV (Cp5 he.dat x)) fun es2 ck2 L3 hm2 hp3=>?_
  refine .of ⟨rfl,av2,aseg2,es2,ck2,J,pc fun z=>by have:=pcn hp3 z;simp only[B6,C5]at*;omega,?_,?_⟩
  ·rw[Option.toList_some,List.flatMap_append,List.flatMap_singleton];exact own2
  ·rw[Option.toList_some,A29];exact hm2
 ·have hlo:Z6 d (he.dat,x)=none:=by unfold Z6;simp only;rw[hq,if_neg h0]
  rw[hlo,Option.toList_none,List.append_nil]
  exact .of ⟨rfl,hI1⟩
def I2(n9:Nat)(F:A4)(ks:List It)(L:A4):Prop:= ∃(es:Array MapEntry) (ck:Nat) (J:A4),L.Perm ((n9,Obj.map es ck)::(J++F))/\Mp plV es (B17 ks)
theorem I2.sub{n9:Nat}{F:A4}{ks:List It}{L:A4}(h:I2 n9 F ks L): ∀x∈F,x∈L:=by
 obtain⟨es,ck,J,hL,-⟩:=h
 exact fun x hx=>hL.symm.subset (by simp[hx])
theorem I2.more{n9:Nat}{F X:A4}{ks:List It}{L L':A4}(h:I2 n9 F ks L)(hp:L'.Perm (X++L)):I2 n9 (X++F) ks L':=by
 obtain⟨es,ck,J,hL,hm⟩:=h
 exact⟨es,ck,J,pc fun z=>by have:=pcn hL z;have:=pcn hp z;simp only[B6,C5]at*;omega,hm⟩
theorem I2.less{n9:Nat}{F X:A4}{ks:List It}{L:A4}(h:I2 n9 (X++F) ks L):I2 n9 F ks L:=by
 obtain⟨es,ck,J,hL,hm⟩:=h
 exact⟨es,ck,J++X,pc fun z=>by have:=pcn hL z;simp only[B6,C5]at*;omega,hm⟩
theorem B16(p:List UInt8):(Ab0 p).1.length<=p.length:=by
 unfold Ab0
 split
 ·simp
 ·split
  ·simp only[Ca0];omega
  ·simp
theorem A24{ps:List (List UInt8)}(hb: ∀x∈ps,x.length<=512){pg:Int}: ∀{n:Nat} {l:List (List UInt8)},S2 ps pg n=some l-> ∀x∈l,x.length<=512
 |0,l,h=>by obtain rfl:=Option.some.inj h;simp
 |n+1,l,h=>by
  rw[S2]at h
  split at h
  ·rename_i l' hl'
   split at h
   ·cases h
   ·split at h
    ·obtain rfl:=Option.some.inj h
     intro x hx
     rcases List.mem_append.1 hx with hx|hx
     ·exact A24 hb hl' x hx
     ·rw[List.mem_singleton.1 hx]
      refine Nat.le_trans (Ar8 _) ?_
      rw[List.getD_eq_getElem?_getD]
      cases hg:ps[pg.toNat+n]? with
      |none=>simp
      |some b=>exact hb b (List.mem_of_getElem? hg)
    ·cases h
  ·cases h
theorem B11{ps:List (List UInt8)}(hb: ∀x∈ps,x.length<=512)(x:It):(Ai1 ps x).length<=x.2.2.1.toNat/\ ∀p∈Ai1 ps x,p.length<=512:=by
 unfold Ai1
 cases h:S2 ps x.2.1 x.2.2.1.toNat with
 |none=>simp
 |some l=>exact⟨by simp[(An2 h).1],A24 hb h⟩
theorem Cn8(d:Dev)(n3 n9 n10:Nat)(F pseg:A4)(pv:SlV)(bs:List BP)(pown:Own pv 1 tPs (bs.map BP.val) pseg)(pok: ∀b∈bs,b.Ok)(pdat:bs.map BP.ls=(List.range d.c.B).map fun(b:Nat)=>(N7 d b).1)
  (hpF: ∀x∈pseg,x∈F) (hbF: ∀x∈Ac8 bs,x∈F) (h3:(n3,Obj.cells #[.slice pv.a pv.len pv.cap] 243)∈F) (h10:(n10,Obj.cells #[.map (some n9)] 249)∈F)
  (ks:List It) (he:HE) (b:Nat) (hb:he.b=b) (hbB:b<d.c.B) (x:It) (hx:Aq4 x) (L:A4) (hL:I2 n9 F ks L):
  CallF PP 168 #[.agg #[.i he.b,.i he.ep,.slice he.v.a he.v.len he.v.cap],.agg #[.i x.1,.i x.2.1,.i x.2.2.1],.pointer (some ⟨n3,0,none⟩),.pointer (some ⟨n10,0,none⟩)] L
   fun r L'=>r= .tuple #[]/\I2 n9 F (ks++Ae9 d (he.dat,x)) L':=by
 refine c168 (he.b,he.ep,he.v,()) x (some ⟨n3,0,none⟩) (some ⟨n10,0,none⟩) ?_
 unfold s168
 dsimp only
 have hx':=hx
 unfold Aq4 at hx'
 have hbl:bs.length=d.c.B:=by have:=congrArg List.length pdat;rw[List.length_map,List.length_map,List.length_range]at this;exact this
 have hi:b<bs.length:=by omega
 refine A5 rfl (A6 pv (ldB (hL.sub _ h3) rfl) ?_)
 refine Ct9 (pown.sl.mono fun y hy=>hL.sub _ (hpF y hy)) hb (by rw[List.length_map];exact hi) fun a ha=>?_
 rw[List.getElem_map]at ha
 have hbm:bs[b]∈bs:=List.getElem_mem hi
 have hls:bs[b].ls=(N7 d b).1:=by
  have h1:(bs.map BP.ls)[b]?=some bs[b].ls:=by rw[List.getElem?_map,List.getElem?_eq_getElem hi];rfl
  rw[pdat,List.getElem?_map,List.getElem?_range hbB]at h1
  exact(Option.some.inj h1).symm
 generalize bs[b]=q at ha hbm hls
 have hq:=pok q hbm
 have hqF: ∀y∈q.all,y∈F:=fun y hy=>hbF y (List.mem_flatMap.2 ⟨q,hbm,hy⟩)
 have hqp:W3 L q.v (pvs q.gs):=A66 hq.own hq.ok (fun y hy=>hL.sub _ (hqF y (List.mem_append_left _ hy))) (fun y hy=>hL.sub _ (hqF y (List.mem_append_right _ hy)))
 refine A6 q.v ha (R4 (Bm9 L q.v (pvs q.gs) hqp hq.bnd.1 hq.bnd.2 x ⟨Bb8 (by omega),Bb8 (by omega)⟩) ?_)
 rintro _ _-⟨v2,gs2,seg2,rfl,rfl,own2,ok2,l2⟩
 have hsn:(pvs q.gs).map Prod.snd=(N7 d b).1:=by rw[Av1];exact hls
 rw[hsn]at l2
 have hko:Ae9 d (he.dat,x)=gs2.flatMap fun g=>(Ab0 g.l).1:=by
  unfold Ae9
  show(Ai1 (N7 d he.b).1 x).flatMap _=_
  rw[hb,<-l2,List.flatMap_map]
 have hpb:=B11 (ps:=(N7 d b).1) (by
  intro y hy
  rw[<-hls]at hy
  unfold BP.ls at hy
  simp only[List.mem_map]at hy
  obtain⟨g,hg,rfl⟩:=hy
  exact hq.small g hg) x
 rw[<-l2,List.length_map]at hpb
 have hvl:=own2.sl.len
 rw[List.length_map]at hvl
 refine⟨(v2,()),rfl,?_⟩
 dsimp only
 refine G3 (fun z' z L'=> ∃i:Nat,i<=gs2.length/\z'=gs2.length-i/\z=((i:Int),())/\I2 n9 ((seg2++pgs gs2)++F) (ks++(gs2.take i).flatMap fun g=>(Ab0 g.l).1) L') gs2.length
  ⟨0,by omega,by omega,rfl,by simpa using hL.more (X:=seg2++pgs gs2) (pc fun z=>by simp only[B6];omega)⟩ ?_
 rintro z' z L2 ⟨i,hi2,rfl,rfl,hI2⟩
 dsimp only
 refine B8 (fun(hlt:(i:Int)<v2.len)=>?_) (fun(hge: ¬(i:Int)<v2.len)=>?_)
 ·have hi':i<gs2.length:=by omega
  refine Ct9 (own2.sl.mono fun y hy=>hI2.sub _ (by simp[hy])) rfl (by rw[List.length_map];exact hi') fun a2 ha2=>?_
  rw[List.getElem_map]at ha2
  have hgm:gs2[i]∈gs2:=List.getElem_mem hi'
  have htk:=W6 gs2 hi'
  generalize gs2[i]=g at ha2 hgm htk
  have hgl:g.l.length<=512:=hpb.2 _ (List.mem_map_of_mem hgm)
  have hkl:=B16 g.l
  refine A6 g.v ha2 (R4 (Cr2 L2 g.v g.l (Sl.mono (ok2 g hgm).sl fun y hy=>hI2.sub _ (by simp only[List.mem_append];exact .inl (.inr (List.mem_flatMap.2 ⟨g,hgm,hy⟩)))) (by omega)) ?_)
  rintro _ _-⟨kv,kseg,rfl,rfl,kown⟩
  generalize hkr:Ab0 g.l=kr at kown hkl
  have hkvl:=kown.sl.els_len E3 (by decide)
  refine⟨(kv,kr.2,()),rfl,?_⟩
  dsimp only
  refine G3 (fun z' z L'=> ∃j:Nat,j<=kr.1.length/\z'=kr.1.length-j/\z=((j:Int),())/\I2 n9 (kseg++((seg2++pgs gs2)++F)) ((ks++(gs2.take i).flatMap fun g=>(Ab0 g.l).1)++kr.1.take j) L') kr.1.length
   ⟨0,by omega,by omega,rfl,by simpa using hI2.more (X:=kseg) (List.Perm.refl _)⟩ ?_
  rintro z' z L3 ⟨j,hj,rfl,rfl,hI3⟩
  dsimp only
  refine B8 (fun(hlt2:(j:Int)<kv.len)=>?_) (fun(hge2: ¬(j:Int)<kv.len)=>?_)
  ·have hj':j<kr.1.length:=by omega
   refine V1 E3 (by decide) (kown.sl.mono fun y hy=>hI3.sub _ (by simp[hy])) rfl hj' fun a3 ha3=>?_
   have htk2:=W6 kr.1 hj'
   generalize kr.1[j]=p at ha3 htk2
   refine A6 p ha3 (A5 rfl (A6 (some n9) (ldB (c:=#[.map (some n9)]) (T:=249) (fz:=(0,0)) (hI3.sub _ (by simp[h10])) rfl) ?_))
   obtain⟨es,ck,J,hp3,hm3⟩:=hI3
   refine Aj9 mapK hp3 hm3 p (.bool true) fun es2 ck2 L4 hm4 hp4=>?_
   refine D9 (by omega) ⟨kr.1.length-(j+1),by omega,j+1,by omega,rfl,rfl,es2,ck2,J,hp4,?_⟩
   rw[htk2,<-List.append_assoc,A30];exact hm4
  ·obtain rfl:j=kr.1.length:=by omega
   rw[List.take_length]at hI3
   refine D9 (by omega) ⟨gs2.length-(i+1),by omega,i+1,by omega,rfl,rfl,?_⟩
   rw[htk,List.flatMap_append,List.flatMap_singleton,hkr,<-List.append_assoc]
   exact hI3.less
 ·obtain rfl:i=gs2.length:=by omega
  rw[List.take_length,<-hko]at hI2
  exact .of ⟨rfl,hI2.less⟩
def Q9(l:List LE)(k:ByteArray):Option It:=(l.reverse.find? fun x=>decide (x.1=k)).map Prod.snd
theorem Bo5(l:List LE)(x:LE)(k:ByteArray):Q9 (l++[x]) k=if k=x.1 then some x.2 else Q9 l k:=by
 unfold Q9
 rw[List.reverse_append,List.reverse_singleton,List.singleton_append]
 by_cases h:k=x.1
 ·rw[if_pos h,List.find?_cons_of_pos (by simp[h])];rfl
 ·rw[if_neg h,List.find?_cons_of_neg (by simpa using fun e=>h e.symm)]
theorem Bg2(l:List LE)(k:ByteArray):Aw4 (Bo6 l) k=(Q9 l k).map plV/\((Bo6 l).map Prod.fst).Nodup:=by
 obtain⟨r,rfl⟩: ∃r,l=r.reverse:=⟨l.reverse,by simp⟩
 induction r with
 |nil=>exact⟨rfl,List.nodup_nil⟩
 |cons x r ih=>
  rw[List.reverse_cons,A29,Bo5]
  refine⟨?_,(Bf6 _ _ _ ih.2).1⟩
  rw[Aw3,ih.1]
  split<;>rfl
theorem Cc8(l:List It)(p:It):Aw4 (B17 l) p=if p∈l then some (.bool true)else none:=by
 obtain⟨r,rfl⟩: ∃r,l=r.reverse:=⟨l.reverse,by simp⟩
 induction r with
 |nil=>rfl
 |cons x r ih=>
  rw[List.reverse_cons,A30,Aw3,ih]
  by_cases h:p=x
  ·simp[h]
  ·simp[h]
theorem A28{l:List LE}{x:LE}(h:x∈l): ∃p,Q9 l x.1=some p:=by
 unfold Q9
 cases hf:l.reverse.find? fun y=>decide (y.1=x.1)with
 |some y=>exact⟨y.2,rfl⟩
 |none=>
  rw[List.find?_eq_none]at hf
  exact(hf x (by simpa using h) (by simp)).elim
def liveR(l:List LE)(ks:List It):List LE:=l.filter fun x=>decide (Q9 l x.1=some x.2/\x.2∉ks)
def Bz9(kind:Int)(l:List HD):List (HD×It):=l.flatMap fun h=>(h.2.2.filter fun x=>decide (x.1=kind)).map fun x=>(h,x)
def Cv7(d:Dev)(l:List HD):List LE:=(Bz9 2 l).filterMap (Z6 d)
def allK(d:Dev)(l:List HD):List It:=(Bz9 3 l).flatMap (Ae9 d)
def S3(d:Dev):List LE:=liveR (Cv7 d (J7 d)) (allK d (J7 d))
def A74(l:List HD):Int:=l.foldl (fun a h=>S7 a h.2.1) 0
theorem Bm3(kind:Int)(hs:List HE):(Bb3 kind hs).map C04=Bz9 kind (hs.map HE.dat):=by
 unfold Bb3 Bz9 Bb2
 rw[List.map_flatMap,List.flatMap_map]
 congr 1
 funext h
 rw[List.map_map]
 rfl
theorem Cc0(l:List HD)(h:HD):A74 (l++[h])=S7 (A74 l) h.2.1:=by simp[A74]
theorem eqPlc{L:A4}(x y:It){k:ShV (.lf .bool)->HP}(hk:k (decide (x=y)) L):
  smP PP (binOp .eql Az4 (.agg #[.i x.1,.i x.2.1,.i x.2.2.1]) (.agg #[.i y.1,.i y.2.1,.i y.2.2.1])) (.lf .bool) k L:=
 C01 (r:=decide (x=y)) Cw7 (Cg7 x y) hk
theorem Bn7: ∀(l:List It) (a:Int),(∀x∈l,a<=x.2.1/\x.2.1<=255)->l.Pairwise (fun x y=>x.2.1<y.2.1)->a<=256->(l.length:Int)<=256-a
 |[],a,_,_,ha=>by simp;omega
 |x::r,a,h,hp,ha=>by
  rw[List.pairwise_cons]at hp
  have h1:=h x (by simp)
  have h2:=Bn7 r (x.2.1+1) (fun y hy=>⟨by have:=hp.1 y hy;omega,(h y (by simp[hy])).2⟩) hp.2 (by omega)
  simp only[List.length_cons]
  omega
structure Fnd(d:Dev)(lv:SlV)(hs:List HE)(hseg:A4)(vv:SlV)(vseg:A4):Prop where
 own:Own lv 3 eHl (hs.flatMap HE.enc) hseg
 ok: ∀h∈hs,h.Ok
 dat:hs.map HE.dat=J7 d
 vown:Own vv 4 eLv ((S3 d).flatMap LE.enc) vseg
def FndK(d:Dev)(A:A4)(r:Value)(L':A4):Prop:= ∃(lv:SlV) (hs:List HE) (hseg:A4) (vv:SlV) (vseg:A4),
 r= .tuple #[.agg #[.slice lv.a lv.len lv.cap,.slice vv.a vv.len vv.cap,.i (A74 (J7 d))],.i 0]/\L'=hseg++(S8 hs++(vseg++A))/\Fnd d lv hs hseg vv vseg
theorem B85(m:Nat)(d:Dev)(A:A4)(h:FH m d A)(hdn:d.down=true):CallF PP 95 #[.pointer (some ⟨m,0,none⟩)] A fun r L'=>r= .tuple #[.agg #[.slice none 0 0,.slice none 0 0,.i 0],.i 11]/\L'=A:=by
 refine c95 (some ⟨m,0,none⟩) ?_
 unfold s95
 refine C4 fun n1 _=>A6 (some ⟨m,0,none⟩) (ldB List.mem_cons_self rfl) (ifF rfl (A6 (some ⟨m,0,none⟩) (ldB List.mem_cons_self rfl) ?_))
 refine G2 (R:=[(n1,Obj.cells #[.pointer (some ⟨m,0,none⟩)] 29)]) (Bp9 m d A h) (pc fun z=>by simp only[B6,C5,D8];omega) ?_
 rintro _ A' ⟨rfl,hA'⟩
 rw[hA']
 refine⟨_,List.Perm.refl _,(d.down,()),rfl,ifT hdn ?_⟩
 exact .drop (A:=A) (J:=[(n1,Obj.cells #[.pointer (some ⟨m,0,none⟩)] 29)]) ⟨rfl,rfl⟩ (pc fun z=>by simp only[B6,C5,D8])
theorem Bv4{d:Dev}{x:HD}(h:x∈J7 d): ∃b:Nat,b<d.c.B/\Bk7 d b=some x:=Ar6 ((O2 epK _).subset h)
theorem Ce7{d:Dev}{hs:List HE}(hdat:hs.map HE.dat=J7 d){h:HE}(hm:h∈hs):(∃b:Nat,h.b=b/\b<d.c.B)/\(0<=h.ep/\h.ep<=1073741824)/\(∀y∈h.l,Aq4 y)/\h.l.Pairwise (fun a b=>a.2.1<b.2.1)/\h.l.length<=255:=by
 have h1:h.dat∈J7 d:=by rw[<-hdat];exact List.mem_map_of_mem hm
 obtain⟨b,hb,h2⟩:=Bv4 h1
 obtain⟨e1,e2,e3,e4⟩:=Au4 h2
 refine⟨⟨b,e1,hb⟩,e2,e3,e4,?_⟩
 have:=Bn7 h.l 1 (fun y hy=>⟨(e3 y hy).1,(e3 y hy).2.1⟩) e4 (by omega)
 omega
theorem Cn0(kind:Int)(hs:List HE)(h: ∀x∈hs,x.l.length<=255):(Bb3 kind hs).length<=hs.length*255:=by
 induction hs with
 |nil=>simp[Bb3]
 |cons a r ih=>
  have h1:=ih fun x hx=>h x (by simp[hx])
  have h2:=h a (by simp)
  have h3:(Bb2 kind a a.l).length<=a.l.length:=by unfold Bb2;rw[List.length_map];exact List.length_filter_le _ _
  unfold Bb3 at h1⊢
  rw[List.flatMap_cons,List.length_append,List.length_cons]
  omega
def B43(all:List LE)(ks:List It)(i:Nat)(k:ByteArray):Option Value:=
 if(∃x∈all.take i,x.1=k)/\(∃p,Q9 all k=some p/\p∈ks)then none else(Q9 all k).map plV
theorem gone_0(all:List LE)(ks:List It)(k:ByteArray):B43 all ks 0 k=(Q9 all k).map plV:=by
 unfold B43
 rw[if_neg]
 rintro⟨⟨x,hx,-⟩,-⟩
 simp at hx
theorem Cs8{all:List LE}{ks:List It}{i:Nat}(hi:i<all.length): ∃p,Q9 all all[i].1=some p/\(B43 all ks i all[i].1=none/\p∈ks\/B43 all ks i all[i].1=some (plV p)):=by
 obtain⟨p,hp⟩:=A28 (List.getElem_mem hi)
 refine⟨p,hp,?_⟩
 unfold B43
 split
 ·rename_i hc
  obtain⟨-,p',hp',hk⟩:=hc
  rw[hp]at hp'
  obtain rfl:=Option.some.inj hp'
  exact .inl ⟨rfl,hk⟩
 ·rw[hp];exact .inr rfl
theorem Cf1{all:List LE}{ks:List It}{i:Nat}(hi:i<all.length){p:It}(hp:Q9 all all[i].1=some p)(k:ByteArray):
  B43 all ks (i+1) k=if k=all[i].1/\p∈ks then none else B43 all ks i k:=by
 have htk:=W6 all hi
 generalize all[i]=x at hp htk
 unfold B43
 rw[htk]
 by_cases h1:k=x.1
 ·subst h1
  by_cases h2:p∈ks
  ·rw[if_pos ⟨⟨x,by simp,rfl⟩,p,hp,h2⟩,if_pos ⟨rfl,h2⟩]
  ·have hno: ¬ ∃p',Q9 all x.1=some p'/\p'∈ks:=by
    rintro⟨p',h3,h4⟩
    rw[hp]at h3
    obtain rfl:=Option.some.inj h3
    exact h2 h4
   rw[if_neg (fun h=>hno h.2),if_neg (fun h=>h2 h.2),if_neg (fun h=>hno h.2)]
 ·rw[if_neg (show¬(k=x.1/\p∈ks)from fun h=>h1 h.1)]
  have:(∃y∈all.take i++[x],y.1=k)↔ ∃y∈all.take i,y.1=k:=by
   constructor
   ·rintro⟨y,hy,he⟩
    rcases List.mem_append.1 hy with hy|hy
    ·exact⟨y,hy,he⟩
    ·rw[List.mem_singleton.1 hy]at he;exact absurd he.symm h1
   ·rintro⟨y,hy,he⟩
    exact⟨y,by simp[hy],he⟩
  by_cases hc:(∃y∈all.take i,y.1=k)/\ ∃p,Q9 all k=some p/\p∈ks
  ·rw[if_pos ⟨this.2 hc.1,hc.2⟩,if_pos hc]
  ·rw[if_neg (fun h=>hc ⟨this.1 h.1,h.2⟩),if_neg hc]
theorem Cs9{all:List LE}{ks:List It}{x:LE}(hx:x∈all){p:It}(hp:Q9 all x.1=some p):B43 all ks all.length x.1=if p∈ks then none else some (plV p):=by
 unfold B43
 rw[List.take_length]
 by_cases h:p∈ks
 ·rw[if_pos ⟨⟨x,hx,rfl⟩,p,hp,h⟩,if_pos h]
 ·rw[if_neg,if_neg h,hp]
  ·rfl
  ·rintro⟨-,p',h3,h4⟩
   rw[hp]at h3
   obtain rfl:=Option.some.inj h3
   exact h h4
theorem filt1{α:Type}(p:α->Bool)(x:α):[x].filter p=if p x=true then[x]else[]:=by cases h:p x<;>simp[h]
theorem Cn7(m:Nat)(d:Dev)(A:A4)(h:FH m d A)(ok:Q2 d)(hdn:d.down=false):CallF PP 95 #[.pointer (some ⟨m,0,none⟩)] A (FndK d A):=by
 refine c95 (some ⟨m,0,none⟩) ?_
 unfold s95
 have hB:=ok.c.b
 refine C4 fun n1 _=>?_
 obtain⟨c1,hc1⟩: ∃c1:Nat×Obj,c1=(n1,Obj.cells #[.pointer (some ⟨m,0,none⟩)] 29):=⟨_,rfl⟩
 rw[<-hc1]
 have l1: ∀L:A4,c1∈L->D0 ⟨n1,0,none⟩ [.pointer (some ⟨m,0,none⟩)] L:=fun L hm=>ldB (by rw[hc1]at hm;exact hm) rfl
 refine A6 (some ⟨m,0,none⟩) (l1 _ List.mem_cons_self) (ifF rfl (A6 (some ⟨m,0,none⟩) (l1 _ List.mem_cons_self) ?_))
 refine G2 (R:=[c1]) (Bp9 m d A h) (pc fun z=>by simp only[B6,C5,D8];omega) ?_
 rintro _ A' ⟨rfl,hA'⟩
 rw[hA']
 refine⟨_,List.Perm.refl _,(d.down,()),rfl,ifF hdn (A6 (some ⟨m,0,none⟩) (l1 _ (by simp)) ?_)⟩
 refine G2 (C94 m d A h ok hdn) (List.Perm.refl _) ?_
 rintro _ _ ⟨lv,hs,hseg,pv,bs,pseg,rfl,rfl,H⟩
 refine⟨_,List.Perm.refl _,(lv,pv,0,()),rfl,C4 fun n3 _=>?_⟩
 obtain⟨own,hok,hdat,pown,pok,pdat⟩:=H
 refine Bz1 (n:=n3) (off:=0) (c:=#[.slice none 0 0]) (T:=243) (fz:=(0,0)) (Y:=c1::(hseg++(S8 hs++(pseg++(Ac8 bs++A))))) (pc fun z=>by simp only[B6,C5,D8];omega) rfl (by simp) (.inl (Nat.le_refl _)) #[.slice pv.a pv.len pv.cap] rfl fun L1 hp1=>?_
 refine ifT rfl ?_
 have hvl:=own.sl.els_len HE.enc_len (by decide)
 have hhl:hs.length<=16:=by
  have h1:=congrArg List.length hdat
  rw[List.length_map]at h1
  have h2:=(O2 epK (Az9 d d.c.B)).length_eq
  have h3:=Ar7 d d.c.B
  unfold J7 at h1
  omega
 obtain⟨F0,hF0⟩: ∃F0:A4,F0=(n3,Obj.cells #[.slice pv.a pv.len pv.cap] 243)::(c1::(hseg++(S8 hs++(pseg++(Ac8 bs++A))))):=⟨_,rfl⟩
 have hp1':L1.Perm F0:=by rw[hF0];exact hp1
 have f3:(n3,Obj.cells #[.slice pv.a pv.len pv.cap] 243)∈F0:=by rw[hF0];simp
 have f1:c1∈F0:=by rw[hF0];simp
 have fh: ∀x∈hseg,x∈F0:=fun x hx=>by rw[hF0];simp[hx]
 have fhs: ∀x∈S8 hs,x∈F0:=fun x hx=>by rw[hF0];simp[hx]
 have fp: ∀x∈pseg,x∈F0:=fun x hx=>by rw[hF0];simp[hx]
 have fb: ∀x∈Ac8 bs,x∈F0:=fun x hx=>by rw[hF0];simp[hx]
 have slF: ∀L:A4,(∀x∈F0,x∈L)->Sl L lv 3 (hs.flatMap HE.enc)/\ ∀h∈hs,Sl L h.v 3 (h.l.flatMap O4):=fun L hL=>
  ⟨own.sl.mono fun x hx=>hL x (fh x hx),fun h hh=>Sl.mono (Own.sl (hok h hh)) fun x hx=>hL x (fhs x (List.mem_flatMap.2 ⟨h,hh,hx⟩))⟩
 refine G3 (fun z' z L'=> ∃i:Nat,i<=hs.length/\z'=hs.length-i/\z=((i:Int),A74 ((hs.take i).map HE.dat),())/\L'=L1) hs.length ⟨0,by omega,by omega,rfl,rfl⟩ ?_
 rintro z' z L' ⟨i,hi,rfl,rfl,hL'⟩
 rw[hL']
 dsimp only
 refine B8 (fun(hlt:(i:Int)<lv.len)=>?_) (fun(hge: ¬(i:Int)<lv.len)=>?_)
 ·have hi':i<hs.length:=by omega
  refine V1 HE.enc_len (by decide) (slF _ fun x hx=>hp1'.symm.subset hx).1 rfl hi' fun a ha=>?_
  have htk:=W6 hs hi'
  generalize hs[i]=x at ha htk
  refine A6 (x.b,x.ep,x.v,()) ha (D9 (by omega) ⟨hs.length-(i+1),by omega,i+1,by omega,rfl,?_,rfl⟩)
  rw[htk,List.map_append,List.map_singleton,Cc0];rfl
 obtain rfl:i=hs.length:=by omega
 have hme:A74 ((hs.take hs.length).map HE.dat)=A74 (J7 d):=by rw[List.take_length,hdat]
 rw[hme]
 clear hge hi hme
 refine C4 fun n6 _=>C4 fun n7 _=>C4 fun n8 _=>?_
 refine Bz1 (n:=n8) (off:=0) (c:=#[.map none]) (T:=246) (fz:=(0,0)) (Y:=(n7,Obj.map #[] 0)::((n6,Obj.cells #[.slice none 0 0] 144)::L1)) (pc fun z=>by simp only[B6,C5,D8]) rfl (by simp) (.inl (Nat.le_refl _)) #[.map (some n7)] rfl fun L2 hp2=>?_
 obtain⟨F1,hF1⟩: ∃F1:A4,F1=(n8,Obj.cells #[.map (some n7)] 246)::F0:=⟨_,rfl⟩
 have i10:I1 n6 n7 F1 [] L2:=⟨⟨none,0,0⟩,[],#[],0,[],pc fun z=>by have:=pcn hp2 z;have:=pcn hp1' z;rw[hF1];simp only[B6,C5,D8]at*;omega,F6,rfl⟩
 have f8:(n8,Obj.cells #[.map (some n7)] 246)∈F1:=by rw[hF1];exact List.mem_cons_self
 have f01: ∀x∈F0,x∈F1:=fun x hx=>by rw[hF1];exact List.mem_cons_of_mem _ hx
 have hbig:=fun kind=>Cn0 kind hs fun x hx=>(Ce7 hdat hx).2.2.2.2
 have hFA:F1.Perm (A++((n8,Obj.cells #[.map (some n7)] 246)::((n3,Obj.cells #[.slice pv.a pv.len pv.cap] 243)::(c1::(hseg++(S8 hs++(pseg++Ac8 bs))))))):=pc fun z=>by rw[hF1,hF0];simp only[B6,C5,D8];omega
 refine R4 (Ch0 lv hs 2 ⟨.func 167,#[],#[.pointer (some ⟨n1,0,none⟩),.pointer (some ⟨n6,0,none⟩),.pointer (some ⟨n8,0,none⟩)]⟩ (fun done L=>I1 n6 n7 F1 ((done.map C04).filterMap (Z6 d)) L) (by omega) (fun x hx=>by have:=(Ce7 hdat hx).2.2.2.2;omega)
  (fun done L hI=>slF L fun x hx=>hI.sub x (f01 x hx)) ?_ (L:=L2) i10) ?_
 ·intro done rest he x L k hsel hI hk
  have hq:=Bs6 (kind:=2) (hs:=hs) (q:=(he,x)) (by rw[hsel];simp)
  have hdl:done.length<=16*255:=by
   have h1:=congrArg List.length hsel
   rw[List.length_append,List.length_cons]at h1
   have h2:=hbig 2
   have h3:=Nat.mul_le_mul_right 255 hhl
   omega
  refine Y4 (by kernel_rfl) (R4 (Cn9 m d A h ok n1 n6 n7 n8 29 _ F1 hFA (by rw[<-hc1];exact f01 _ f1) f8 _ ?_ he x ((Ce7 hdat hq.1).2.2.1 x hq.2.1) L hI) ?_)
  ·have:=List.length_filterMap_le (Z6 d) (done.map C04)
   rw[List.length_map]at this
   omega
  ·rintro _ L'-⟨rfl,hI'⟩
   refine⟨(),rfl,hk L' ?_⟩
   rw[List.map_append,List.filterMap_append]
   have e:([(he,x)].map C04).filterMap (Z6 d)=(Z6 d (he.dat,x)).toList:=by
    simp only[List.map_cons,List.map_nil,C04,List.filterMap_cons,List.filterMap_nil]
    cases Z6 d (he.dat,x)<;>rfl
   rw[e];exact hI'
 rintro _ L3-⟨rfl,hI3⟩
 rw[Bm3,hdat]at hI3
 have hall:(Bz9 2 (J7 d)).filterMap (Z6 d)=Cv7 d (J7 d):=rfl
 rw[hall]at hI3
 have hal:(Cv7 d (J7 d)).length<=16*255:=by
  have h1:=List.length_filterMap_le (Z6 d) (Bz9 2 (J7 d))
  have h2:=congrArg List.length (Bm3 2 hs)
  rw[List.length_map,hdat]at h2
  have h3:=hbig 2
  have h4:=Nat.mul_le_mul_right 255 hhl
  unfold Cv7
  omega
 generalize hallE:Cv7 d (J7 d)=all at*
 obtain⟨av,aseg,es,ck,J,hp3,aown,hm3⟩:=hI3
 refine⟨(),rfl,C4 fun n9 _=>C4 fun n10 _=>?_⟩
 refine Bz1 (n:=n10) (off:=0) (c:=#[.map none]) (T:=249) (fz:=(0,0)) (Y:=(n9,Obj.map #[] 0)::L3) (List.Perm.refl _) rfl (by simp) (.inl (Nat.le_refl _)) #[.map (some n9)] rfl fun L4 hp4=>?_
 obtain⟨F2,hF2⟩: ∃F2:A4,F2=(n10,Obj.cells #[.map (some n9)] 249)::((n6,Obj.cells #[.slice av.a av.len av.cap] 144)::((n7,Obj.map es ck)::(aseg++(J++F1)))):=⟨_,rfl⟩
 have i20:I2 n9 F2 [] L4:=⟨#[],0,[],pc fun z=>by have:=pcn hp3 z;have:=pcn hp4 z;rw[hF2];simp only[B6,C5,D8]at*;omega,rfl⟩
 have f12: ∀x∈F1,x∈F2:=fun x hx=>by rw[hF2];simp[hx]
 have f02: ∀x∈F0,x∈F2:=fun x hx=>f12 x (f01 x hx)
 have f10:(n10,Obj.cells #[.map (some n9)] 249)∈F2:=by rw[hF2];exact List.mem_cons_self
 refine R4 (Ch0 lv hs 3 ⟨.func 168,#[],#[.pointer (some ⟨n3,0,none⟩),.pointer (some ⟨n10,0,none⟩)]⟩ (fun done L=>I2 n9 F2 ((done.map C04).flatMap (Ae9 d)) L) (by omega) (fun x hx=>by have:=(Ce7 hdat hx).2.2.2.2;omega)
  (fun done L hI=>slF L fun x hx=>hI.sub x (f02 x hx)) ?_ (L:=L4) i20) ?_
 ·intro done rest he x L k hsel hI hk
  have hq:=Bs6 (kind:=3) (hs:=hs) (q:=(he,x)) (by rw[hsel];simp)
  obtain⟨⟨b,hb,hbB⟩,-,hir,-⟩:=Ce7 hdat hq.1
  refine Y4 (by kernel_rfl) (R4 (Cn8 d n3 n9 n10 F2 pseg pv bs pown pok pdat (fun y hy=>f02 y (fp y hy)) (fun y hy=>f02 y (fb y hy)) (f02 _ f3) f10 _ he b hb hbB x (hir x hq.2.1) L hI) ?_)
  rintro _ L'-⟨rfl,hI'⟩
  refine⟨(),rfl,hk L' ?_⟩
  rw[List.map_append,List.flatMap_append]
  have e:([(he,x)].map C04).flatMap (Ae9 d)=Ae9 d (he.dat,x):=by simp[C04]
  rw[e];exact hI'
 rintro _ L5-⟨rfl,hI5⟩
 rw[Bm3,hdat]at hI5
 have hkk:(Bz9 3 (J7 d)).flatMap (Ae9 d)=allK d (J7 d):=rfl
 rw[hkk]at hI5
 generalize hksE:allK d (J7 d)=ks at*
 refine⟨(),rfl,?_⟩
 obtain⟨es9,ck9,J9,hp5,hm9⟩:=hI5
 obtain⟨G,hG⟩: ∃G:A4,G=(n9,Obj.map es9 ck9)::((n10,Obj.cells #[.map (some n9)] 249)::((n6,Obj.cells #[.slice av.a av.len av.cap] 144)::(aseg++(J++(J9++F1))))):=⟨_,rfl⟩
 have hp6:L5.Perm ((n7,Obj.map es ck)::G):=pc fun z=>by have:=pcn hp5 z;rw[hG];rw[hF2]at this;simp only[B6,C5,D8]at*;omega
 have g9:(n9,Obj.map es9 ck9)∈G:=by rw[hG];simp
 have g10:(n10,Obj.cells #[.map (some n9)] 249)∈G:=by rw[hG];simp
 have g6:(n6,Obj.cells #[.slice av.a av.len av.cap] 144)∈G:=by rw[hG];simp
 have g8:(n8,Obj.cells #[.map (some n7)] 246)∈G:=by rw[hG];simp[f8]
 have ga: ∀x∈aseg,x∈G:=fun x hx=>by rw[hG];simp[hx]
 have havl:=aown.sl.els_len LE.enc_len (by decide)
 have kil: ∀p:It,(Aw4 (B17 ks) p).getD (.bool false)= .bool (decide (p∈ks)):=fun p=>by
  rw[Cc8]
  by_cases hk:p∈ks
  ·simp[hk]
  ·simp[hk]
 refine A6 av (ldB (c:=#[.slice av.a av.len av.cap]) (T:=144) (fz:=(0,0)) (hp6.symm.subset (by simp[g6])) rfl) ?_
 refine G3 (fun z' z L'=> ∃(i:Nat) (es7:Array MapEntry) (ck7:Nat) (mm:List (ByteArray×Value)),i<=all.length/\z'=all.length-i/\z=((i:Int),())/\L'.Perm ((n7,Obj.map es7 ck7)::G)/\Mp Value.string es7 mm/\(mm.map Prod.fst).Nodup/\ ∀k,Aw4 mm k=B43 all ks i k) all.length
  ⟨0,es,ck,Bo6 all,by omega,by omega,rfl,hp6,hm3,(Bg2 all ⟨#[]⟩).2,fun k=>by rw[gone_0];exact(Bg2 all k).1⟩ ?_
 rintro z' z L6 ⟨i,es7,ck7,mm,hi,rfl,rfl,hp7,hm7,hnd,hgo⟩
 dsimp only
 have hsub: ∀x∈G,x∈L6:=fun x hx=>hp7.symm.subset (List.mem_cons_of_mem _ hx)
 have h7:(n7,Obj.map es7 ck7)∈L6:=hp7.symm.subset List.mem_cons_self
 refine B8 (fun(hlt:(i:Int)<av.len)=>?_) (fun(hge: ¬(i:Int)<av.len)=>?_)
 ·have hi':i<all.length:=by omega
  refine V1 LE.enc_len (by decide) (aown.sl.mono fun x hx=>hsub x (ga x hx)) rfl hi' fun a2 ha2=>?_
  obtain⟨p,hlo,hcur⟩:=Cs8 (ks:=ks) hi'
  have hgs:=fun k=>Cf1 (ks:=ks) hi' hlo k
  generalize all[i]=x at ha2 hlo hcur hgs
  refine A6 x ha2 (A6 (some n9) (ldB (c:=#[.map (some n9)]) (T:=249) (fz:=(0,0)) (hsub _ g10) rfl) (A6 (some n7) (ldB (c:=#[.map (some n7)]) (T:=246) (fz:=(0,0)) (hsub _ g8) rfl) ?_))
  obtain⟨cur,hcv,hck⟩: ∃cur:It,(Aw4 mm x.1).getD (plV (0,0,0,()))=plV cur/\(p∈ks/\B43 all ks i x.1=none\/cur=p):=by
   rw[hgo]
   rcases hcur with⟨h1,h2⟩|h1
   ·exact⟨(0,0,0,()),by rw[h1];rfl,.inl ⟨h2,h1⟩⟩
   ·exact⟨p,by rw[h1];rfl,.inr rfl⟩
  have lk:=Al0 (P:=PP) mapL h7 hm7 x.1
  rw[hcv]at lk
  refine⟨(cur,()),lk,?_⟩
  have lk2:=Al0 (P:=PP) mapK (hsub _ g9) hm9 cur
  rw[kil]at lk2
  refine⟨(decide (cur∈ks),()),lk2,B8 (fun(hk:cur∈ks)=>?_) (fun(hk:cur∉ks)=>?_)⟩
  ·have hpk:p∈ks:=by
    rcases hck with h1|rfl
    ·exact h1.1
    ·exact hk
   refine A6 (some n7) (ldB (c:=#[.map (some n7)]) (T:=246) (fz:=(0,0)) (hsub _ g8) rfl) ?_
   refine Bi9 mapL hp7 hm7 x.1 fun es8 ck8 L7 hm8 hp8=>?_
   refine D9 (by omega) ⟨all.length-(i+1),by omega,i+1,es8,ck8,Bb5 mm x.1,by omega,rfl,rfl,hp8,hm8,(Bf9 _ _ hnd).1,fun k=>?_⟩
   rw[Bf7 _ _ _ hnd,hgs,hgo]
   by_cases he:k=x.1
   ·rw[if_pos he,if_pos ⟨he,hpk⟩]
   ·rw[if_neg he,if_neg fun h=>he h.1]
  ·refine D9 (by omega) ⟨all.length-(i+1),by omega,i+1,es7,ck7,mm,by omega,rfl,rfl,hp7,hm7,hnd,fun k=>?_⟩
   rw[hgs,hgo]
   by_cases he:k=x.1/\p∈ks
   ·rw[if_pos he]
    rcases hck with h1|rfl
    ·rw[he.1];exact h1.2
    ·exact absurd he.2 hk
   ·rw[if_neg he]
 ·obtain rfl:i=all.length:=by omega
  refine A6 av (ldB (c:=#[.slice av.a av.len av.cap]) (T:=144) (fz:=(0,0)) (hsub _ g6) rfl) ?_
  have hlk: ∀x∈all,∃p,Q9 all x.1=some p/\Aw4 mm x.1=if p∈ks then none else some (plV p):=fun x hx=>by
   obtain⟨p,hp⟩:=A28 hx
   exact⟨p,hp,by rw[hgo,Cs9 hx hp]⟩
  refine G3 (fun z' z L'=> ∃(i:Nat) (ov:SlV) (oseg:A4),i<=all.length/\z'=all.length-i/\z=((i:Int),ov,A74 (J7 d),())/\L'.Perm (oseg++L6)/\Own ov 4 eLv (((all.take i).filter fun x=>decide (Q9 all x.1=some x.2/\x.2∉ks)).flatMap LE.enc) oseg) all.length
   ⟨0,⟨none,0,0⟩,[],by omega,by omega,rfl,List.Perm.refl _,F6⟩ ?_
  rintro z' z L7 ⟨i,ov,oseg,hi2,rfl,rfl,hp8,oown⟩
  dsimp only
  have hsub2: ∀x∈L6,x∈L7:=fun x hx=>hp8.symm.subset (by simp[hx])
  have hol:=oown.sl.els_len LE.enc_len (by decide)
  have hol2:=List.length_filter_le (fun x:LE=>decide (Q9 all x.1=some x.2/\x.2∉ks)) (all.take i)
  rw[List.length_take]at hol2
  refine B8 (fun(hlt:(i:Int)<av.len)=>?_) (fun(hge: ¬(i:Int)<av.len)=>?_)
  ·have hi':i<all.length:=by omega
   refine V1 LE.enc_len (by decide) (aown.sl.mono fun x hx=>hsub2 _ (hsub x (ga x hx))) rfl hi' fun a3 ha3=>?_
   obtain⟨p,hlo,hmg⟩:=hlk all[i] (List.getElem_mem hi')
   have htk:=W6 all hi'
   generalize all[i]=x at ha3 hlo hmg htk
   refine A6 x ha3 (A6 (some n7) (ldB (c:=#[.map (some n7)]) (T:=246) (fz:=(0,0)) (hsub2 _ (hsub _ g8)) rfl) ?_)
   have lk:=B15 (P:=PP) mapL (hsub2 _ h7) hm7 x.1
   rw[hmg]at lk
   have hno: ¬(Q9 all x.1=some x.2/\x.2∉ks)-> ∃k',k'<all.length-i/\ ∃(i':Nat) (ov':SlV) (oseg':A4),i'<=all.length/\k'=all.length-i'/\(((i:Int)+1,ov,A74 (J7 d),()):RsV [lI,.lf .sl,lI])=((i':Int),ov',A74 (J7 d),())/\L7.Perm (oseg'++L6)/\Own ov' 4 eLv (((all.take i').filter fun x=>decide (Q9 all x.1=some x.2/\x.2∉ks)).flatMap LE.enc) oseg':=fun hh=>by
    refine⟨all.length-(i+1),by omega,i+1,ov,oseg,by omega,rfl,rfl,hp8,?_⟩
    rw[htk,List.filter_append,filt1,if_neg (by simpa using hh),List.append_nil];exact oown
   by_cases hpk:p∈ks
   ·rw[if_pos hpk]at lk
    refine⟨((0,0,0,()),false,()),lk,ifF rfl (D9 (by omega) (hno fun hh=>?_))⟩
    rw[hlo]at hh
    exact hh.2 (by rw[<-Option.some.inj hh.1];exact hpk)
   ·rw[if_neg hpk]at lk
    refine⟨(p,true,()),lk,ifT rfl (eqPlc p x.2 (B8 (fun(he:p=x.2)=>?_) (fun(he: ¬p=x.2)=>?_)))⟩
    ·have hyes:Q9 all x.1=some x.2/\x.2∉ks:=⟨by rw[hlo,he],by rw[<-he];exact hpk⟩
     refine Ai7 C02 srcLv oown hp8 (ws:=LE.enc x) rfl rfl (by omega) fun ov2 oseg2 hol3 oown2=>?_
     refine D9 (by omega) ⟨all.length-(i+1),by omega,i+1,ov2,oseg2,by omega,rfl,rfl,List.Perm.refl _,?_⟩
     rw[htk,List.filter_append,filt1,if_pos (by simpa using hyes),List.flatMap_append,List.flatMap_singleton];exact oown2
    ·refine D9 (by omega) (hno fun hh=>he ?_)
     rw[hlo]at hh
     exact Option.some.inj hh.1
  ·obtain rfl:i=all.length:=by omega
   rw[List.take_length]at oown
   refine .drop (A:=hseg++(S8 hs++(oseg++A))) (J:=(n7,Obj.map es7 ck7)::((n9,Obj.map es9 ck9)::((n10,Obj.cells #[.map (some n9)] 249)::((n6,Obj.cells #[.slice av.a av.len av.cap] 144)::(aseg++(J++(J9++((n8,Obj.cells #[.map (some n7)] 246)::((n3,Obj.cells #[.slice pv.a pv.len pv.cap] 243)::(c1::(pseg++Ac8 bs)))))))))))
    ⟨lv,hs,hseg,ov,oseg,rfl,rfl,own,hok,hdat,?_⟩ (pc fun z=>?_)
   ·unfold S3 liveR
    rw[hallE,hksE];exact oown
   ·have e1:=pcn hp8 z
    have e2:=pcn hp7 z
    rw[hG,hF1,hF0]at e2
    simp only[B6,C5,D8]at*
    omega
structure C9 where
 part:Int
 b:Int
 p:Int
 e:Int
 freq:Int
abbrev Ao5:=Int×Int×Int×Int
def C9.nm(s:C9):Ao5:=(s.part,s.b,s.p,s.e)
def Aj2(s:C9):List Value:=[.i s.part,.i s.b,.i s.p,.i s.e,.i s.freq]
theorem K0(s:C9):(Aj2 s).length=5:=rfl
theorem A32(l:List C9):(l.flatMap Aj2).all S0=true:=by
 induction l with
 |nil=>rfl
 |cons e r ih=>rw[List.flatMap_cons,List.all_append,ih];rfl
def isz:C9:=⟨0,0,0,0,0⟩
abbrev tyIs:TypeId:=216
abbrev eIs:TypeId:=204
abbrev tyIr:TypeId:=219
theorem Cg8:U3 PP tyIs eIs 5 40 [.i 0,.i 0,.i 0,.i 0,.i 0]:=M5 (by kernel_rfl) (by kernel_rfl) rfl (by decide) (by decide)
theorem srcIs:Ar0 PP tyIs:=.inl ⟨eIs,by kernel_rfl⟩
theorem undNm:A03 PP 202=true:=by kernel_rfl
theorem eqNm{L:A4}(a b c d a' b' c' d':Int){k:ShV (.lf .bool)->HP}(hk:k (decide ((a,b,c,d)=(a',b',c',d'))) L):
  smP PP (binOp .eql 202 (.agg #[.i a,.i b,.i c,.i d]) (.agg #[.i a',.i b',.i c',.i d'])) (.lf .bool) k L:=by
 refine C01 (r:=(a==a'&&((b==b'&&(c==c'&&(d==d'&&true)))&&true))) undNm (by kernel_rfl) ?_
 have e:decide ((a,b,c,d)=(a',b',c',d'))=(a==a'&&((b==b'&&(c==c'&&(d==d'&&true)))&&true)):=by
  rw[Bool.eq_iff_iff];simp
 rw[e]at hk;exact hk
def S4(h:Nat):Int:=((h/2^48:Nat):Int)
theorem C85(L:A4)(h k:Nat)(hh:h<2^64)(h1:1<=k)(h2:k<=1000):Reads PP 194 #[.int .u64 h,.i k] L (.i ((h%k:Nat):Int)):=by
 refine Reads.of (args:=[.int .u64 h,.i k]) B4 B5 Tryz.func194 (e194 h k _) ?_
 unfold t194
 have hm:=Nat.mod_lt h (show k>0 by omega)
 have hw:IntKind.u64.wrap (k:Int)=k:=C16 (by omega) (by omega)
 refine ifN (show¬(k:Int)<1 by omega) (Aa7 (by rw[hw];omega) (.of ⟨?_,rfl⟩))
 rw[hw,<-Int.ofNat_tmod,C1 (by omega) (by omega)]
theorem Bu8(L:A4)(h:Nat)(hh:h<2^64):Reads PP 180 #[.int .u64 h] L (.i (S4 h)):=by
 refine Reads.of (args:=[.int .u64 h]) B4 B5 Tryz.func180 (e180 h _) ?_
 unfold t180
 refine Aa7 (by decide) (.of ⟨?_,rfl⟩)
 have e:Int.fdiv (h:Int) (2^(min (48:Int).toNat IntKind.u64.bits))=((h/2^48:Nat):Int):=by
  rw[show(2:Int)^(min (48:Int).toNat IntKind.u64.bits)=((2^48:Nat):Int)from rfl,Int.fdiv_eq_ediv_of_nonneg _ (by omega)]
  rfl
 rw[e,C1 (by omega) (by omega)]
 rfl
abbrev Pl:=Int×Int×Int×Unit
def inm(h:Nat)(p:Pl):Ao5:=(S4 h,p.1,p.2.1,p.2.2.1)
theorem Bh0(L:A4)(h:Nat)(hh:h<2^64)(p:Pl):Reads PP 184 #[.int .u64 h,.agg #[.i p.1,.i p.2.1,.i p.2.2.1]] L (.agg #[.i (S4 h),.i p.1,.i p.2.1,.i p.2.2.1]):=by
 refine Reads.of (args:=[.int .u64 h,.agg #[.i p.1,.i p.2.1,.i p.2.2.1]]) B4 B5 Tryz.func184 (e184 h p _) ?_
 unfold t184
 refine C4 fun n1 _=>C4 fun n2 _=>A6 p (ldB (n:=n1) (c:=#[.i p.1,.i p.2.1,.i p.2.2.1]) (T:=102) (fz:=(0,0)) (by simp) rfl) ?_
 refine B7 (Bu8 _ h hh) (S4 h,()) rfl (E5 (ldB (n:=n1) (c:=#[.i p.1,.i p.2.1,.i p.2.2.1]) (T:=102) (fz:=(0,0)) (by simp) rfl) ?_)
 refine E0 [] _ rfl rfl (by simp) (.inl (Nat.le_refl _)) #[.i (S4 h),.i p.1,.i p.2.1,.i p.2.2.1] rfl ?_
 exact A6 (S4 h,p) (ldB List.mem_cons_self rfl) (.cons (.cons (.of ⟨rfl,rfl⟩)))
theorem Cl5(L:A4)(s:C9)(ad:Addr)(nm:Ao5)(hl:D0 ad [.i nm.1,.i nm.2.1,.i nm.2.2.1,.i nm.2.2.2] L):
  Reads PP 232 #[.agg #[.i s.part,.i s.b,.i s.p,.i s.e,.i s.freq],.pointer (some ad)] L (.bool (decide (s.nm=nm))):=by
 refine Reads.of (args:=[.agg #[.i s.part,.i s.b,.i s.p,.i s.e,.i s.freq],.pointer (some ad)]) B4 B5 Tryz.func232 (e232 (s.part,s.b,s.p,s.e,s.freq,()) (some ad) _) ?_
 unfold t232
 refine C4 fun n1 _=>A6 (s.part,s.b,s.p,s.e,()) (ldB List.mem_cons_self rfl) (A5 rfl (A6 (nm.1,nm.2.1,nm.2.2.1,nm.2.2.2,()) (hl.mono fun _ hx=>List.mem_cons_of_mem _ hx) (eqNm _ _ _ _ _ _ _ _ (.cons (.of ⟨rfl,rfl⟩)))))
theorem Cs2(L:A4)(v:SlV)(l:List C9)(h:Sl L v 5 (l.flatMap Aj2))(hb:l.length<=1000)(ad:Addr)(nm:Ao5)(hl:D0 ad [.i nm.1,.i nm.2.1,.i nm.2.2.1,.i nm.2.2.2] L):
  Reads PP 231 #[.slice v.a v.len v.cap,.func (.func 232) #[] #[.pointer (some ad)]] L
   (.i (match l.findIdx? (fun s=>decide (s.nm=nm))with|some i=>(i:Int)|none=> -1)):=by
 refine Reads.of (args:=[.slice v.a v.len v.cap,.func (.func 232) #[] #[.pointer (some ad)]]) B4 B5 Tryz.func231 (e231 v ⟨.func 232,#[],#[.pointer (some ad)]⟩ _) ?_
 unfold t231
 have hlen:=h.els_len K0 (by decide)
 refine G3 (fun k z L'=>L'=L/\ ∃i:Nat,i<=l.length/\k=l.length-i/\z=((i:Int),())/\ ∀s∈l.take i,s.nm≠nm) l.length ⟨rfl,0,by omega,by omega,rfl,by simp⟩ ?_
 rintro k z L' ⟨rfl,i,hi,rfl,rfl,hn⟩
 refine C0 (fun(hlt:(i:Int)<v.len)=>?_) (fun(hge: ¬(i:Int)<v.len)=>?_)
 ·have hi':i<l.length:=by omega
  obtain⟨a,ha,hld⟩:=h.el K0 (by decide) hi'
  refine A5 ha (E1 (show(0:Int)<=i by omega) hlt (A6 (l[i].part,l[i].b,l[i].p,l[i].e,l[i].freq,()) (by rw[Int.toNat_natCast];exact hld) ?_))
  refine Y4 (by kernel_rfl) (B7 (Cl5 _ l[i] ad nm hl) (decide (l[i].nm=nm),()) rfl ?_)
  refine C0 (fun(he:l[i].nm=nm)=>.of ⟨?_,rfl⟩) (fun(he: ¬l[i].nm=nm)=>?_)
  ·have:l.findIdx? (fun s=>decide (s.nm=nm))=some i:=by
    rw[List.findIdx?_eq_some_iff_getElem]
    refine⟨hi',by simpa using he,fun j hj=>?_⟩
    have:=hn l[j] (by rw[List.mem_take_iff_getElem];exact⟨j,by omega,rfl⟩)
    simpa using this
   rw[this]
  ·refine⟨l.length-(i+1),by omega,rfl,i+1,by omega,rfl,?_,fun e hx=>?_⟩
   ·rw[C1 (by first|omega|(simp only;omega)) (by first|omega|(simp only;omega))]
    rfl
   ·rw[List.take_succ_eq_append_getElem hi']at hx
    rcases List.mem_append.1 hx with hx|hx
    ·exact hn e hx
    ·rw[List.mem_singleton.1 hx];exact he
 ·obtain rfl:i=l.length:=by omega
  rw[List.take_length]at hn
  have:l.findIdx? (fun s=>decide (s.nm=nm))=none:=by
   rw[List.findIdx?_eq_none_iff]
   intro s hs
   simpa using hn s hs
  rw[this]
  exact .of ⟨rfl,rfl⟩
theorem Ce3(v:SlV)(l:List C9)(seg:A4)(own:Own v 5 eIs (l.flatMap Aj2) seg)(hb:l.length<=1000)(k:Nat)(hk:k<l.length):
  CallF PP 229 #[.slice v.a v.len v.cap,.i k,.i ((k:Int)+1)] seg fun r L'=> ∃s,r= .slice s.a s.len s.cap/\Own s 5 eIs ((l.take k++l.drop (k+1)).flatMap Aj2) L':=by
 refine CallF.of (args:=[.slice v.a v.len v.cap,.i k,.i ((k:Int)+1)]) B4 B5 Tryz.func229 (e229 v k ((k:Int)+1) _) ?_
 unfold t229
 have hlen:=own.sl.els_len K0 (by decide)
 have hcap:=own.cap
 refine K1 (l':=k) (h':=k+1) (m':=v.len) rfl rfl rfl (by omega) (by omega) hcap ?_
 refine Z7 (fun(he:(k:Int)=(k:Int)+1)=>absurd he (by omega)) (fun _=>?_)
 refine K1 (l':=0) (h':=k) (m':=v.cap) rfl rfl rfl (by omega) (by omega) (Nat.le_refl _) ?_
 refine K1 (l':=k+1) (h':=v.len) (m':=v.cap) rfl rfl rfl (by omega) hcap (Nat.le_refl _) ?_
 have own2:=own.slc (l:=0) (h:=k) (by omega) (by omega)
 have src2:=Sl.slc (m:=v.cap) own.sl (by omega) (l:=k+1) (h':=v.len) (by omega) (Nat.le_refl _) hcap
 rw[As3 K0]at own2 src2
 refine Ah1 Cg8 srcIs [] [] own2 (by simp) (.sl src2) (A32 _) (by simp only[O6,Int.toNat_natCast];omega) fun s seg' hs _ hcap' own'=>?_
 rw[<-List.flatMap_append]at own'
 have e1:(l.drop 0).take (k-0)=l.take k:=by simp
 have e2:(l.drop (k+1)).take (v.len-(k+1))=l.drop (k+1):=by rw[hlen];exact List.take_of_length_le (by rw[List.length_drop];omega)
 rw[e1,e2]at own'
 simp only[O6,Int.toNat_natCast]at hs hcap'
 have hsc:=own'.cap
 refine K1 (l':=s.len) (h':=v.len) (m':=s.cap) rfl rfl rfl (by omega) (by omega) (Nat.le_refl _) ?_
 refine Af7 Cg8 rfl [] [] own' (by simp) (h:=v.len) (by omega) (by omega) rfl fun seg2 own2=>?_
 exact .of ⟨s,rfl,by simpa using own2⟩
abbrev Bb6:=SlV×List C9×A4
def Be3(r:Bb6):List Value:=[.slice r.1.a r.1.len r.1.cap]
theorem N2(r:Bb6):(Be3 r).length=1:=rfl
def N9(rows:List Bb6):A4:=rows.flatMap fun r=>r.2.2
theorem Z3(p s:List Bb6)(r:Bb6):N9 (p++r::s)=N9 p++(r.2.2++N9 s):=by simp[N9]
def iO(m:Nat)(ways:Int)(sv:SlV):Nat×Obj:=(m,Obj.cells #[.i ways,.slice sv.a sv.len sv.cap] 221)
def IA(m:Nat)(ways:Int)(sv:SlV)(oseg:A4)(rows:List Bb6):A4:=iO m ways sv::(oseg++N9 rows)
structure IOk(sv:SlV)(oseg:A4)(rows:List Bb6):Prop where
 own:Own sv 1 tyIs (rows.flatMap Be3) oseg
 row: ∀r∈rows,Own r.1 5 eIs (r.2.1.flatMap Aj2) r.2.2
 few: ∀r∈rows,r.2.1.length<=100
 pos:1<=rows.length/\rows.length<=64
def W9(rows:List Bb6):List (List C9):=rows.map fun r=>r.2.1
def IX(m:Nat)(ways:Int)(ss:List (List C9))(A:A4):Prop:= ∃sv oseg rows,A=IA m ways sv oseg rows/\IOk sv oseg rows/\ss=W9 rows
section
variable {L:A4} {m:Nat} {ways:Int} {sv:SlV}
theorem i_ways(h:iO m ways sv∈L):D0 ⟨m,0,none⟩ [.i ways] L:=ldB (by unfold iO at h;exact h) rfl
theorem Bv2(h:iO m ways sv∈L):D0 ⟨m,1,none⟩ [.slice sv.a sv.len sv.cap] L:=ldB (by unfold iO at h;exact h) rfl
end
theorem Ag9(L:A4)(m:Nat)(ways:Int)(sv:SlV)(hm:iO m ways sv∈L)(a:Addr)(ha:sv.a=some a)(h1:1<=sv.len)(h2:sv.len<=1000)(h:Nat)(hh:h<2^64):
  Reads PP 137 #[.pointer (some ⟨m,0,none⟩),.int .u64 h] L (.pointer (some (a.add (h%sv.len)))):=by
 refine Reads.of (args:=[.pointer (some ⟨m,0,none⟩),.int .u64 h]) B4 B5 Tryz.func137 (e137 (some ⟨m,0,none⟩) h _) ?_
 unfold t137
 have hm2:=Nat.mod_lt h (show sv.len>0 by omega)
 refine A5 rfl (A5 rfl (A6 sv (Bv2 hm) (A6 sv (Bv2 hm) (B7 (C85 _ h sv.len hh h1 h2) (((h%sv.len:Nat):Int),()) rfl (E5 (Bv2 hm) (A5 ha (E1 (show(0:Int)<=((h%sv.len:Nat):Int) by omega) (show((h%sv.len:Nat):Int)<sv.len by omega) ?_)))))))
 rw[Int.toNat_natCast,Nat.mul_one]
 exact .of ⟨rfl,rfl⟩
def isi(ss:List (List C9))(h:Nat):Nat:=h%ss.length
def P2(ss:List (List C9))(h:Nat):List C9:=ss.getD (isi ss h) []
def iset(ss:List (List C9))(h:Nat)(row:List C9):List (List C9):=ss.set (isi ss h) row
def Q0(ss:List (List C9))(h:Nat)(p:Pl):Option C9:=(P2 ss h).find? fun s=>decide (s.nm=inm h p)
def G7(l:List C9)(nm:Ao5):List C9:=l.eraseP fun s=>decide (s.nm=nm)
theorem V0(l:List C9)(nm:Ao5):(l.findIdx? (fun s=>decide (s.nm=nm))=none/\l.find? (fun s=>decide (s.nm=nm))=none/\G7 l nm=l)\/
  ∃(j:Nat) (hj:j<l.length),l.findIdx? (fun s=>decide (s.nm=nm))=some j/\l.find? (fun s=>decide (s.nm=nm))=some l[j]/\l[j].nm=nm/\G7 l nm=l.take j++l.drop (j+1):=by
 cases h:l.findIdx? (fun s=>decide (s.nm=nm))with
 |none=>
  rw[List.findIdx?_eq_none_iff]at h
  refine .inl ⟨rfl,?_,List.eraseP_of_forall_not (fun a ha=>by have:=h a ha;simp only[this];decide)⟩
  rw[List.find?_eq_none]
  intro x hx
  rw[h x hx];decide
 |some j=>
  rw[List.findIdx?_eq_some_iff_getElem]at h
  obtain⟨hj,h1,h2⟩:=h
  have hl:l=l.take j++l[j]::l.drop (j+1):=by rw[<-List.drop_eq_getElem_cons hj,List.take_append_drop]
  have hb: ∀b∈l.take j,¬decide (b.nm=nm)=true:=by
   intro b hb
   obtain⟨i,hi,rfl⟩:=List.mem_take_iff_getElem.1 hb
   have:=h2 i (by omega)
   simpa using this
  refine .inr ⟨j,hj,rfl,?_,by simpa using h1,?_⟩
  ·rw[List.find?_eq_some_iff_append]
   exact⟨h1,l.take j,l.drop (j+1),hl,fun a ha=>by have:=hb a ha;simpa using this⟩
  ·unfold G7
   conv=>lhs;rw[hl]
   rw[List.eraseP_append_right _ hb,List.eraseP_cons_of_pos (p:=fun s:C9=>decide (s.nm=nm)) h1]
theorem IX.split{m:Nat}{ways:Int}{ss:List (List C9)}{A:A4}(h:IX m ways ss A)(hs:Nat): ∃sv oseg p r s a,A=IA m ways sv oseg (p++r::s)/\IOk sv oseg (p++r::s)/\sv.a=some a/\1<=sv.len/\sv.len<=64/\hs%sv.len=p.length/\P2 ss hs=r.2.1/\
  (∀row',iset ss hs row'=W9 p++row'::W9 s):=by
 obtain⟨sv,oseg,rows,rfl,ok,rfl⟩:=h
 have hlen:=ok.own.sl.els_len N2 (by decide)
 have hpos:=ok.pos
 have hi:hs%rows.length<rows.length:=Nat.mod_lt _ (by omega)
 have hl:rows=rows.take (hs%rows.length)++rows[hs%rows.length]::rows.drop (hs%rows.length+1):=by rw[<-List.drop_eq_getElem_cons hi,List.take_append_drop]
 have hsl:(W9 rows).length=rows.length:=List.length_map ..
 obtain⟨a,ha⟩: ∃a,sv.a=some a:=by
  obtain⟨a,ha,_⟩:=ok.own.sl.el N2 (by decide) (i:=0) (by omega)
  exact⟨a,ha⟩
 refine⟨sv,oseg,rows.take (hs%rows.length),rows[hs%rows.length],rows.drop (hs%rows.length+1),a,by rw[<-hl],by rw[<-hl];exact ok,ha,by omega,by omega,by rw[hlen,List.length_take];omega,?_,fun row'=>?_⟩
 ·unfold P2 isi
  rw[hsl,List.getD_eq_getElem?_getD]
  unfold W9
  rw[List.getElem?_map,List.getElem?_eq_getElem hi];rfl
 ·unfold iset isi
  rw[hsl]
  unfold W9
  rw[List.set_eq_take_append_cons_drop,if_pos (by rw[List.length_map];exact hi),List.map_take,List.map_drop]
theorem IX.same{m:Nat}{ways:Int}{ss:List (List C9)}{A:A4}(h:IX m ways ss A)(hs:Nat):iset ss hs (P2 ss hs)=ss:=by
 obtain⟨sv,oseg,rows,rfl,ok,rfl⟩:=h
 have hsl:(W9 rows).length=rows.length:=List.length_map ..
 have hi:hs%(W9 rows).length<(W9 rows).length:=Nat.mod_lt _ (by have:=ok.pos;omega)
 unfold iset P2 isi
 rw[List.getD_eq_getElem?_getD,List.getElem?_eq_getElem hi]
 exact List.set_getElem_self ..
section
variable {L:A4} {m:Nat} {ways:Int} {sv:SlV} {oseg:A4} {p s:List Bb6} {r:Bb6} {a:Addr}
theorem B22(ok:IOk sv oseg (p++r::s))(ha:sv.a=some a)(hL: ∀x∈oseg,x∈L):D0 (a.add p.length) [.slice r.1.a r.1.len r.1.cap] L:=by
 obtain⟨a',ha',hl⟩:=ok.own.sl.el N2 (by decide) (i:=p.length) (by simp)
 rw[ha]at ha'
 obtain rfl:=Option.some.inj ha'
 rw[show(p++r::s)[p.length]'(by simp)=r by simp,Nat.mul_one]at hl
 exact hl.mono hL
theorem An8(ok:IOk sv oseg (p++r::s))(hL: ∀x∈r.2.2,x∈L):Sl L r.1 5 (r.2.1.flatMap Aj2):=(ok.row r (by simp)).sl.mono hL
theorem rput(p s:List Bb6)(r r':Bb6):A00 ((p++r::s).flatMap Be3) p.length (Be3 r')=(p++r'::s).flatMap Be3:=by
 have hp:(p.flatMap Be3).length=p.length:=by rw[N4 N2,Nat.mul_one]
 rw[List.flatMap_append,List.flatMap_append,List.flatMap_cons,List.flatMap_cons]
 unfold A00
 rw[List.take_left' hp,N2,<-List.drop_drop,List.drop_left' hp]
 rw[List.append_assoc]
 rfl
theorem Cs4(ok:IOk sv oseg (p++r::s))(r':Bb6){seg':A4}(own':Own sv 1 tyIs (A00 ((p++r::s).flatMap Be3) p.length (Be3 r')) seg')(h:Own r'.1 5 eIs (r'.2.1.flatMap Aj2) r'.2.2)(hf:r'.2.1.length<=100):IOk sv seg' (p++r'::s):=by
 rw[rput]at own'
 refine⟨own',fun x hx=>?_,fun x hx=>?_,by have:=ok.pos;rw[List.length_append,List.length_cons]at this⊢;exact this⟩
 ·rcases List.mem_append.1 hx with h1|h1
  ·exact ok.row x (by simp[h1])
  ·rcases List.mem_cons.1 h1 with rfl|h2
   ·exact h
   ·exact ok.row x (by simp[h2])
 ·rcases List.mem_append.1 hx with h1|h1
  ·exact ok.few x (by simp[h1])
  ·rcases List.mem_cons.1 h1 with rfl|h2
   ·exact hf
   ·exact ok.few x (by simp[h2])
end
theorem Ag8(p s:List Bb6)(r:Bb6):W9 (p++r::s)=W9 p++r.2.1::W9 s:=by simp[W9]
theorem As1(m:Nat)(ways:Int)(ss:List (List C9))(A:A4)(hA:IX m ways ss A)(h:Nat)(hh:h<2^64)(pl:Pl):
  CallF PP 176 #[.pointer (some ⟨m,0,none⟩),.int .u64 h,.agg #[.i pl.1,.i pl.2.1,.i pl.2.2.1]] A
   fun v L'=>(∃x:C9,v= .tuple #[.agg #[.i x.part,.i x.b,.i x.p,.i x.e,.i x.freq],.bool (Q0 ss h pl).isSome]/\x=(Q0 ss h pl).getD isz)/\IX m ways (iset ss h (G7 (P2 ss h) (inm h pl))) L':=by
 have hsame:=hA.same h
 obtain⟨sv,oseg,p,r,s,a,rfl,ok,ha,hl1,hl2,hp,hrow,hset⟩:=hA.split h
 refine CallF.of (args:=[.pointer (some ⟨m,0,none⟩),.int .u64 h,.agg #[.i pl.1,.i pl.2.1,.i pl.2.2.1]]) B4 B5 Tryz.func176 (e176 (some ⟨m,0,none⟩) h pl _) ?_
 unfold t176
 have hg:iO m ways sv∈IA m ways sv oseg (p++r::s):=List.mem_cons_self
 have hos: ∀{X:A4},(∀x∈oseg,x∈X++IA m ways sv oseg (p++r::s)):=fun x hx=>by unfold IA;simp[hx]
 have hrs: ∀{X:A4},(∀x∈r.2.2,x∈X++IA m ways sv oseg (p++r::s)):=fun x hx=>by unfold IA N9;simp[hx]
 have hb:=ok.few r (by simp)
 refine C4 fun n1 _=>C4 fun n2 _=>ifF rfl ?_
 generalize ho1:(n1,Obj.cells #[.i pl.1,.i pl.2.1,.i pl.2.2.1] 102)=o1
 generalize ho2:(n2,Obj.cells #[.i 0,.i 0,.i 0,.i 0,.i 0] 204)=o2
 have l1: ∀{Z:A4},D0 ⟨n1,0,none⟩ [.i pl.1,.i pl.2.1,.i pl.2.2.1] (o2::o1::Z):=by subst ho1;exact ldB (n:=n1) (c:=#[.i pl.1,.i pl.2.1,.i pl.2.2.1]) (T:=102) (fz:=(0,0)) (by simp) rfl
 refine A6 pl l1 (B7 (Ag9 _ m ways sv (by simp[hg]) a ha hl1 (by omega) h hh) (some (a.add (h%sv.len)),()) rfl (E5 l1 ?_))
 rw[hp]
 refine B7 (Bh0 _ h hh pl) ((S4 h,pl.1,pl.2.1,pl.2.2.1,()),()) rfl (C4 fun n3 _=>E0 [] _ rfl rfl (by simp) (.inl (Nat.le_refl _)) #[.i (S4 h),.i pl.1,.i pl.2.1,.i pl.2.2.1] rfl ?_)
 rw[List.nil_append]
 generalize ho3:(n3,Obj.cells #[.i (S4 h),.i pl.1,.i pl.2.1,.i pl.2.2.1] 202)=o3
 have l3: ∀{Z:A4},D0 ⟨n3,0,none⟩ [.i (inm h pl).1,.i (inm h pl).2.1,.i (inm h pl).2.2.1,.i (inm h pl).2.2.2] (o3::Z):=by subst ho3;exact ldB List.mem_cons_self rfl
 have lr:D0 (a.add p.length) [.slice r.1.a r.1.len r.1.cap] (o3::o2::o1::IA m ways sv oseg (p++r::s)):=B22 ok ha (hos (X:=[o3,o2,o1]))
 have lsl:Sl (o3::o2::o1::IA m ways sv oseg (p++r::s)) r.1 5 (r.2.1.flatMap Aj2):=An8 ok (hrs (X:=[o3,o2,o1]))
 refine A5 rfl (A6 r.1 lr (B7 (Cs2 _ r.1 r.2.1 lsl (by omega) ⟨n3,0,none⟩ (inm h pl) l3) (_,()) rfl ?_))
 rcases V0 r.2.1 (inm h pl)with⟨e1,e2,e3⟩|⟨j,hj,e1,e2,e4,e3⟩
 ·rw[e1]
  refine ifP (show(-1:Int)<0 by decide) ?_
  subst ho2
  refine E0 [o3] _ rfl rfl (by simp) (.inl (Nat.le_refl _)) #[.i 0,.i 0,.i 0,.i 0,.i 0] rfl ?_
  refine A6 (0,0,0,0,0,()) (ldB (n:=n2) (c:=#[.i 0,.i 0,.i 0,.i 0,.i 0]) (T:=204) (fz:=(0,0)) (by simp) rfl) (.cons (.cons (.cons (.of ⟨?_,?_⟩))))
  ·have:Q0 ss h pl=none:=by unfold Q0;rw[hrow,e2]
   rw[this]
   exact⟨isz,rfl,rfl⟩
  ·rw[hrow,e3,<-hrow,hsame]
   exact⟨sv,oseg,_,rfl,ok,by rw[Ag8,<-hset,<-hrow,hsame]⟩
 ·rw[e1]
  have hlen:=lsl.els_len K0 (by decide)
  have hj0:(0:Int)<=(j:Int):=by omega
  have hj1:(j:Int)<r.1.len:=by omega
  refine ifN (show¬(j:Int)<0 by omega) ?_
  obtain⟨b,hb',hld⟩:=lsl.el K0 (by decide) hj
  have hld2:D0 (b.add ((j:Int).toNat*5)) (Aj2 r.2.1[j]) (o3::o2::o1::IA m ways sv oseg (p++r::s)):=by rw[Int.toNat_natCast];exact hld
  refine A5 rfl (A6 r.1 lr (A5 hb' (E1 hj0 hj1 (A6 (r.2.1[j].part,r.2.1[j].b,r.2.1[j].p,r.2.1[j].e,r.2.1[j].freq,()) hld2 ?_))))
  clear hld hld2
  generalize hx:r.2.1[j]=x at*
  refine C4 fun n4 _=>E0 [] _ rfl rfl (by simp) (.inl (Nat.le_refl _)) #[.i x.part,.i x.b,.i x.p,.i x.e,.i x.freq] rfl ?_
  rw[List.nil_append]
  generalize ho4:(n4,Obj.cells #[.i x.part,.i x.b,.i x.p,.i x.e,.i x.freq] 204)=o4
  have l4: ∀{Z:A4},D0 ⟨n4,0,none⟩ [.i x.part,.i x.b,.i x.p,.i x.e,.i x.freq] (o4::Z):=by subst ho4;exact ldB List.mem_cons_self rfl
  have hw:IntKind.i64.wrap ((j:Int)+1)=(j:Int)+1:=C1 (by omega) (by omega)
  refine A5 rfl (A6 r.1 (lr.mono fun _ hx=>List.mem_cons_of_mem _ hx) ?_)
  simp only[hw]
  refine J5 (o4::o3::o2::o1::iO m ways sv::(oseg++N9 p)) (N9 s) (Ce3 r.1 r.2.1 r.2.2 (ok.row r (by simp)) (by omega) j hj) (by unfold IA;rw[Z3];simp) ?_
  rintro _ seg2-⟨v2,rfl,own2⟩
  refine⟨(v2,()),rfl,A5 rfl ?_⟩
  rw[<-e3]at own2
  refine ok.own.st (o4::o3::o2::o1::[iO m ways sv]) (N9 p++seg2++N9 s) (p:=p.length) (ws:=Be3 (v2,G7 r.2.1 (inm h pl),seg2)) (by rw[N4 N2,N2];simp) (by rw[N2];omega) ha rfl (by simp) fun oseg' own'=>?_
  have ok':=Cs4 ok (v2,G7 r.2.1 (inm h pl),seg2) own' own2 (Nat.le_trans (List.length_eraseP_le ..) hb)
  refine A6 (x.part,x.b,x.p,x.e,x.freq,()) l4 ?_
  subst ho2
  refine E0 [o4,o3] _ rfl rfl (by simp) (.inl (Nat.le_refl _)) #[.i x.part,.i x.b,.i x.p,.i x.e,.i x.freq] rfl ?_
  refine A6 (x.part,x.b,x.p,x.e,x.freq,()) (ldB (n:=n2) (c:=#[.i x.part,.i x.b,.i x.p,.i x.e,.i x.freq]) (T:=204) (fz:=(0,0)) (by simp) rfl) (.cons (.cons (.cons (.cons (.of ⟨?_,?_⟩)))))
  ·have:Q0 ss h pl=some x:=by unfold Q0;rw[hrow,e2]
   rw[this]
   exact⟨x,rfl,rfl⟩
  ·rw[hrow]
   refine⟨sv,oseg',_,?_,ok',by rw[hset,Ag8]⟩
   unfold IA
   rw[Z3]
   simp
theorem Bg4(m:Nat)(ways:Int)(ss:List (List C9))(A:A4)(hA:IX m ways ss A)(h:Nat)(hh:h<2^64)(x:C9)(hf:(P2 ss h).length<100):
  CallF PP 230 #[.pointer (some ⟨m,0,none⟩),.int .u64 h,.agg #[.i x.part,.i x.b,.i x.p,.i x.e,.i x.freq]] A
   fun v L'=>v= .tuple #[]/\IX m ways (iset ss h (P2 ss h++[x])) L':=by
 obtain⟨sv,oseg,p,r,s,a,rfl,ok,ha,hl1,hl2,hp,hrow,hset⟩:=hA.split h
 refine CallF.of (args:=[.pointer (some ⟨m,0,none⟩),.int .u64 h,.agg #[.i x.part,.i x.b,.i x.p,.i x.e,.i x.freq]]) B4 B5 Tryz.func230 (e230 (some ⟨m,0,none⟩) h (x.part,x.b,x.p,x.e,x.freq,()) _) ?_
 unfold t230
 refine C4 fun n1 _=>?_
 rw[hrow]at hf⊢
 have hlen:=(ok.row r (by simp)).sl.els_len K0 (by decide)
 refine B7 (Ag9 _ m ways sv (by unfold IA;simp) a ha hl1 (by omega) h hh) (some (a.add (h%sv.len)),()) rfl ?_
 rw[hp]
 refine A5 rfl (A6 r.1 (B22 ok ha (fun x hx=>by unfold IA;simp[hx])) (A6 (x.part,x.b,x.p,x.e,x.freq,()) (ldB List.mem_cons_self rfl) (C4 fun n2 _=>?_)))
 generalize ho1:(n1,Obj.cells #[.i x.part,.i x.b,.i x.p,.i x.e,.i x.freq] 204)=o1
 have hsrc: ∀{Z:A4},Sl ((n2,Obj.cells #[.i x.part,.i x.b,.i x.p,.i x.e,.i x.freq] eIs)::Z) ⟨some ⟨n2,0,none⟩,1,1⟩ 5 ([x].flatMap Aj2):=fun{Z}=>⟨rfl,Nat.le_refl _,.inr ⟨_,rfl,ldB List.mem_cons_self rfl⟩⟩
 refine E6 Cg8 srcIs ((n2,Obj.cells #[.i x.part,.i x.b,.i x.p,.i x.e,.i x.freq] eIs)::o1::iO m ways sv::(oseg++N9 p)) (N9 s) (ok.row r (by simp)) (by unfold IA;rw[Z3];simp) (.sl hsrc) (A32 _) (by simp only;omega) fun v2 seg2 hv2 own2=>?_
 rw[<-List.flatMap_append]at own2
 refine A5 rfl (ok.own.st ((n2,Obj.cells #[.i x.part,.i x.b,.i x.p,.i x.e,.i x.freq] eIs)::o1::[iO m ways sv]) (N9 p++seg2++N9 s) (p:=p.length) (ws:=Be3 (v2,r.2.1++[x],seg2)) (by rw[N4 N2,N2];simp) (by rw[N2];omega) ha rfl (by simp) fun oseg' own'=>?_)
 have ok':=Cs4 ok (v2,r.2.1++[x],seg2) own' own2 (by rw[List.length_append];simp only[List.length_cons,List.length_nil];omega)
 refine .cons (.cons (.of ⟨rfl,sv,oseg',_,?_,ok',by rw[hset,Ag8]⟩))
 unfold IA
 rw[Z3]
 simp
theorem elemIr:U3 PP tyIr tyIs 1 24 [.slice none 0 0]:=M5 (by kernel_rfl) (by kernel_rfl) rfl (by decide) (by decide)
theorem Cr6(L:A4)(sets ways:Int)(h:sets<1\/sets>64\/ways<1\/ways>8):Reads PP 92 #[.i sets,.i ways] L (.tuple #[.pointer none,.i 30]):=by
 refine Reads.of (args:=[.i sets,.i ways]) B4 B5 Tryz.func92 (e92 sets ways _) ?_
 unfold t92
 exact C0 (fun _=>.of ⟨rfl,rfl⟩) fun h1=>C0 (fun _=>.of ⟨rfl,rfl⟩) fun h2=>C0 (fun _=>.of ⟨rfl,rfl⟩) fun h3=>C0 (fun _=>.of ⟨rfl,rfl⟩) fun h4=>by omega
theorem Cx5: ∀k:Nat,(List.replicate k ((⟨none,0,0⟩,[],[]):Bb6)).flatMap Be3=Ad6 [.slice none 0 0] k
 |0=>rfl
 |k+1=>by rw[List.replicate_succ,List.flatMap_cons,Cx5 k];simp[Ad6,Be3,List.replicate_succ]
theorem C87(sets:Nat)(ways:Int)(h1:1<=sets)(h2:sets<=64)(h3:1<=ways)(h4:ways<=8):
  CallF PP 92 #[.i sets,.i ways] [] fun r L'=> ∃m,r= .tuple #[.pointer (some ⟨m,0,none⟩),.i 0]/\IX m ways (List.replicate sets []) L':=by
 refine CallF.of (args:=[.i sets,.i ways]) B4 B5 Tryz.func92 (e92 sets ways _) ?_
 unfold t92
 refine ifN (show¬(sets:Int)<1 by omega) (ifN (show¬(sets:Int)>64 by omega) (ifN (by omega) (ifN (by omega) ?_)))
 refine Aw6 elemIr (l:=sets) (c:=sets) (Nat.le_refl _) (by omega) fun n ob own _ _=>C4 fun m _=>.of ⟨m,rfl,⟨some ⟨n,0,none⟩,sets,sets⟩,[(n,ob)],List.replicate sets (⟨none,0,0⟩,[],[]),?_,⟨?_,?_,?_,by rw[List.length_replicate];omega⟩,?_⟩
 ·unfold IA iO
  have:N9 (List.replicate sets ((⟨none,0,0⟩,[],[]):Bb6))=[]:=by
   unfold N9
   rw[List.flatMap_eq_nil_iff]
   intro x hx
   rw[List.eq_of_mem_replicate hx]
  rw[this];rfl
 ·have:(List.replicate sets ((⟨none,0,0⟩,[],[]):Bb6)).flatMap Be3=Ad6 [.slice none 0 0] sets:=by
   exact Cx5 sets
  rw[this]
  exact own
 ·intro r hr
  rw[List.eq_of_mem_replicate hr]
  exact⟨rfl,Nat.le_refl _,.inl ⟨rfl,rfl,rfl⟩⟩
 ·intro r hr
  rw[List.eq_of_mem_replicate hr]
  exact Nat.zero_le _
 ·unfold W9;rw[List.map_replicate]
def Ck3(h:Nat)(p:Pl)(freq:Int):C9:=⟨S4 h,p.1,p.2.1,p.2.2.1,freq⟩
def Ac2(l:List C9)(ways:Int):Bool:=((l.length:Int)==ways)
def B18(l:List C9)(ways:Int)(h:Nat)(p:Pl):List C9:=(if Ac2 (G7 l (inm h p)) ways then(G7 l (inm h p)).drop 1 else G7 l (inm h p))++[Ck3 h p 0]
def Ce2(l:List C9)(ways:Int)(h:Nat)(p:Pl):C9:=if Ac2 (G7 l (inm h p)) ways then(G7 l (inm h p)).headD isz else isz
def Cz3(ss:List (List C9))(ways:Int)(h:Nat)(p:Pl):List (List C9):=iset ss h (B18 (P2 ss h) ways h p)
theorem IX.few{m:Nat}{ways:Int}{ss:List (List C9)}{A:A4}(h:IX m ways ss A)(hs:Nat):(P2 ss hs).length<=100:=by
 obtain⟨sv,oseg,p,r,s,a,rfl,ok,ha,hl1,hl2,hp,hrow,hset⟩:=h.split hs
 rw[hrow];exact ok.few r (by simp)
theorem IX.lt{m:Nat}{ways:Int}{ss:List (List C9)}{A:A4}(h:IX m ways ss A)(hs:Nat):isi ss hs<ss.length:=by
 obtain⟨sv,oseg,rows,rfl,ok,rfl⟩:=h
 unfold isi
 have hsl:(W9 rows).length=rows.length:=List.length_map ..
 have:=ok.pos
 exact Nat.mod_lt _ (by omega)
theorem Al6{ss:List (List C9)}{h:Nat}(hl:isi ss h<ss.length)(row:List C9):P2 (iset ss h row) h=row:=by
 have hsl:(iset ss h row).length=ss.length:=List.length_set ..
 have e:isi (iset ss h row) h=isi ss h:=by unfold isi;rw[hsl]
 unfold P2
 rw[e]
 unfold iset
 rw[List.getD_eq_getElem?_getD,List.getElem?_set_self hl];rfl
theorem Al4(ss:List (List C9))(h:Nat)(r1 r2:List C9):iset (iset ss h r1) h r2=iset ss h r2:=by
 have hsl:(iset ss h r1).length=ss.length:=List.length_set ..
 have e:isi (iset ss h r1) h=isi ss h:=by unfold isi;rw[hsl]
 unfold iset at*
 rw[e,List.set_set]
theorem C97{l:List C9}(h:0<l.length):l.headD isz=l[0]:=by
 cases l with
 |nil=>simp at h
 |cons y t=>rfl
theorem C86(m:Nat)(ways:Int)(ss:List (List C9))(A:A4)(hA:IX m ways ss A)(hw:1<=ways)(h:Nat)(hh:h<2^64)(pl:Pl)(hf:(P2 ss h).length<100):
  CallF PP 173 #[.pointer (some ⟨m,0,none⟩),.int .u64 h,.agg #[.i pl.1,.i pl.2.1,.i pl.2.2.1]] A
   fun v L'=>(∃g:C9,v= .tuple #[.agg #[.i g.b,.i g.p,.i g.e],.bool (Ac2 (G7 (P2 ss h) (inm h pl)) ways)]/\g=Ce2 (P2 ss h) ways h pl)/\IX m ways (Cz3 ss ways h pl) L':=by
 refine CallF.of (args:=[.pointer (some ⟨m,0,none⟩),.int .u64 h,.agg #[.i pl.1,.i pl.2.1,.i pl.2.2.1]]) B4 B5 Tryz.func173 (e173 (some ⟨m,0,none⟩) h pl _) ?_
 unfold t173
 have hlt:=hA.lt h
 refine C4 fun n1 _=>C4 fun n2 _=>ifF rfl ?_
 generalize ho1:(n1,Obj.cells #[.i pl.1,.i pl.2.1,.i pl.2.2.1] 102)=o1
 generalize ho2:(n2,Obj.cells #[.i 0,.i 0,.i 0] 102)=o2
 have l1: ∀{Z:A4},D0 ⟨n1,0,none⟩ [.i pl.1,.i pl.2.1,.i pl.2.2.1] (o2::o1::Z):=by subst ho1;exact ldB (n:=n1) (c:=#[.i pl.1,.i pl.2.1,.i pl.2.2.1]) (T:=102) (fz:=(0,0)) (by simp) rfl
 refine A6 pl l1 (J5 [o2,o1] [] (As1 m ways ss A hA h hh pl) (by simp) ?_)
 rintro _ A1-⟨⟨x,rfl,-⟩,hA1⟩
 refine⟨((x.part,x.b,x.p,x.e,x.freq,()),(Q0 ss h pl).isSome,()),rfl,?_⟩
 have hrow1:=Al6 hlt (G7 (P2 ss h) (inm h pl))
 have hset1: ∀row',iset (iset ss h (G7 (P2 ss h) (inm h pl))) h row'=iset ss h row':=fun row'=>Al4 ..
 generalize hl1:G7 (P2 ss h) (inm h pl)=l1' at hA1 hrow1 hset1⊢
 have hput:Cz3 ss ways h pl=iset ss h ((if Ac2 l1' ways then l1'.drop 1 else l1')++[Ck3 h pl 0]):=by unfold Cz3 B18;rw[hl1]
 have hgone:Ce2 (P2 ss h) ways h pl=if Ac2 l1' ways then l1'.headD isz else isz:=by unfold Ce2;rw[hl1]
 have hl1f:l1'.length<100:=by rw[<-hl1];exact Nat.lt_of_le_of_lt (List.length_eraseP_le ..) hf
 rw[hput,hgone]
 clear hput hgone hl1
 obtain⟨sv,oseg,p,r,s,a,rfl,ok,ha,hs1,hs2,hp,hrow,hset⟩:=hA1.split h
 rw[hrow1]at hrow
 subst hrow
 have hg:iO m ways sv∈IA m ways sv oseg (p++r::s):=List.mem_cons_self
 have hos: ∀{X:A4},(∀x∈oseg,x∈X++IA m ways sv oseg (p++r::s)):=fun x hx=>by unfold IA;simp[hx]
 have hrs: ∀{X:A4},(∀x∈r.2.2,x∈X++IA m ways sv oseg (p++r::s)):=fun x hx=>by unfold IA N9;simp[hx]
 refine B7 (Ag9 _ m ways sv (by simp[hg]) a ha hs1 (by omega) h hh) (some (a.add (h%sv.len)),()) rfl (C4 fun n3 _=>?_)
 rw[hp]
 have lr: ∀{o:Nat×Obj},D0 (a.add p.length) [.slice r.1.a r.1.len r.1.cap] (o::([o2,o1]++IA m ways sv oseg (p++r::s))):=fun{o}=>B22 ok ha (hos (X:=[o,o2,o1]))
 have lsl: ∀{o:Nat×Obj},Sl (o::([o2,o1]++IA m ways sv oseg (p++r::s))) r.1 5 (r.2.1.flatMap Aj2):=fun{o}=>An8 ok (hrs (X:=[o,o2,o1]))
 have hlen:=(lsl (o:=o1)).els_len K0 (by decide)
 rw[List.append_nil]
 refine A5 rfl (A5 rfl (A6 r.1 lr (A6 ways (i_ways (sv:=sv) (by simp[hg])) ?_)))
 have hv: ∀r1:Int,((r.1.len:Int)==r1)=(((r.2.1.length:Nat):Int)==r1):=fun r1=>by rw[hlen]
 refine U0 (fun(_:RsV []) L'=> ∃(g:C9) (A':A4),L'=(n3,Obj.cells #[.i g.part,.i g.b,.i g.p,.i g.e,.i g.freq] 204)::o2::o1::A'/\g=(if Ac2 r.2.1 ways then r.2.1.headD isz else isz)/\IX m ways (iset ss h (if Ac2 r.2.1 ways then r.2.1.drop 1 else r.2.1)) A') ?_ ?_
 ·rintro⟨⟩ _ ⟨g,A',rfl,hgg,hA'⟩
  have hrow2:=Al6 hlt (if Ac2 r.2.1 ways then r.2.1.drop 1 else r.2.1)
  have hlen2:(if Ac2 r.2.1 ways then r.2.1.drop 1 else r.2.1).length<100:=by
   split
   ·rw[List.length_drop];omega
   ·omega
  generalize (if Ac2 r.2.1 ways then r.2.1.drop 1 else r.2.1)=l2 at hA' hrow2 hlen2⊢
  have l1':D0 ⟨n1,0,none⟩ [.i pl.1,.i pl.2.1,.i pl.2.2.1] ((n3,Obj.cells #[.i g.part,.i g.b,.i g.p,.i g.e,.i g.freq] 204)::o2::o1::A'):=(l1 (Z:=A')).mono fun _ hx=>List.mem_cons_of_mem _ hx
  refine A6 pl l1' (B7 (Bh0 _ h hh pl) ((S4 h,pl.1,pl.2.1,pl.2.2.1,()),()) rfl ?_)
  refine J5 [(n3,Obj.cells #[.i g.part,.i g.b,.i g.p,.i g.e,.i g.freq] 204),o2,o1] [] (Bg4 m ways _ A' hA' h hh (Ck3 h pl 0) (by rw[hrow2];exact hlen2)) (by simp) ?_
  rintro _ A2-⟨rfl,hA2⟩
  rw[hrow2,Al4]at hA2
  refine⟨(),rfl,A6 (g.b,g.p,g.e,()) (ldB (n:=n3) (c:=#[.i g.part,.i g.b,.i g.p,.i g.e,.i g.freq]) (T:=204) (fz:=(0,0)) (by simp) rfl) ?_⟩
  subst ho2
  refine E0 (n:=n2) (off:=0) (c:=#[.i 0,.i 0,.i 0]) (T:=102) (fz:=(0,0)) [(n3,Obj.cells #[.i g.part,.i g.b,.i g.p,.i g.e,.i g.freq] 204)] (o1::A2) rfl (by simp) (by simp) (.inl (Nat.le_refl _)) #[.i g.b,.i g.p,.i g.e] rfl ?_
  refine A6 (g.b,g.p,g.e,()) (ldB (n:=n2) (c:=#[.i g.b,.i g.p,.i g.e]) (T:=102) (fz:=(0,0)) (by simp) rfl) (.cons (.cons (.cons (.of ⟨⟨g,?_,hgg⟩,hA2⟩))))
  rw[hv];rfl
 intro j hj
 refine G0 (fun hfull=>?_) (fun hfull=>?_)
 ·rw[hv]at hfull
  have hf2:Ac2 r.2.1 ways=true:=hfull
  have hways:((r.2.1.length:Nat):Int)=ways:=by simpa using hfull
  have h0:0<r.2.1.length:=by omega
  obtain⟨b,hb',hld⟩:=(lsl (o:=(n3,Obj.cells #[.i 0,.i 0,.i 0,.i 0,.i 0] 204))).el K0 (by decide) h0
  have hx:r.2.1.headD isz=r.2.1[0]:=C97 h0
  have hdel:=Ce3 r.1 r.2.1 r.2.2 (ok.row r (by simp)) (by omega) 0 h0
  refine A5 rfl (A6 r.1 lr (A5 hb' (E1 (by decide) (by omega) (A6 (r.2.1[0].part,r.2.1[0].b,r.2.1[0].p,r.2.1[0].e,r.2.1[0].freq,()) hld ?_))))
  clear hld
  generalize r.2.1[0]=x0 at hx⊢
  refine E0 [] _ rfl rfl (by simp) (.inl (Nat.le_refl _)) #[.i x0.part,.i x0.b,.i x0.p,.i x0.e,.i x0.freq] rfl ?_
  rw[List.nil_append]
  refine A5 rfl (A6 r.1 lr ?_)
  refine J5 ((n3,Obj.cells #[.i x0.part,.i x0.b,.i x0.p,.i x0.e,.i x0.freq] 204)::o2::o1::iO m ways sv::(oseg++N9 p)) (N9 s) hdel (by unfold IA;rw[Z3];simp) ?_
  rintro _ seg2-⟨v2,rfl,own2⟩
  refine⟨(v2,()),rfl,A5 rfl ?_⟩
  have e3:r.2.1.take 0++r.2.1.drop (0+1)=r.2.1.drop 1:=by simp
  rw[e3]at own2
  refine ok.own.st ((n3,Obj.cells #[.i x0.part,.i x0.b,.i x0.p,.i x0.e,.i x0.freq] 204)::o2::o1::[iO m ways sv]) (N9 p++seg2++N9 s) (p:=p.length) (ws:=Be3 (v2,r.2.1.drop 1,seg2)) (by rw[N4 N2,N2];simp) (by rw[N2];omega) ha rfl (by simp) fun oseg' own'=>?_
  have ok':=Cs4 ok (v2,r.2.1.drop 1,seg2) own' own2 (by rw[List.length_drop];omega)
  refine hj _ _ ⟨x0,IA m ways sv oseg' (p++(v2,r.2.1.drop 1,seg2)::s),?_,by rw[if_pos hf2,hx],?_⟩
  ·unfold IA;rw[Z3];simp
  ·rw[if_pos hf2]
   exact⟨sv,oseg',_,rfl,ok',by rw[Ag8,<-hset1,hset]⟩
 ·rw[hv]at hfull
  have hf2: ¬Ac2 r.2.1 ways=true:=by unfold Ac2;rw[hfull];decide
  refine hj _ _ ⟨isz,IA m ways sv oseg (p++r::s),rfl,by rw[if_neg hf2],?_⟩
  rw[if_neg hf2]
  exact⟨sv,oseg,_,rfl,ok,by rw[Ag8,<-hset1,hset]⟩
theorem Bv1(m:Nat)(ways:Int)(ss:List (List C9))(A:A4)(hA:IX m ways ss A)(h:Nat)(hh:h<2^64)(pl:Pl):
  CallF PP 106 #[.pointer (some ⟨m,0,none⟩),.int .u64 h,.agg #[.i pl.1,.i pl.2.1,.i pl.2.2.1]] A
   fun v L'=>v= .bool (Q0 ss h pl).isSome/\IX m ways (iset ss h (G7 (P2 ss h) (inm h pl))) L':=by
 refine CallF.of (args:=[.pointer (some ⟨m,0,none⟩),.int .u64 h,.agg #[.i pl.1,.i pl.2.1,.i pl.2.2.1]]) B4 B5 Tryz.func106 (e106 (some ⟨m,0,none⟩) h pl _) ?_
 unfold t106
 refine C4 fun n1 _=>A6 pl (ldB List.mem_cons_self rfl) (J5 [(n1,Obj.cells #[.i pl.1,.i pl.2.1,.i pl.2.2.1] 102)] [] (As1 m ways ss A hA h hh pl) (by simp) ?_)
 rintro _ A1-⟨⟨x,rfl,-⟩,hA1⟩
 refine⟨((x.part,x.b,x.p,x.e,x.freq,()),(Q0 ss h pl).isSome,()),rfl,C4 fun n2 _=>E0 [] _ rfl rfl (by simp) (.inl (Nat.le_refl _)) #[.i x.part,.i x.b,.i x.p,.i x.e,.i x.freq] rfl ?_⟩
 rw[List.append_nil]
 exact .cons (.cons (.of ⟨rfl,hA1⟩))
def Ax3(ss:List (List C9))(h:Nat)(p q:Pl):List (List C9):=match Q0 ss h p with
 |none=>ss
 |some x=>iset ss h (G7 (G7 (P2 ss h) (inm h p)) (inm h q)++[Ck3 h q (S7 (x.freq-1) 0)])
theorem Cr9(m:Nat)(ways:Int)(ss:List (List C9))(A:A4)(hA:IX m ways ss A)(h:Nat)(hh:h<2^64)(p q:Pl)(hfr: ∀s∈P2 ss h,0<=s.freq/\s.freq<=3):
  CallF PP 294 #[.pointer (some ⟨m,0,none⟩),.int .u64 h,.agg #[.i p.1,.i p.2.1,.i p.2.2.1],.agg #[.i q.1,.i q.2.1,.i q.2.2.1]] A
   fun v L'=>v= .bool (Q0 ss h p).isSome/\IX m ways (Ax3 ss h p q) L':=by
 refine CallF.of (args:=[.pointer (some ⟨m,0,none⟩),.int .u64 h,.agg #[.i p.1,.i p.2.1,.i p.2.2.1],.agg #[.i q.1,.i q.2.1,.i q.2.2.1]]) B4 B5 Tryz.func294 (e294 (some ⟨m,0,none⟩) h p q _) ?_
 unfold t294
 have hlt:=hA.lt h
 have hsame:=hA.same h
 refine C4 fun n1 _=>C4 fun n2 _=>A6 p (ldB (n:=n1) (c:=#[.i p.1,.i p.2.1,.i p.2.2.1]) (T:=102) (fz:=(0,0)) (by simp) rfl) ?_
 generalize ho1:(n1,Obj.cells #[.i p.1,.i p.2.1,.i p.2.2.1] 102)=o1
 generalize ho2:(n2,Obj.cells #[.i q.1,.i q.2.1,.i q.2.2.1] 102)=o2
 have l2: ∀{Z:A4} {o:Nat×Obj},D0 ⟨n2,0,none⟩ [.i q.1,.i q.2.1,.i q.2.2.1] (o::o2::Z):=by subst ho2;exact ldB (n:=n2) (c:=#[.i q.1,.i q.2.1,.i q.2.2.1]) (T:=102) (fz:=(0,0)) (by simp) rfl
 refine J5 [o2,o1] [] (As1 m ways ss A hA h hh p) (by simp) ?_
 rintro _ A1-⟨⟨x,rfl,hx⟩,hA1⟩
 refine⟨((x.part,x.b,x.p,x.e,x.freq,()),(Q0 ss h p).isSome,()),rfl,C4 fun n3 _=>E0 [] _ rfl rfl (by simp) (.inl (Nat.le_refl _)) #[.i x.part,.i x.b,.i x.p,.i x.e,.i x.freq] rfl ?_⟩
 rw[List.append_nil,List.nil_append]
 generalize ho3:(n3,Obj.cells #[.i x.part,.i x.b,.i x.p,.i x.e,.i x.freq] 204)=o3
 have l3: ∀{Z:A4},D0 (Addr.add ⟨n3,0,none⟩ 4) [.i x.freq] (o3::Z):=by subst ho3;exact ldB List.mem_cons_self rfl
 cases hfd:Q0 ss h p with
 |none=>
  refine ifF rfl (.cons (.cons (.cons (.of ⟨rfl,?_⟩))))
  have hrow:G7 (P2 ss h) (inm h p)=P2 ss h:=by
   rcases V0 (P2 ss h) (inm h p)with⟨_,_,e⟩|⟨j,hj,_,e,_⟩
   ·exact e
   ·unfold Q0 at hfd;rw[hfd]at e;cases e
  unfold Ax3
  rw[hfd]
  rw[hrow,hsame]at hA1
  exact hA1
 |some y=>
  rw[hfd]at hx
  have hxy:x=y:=hx
  subst hxy
  have hmem:x∈P2 ss h:=by unfold Q0 at hfd;exact List.mem_of_find?_eq_some hfd
  have hfx:=hfr x hmem
  have hrow1:=Al6 hlt (G7 (P2 ss h) (inm h p))
  refine ifT rfl (A6 q l2 (J5 [o3,o2,o1] [] (As1 m ways _ A1 hA1 h hh q) (by simp) ?_))
  rintro _ A2-⟨⟨y,rfl,-⟩,hA2⟩
  refine⟨((y.part,y.b,y.p,y.e,y.freq,()),(Q0 _ h q).isSome,()),rfl,?_⟩
  rw[hrow1,Al4]at hA2
  refine A6 q l2 (A6 x.freq l3 (B7 (Bh0 _ h hh q) ((S4 h,q.1,q.2.1,q.2.2.1,()),()) rfl (E5 l3 ?_)))
  rw[C1 (by omega) (by omega)]
  have hrow2:=Al6 hlt (G7 (G7 (P2 ss h) (inm h p)) (inm h q))
  have hle:(G7 (G7 (P2 ss h) (inm h p)) (inm h q)).length<100:=by
   have h1:=hA.few h
   have h2:(G7 (P2 ss h) (inm h p)).length<(P2 ss h).length:=by
    rcases V0 (P2 ss h) (inm h p)with⟨_,e,_⟩|⟨j,hj,_,_,_,e⟩
    ·unfold Q0 at hfd;rw[hfd]at e;cases e
    ·rw[e,List.length_append,List.length_take,List.length_drop];omega
   have h3:(G7 (G7 (P2 ss h) (inm h p)) (inm h q)).length<=(G7 (P2 ss h) (inm h p)).length:=List.length_eraseP_le ..
   omega
  refine J5 [o3,o2,o1] [] (Bg4 m ways _ A2 hA2 h hh (Ck3 h q (S7 (x.freq-1) 0)) (by rw[hrow2];exact hle)) (by simp) ?_
  rintro _ A3-⟨rfl,hA3⟩
  rw[hrow2,Al4]at hA3
  rw[List.append_nil]
  refine⟨(),rfl,.cons (.cons (.cons (.of ⟨rfl,?_⟩)))⟩
  unfold Ax3
  rw[hfd]
  exact hA3
def ilen(ss:List (List C9)):Nat:=(ss.map List.length).sum
theorem Ce1(ss:List (List C9))(i:Nat)(hi:i<ss.length):ilen (ss.take (i+1))=ilen (ss.take i)+ss[i].length:=by
 unfold ilen
 rw[List.take_succ_eq_append_getElem hi,List.map_append,List.sum_append];simp
theorem C91(m:Nat)(ways:Int)(ss:List (List C9))(A:A4)(hA:IX m ways ss A):Reads PP 68 #[.pointer (some ⟨m,0,none⟩)] A (.i (ilen ss:Int)):=by
 obtain⟨sv,oseg,rows,rfl,ok,rfl⟩:=hA
 refine Reads.of (args:=[.pointer (some ⟨m,0,none⟩)]) B4 B5 Tryz.func68 (e68 (some ⟨m,0,none⟩) _) ?_
 unfold t68
 have hsl:Sl (IA m ways sv oseg rows) sv 1 (rows.flatMap Be3):=ok.own.sl.left.cons
 have hlen:=hsl.els_len N2 (by decide)
 have hpos:=ok.pos
 refine ifT rfl (A5 rfl (A6 sv (Bv2 (ways:=ways) List.mem_cons_self) ?_))
 refine G3 (fun k z L'=>L'=IA m ways sv oseg rows/\ ∃i:Nat,i<=rows.length/\k=rows.length-i/\z=(((ilen (W9 (rows.take i)):Nat):Int),(i:Int),())/\ilen (W9 (rows.take i))<=100*i) rows.length ⟨rfl,0,by omega,by omega,rfl,by simp[ilen,W9]⟩ ?_
 rintro k z L ⟨rfl,i,hi,rfl,rfl,hb⟩
 refine C0 (fun(hlt:(i:Int)<sv.len)=>?_) (fun(hge: ¬(i:Int)<sv.len)=>?_)
 ·have hi':i<rows.length:=by omega
  obtain⟨a,ha,hld⟩:=hsl.el N2 (by decide) hi'
  have hrl:=(ok.row rows[i] (List.getElem_mem hi')).sl.els_len K0 (by decide)
  have hrf:=ok.few rows[i] (List.getElem_mem hi')
  refine A5 ha (E1 (show(0:Int)<=i by omega) hlt (A6 rows[i].1 (by rw[Int.toNat_natCast];exact hld) ?_))
  have hs:ilen (W9 (rows.take (i+1)))=ilen (W9 (rows.take i))+rows[i].2.1.length:=by
   unfold W9
   have:=Ce1 (rows.map fun r=>r.2.1) i (by rw[List.length_map];exact hi')
   rw[<-List.map_take,<-List.map_take,List.getElem_map]at this
   exact this
  refine⟨rows.length-(i+1),by omega,rfl,i+1,by omega,rfl,?_,by omega⟩
  show(IntKind.i64.wrap (((ilen (W9 (rows.take i)):Nat):Int)+(rows[i].1.len:Int)),IntKind.i64.wrap ((i:Int)+1),())=_
  rw[C1 (n:=((ilen (W9 (rows.take i)):Nat):Int)+(rows[i].1.len:Int)) (by omega) (by omega),C1 (n:=(i:Int)+1) (by omega) (by omega),hs,hrl]
  rfl
 ·obtain rfl:i=rows.length:=by omega
  rw[List.take_length]
  exact .of ⟨rfl,rfl⟩
def Bn2(p:Pl):List Value:=[.i p.1,.i p.2.1,.i p.2.2.1]
theorem Ae6(p:Pl):(Bn2 p).length=3:=rfl
theorem Bn1(l:List Pl):(l.flatMap Bn2).all S0=true:=by
 induction l with
 |nil=>rfl
 |cons e r ih=>rw[List.flatMap_cons,List.all_append,ih];rfl
theorem elemPl:U3 PP 55 102 3 24 [.i 0,.i 0,.i 0]:=M5 (by kernel_rfl) (by kernel_rfl) rfl (by decide) (by decide)
theorem srcPl:Ar0 PP 55:=.inl ⟨102,by kernel_rfl⟩
def C9.pl(s:C9):Pl:=(s.b,s.p,s.e,())
def P7(l:List C9)(h:Nat):List Pl:=(l.filter fun s=>decide (s.part=S4 h)).map C9.pl
theorem Bp0(l:List C9)(x:C9)(h:Nat):P7 (l++[x]) h=P7 l h++(if x.part=S4 h then[x.pl]else[]):=by
 unfold P7
 rw[List.filter_append,List.map_append]
 by_cases hx:x.part=S4 h<;>simp[hx]
theorem Bv0(m:Nat)(ways:Int)(ss:List (List C9))(A:A4)(hA:IX m ways ss A)(h:Nat)(hh:h<2^64):
  CallF PP 117 #[.pointer (some ⟨m,0,none⟩),.int .u64 h] A
   fun v L'=> ∃(u:SlV) (seg:A4),v= .slice u.a u.len u.cap/\L'=seg++A/\Own u 3 102 ((P7 (P2 ss h) h).flatMap Bn2) seg:=by
 obtain⟨sv,oseg,p,r,s,a,rfl,ok,ha,hl1,hl2,hp,hrow,hset⟩:=hA.split h
 refine CallF.of (args:=[.pointer (some ⟨m,0,none⟩),.int .u64 h]) B4 B5 Tryz.func117 (e117 (some ⟨m,0,none⟩) h _) ?_
 unfold t117
 refine ifF rfl (B7 (Ag9 _ m ways sv (by unfold IA;simp) a ha hl1 (by omega) h hh) (some (a.add (h%sv.len)),()) rfl ?_)
 rw[hp]
 have lsl:Sl (IA m ways sv oseg (p++r::s)) r.1 5 (r.2.1.flatMap Aj2):=An8 ok (fun x hx=>by unfold IA N9;simp[hx])
 have hlen:=lsl.els_len K0 (by decide)
 have hb:=ok.few r (by simp)
 refine A5 rfl (A6 r.1 (B22 ok ha (fun x hx=>by unfold IA;simp[hx])) ?_)
 rw[hrow]
 refine G3 (fun k z L'=> ∃(i:Nat) (u:SlV) (seg J:A4),i<=r.2.1.length/\k=r.2.1.length-i/\z=(u,(i:Int),())/\L'=J++seg++IA m ways sv oseg (p++r::s)/\Own u 3 102 ((P7 (r.2.1.take i) h).flatMap Bn2) seg) r.2.1.length
  ⟨0,⟨none,0,0⟩,[],[],by omega,by omega,rfl,rfl,⟨rfl,Nat.le_refl _,.inl ⟨rfl,rfl,rfl⟩⟩⟩ ?_
 rintro k z L' ⟨i,u,seg,J,hi,rfl,rfl,rfl,own⟩
 refine C0 (fun(hlt:(i:Int)<r.1.len)=>?_) (fun(hge: ¬(i:Int)<r.1.len)=>?_)
 ·have hi':i<r.2.1.length:=by omega
  have lsl':Sl (J++seg++IA m ways sv oseg (p++r::s)) r.1 5 (r.2.1.flatMap Aj2):=lsl.right
  obtain⟨b,hb',hld⟩:=lsl'.el K0 (by decide) hi'
  have hsn:=Bp0 (r.2.1.take i) r.2.1[i] h
  rw[<-List.take_succ_eq_append_getElem hi']at hsn
  refine A5 hb' (E1 (show(0:Int)<=i by omega) hlt (A6 (r.2.1[i].part,r.2.1[i].b,r.2.1[i].p,r.2.1[i].e,r.2.1[i].freq,()) (by rw[Int.toNat_natCast];exact hld) ?_))
  clear hld
  generalize r.2.1[i]=x at hsn⊢
  have hul:=own.sl.els_len Ae6 (by decide)
  have hfl:(P7 (r.2.1.take i) h).length<=i:=by
   unfold P7
   rw[List.length_map]
   have:=List.length_filter_le (fun s=>decide (s.part=S4 h)) (r.2.1.take i)
   rw[List.length_take]at this
   omega
  refine C4 fun n1 _=>E0 [] _ rfl rfl (by simp) (.inl (Nat.le_refl _)) #[.i x.part,.i x.b,.i x.p,.i x.e,.i x.freq] rfl ?_
  rw[List.nil_append]
  generalize ho1:(n1,Obj.cells #[.i x.part,.i x.b,.i x.p,.i x.e,.i x.freq] 204)=o1
  have l1: ∀{Z:A4},D0 ⟨n1,0,none⟩ [.i x.part] (o1::Z):=by subst ho1;exact ldB List.mem_cons_self rfl
  have l2: ∀{Z:A4},D0 (Addr.add ⟨n1,0,none⟩ 1) [.i x.b,.i x.p,.i x.e] (o1::Z):=by subst ho1;exact ldB List.mem_cons_self rfl
  have hw:IntKind.i64.wrap ((i:Int)+1)=((i+1:Nat):Int):=by rw[C1 (by omega) (by omega)];omega
  refine A6 x.part l1 (B7 (Bu8 _ h hh) (S4 h,()) rfl (E5 l1 ?_))
  refine Z7 (fun hx=>?_) (fun hx=>?_)
  ·have hx':x.part=S4 h:=hx
   rw[if_pos hx']at hsn
   refine A6 x.pl l2 (C4 fun n2 _=>?_)
   have hsrc: ∀{Z:A4},Sl ((n2,Obj.cells #[.i x.b,.i x.p,.i x.e] 102)::Z) ⟨some ⟨n2,0,none⟩,1,1⟩ 3 ([x.pl].flatMap Bn2):=fun{Z}=>⟨rfl,Nat.le_refl _,.inr ⟨_,rfl,ldB List.mem_cons_self rfl⟩⟩
   refine E6 elemPl srcPl ((n2,Obj.cells #[.i x.b,.i x.p,.i x.e] 102)::o1::J) (IA m ways sv oseg (p++r::s)) own (by simp[C9.pl]) (.sl hsrc) (Bn1 _) (by simp only;omega) fun v2 seg2 hv2 own2=>?_
   rw[<-List.flatMap_append,<-hsn]at own2
   refine⟨r.2.1.length-(i+1),by omega,i+1,v2,seg2,(n2,Obj.cells #[.i x.b,.i x.p,.i x.e] 102)::o1::J,by omega,rfl,?_,rfl,own2⟩
   show(v2,IntKind.i64.wrap ((i:Int)+1),())=_
   rw[hw]
  ·have hx': ¬x.part=S4 h:=hx
   rw[if_neg hx',List.append_nil]at hsn
   rw[<-hsn]at own
   refine⟨r.2.1.length-(i+1),by omega,i+1,u,seg,o1::J,by omega,rfl,?_,rfl,own⟩
   show(u,IntKind.i64.wrap ((i:Int)+1),())=_
   rw[hw]
 ·obtain rfl:i=r.2.1.length:=by omega
  rw[List.take_length]at own
  rw[List.append_assoc]
  exact .app (.of ⟨u,seg,rfl,rfl,own⟩)
def Ck4(s:C9):C9:={s with freq:=V3 (s.freq+1) 3}
def Aq6(l:List C9)(nm:Ao5):List C9:=match l.findIdx? (fun s=>decide (s.nm=nm))with
 |some j=>l.modify j Ck4
 |none=>l
theorem Ct0(l:List C9)(j:Nat)(hj:j<l.length)(x:C9)(n:Int)(hx:l[j]=x):A00 (l.flatMap Aj2) (j*5+4) [.i n]=(l.take j++{x with freq:=n}::l.drop (j+1)).flatMap Aj2:=by
 have hl:l=l.take j++x::l.drop (j+1):=by rw[<-hx,<-List.drop_eq_getElem_cons hj,List.take_append_drop]
 have hp:((l.take j).flatMap Aj2).length=j*5:=by rw[N4 K0,List.length_take,Nat.min_eq_left (by omega)]
 conv=>lhs;rw[hl]
 rw[List.flatMap_append,List.flatMap_append,List.flatMap_cons,List.flatMap_cons]
 unfold A00
 have h1:((l.take j).flatMap Aj2++(Aj2 x++(l.drop (j+1)).flatMap Aj2)).take (j*5+4)=(l.take j).flatMap Aj2++[.i x.part,.i x.b,.i x.p,.i x.e]:=by
  rw[List.take_append,List.take_of_length_le (by omega),hp,show j*5+4-j*5=4 by omega]
  rfl
 have h2:((l.take j).flatMap Aj2++(Aj2 x++(l.drop (j+1)).flatMap Aj2)).drop (j*5+4+[Value.i n].length)=(l.drop (j+1)).flatMap Aj2:=by
  rw[show j*5+4+[Value.i n].length=j*5+5 from rfl,<-List.drop_drop,List.drop_left' hp]
  rfl
 rw[h1,h2]
 simp[Aj2]
theorem C95(v:SlV)(l:List C9)(seg:A4)(own:Own v 5 eIs (l.flatMap Aj2) seg)(j:Nat)(hj:j<l.length)(a:Addr)(ha:v.a=some a)(hfr:0<=l[j].freq/\l[j].freq<=3):
  CallF PP 125 #[.pointer (some (a.add (j*5)))] seg fun r L'=>r= .tuple #[]/\Own v 5 eIs ((l.take j++Ck4 l[j]::l.drop (j+1)).flatMap Aj2) L':=by
 refine CallF.of (args:=[.pointer (some (a.add (j*5)))]) B4 B5 Tryz.func125 (e125 (some (a.add (j*5))) _) ?_
 unfold t125
 obtain⟨a',ha',hld⟩:=own.sl.el K0 (by decide) hj
 rw[ha]at ha'
 obtain rfl:=Option.some.inj ha'
 have had:Addr.add (a.add (j*5)) 4=a.add (j*5+4):=by
  unfold Addr.add
  by_cases h1:j*5=0<;>simp[h1,Nat.add_assoc]
 refine A5 rfl (A6 l[j].freq (hld.one 4 rfl) (A5 rfl ?_))
 rw[C1 (by omega) (by omega)]
 refine own.st [] [] (p:=j*5+4) (by rw[N4 K0];simp only[List.length_cons,List.length_nil];omega) (by simp) ha had (by simp) fun seg' own'=>.of ⟨rfl,?_⟩
 rw[Ct0 l j hj l[j] _ rfl]at own'
 rw[List.nil_append,List.append_nil]
 exact own'
theorem Ct1(A:A4)(ad:Addr)(fr:Int)(hl:D0 (ad.add 4) [.i fr] A)(n:Nat)(x:Int):
  CallF PP 324 #[.pointer (some ad),.pointer (some ⟨n,0,none⟩)] ((n,Obj.cells #[.i x] 3)::A) fun r L'=>r= .tuple #[]/\L'=(n,Obj.cells #[.i fr] 3)::A:=by
 refine CallF.of (args:=[.pointer (some ad),.pointer (some ⟨n,0,none⟩)]) B4 B5 Tryz.func324 (e324 (some ad) (some ⟨n,0,none⟩) _) ?_
 unfold t324
 refine A5 rfl (A6 fr (hl.mono fun _ hx=>List.mem_cons_of_mem _ hx) (A5 rfl (E0 [] _ rfl rfl (by simp) (.inl (Nat.le_refl _)) #[.i fr] rfl (.of ⟨rfl,rfl⟩))))
theorem Ay3{l:List C9}{nm:Ao5}{i:Nat}(hi:i<l.length)(he:l[i].nm=nm)(hn: ∀s∈l.take i,s.nm≠nm):l.findIdx? (fun s=>decide (s.nm=nm))=some i:=by
 rw[List.findIdx?_eq_some_iff_getElem]
 refine⟨hi,by simpa using he,fun j hj=>?_⟩
 have:=hn l[j] (by rw[List.mem_take_iff_getElem];exact⟨j,by omega,rfl⟩)
 simpa using this
theorem Cb4(l:List C9)(i:Nat)(hi:i<l.length):l.modify i Ck4=l.take i++Ck4 l[i]::l.drop (i+1):=by
 rw[List.modify_eq_take_cons_drop hi]
theorem Cd1(m:Nat)(ways:Int)(ss:List (List C9))(A:A4)(hA:IX m ways ss A)(h:Nat)(hh:h<2^64)(pl:Pl)(hfr: ∀s∈P2 ss h,0<=s.freq/\s.freq<=3):
  CallF PP 124 #[.pointer (some ⟨m,0,none⟩),.int .u64 h,.agg #[.i pl.1,.i pl.2.1,.i pl.2.2.1],.func (.func 125) #[] #[]] A
   fun v L'=>v= .bool (Q0 ss h pl).isSome/\IX m ways (iset ss h (Aq6 (P2 ss h) (inm h pl))) L':=by
 have hsame:=hA.same h
 obtain⟨sv,oseg,p,r,s,a,rfl,ok,ha,hl1,hl2,hp,hrow,hset⟩:=hA.split h
 refine CallF.of (args:=[.pointer (some ⟨m,0,none⟩),.int .u64 h,.agg #[.i pl.1,.i pl.2.1,.i pl.2.2.1],.func (.func 125) #[] #[]]) B4 B5 Tryz.func124 (e124 (some ⟨m,0,none⟩) h pl ⟨.func 125,#[],#[]⟩ _) ?_
 unfold t124
 have hg:iO m ways sv∈IA m ways sv oseg (p++r::s):=List.mem_cons_self
 have hos: ∀{X:A4},(∀x∈oseg,x∈X++IA m ways sv oseg (p++r::s)):=fun x hx=>by unfold IA;simp[hx]
 have hrs: ∀{X:A4},(∀x∈r.2.2,x∈X++IA m ways sv oseg (p++r::s)):=fun x hx=>by unfold IA N9;simp[hx]
 have hb:=ok.few r (by simp)
 refine C4 fun n1 _=>ifF rfl ?_
 generalize ho1:(n1,Obj.cells #[.i pl.1,.i pl.2.1,.i pl.2.2.1] 102)=o1
 have l1: ∀{Z:A4},D0 ⟨n1,0,none⟩ [.i pl.1,.i pl.2.1,.i pl.2.2.1] (o1::Z):=by subst ho1;exact ldB List.mem_cons_self rfl
 have lr:D0 (a.add p.length) [.slice r.1.a r.1.len r.1.cap] (o1::IA m ways sv oseg (p++r::s)):=B22 ok ha (hos (X:=[o1]))
 refine A6 pl l1 (B7 (Ag9 _ m ways sv (by simp[hg]) a ha hl1 (by omega) h hh) (some (a.add (h%sv.len)),()) rfl (E5 l1 ?_))
 rw[hp]
 refine A5 rfl (A6 r.1 lr (B7 (Bh0 _ h hh pl) ((S4 h,pl.1,pl.2.1,pl.2.2.1,()),()) rfl (E5 lr (C4 fun n2 _=>E0 [] _ rfl rfl (by simp) (.inl (Nat.le_refl _)) #[.i (S4 h),.i pl.1,.i pl.2.1,.i pl.2.2.1] rfl ?_))))
 rw[List.nil_append]
 generalize ho2:(n2,Obj.cells #[.i (S4 h),.i pl.1,.i pl.2.1,.i pl.2.2.1] 202)=o2
 have l2: ∀{Z:A4},D0 ⟨n2,0,none⟩ [.i (S4 h),.i pl.1,.i pl.2.1,.i pl.2.2.1] (o2::Z):=by subst ho2;exact ldB List.mem_cons_self rfl
 have lsl:Sl (o2::o1::IA m ways sv oseg (p++r::s)) r.1 5 (r.2.1.flatMap Aj2):=An8 ok (hrs (X:=[o2,o1]))
 have hlen:=lsl.els_len K0 (by decide)
 rw[hrow]at hfr
 refine G3 (fun k z L'=>L'=o2::o1::IA m ways sv oseg (p++r::s)/\ ∃i:Nat,i<=r.2.1.length/\k=r.2.1.length-i/\z=((i:Int),())/\ ∀s∈r.2.1.take i,s.nm≠inm h pl) r.2.1.length ⟨rfl,0,by omega,by omega,rfl,by simp⟩ ?_
 rintro k z L' ⟨rfl,i,hi,rfl,rfl,hn⟩
 refine C0 (fun(hlt:(i:Int)<r.1.len)=>?_) (fun(hge: ¬(i:Int)<r.1.len)=>?_)
 ·have hi':i<r.2.1.length:=by omega
  have hi0:(0:Int)<=(i:Int):=by omega
  obtain⟨b,hb',hld⟩:=lsl.el K0 (by decide) hi'
  refine A5 hb' (E1 hi0 hlt (A6 (r.2.1[i].part,r.2.1[i].b,r.2.1[i].p,r.2.1[i].e,()) ?_ (A6 (S4 h,pl) l2 (eqNm _ _ _ _ _ _ _ _ ?_))))
  ·rw[Int.toNat_natCast]
   exact hld.pre fun j u hu=>by rcases j with _|_|_|_|j<;>first|exact hu|exact absurd (show(none:Option Value)=some u from hu) (by simp)
  refine C0 (fun(he:r.2.1[i].nm=inm h pl)=>?_) (fun(he: ¬r.2.1[i].nm=inm h pl)=>?_)
  ·have hfi:=Ay3 hi' he hn
   refine A5 hb' (E1 hi0 hlt (Y4 (by kernel_rfl) ?_))
   refine J5 (o2::o1::iO m ways sv::(oseg++N9 p)) (N9 s) (C95 r.1 r.2.1 r.2.2 (ok.row r (by simp)) i hi' b hb' (hfr _ (List.getElem_mem hi'))) (by unfold IA;rw[Z3];simp) ?_
   rintro _ seg2-⟨rfl,own2⟩
   refine⟨(),rfl,?_⟩
   refine .cons (.cons (.of ⟨?_,?_⟩))
   ·unfold Q0
    rcases V0 r.2.1 (inm h pl)with⟨e1,_⟩|⟨j,hj,e1,e2,_⟩
    ·rw[hfi]at e1;cases e1
    ·rw[hrow,e2];rfl
   ·rw[hrow]
    unfold Aq6
    rw[hfi]
    simp only
    rw[Cb4 _ _ hi']
    refine⟨sv,oseg,p++(r.1,r.2.1.take i++Ck4 r.2.1[i]::r.2.1.drop (i+1),seg2)::s,by unfold IA;rw[Z3];simp,?_,by rw[hset,Ag8]⟩
    refine Cs4 ok (r.1,r.2.1.take i++Ck4 r.2.1[i]::r.2.1.drop (i+1),seg2) (seg':=oseg) ?_ own2 ?_
    ·rw[rput]
     have e:(p++(r.1,r.2.1.take i++Ck4 r.2.1[i]::r.2.1.drop (i+1),seg2)::s).flatMap Be3=(p++r::s).flatMap Be3:=by
      rw[List.flatMap_append,List.flatMap_append,List.flatMap_cons,List.flatMap_cons];rfl
     rw[e];exact ok.own
    ·simp only[List.length_append,List.length_cons,List.length_take,List.length_drop];omega
  ·refine⟨r.2.1.length-(i+1),by omega,rfl,i+1,by omega,rfl,?_,fun e hx=>?_⟩
   ·rw[C1 (by first|omega|(simp only;omega)) (by first|omega|(simp only;omega))]
    rfl
   ·rw[List.take_succ_eq_append_getElem hi']at hx
    rcases List.mem_append.1 hx with hx|hx
    ·exact hn e hx
    ·rw[List.mem_singleton.1 hx];exact he
 ·obtain rfl:i=r.2.1.length:=by omega
  rw[List.take_length]at hn
  have e0:r.2.1.findIdx? (fun s=>decide (s.nm=inm h pl))=none:=by
   rw[List.findIdx?_eq_none_iff]
   intro s hs
   simpa using hn s hs
  refine .cons (.cons (.of ⟨?_,?_⟩))
  ·unfold Q0
   rcases V0 r.2.1 (inm h pl)with⟨_,e2,_⟩|⟨j,hj,e1,e2,_⟩
   ·rw[hrow,e2];rfl
   ·rw[e0]at e1;cases e1
  ·unfold Aq6
   rw[hrow,e0]
   simp only
   rw[<-hrow,hsame]
   exact hA
def Ax4(ss:List (List C9))(h:Nat)(p:Pl):Int:=match Q0 ss h p with|some x=>x.freq|none=>0
theorem Cd2(m:Nat)(ways:Int)(ss:List (List C9))(A:A4)(hA:IX m ways ss A)(h:Nat)(hh:h<2^64)(pl:Pl)(nf:Nat):
  CallF PP 124 #[.pointer (some ⟨m,0,none⟩),.int .u64 h,.agg #[.i pl.1,.i pl.2.1,.i pl.2.2.1],.func (.func 324) #[] #[.pointer (some ⟨nf,0,none⟩)]] ((nf,Obj.cells #[.i 0] 3)::A)
   fun v L'=>v= .bool (Q0 ss h pl).isSome/\L'=(nf,Obj.cells #[.i (Ax4 ss h pl)] 3)::A:=by
 obtain⟨sv,oseg,p,r,s,a,rfl,ok,ha,hl1,hl2,hp,hrow,hset⟩:=hA.split h
 refine CallF.of (args:=[.pointer (some ⟨m,0,none⟩),.int .u64 h,.agg #[.i pl.1,.i pl.2.1,.i pl.2.2.1],.func (.func 324) #[] #[.pointer (some ⟨nf,0,none⟩)]]) B4 B5 Tryz.func124 (e124 (some ⟨m,0,none⟩) h pl ⟨.func 324,#[],#[.pointer (some ⟨nf,0,none⟩)]⟩ _) ?_
 unfold t124
 have hg:iO m ways sv∈IA m ways sv oseg (p++r::s):=List.mem_cons_self
 have hos: ∀{X:A4},(∀x∈oseg,x∈X++IA m ways sv oseg (p++r::s)):=fun x hx=>by unfold IA;simp[hx]
 have hrs: ∀{X:A4},(∀x∈r.2.2,x∈X++IA m ways sv oseg (p++r::s)):=fun x hx=>by unfold IA N9;simp[hx]
 have hb:=ok.few r (by simp)
 refine C4 fun n1 _=>ifF rfl ?_
 generalize ho1:(n1,Obj.cells #[.i pl.1,.i pl.2.1,.i pl.2.2.1] 102)=o1
 generalize hof:(nf,Obj.cells #[.i 0] 3)=o0
 have l1: ∀{Z:A4},D0 ⟨n1,0,none⟩ [.i pl.1,.i pl.2.1,.i pl.2.2.1] (o1::Z):=by subst ho1;exact ldB List.mem_cons_self rfl
 have lr:D0 (a.add p.length) [.slice r.1.a r.1.len r.1.cap] (o1::o0::IA m ways sv oseg (p++r::s)):=B22 ok ha (hos (X:=[o1,o0]))
 refine A6 pl l1 (B7 (Ag9 _ m ways sv (by simp[hg]) a ha hl1 (by omega) h hh) (some (a.add (h%sv.len)),()) rfl (E5 l1 ?_))
 rw[hp]
 refine A5 rfl (A6 r.1 lr (B7 (Bh0 _ h hh pl) ((S4 h,pl.1,pl.2.1,pl.2.2.1,()),()) rfl (E5 lr (C4 fun n2 _=>E0 [] _ rfl rfl (by simp) (.inl (Nat.le_refl _)) #[.i (S4 h),.i pl.1,.i pl.2.1,.i pl.2.2.1] rfl ?_))))
 rw[List.nil_append]
 generalize ho2:(n2,Obj.cells #[.i (S4 h),.i pl.1,.i pl.2.1,.i pl.2.2.1] 202)=o2
 have l2: ∀{Z:A4},D0 ⟨n2,0,none⟩ [.i (S4 h),.i pl.1,.i pl.2.1,.i pl.2.2.1] (o2::Z):=by subst ho2;exact ldB List.mem_cons_self rfl
 have lsl0:Sl (IA m ways sv oseg (p++r::s)) r.1 5 (r.2.1.flatMap Aj2):=An8 ok (hrs (X:=[]))
 have lsl:Sl (o2::o1::o0::IA m ways sv oseg (p++r::s)) r.1 5 (r.2.1.flatMap Aj2):=An8 ok (hrs (X:=[o2,o1,o0]))
 have hlen:=lsl.els_len K0 (by decide)
 refine G3 (fun k z L'=>L'=o2::o1::o0::IA m ways sv oseg (p++r::s)/\ ∃i:Nat,i<=r.2.1.length/\k=r.2.1.length-i/\z=((i:Int),())/\ ∀s∈r.2.1.take i,s.nm≠inm h pl) r.2.1.length ⟨rfl,0,by omega,by omega,rfl,by simp⟩ ?_
 rintro k z L' ⟨rfl,i,hi,rfl,rfl,hn⟩
 refine C0 (fun(hlt:(i:Int)<r.1.len)=>?_) (fun(hge: ¬(i:Int)<r.1.len)=>?_)
 ·have hi':i<r.2.1.length:=by omega
  have hi0:(0:Int)<=(i:Int):=by omega
  obtain⟨b,hb',hld⟩:=lsl.el K0 (by decide) hi'
  refine A5 hb' (E1 hi0 hlt (A6 (r.2.1[i].part,r.2.1[i].b,r.2.1[i].p,r.2.1[i].e,()) ?_ (A6 (S4 h,pl) l2 (eqNm _ _ _ _ _ _ _ _ ?_))))
  ·rw[Int.toNat_natCast]
   exact hld.pre fun j u hu=>by rcases j with _|_|_|_|j<;>first|exact hu|exact absurd (show(none:Option Value)=some u from hu) (by simp)
  refine C0 (fun(he:r.2.1[i].nm=inm h pl)=>?_) (fun(he: ¬r.2.1[i].nm=inm h pl)=>?_)
  ·have hfi:=Ay3 hi' he hn
   obtain⟨b2,hb2,hld2⟩:=lsl0.el K0 (by decide) hi'
   rw[hb']at hb2
   obtain rfl:=Option.some.inj hb2
   have hfd:Q0 ss h pl=some r.2.1[i]:=by
    unfold Q0
    rcases V0 r.2.1 (inm h pl)with⟨e1,_⟩|⟨j,hj,e1,e2,_⟩
    ·rw[hfi]at e1;cases e1
    ·rw[hfi]at e1
     obtain rfl:=Option.some.inj e1
     rw[hrow,e2]
   subst hof
   refine A5 hb' (E1 hi0 hlt (Y4 (by kernel_rfl) ?_))
   refine J5 [o2,o1] [] (Ct1 (IA m ways sv oseg (p++r::s)) (b.add ((i:Int).toNat*5)) r.2.1[i].freq (by rw[Int.toNat_natCast];exact hld2.one 4 rfl) nf 0) (by simp) ?_
   rintro _ _-⟨rfl,rfl⟩
   rw[List.append_nil]
   refine⟨(),rfl,.cons (.cons (.of ⟨by rw[hfd];rfl,?_⟩))⟩
   unfold Ax4
   rw[hfd]
   rfl
  ·refine⟨r.2.1.length-(i+1),by omega,rfl,i+1,by omega,rfl,?_,fun e hx=>?_⟩
   ·rw[C1 (by first|omega|(simp only;omega)) (by first|omega|(simp only;omega))]
    rfl
   ·rw[List.take_succ_eq_append_getElem hi']at hx
    rcases List.mem_append.1 hx with hx|hx
    ·exact hn e hx
    ·rw[List.mem_singleton.1 hx];exact he
 ·obtain rfl:i=r.2.1.length:=by omega
  rw[List.take_length]at hn
  have hfd:Q0 ss h pl=none:=by
   unfold Q0
   rw[hrow,List.find?_eq_none]
   intro s hs
   simpa using hn s hs
  subst hof
  refine .cons (.cons (.of ⟨by rw[hfd];rfl,?_⟩))
  unfold Ax4
  rw[hfd]
theorem C92(m:Nat)(ways:Int)(ss:List (List C9))(A:A4)(hA:IX m ways ss A)(h:Nat)(hh:h<2^64)(pl:Pl)(hfr: ∀s∈P2 ss h,0<=s.freq/\s.freq<=3):
  CallF PP 60 #[.pointer (some ⟨m,0,none⟩),.int .u64 h,.agg #[.i pl.1,.i pl.2.1,.i pl.2.2.1]] A
   fun v L'=>v= .bool (Q0 ss h pl).isSome/\IX m ways (iset ss h (Aq6 (P2 ss h) (inm h pl))) L':=by
 refine CallF.of (args:=[.pointer (some ⟨m,0,none⟩),.int .u64 h,.agg #[.i pl.1,.i pl.2.1,.i pl.2.2.1]]) B4 B5 Tryz.func60 (e60 (some ⟨m,0,none⟩) h pl _) ?_
 unfold t60
 refine C4 fun n1 _=>A6 pl (ldB List.mem_cons_self rfl) (J5 [(n1,Obj.cells #[.i pl.1,.i pl.2.1,.i pl.2.2.1] 102)] [] (Cd1 m ways ss A hA h hh pl hfr) (by simp) ?_)
 rintro _ A1-⟨rfl,hA1⟩
 rw[List.append_nil]
 exact⟨((Q0 ss h pl).isSome,()),rfl,.cons (.of ⟨rfl,hA1⟩)⟩
theorem Cs1(m:Nat)(ways:Int)(ss:List (List C9))(A:A4)(hA:IX m ways ss A)(h:Nat)(hh:h<2^64)(pl:Pl):
  Reads PP 293 #[.pointer (some ⟨m,0,none⟩),.int .u64 h,.agg #[.i pl.1,.i pl.2.1,.i pl.2.2.1]] A (.i (Ax4 ss h pl)):=by
 refine Reads.of (args:=[.pointer (some ⟨m,0,none⟩),.int .u64 h,.agg #[.i pl.1,.i pl.2.1,.i pl.2.2.1]]) B4 B5 Tryz.func293 (e293 (some ⟨m,0,none⟩) h pl _) ?_
 unfold t293
 refine C4 fun n1 _=>C4 fun n2 _=>E0 [] _ rfl rfl (by simp) (.inl (Nat.le_refl _)) #[.i 0] rfl (A6 pl (ldB (n:=n1) (c:=#[.i pl.1,.i pl.2.1,.i pl.2.2.1]) (T:=102) (fz:=(0,0)) (by simp) rfl) ?_)
 generalize (n1,Obj.cells #[.i pl.1,.i pl.2.1,.i pl.2.2.1] 102)=o1
 refine G2 (R:=[o1]) (Cd2 m ways ss A hA h hh pl n2) ?_ ?_
 ·exact(List.Perm.cons _ (List.perm_append_comm (l₁:=[o1]) (l₂:=A)))
 rintro _ _ ⟨rfl,rfl⟩
 refine⟨(n2,Obj.cells #[.i (Ax4 ss h pl)] 3)::o1::A,List.Perm.cons _ (List.perm_append_comm (l₁:=A) (l₂:=[o1])),((Q0 ss h pl).isSome,()),rfl,?_⟩
 exact A6 (Ax4 ss h pl) (ldB List.mem_cons_self rfl) (.cons (.cons (.of ⟨rfl,rfl⟩)))
structure BS where
 wear:Int
 bad:Bool
 dirty:Bool
def W2(s:BS):List Value:=[.i s.wear,.bool s.bad,.bool s.dirty]
theorem G8(s:BS):(W2 s).length=3:=rfl
theorem Bq6(l:List BS):(l.flatMap W2).all S0=true:=by
 induction l with
 |nil=>rfl
 |cons e r ih=>rw[List.flatMap_cons,List.all_append,ih];rfl
def bs0:BS:=⟨0,false,false⟩
abbrev tyIn:TypeId:=49
abbrev Bx0:TypeId:=3
abbrev tySt:TypeId:=159
abbrev eSt:TypeId:=194
theorem A99:U3 PP tyIn Bx0 1 8 [.i 0]:=M5 (by kernel_rfl) (by kernel_rfl) rfl (by decide) (by decide)
theorem B63:Ar0 PP tyIn:=.inl ⟨Bx0,by kernel_rfl⟩
theorem Cg9:U3 PP tySt eSt 3 16 [.i 0,.bool false,.bool false]:=M5 (by kernel_rfl) (by kernel_rfl) rfl (by decide) (by decide)
theorem Cx2:Ar0 PP tySt:=.inl ⟨eSt,by kernel_rfl⟩
theorem own_z{sz:Nat}{e:TypeId}:Own ⟨none,0,0⟩ sz e [] []:=⟨by simp,Nat.le_refl _,.inl ⟨rfl,rfl,rfl⟩⟩
theorem own_n{sz n:Nat}{e:TypeId}:Own ⟨some ⟨n,0,none⟩,0,0⟩ sz e [] [(n,Obj.cells #[] e)]:=⟨by simp,Nat.le_refl _,.inr ⟨n,0,#[],(0,0),rfl,rfl,by simp,.inl (Nat.le_refl _),fun i u hu=>by simp at hu⟩⟩
theorem B19(L:A4)(v:SlV)(l:List Int)(h:ISl L v .i64 l)(hb:l.length<=1000000)(x:Int):
  Reads PP 289 #[.slice v.a v.len v.cap,.i x] L (.i (match l.findIdx? (fun y=>decide (y=x))with|some i=>(i:Int)|none=> -1)):=by
 refine Reads.of (args:=[.slice v.a v.len v.cap,.i x]) B4 B5 Tryz.func289 (e289 v x _) ?_
 unfold t289
 have hlen:=h.len
 refine G3 (fun k z L'=>L'=L/\ ∃i:Nat,i<=l.length/\k=l.length-i/\z=((i:Int),())/\ ∀y∈l.take i,y≠x) l.length ⟨rfl,0,by omega,by omega,rfl,by simp⟩ ?_
 rintro k z L' ⟨rfl,i,hi,rfl,rfl,hn⟩
 refine C0 (fun(hlt:(i:Int)<v.len)=>?_) (fun(hge: ¬(i:Int)<v.len)=>?_)
 ·have hi':i<l.length:=by omega
  obtain⟨a,ha⟩:=h.some hi'
  refine A5 ha (E1 (show(0:Int)<=i by omega) hlt (A6 l[i] (h.rd hi' ha _ (by simp)) ?_))
  refine Z7 (fun he=>.of ⟨?_,rfl⟩) (fun he=>⟨l.length-(i+1),by omega,rfl,i+1,by omega,rfl,?_,fun y hy=>?_⟩)
  ·have:l.findIdx? (fun y=>decide (y=x))=some i:=by
    rw[List.findIdx?_eq_some_iff_getElem]
    refine⟨hi',by simpa using he.symm,fun j hj=>?_⟩
    have:=hn l[j] (by rw[List.mem_take_iff_getElem];exact⟨j,by omega,rfl⟩)
    simpa using this
   rw[this]
  ·rw[C1 (by first|omega|(simp only;omega)) (by first|omega|(simp only;omega))]
   rfl
  ·rw[List.take_succ_eq_append_getElem hi']at hy
   rcases List.mem_append.1 hy with hy|hy
   ·exact hn y hy
   ·rw[List.mem_singleton.1 hy];exact fun e=>he e.symm
 ·obtain rfl:i=l.length:=by omega
  rw[List.take_length]at hn
  have:l.findIdx? (fun y=>decide (y=x))=none:=by
   rw[List.findIdx?_eq_none_iff]
   intro y hy
   simpa using hn y hy
  rw[this]
  exact .of ⟨rfl,rfl⟩
theorem Cr7(L:A4)(v:SlV)(l:List Int)(h:ISl L v .i64 l)(hb:l.length<=1000000)(x:Int):
  Reads PP 228 #[.slice v.a v.len v.cap,.i x] L (.bool (decide (x∈l))):=by
 refine Reads.of (args:=[.slice v.a v.len v.cap,.i x]) B4 B5 Tryz.func228 (e228 v x _) ?_
 unfold t228
 refine B7 (B19 _ v l h hb x) (_,()) rfl (.of ⟨?_,rfl⟩)
 cases hf:l.findIdx? (fun y=>decide (y=x))with
 |none=>
  rw[List.findIdx?_eq_none_iff]at hf
  have:x∉l:=fun hx=>by have:=hf x hx;simp at this
  simp[this]
 |some i=>
  rw[List.findIdx?_eq_some_iff_getElem]at hf
  obtain⟨hi,h1,_⟩:=hf
  have:x∈l:=by
   have e:l[i]=x:=by simpa using h1
   rw[<-e];exact List.getElem_mem hi
  simp[this]
theorem Bz2(A:A4)(v:SlV)(l:List BS)(h:Sl A v 3 (l.flatMap W2))(hb:l.length<=1000000):
  CallF PP 171 #[.slice v.a v.len v.cap] A fun r L'=> ∃(s:SlV) (seg:A4),r= .slice s.a s.len s.cap/\L'=seg++A/\Own s 3 eSt (l.flatMap W2) seg:=by
 refine CallF.of (args:=[.slice v.a v.len v.cap]) B4 B5 Tryz.func171 (e171 v _) ?_
 unfold t171
 have hlen:=h.els_len G8 (by decide)
 refine G0 (fun hn=>?_) (fun hn=>?_)
 ·have:l=[]:=by
   cases l with
   |nil=>rfl
   |cons x r=>
    obtain⟨a,ha,_⟩:=h.el G8 (by decide) (i:=0) (by simp)
    rw[ha]at hn;cases hn
  subst this
  exact .of ⟨⟨none,0,0⟩,[],rfl,rfl,own_z⟩
 ·refine C4 fun n1 _=>E6 Cg9 Cx2 [] A own_n rfl (.sl h.cons) (Bq6 _) (by first|omega|(simp only;omega)) fun s seg hs own=>?_
  rw[List.nil_append]at own
  exact .of ⟨s,seg,rfl,by simp,own⟩
theorem Br4(L:A4)(y x:Int)(ad:Addr)(hl:D0 ad [.i x] L):Reads PP 326 #[.i y,.pointer (some ad)] L (.bool (decide (y=x))):=by
 refine Reads.of (args:=[.i y,.pointer (some ad)]) B4 B5 Tryz.func326 (e326 y (some ad) _) ?_
 unfold t326
 refine A5 rfl (A6 x hl (.of ⟨?_,rfl⟩))
 congr 1
theorem Bo9(L:A4)(v:SlV)(l:List Int)(h:ISl L v .i64 l)(hb:l.length<=1000000)(x:Int)(ad:Addr)(hl:D0 ad [.i x] L):
  Reads PP 335 #[.slice v.a v.len v.cap,.func (.func 326) #[] #[.pointer (some ad)]] L (.i (match l.findIdx? (fun y=>decide (y=x))with|some i=>(i:Int)|none=> -1)):=by
 refine Reads.of (args:=[.slice v.a v.len v.cap,.func (.func 326) #[] #[.pointer (some ad)]]) B4 B5 Tryz.func335 (e335 v ⟨.func 326,#[],#[.pointer (some ad)]⟩ _) ?_
 unfold t335
 have hlen:=h.len
 refine G3 (fun k z L'=>L'=L/\ ∃i:Nat,i<=l.length/\k=l.length-i/\z=((i:Int),())/\ ∀y∈l.take i,y≠x) l.length ⟨rfl,0,by omega,by omega,rfl,by simp⟩ ?_
 rintro k z L' ⟨rfl,i,hi,rfl,rfl,hn⟩
 refine C0 (fun(hlt:(i:Int)<v.len)=>?_) (fun(hge: ¬(i:Int)<v.len)=>?_)
 ·have hi':i<l.length:=by omega
  obtain⟨a,ha⟩:=h.some hi'
  refine A5 ha (E1 (show(0:Int)<=i by omega) hlt (A6 l[i] (h.rd hi' ha _ (by simp)) (Y4 (by kernel_rfl) (B7 (Br4 _ l[i] x ad hl) (decide (l[i]=x),()) rfl ?_))))
  refine C0 (fun(he:l[i]=x)=>.of ⟨?_,rfl⟩) (fun(he: ¬l[i]=x)=>⟨l.length-(i+1),by omega,rfl,i+1,by omega,rfl,?_,fun y hy=>?_⟩)
  ·have:l.findIdx? (fun y=>decide (y=x))=some i:=by
    rw[List.findIdx?_eq_some_iff_getElem]
    refine⟨hi',by simpa using he,fun j hj=>?_⟩
    have:=hn l[j] (by rw[List.mem_take_iff_getElem];exact⟨j,by omega,rfl⟩)
    simpa using this
   rw[this]
  ·rw[C1 (by first|omega|(simp only;omega)) (by first|omega|(simp only;omega))]
   rfl
  ·rw[List.take_succ_eq_append_getElem hi']at hy
   rcases List.mem_append.1 hy with hy|hy
   ·exact hn y hy
   ·rw[List.mem_singleton.1 hy];exact he
 ·obtain rfl:i=l.length:=by omega
  rw[List.take_length]at hn
  have:l.findIdx? (fun y=>decide (y=x))=none:=by
   rw[List.findIdx?_eq_none_iff]
   intro y hy
   simpa using hn y hy
  rw[this]
  exact .of ⟨rfl,rfl⟩
def iwo(l:List Int)(x:Int):List Int:=l.filter fun y=>decide (y≠x)
theorem Bu7(l:List Int)(x y:Int):iwo (l++[y]) x=iwo l x++(if y=x then[]else[y]):=by
 unfold iwo
 rw[List.filter_append]
 by_cases h:y=x<;>simp[h]
theorem Cr8(v:SlV)(l:List Int)(seg:A4)(own:Own v 1 Bx0 (ivs .i64 l) seg)(hb:l.length<=1000000)(x:Int)(n1:Nat):
  CallF PP 325 #[.slice v.a v.len v.cap,.func (.func 326) #[] #[.pointer (some ⟨n1,0,none⟩)]] ((n1,Obj.cells #[.i x] 3)::seg)
   fun r L'=> ∃(s:SlV) (seg':A4),r= .slice s.a s.len s.cap/\L'=(n1,Obj.cells #[.i x] 3)::seg'/\Own s 1 Bx0 (ivs .i64 (iwo l x)) seg':=by
 refine CallF.of (args:=[.slice v.a v.len v.cap,.func (.func 326) #[] #[.pointer (some ⟨n1,0,none⟩)]]) B4 B5 Tryz.func325 (e325 v ⟨.func 326,#[],#[.pointer (some ⟨n1,0,none⟩)]⟩ _) ?_
 unfold t325
 generalize ho:(n1,Obj.cells #[.i x] 3)=o1
 have l1: ∀{Z:A4},D0 ⟨n1,0,none⟩ [.i x] (o1::Z):=by subst ho;exact ldB List.mem_cons_self rfl
 clear ho
 have h0:ISl (o1::seg) v .i64 l:=own.sl.cons
 have hlen:=h0.len
 have hcap:=own.cap
 refine B7 (Bo9 _ v l h0 hb x ⟨n1,0,none⟩ l1) (_,()) rfl ?_
 cases hf:l.findIdx? (fun y=>decide (y=x))with
 |none=>
  rw[List.findIdx?_eq_none_iff]at hf
  have:iwo l x=l:=by
   unfold iwo
   rw[List.filter_eq_self]
   intro y hy
   have:=hf y hy
   simpa using this
  rw[this]
  exact ifT rfl (.of ⟨v,seg,rfl,rfl,own⟩)
 |some i0=>
  rw[List.findIdx?_eq_some_iff_getElem]at hf
  obtain⟨hi0,h1,h2⟩:=hf
  have h1':l[i0]=x:=by simpa using h1
  have hpre:iwo (l.take i0) x=l.take i0:=by
   unfold iwo
   rw[List.filter_eq_self]
   intro y hy
   obtain⟨j,hj,rfl⟩:=List.mem_take_iff_getElem.1 hy
   have:=h2 j (by omega)
   simpa using this
  have hsn:=Bu7 (l.take i0) x l[i0]
  rw[<-List.take_succ_eq_append_getElem hi0,if_pos h1',hpre,List.append_nil]at hsn
  refine ifF (by simp) ?_
  have hw:IntKind.i64.wrap ((i0:Int)+1)=((i0+1:Nat):Int):=by rw[C1 (by omega) (by omega)];omega
  simp only[hw]
  refine G3 (fun k z L'=> ∃(i j:Nat) (cur:List Int) (seg:A4),i<=j/\j<=l.length/\k=l.length-j/\z=((i:Int),(j:Int),())/\L'=o1::seg/\Own v 1 Bx0 (ivs .i64 cur) seg/\cur.length=l.length/\i=(iwo (l.take j) x).length/\cur.take i=iwo (l.take j) x/\cur.drop j=l.drop j) (l.length-(i0+1))
   ⟨i0,i0+1,l,seg,by omega,by omega,by omega,rfl,rfl,own,rfl,by rw[hsn,List.length_take];omega,by rw[hsn],rfl⟩ ?_
  clear hsn hpre own h0
  rintro k z L' ⟨i,j,cur,seg,hij,hj,rfl,rfl,rfl,own,hcl,hil,htk,hdr⟩
  have h0:ISl (o1::seg) v .i64 cur:=own.sl.cons
  refine C0 (fun(hlt:(j:Int)<v.len)=>?_) (fun(hge: ¬(j:Int)<v.len)=>?_)
  ·have hj':j<cur.length:=by omega
   have hjl:j<l.length:=by omega
   have hcj:cur[j]=l[j]:=by
    have a1:=List.drop_eq_getElem_cons hj'
    have a2:=List.drop_eq_getElem_cons hjl
    rw[hdr,a2]at a1
    injection a1 with b1 b2
    exact b1.symm
   have hdr':cur.drop (j+1)=l.drop (j+1):=by
    rw[<-List.drop_drop,hdr,List.drop_drop]
   obtain⟨a,ha⟩:=h0.some hj'
   have hsn:=Bu7 (l.take j) x l[j]
   rw[<-List.take_succ_eq_append_getElem hjl]at hsn
   have hwj:IntKind.i64.wrap ((j:Int)+1)=((j+1:Nat):Int):=by rw[C1 (by omega) (by omega)];omega
   have hwi:IntKind.i64.wrap ((i:Int)+1)=((i+1:Nat):Int):=by rw[C1 (by omega) (by omega)];omega
   refine A5 ha (E1 (show(0:Int)<=(j:Int) by omega) hlt (A6 cur[j] (h0.rd hj' ha _ (by simp)) (Y4 (by kernel_rfl) (B7 (Br4 _ cur[j] x ⟨n1,0,none⟩ l1) (decide (cur[j]=x),()) rfl ?_))))
   rw[hcj]
   refine G0 (fun hne=>?_) (fun he=>?_)
   ·have hne':l[j]≠x:=by simpa using hne
    rw[if_neg hne']at hsn
    refine A5 ha (E1 (show(0:Int)<=(i:Int) by omega) (show(i:Int)<v.len by omega) ?_)
    refine own.st [o1] [] (p:=i) (by rw[M2];simp only[List.length_cons,List.length_nil];omega) (by simp) ha (by simp) (by simp) fun seg' own'=>?_
    rw[Ak4 (by rw[M2];omega),C84]at own'
    refine⟨l.length-(j+1),by omega,i+1,j+1,cur.set i l[j],seg',by omega,by omega,rfl,?_,by simp,own',by rw[List.length_set];exact hcl,?_,?_,?_⟩
    ·show(IntKind.i64.wrap ((i:Int)+1),IntKind.i64.wrap ((j:Int)+1),())=_
     rw[hwi,hwj]
    ·rw[hsn,List.length_append,<-hil];rfl
    ·rw[hsn,<-htk,List.take_succ_eq_append_getElem (by rw[List.length_set];omega),List.take_set_of_le (by omega),List.getElem_set_self]
    ·rw[List.drop_set_of_lt (by omega)];exact hdr'
   ·have he':l[j]=x:=by simpa using he
    rw[if_pos he',List.append_nil]at hsn
    refine⟨l.length-(j+1),by omega,i,j+1,cur,seg,by omega,by omega,rfl,?_,rfl,own,hcl,by rw[hsn];exact hil,by rw[hsn];exact htk,hdr'⟩
    show((i:Int),IntKind.i64.wrap ((j:Int)+1),())=_
    rw[hwj]
  ·obtain rfl:j=l.length:=by omega
   rw[List.take_length]at hil htk
   have own':=own.slc (l:=0) (h:=i) (by omega) (by omega)
   rw[Cd3,List.drop_zero,Nat.sub_zero,htk]at own'
   refine K1 (l':=i) (h':=v.len) (m':=v.cap) rfl rfl rfl (by omega) hcap (Nat.le_refl _) ?_
   have hs:O6 v ((i:Nat):Int) ((v.len:Nat):Int) ((v.cap:Nat):Int) 1=O6 (O6 v ((0:Nat):Int) ((i:Nat):Int) ((v.cap:Nat):Int) 1) ((O6 v ((0:Nat):Int) ((i:Nat):Int) ((v.cap:Nat):Int) 1).len) ((v.len:Nat):Int) ((O6 v ((0:Nat):Int) ((i:Nat):Int) ((v.cap:Nat):Int) 1).cap) 1:=by
    have ea: ∀o:Option Addr,o.map (·.add 0)=o:=fun o=>by cases o<;>simp[Addr.add]
    simp only[O6,Int.toNat_natCast,Nat.sub_zero,Nat.zero_mul,Nat.mul_one,ea,ite_self]
   refine Af7 A99 rfl [o1] [] own' (by simp) (h:=v.len) (by simp only[O6,Int.toNat_natCast];omega) (by simp only[O6,Int.toNat_natCast];omega) hs fun seg2 own2=>?_
   refine K1 (l':=0) (h':=i) (m':=v.cap) rfl rfl rfl (by omega) (by omega) (Nat.le_refl _) (.of ⟨_,seg2,rfl,by simp,own2⟩)
def bO(m:Nat)(sv uv:SlV):Nat×Obj:=(m,Obj.cells #[.slice sv.a sv.len sv.cap,.slice uv.a uv.len uv.cap] 259)
structure BOk(sv:SlV)(sseg:A4)(ss:List BS)(uv:SlV)(useg:A4)(us:List Int):Prop where
 own:Own sv 3 eSt (ss.flatMap W2) sseg
 uown:Own uv 1 Bx0 (ivs .i64 us) useg
 cnt:1<=ss.length/\ss.length<=16
 few:us.length<=100000
 wr: ∀s∈ss,0<=s.wear/\s.wear<=1000000000
def BX(m:Nat)(ss:List BS)(us:List Int)(A:A4):Prop:= ∃sv sseg uv useg,A=bO m sv uv::(sseg++useg)/\BOk sv sseg ss uv useg us
section
variable {L:A4} {m:Nat} {sv uv:SlV}
theorem b_s(h:bO m sv uv∈L):D0 ⟨m,0,none⟩ [.slice sv.a sv.len sv.cap] L:=ldB (by unfold bO at h;exact h) rfl
theorem b_u(h:bO m sv uv∈L):D0 ⟨m,1,none⟩ [.slice uv.a uv.len uv.cap] L:=ldB (by unfold bO at h;exact h) rfl
end
def F4(ss:List BS)(n:Int):Bool:=decide (0<=n)&&(match ss[n.toNat]? with|some s=> !s.bad|none=>false)
def M9(ss:List BS)(us:List Int)(n:Int):Bool:=F4 ss n&& !decide (n∈us)
theorem Ba6(L:A4)(m:Nat)(ss:List BS)(us:List Int)(A:A4)(hA:BX m ss us A)(hs: ∀x∈A,x∈L)(n:Int):Reads PP 120 #[.pointer (some ⟨m,0,none⟩),.i n] L (.bool (F4 ss n)):=by
 obtain⟨sv,sseg,uv,useg,rfl,ok⟩:=hA
 refine Reads.of (args:=[.pointer (some ⟨m,0,none⟩),.i n]) B4 B5 Tryz.func120 (e120 (some ⟨m,0,none⟩) n _) ?_
 unfold t120
 have hm:bO m sv uv∈L:=hs _ List.mem_cons_self
 have hsl:Sl L sv 3 (ss.flatMap W2):=ok.own.sl.mono fun x hx=>hs x (by simp[hx])
 have hlen:=hsl.els_len G8 (by decide)
 refine ifT rfl (C0 (fun(h0:n≥0)=>A5 rfl (A6 sv (b_s hm) (C0 (fun(h1:n<sv.len)=>?_) (fun(h1: ¬n<sv.len)=>.of ⟨?_,rfl⟩)))) (fun(h0: ¬n≥0)=>.of ⟨?_,rfl⟩))
 ·have hi:n.toNat<ss.length:=by omega
  obtain⟨a,ha,hl⟩:=hsl.el G8 (by decide) hi
  refine A5 rfl (A6 sv (b_s hm) (A5 ha (E1 h0 h1 (A6 ss[n.toNat].bad (hl.one 1 rfl) (.of ⟨?_,rfl⟩)))))
  unfold F4
  rw[List.getElem?_eq_getElem hi,decide_eq_true (show 0<=n by omega)]
  rfl
 ·unfold F4
  rw[List.getElem?_eq_none (by omega)]
  simp
 ·unfold F4
  rw[decide_eq_false (by omega)];rfl
theorem As5(L:A4)(m:Nat)(ss:List BS)(us:List Int)(A:A4)(hA:BX m ss us A)(hs: ∀x∈A,x∈L)(n:Int):Reads PP 172 #[.pointer (some ⟨m,0,none⟩),.i n] L (.bool (M9 ss us n)):=by
 refine Reads.of (args:=[.pointer (some ⟨m,0,none⟩),.i n]) B4 B5 Tryz.func172 (e172 (some ⟨m,0,none⟩) n _) ?_
 unfold t172
 refine B7 (Ba6 _ m ss us A hA hs n) (F4 ss n,()) rfl ?_
 obtain⟨sv,sseg,uv,useg,rfl,ok⟩:=hA
 have hm:bO m sv uv∈L:=hs _ List.mem_cons_self
 have husl:ISl L uv .i64 us:=ok.uown.sl.mono fun x hx=>hs x (by simp[hx])
 refine G0 (fun hg=>?_) (fun hg=>.of ⟨?_,rfl⟩)
 ·have hg':F4 ss n=true:=hg
  have hfew:=ok.few
  refine A5 rfl (A6 uv (b_u hm) (B7 (Cr7 _ uv us husl (by omega) n) (decide (n∈us),()) rfl (.of ⟨?_,rfl⟩)))
  unfold M9
  rw[hg'];rfl
 ·have hg':F4 ss n=false:=hg
  unfold M9
  rw[hg'];rfl
def Af4{σ:Type}(q:Int->Bool)(step:σ->Int->BS->σ)(s0:σ)(ss:List BS):σ:=ss.zipIdx.foldl (fun s p=>if q p.2 then step s p.2 p.1 else s) s0
theorem A36{σ:Type}(q:Int->Bool)(step:σ->Int->BS->σ)(s0:σ)(ss:List BS)(x:BS):Af4 q step s0 (ss++[x])=if q ss.length then step (Af4 q step s0 ss) ss.length x else Af4 q step s0 ss:=by
 unfold Af4
 rw[List.zipIdx_append,List.foldl_append]
 simp
theorem Ba7{σ:Type}(m:Nat)(ss:List BS)(us:List Int)(A:A4)(hA:BX m ss us A)(q:Int->Bool)(step:σ->Int->BS->σ)(ok:Nat->σ->Prop)(hskip: ∀n s,ok n s->ok (n+1) s)(obs:σ->A4)(i1 i2:FuncId)(ho1:Ac7 PP i1=true)(ho2:Ac7 PP i2=true)(caps:Array Value)
  (h1: ∀(L:A4) (n:Int),(∀x∈A,x∈L)->Reads PP i1 #[.pointer (some ⟨m,0,none⟩),.i n] L (.bool (q n)))
  (h2: ∀(s:σ) (n:Nat) (x:BS),n<16->ok n s->0<=x.wear->x.wear<=1000000000->CallF PP i2 (#[.i n,.agg #[.i x.wear,.bool x.bad,.bool x.dirty]]++caps) (obs s) fun r L'=>r= .tuple #[]/\L'=obs (step s n x)/\ok (n+1) (step s n x)) (s0:σ) (hs0:ok 0 s0):
  CallF PP 119 #[.pointer (some ⟨m,0,none⟩),.func (.func i1) #[.pointer (some ⟨m,0,none⟩)] #[],.func (.func i2) #[] caps] (obs s0++A) fun r L'=>r= .tuple #[]/\L'=obs (Af4 q step s0 ss)++A/\ok ss.length (Af4 q step s0 ss):=by
 have hA':=hA
 obtain⟨sv,sseg,uv,useg,hAe,bok⟩:=hA
 refine CallF.of (args:=[.pointer (some ⟨m,0,none⟩),.func (.func i1) #[.pointer (some ⟨m,0,none⟩)] #[],.func (.func i2) #[] caps]) B4 B5 Tryz.func119 (e119 (some ⟨m,0,none⟩) ⟨.func i1,#[.pointer (some ⟨m,0,none⟩)],#[]⟩ ⟨.func i2,#[],caps⟩ _) ?_
 unfold t119
 have hm: ∀{X:A4},bO m sv uv∈X++A:=fun{X}=>by subst hAe;simp
 have hsl: ∀{X:A4},Sl (X++A) sv 3 (ss.flatMap W2):=fun{X}=>bok.own.sl.mono fun x hx=>by subst hAe;simp[hx]
 have hlen:=(hsl (X:=[])).els_len G8 (by decide)
 have hcnt:=bok.cnt
 refine ifF rfl (A5 rfl (A6 sv (b_s hm) ?_))
 refine G3 (fun k z L'=> ∃i:Nat,i<=ss.length/\k=ss.length-i/\z=((i:Int),())/\L'=obs (Af4 q step s0 (ss.take i))++A/\ok i (Af4 q step s0 (ss.take i))) ss.length ⟨0,by omega,by omega,rfl,by simp[Af4],by simpa[Af4]using hs0⟩ ?_
 rintro k z L ⟨i,hi,rfl,rfl,rfl,hok⟩
 refine C0 (fun(hlt:(i:Int)<sv.len)=>?_) (fun(hge: ¬(i:Int)<sv.len)=>?_)
 ·have hi':i<ss.length:=by omega
  have hsn:=A36 q step s0 (ss.take i) ss[i]
  rw[<-List.take_succ_eq_append_getElem hi',List.length_take,Nat.min_eq_left hi]at hsn
  have hwr:=bok.wr ss[i] (List.getElem_mem hi')
  obtain⟨a,ha,hl⟩:=(hsl (X:=obs (Af4 q step s0 (ss.take i)))).el G8 (by decide) hi'
  have hw:IntKind.i64.wrap ((i:Int)+1)=((i+1:Nat):Int):=by rw[C1 (by omega) (by omega)];omega
  refine Y4 ho1 (B7 (h1 _ (i:Int) (fun x hx=>List.mem_append_right _ hx)) (q i,()) rfl ?_)
  refine G0 (fun hq=>?_) (fun hq=>?_)
  ·have hq':q (i:Int)=true:=hq
   rw[if_pos hq']at hsn
   refine A5 rfl (A6 sv (b_s hm) (A5 ha (E1 (show(0:Int)<=(i:Int) by omega) hlt (A6 (ss[i].wear,ss[i].bad,ss[i].dirty,()) (by rw[Int.toNat_natCast];exact hl) (Y4 ho2 ?_)))))
   refine J5 [] A (h2 _ i ss[i] (by omega) hok hwr.1 hwr.2) rfl ?_
   rintro _ _-⟨rfl,rfl,hok'⟩
   refine⟨(),rfl,ss.length-(i+1),by omega,i+1,by omega,rfl,?_,by rw[hsn];rfl,by rw[hsn];exact hok'⟩
   rw[hw]
  ·have hq': ¬q (i:Int)=true:=by rw[show q (i:Int)=false from hq];decide
   rw[if_neg hq']at hsn
   refine⟨ss.length-(i+1),by omega,i+1,by omega,rfl,?_,by rw[hsn],by rw[hsn];exact hskip _ _ hok⟩
   rw[hw]
 ·obtain rfl:i=ss.length:=by omega
  rw[List.take_length]at hok⊢
  exact .of ⟨rfl,rfl,hok⟩
def A43(ss:List BS)(us:List Int):Int:=Af4 (M9 ss us) (fun(k:Int) _ _=>k+1) 0 ss
theorem Ct2(n1:Nat)(k:Int)(hk:0<=k/\k<=1000000)(n:Int)(x:BS):CallF PP 244 #[.i n,.agg #[.i x.wear,.bool x.bad,.bool x.dirty],.pointer (some ⟨n1,0,none⟩)] [(n1,Obj.cells #[.i k] 3)]
  fun r L'=>r= .tuple #[]/\L'=[(n1,Obj.cells #[.i (k+1)] 3)]:=by
 refine CallF.of (args:=[.i n,.agg #[.i x.wear,.bool x.bad,.bool x.dirty],.pointer (some ⟨n1,0,none⟩)]) B4 B5 Tryz.func244 (e244 n (x.wear,x.bad,x.dirty,()) (some ⟨n1,0,none⟩) _) ?_
 unfold t244
 refine C4 fun n2 _=>A5 rfl (A6 k (ldB (n:=n1) (c:=#[.i k]) (T:=3) (fz:=(0,0)) (by simp) rfl) (A5 rfl ?_))
 rw[C1 (by omega) (by omega)]
 exact E0 (n:=n1) (off:=0) (c:=#[.i k]) (T:=3) (fz:=(0,0)) [_] [] rfl rfl (by simp) (.inl (Nat.le_refl _)) #[.i (k+1)] rfl (.cons (.of ⟨rfl,rfl⟩))
theorem Ay7{σ:Type}(q:Int->Bool)(step:σ->Int->BS->σ)(s0:σ)(ss:List BS)(P:Nat->σ->Prop)(h0:P 0 s0)(h: ∀(i:Nat) (hi:i<ss.length) (s:σ),P i s->P (i+1) (if q i then step s i ss[i]else s)):P ss.length (Af4 q step s0 ss):=by
 have key: ∀k,k<=ss.length->P k (Af4 q step s0 (ss.take k)):=by
  intro k
  induction k with
  |zero=>intro _;simpa[Af4]using h0
  |succ k ih=>
   intro hk
   have hsn:=A36 q step s0 (ss.take k) (ss[k]'(by omega))
   rw[<-List.take_succ_eq_append_getElem (by omega),List.length_take,Nat.min_eq_left (by omega)]at hsn
   rw[hsn]
   exact h k (by omega) _ (ih (by omega))
 have:=key ss.length (Nat.le_refl _)
 rwa [List.take_length]at this
theorem Bk1(m:Nat)(ss:List BS)(us:List Int)(A:A4)(hA:BX m ss us A):Reads PP 185 #[.pointer (some ⟨m,0,none⟩)] A (.i (A43 ss us)):=by
 refine Reads.of (args:=[.pointer (some ⟨m,0,none⟩)]) B4 B5 Tryz.func185 (e185 (some ⟨m,0,none⟩) _) ?_
 unfold t185
 refine C4 fun n1 _=>E0 [] _ rfl rfl (by simp) (.inl (Nat.le_refl _)) #[.i 0] rfl ?_
 refine J5 [] [] (Ba7 m ss us A hA (M9 ss us) (fun(k:Int) _ _=>k+1) (fun n k=>0<=k/\k<=n) (fun n s h=>by omega) (fun k=>[(n1,Obj.cells #[.i k] 3)]) 172 244 (by kernel_rfl) (by kernel_rfl) #[.pointer (some ⟨n1,0,none⟩)]
  (fun L n hs=>As5 L m ss us A hA hs n) (fun s n x hn hs _ _=>CallF.mono (Ct2 n1 s (by omega) n x) (by rintro r L' _ ⟨rfl,rfl⟩;exact⟨rfl,rfl,by omega⟩)) 0 (by omega)) (by simp) ?_
 rintro _ _-⟨rfl,rfl,hok⟩
 rw[List.append_nil,List.nil_append]
 exact⟨(),rfl,A6 (A43 ss us) (ldB List.mem_cons_self rfl) (.cons (.of ⟨rfl,rfl⟩))⟩
def Z0(s:BS):Int:=if s.dirty then s.wear+1 else s.wear
theorem By3(L:A4)(s:BS)(h:0<=s.wear/\s.wear<=1000000000):Reads PP 251 #[.agg #[.i s.wear,.bool s.bad,.bool s.dirty]] L (.i (Z0 s)):=by
 refine Reads.of (args:=[.agg #[.i s.wear,.bool s.bad,.bool s.dirty]]) B4 B5 Tryz.func251 (e251 (s.wear,s.bad,s.dirty,()) _) ?_
 unfold t251
 refine C4 fun n1 _=>A6 s.dirty (ldB List.mem_cons_self rfl) (G0 (fun hd=>A6 s.wear (ldB List.mem_cons_self rfl) (.cons (.of ⟨?_,rfl⟩))) (fun hd=>A6 s.wear (ldB List.mem_cons_self rfl) (.cons (.of ⟨?_,rfl⟩))))
 ·unfold Z0;rw[if_pos hd,C1 (by omega) (by omega)]
 ·unfold Z0;rw[if_neg (by rw[hd];decide)]
abbrev BPk:=Bool×BS×Int
def N3(s:BPk)(n:Int)(x:BS):BPk:=if s.1=false\/Z0 x<Z0 s.2.1 then(true,x,n)else s
def F5(ss:List BS)(us:List Int):BPk:=Af4 (M9 ss us) N3 (false,bs0,0) ss
def Aj0(n3 n1 n2:Nat)(s:BPk):A4:=[(n3,Obj.cells #[.bool s.1] 4),(n1,Obj.cells #[.i s.2.1.wear,.bool s.2.1.bad,.bool s.2.1.dirty] eSt),(n2,Obj.cells #[.i s.2.2] 3)]
theorem Cp6(n3 n1 n2:Nat)(s:BPk)(hs:0<=s.2.1.wear/\s.2.1.wear<=1000000000)(n:Int)(x:BS)(hx:0<=x.wear/\x.wear<=1000000000):
  CallF PP 250 #[.i n,.agg #[.i x.wear,.bool x.bad,.bool x.dirty],.pointer (some ⟨n3,0,none⟩),.pointer (some ⟨n1,0,none⟩),.pointer (some ⟨n2,0,none⟩)] (Aj0 n3 n1 n2 s)
  fun r L'=>r= .tuple #[]/\L'=Aj0 n3 n1 n2 (N3 s n x):=by
 obtain⟨fd,best,at'⟩:=s
 refine CallF.of (args:=[.i n,.agg #[.i x.wear,.bool x.bad,.bool x.dirty],.pointer (some ⟨n3,0,none⟩),.pointer (some ⟨n1,0,none⟩),.pointer (some ⟨n2,0,none⟩)]) B4 B5 Tryz.func250 (e250 n (x.wear,x.bad,x.dirty,()) (some ⟨n3,0,none⟩) (some ⟨n1,0,none⟩) (some ⟨n2,0,none⟩) _) ?_
 unfold t250 Aj0
 simp only at hs⊢
 refine C4 fun n4 _=>?_
 generalize ho:(n4,Obj.cells #[.i x.wear,.bool x.bad,.bool x.dirty] eSt)=o4
 have l4: ∀{Z:A4},D0 ⟨n4,0,none⟩ (W2 x) (o4::Z):=by subst ho;exact ldB List.mem_cons_self rfl
 clear ho
 have take:N3 (fd,best,at') n x=(true,x,n)->
   (st ⟨n2,0,none⟩ [.i n]<|keep (D0 ⟨n4,0,none⟩ [.i x.wear,.bool x.bad,.bool x.dirty])<|A9 (some ⟨n1,0,none⟩) fun a3=>st a3 [.i x.wear,.bool x.bad,.bool x.dirty]<|A9 (some ⟨n3,0,none⟩) fun a4=>st a4 [.bool true]<|
    HL.Ends (fun r L'=>r=Value.tuple #[]/\L'=[(n3,Obj.cells #[.bool (N3 (fd,best,at') n x).1] 4),(n1,Obj.cells #[.i (N3 (fd,best,at') n x).2.1.wear,.bool (N3 (fd,best,at') n x).2.1.bad,.bool (N3 (fd,best,at') n x).2.1.dirty] eSt),(n2,Obj.cells #[.i (N3 (fd,best,at') n x).2.2] 3)]) (.tuple #[]))
    (o4::[(n3,Obj.cells #[.bool fd] 4),(n1,Obj.cells #[.i best.wear,.bool best.bad,.bool best.dirty] eSt),(n2,Obj.cells #[.i at'] 3)]):=by
  intro e
  rw[e]
  refine E0 (n:=n2) (off:=0) (c:=#[.i at']) (T:=3) (fz:=(0,0)) [o4,(n3,Obj.cells #[.bool fd] 4),(n1,Obj.cells #[.i best.wear,.bool best.bad,.bool best.dirty] eSt)] [] rfl rfl (by simp) (.inl (Nat.le_refl _)) #[.i n] rfl (E5 l4 (A5 rfl ?_))
  refine E0 (n:=n1) (off:=0) (c:=#[.i best.wear,.bool best.bad,.bool best.dirty]) (T:=eSt) (fz:=(0,0)) [o4,(n3,Obj.cells #[.bool fd] 4)] [(n2,Obj.cells #[.i n] 3)] rfl rfl (by simp) (.inl (Nat.le_refl _)) #[.i x.wear,.bool x.bad,.bool x.dirty] rfl (A5 rfl ?_)
  exact E0 (n:=n3) (off:=0) (c:=#[.bool fd]) (T:=4) (fz:=(0,0)) [o4] [(n1,Obj.cells #[.i x.wear,.bool x.bad,.bool x.dirty] eSt),(n2,Obj.cells #[.i n] 3)] rfl rfl (by simp) (.inl (Nat.le_refl _)) #[.bool true] rfl (.cons (.of ⟨rfl,rfl⟩))
 refine A5 rfl (A6 fd (ldB (n:=n3) (off:=0) (c:=#[.bool fd]) (T:=4) (fz:=(0,0)) (by simp) rfl) (G0 (fun hf=>?_) (fun hf=>?_)))
 ·have hf':fd=false:=by simpa using hf
  refine A6 (x.wear,x.bad,x.dirty,()) l4 (A5 rfl (take ?_))
  unfold N3
  rw[if_pos (.inl hf')]
 ·have hf':fd=true:=by simpa using hf
  have lb:D0 ⟨n1,0,none⟩ [.i best.wear,.bool best.bad,.bool best.dirty] (o4::[(n3,Obj.cells #[.bool fd] 4),(n1,Obj.cells #[.i best.wear,.bool best.bad,.bool best.dirty] eSt),(n2,Obj.cells #[.i at'] 3)]):=ldB (n:=n1) (off:=0) (c:=#[.i best.wear,.bool best.bad,.bool best.dirty]) (T:=eSt) (fz:=(0,0)) (by simp) rfl
  refine A6 (x.wear,x.bad,x.dirty,()) l4 (A5 rfl (A6 (best.wear,best.bad,best.dirty,()) lb (B7 (By3 _ x hx) (Z0 x,()) rfl (E5 lb (B7 (By3 _ best hs) (Z0 best,()) rfl ?_)))))
  refine C0 (fun(hc:Z0 x<Z0 best)=>?_) (fun(hc: ¬Z0 x<Z0 best)=>.cons (.of ⟨rfl,?_⟩))
  ·refine A6 (x.wear,x.bad,x.dirty,()) l4 (A5 rfl (take ?_))
   unfold N3
   rw[if_pos (.inr hc)]
  ·have:N3 (fd,best,at') n x=(fd,best,at'):=by
    unfold N3
    rw[if_neg]
    rintro(c|c)
    ·rw[hf']at c;cases c
    ·exact hc c
   rw[this]
theorem Cu7(m:Nat)(ss:List BS)(us:List Int)(A:A4)(hA:BX m ss us A):Reads PP 189 #[.pointer (some ⟨m,0,none⟩)] A (.tuple #[.i (F5 ss us).2.2,.bool (F5 ss us).2.1.dirty,.bool (F5 ss us).1]):=by
 refine Reads.of (args:=[.pointer (some ⟨m,0,none⟩)]) B4 B5 Tryz.func189 (e189 (some ⟨m,0,none⟩) _) ?_
 unfold t189
 refine C4 fun n1 _=>C4 fun n2 _=>C4 fun n3 _=>?_
 refine E0 (n:=n2) (off:=0) (c:=#[.i 0]) (T:=3) (fz:=(0,0)) [(n3,Obj.cells #[.bool false] 4)] ((n1,Obj.cells #[.i 0,.bool false,.bool false] eSt)::A) rfl rfl (by simp) (.inl (Nat.le_refl _)) #[.i 0] rfl ?_
 refine E0 (n:=n3) (off:=0) (c:=#[.bool false]) (T:=4) (fz:=(0,0)) [] ((n2,Obj.cells #[.i 0] 3)::(n1,Obj.cells #[.i 0,.bool false,.bool false] eSt)::A) rfl rfl (by simp) (.inl (Nat.le_refl _)) #[.bool false] rfl ?_
 refine G2 (R:=[]) (Ba7 m ss us A hA (M9 ss us) N3 (fun _ s=>0<=s.2.1.wear/\s.2.1.wear<=1000000000) (fun n s h=>h) (Aj0 n3 n1 n2) 172 250 (by kernel_rfl) (by kernel_rfl) #[.pointer (some ⟨n3,0,none⟩),.pointer (some ⟨n1,0,none⟩),.pointer (some ⟨n2,0,none⟩)]
  (fun L n hs=>As5 L m ss us A hA hs n) (fun s n x hn hs a b=>CallF.mono (Cp6 n3 n1 n2 s hs n x ⟨a,b⟩) ?_) (false,bs0,0) (by decide)) ?_ ?_
 ·rintro r L' _ ⟨rfl,rfl⟩
  refine⟨rfl,rfl,?_⟩
  unfold N3
  split
  ·exact⟨a,b⟩
  ·exact hs
 ·rw[List.append_nil]
  unfold Aj0 bs0
  exact List.Perm.cons _ (List.Perm.swap _ _ _)
 rintro _ _ ⟨rfl,rfl,hok⟩
 refine⟨_,.refl _,(),rfl,?_⟩
 show HL.ld _ _ _ (Aj0 n3 n1 n2 (F5 ss us)++A++[])
 rw[List.append_nil]
 generalize F5 ss us=s
 unfold Aj0
 refine A6 s.2.2 (ldB (n:=n2) (off:=0) (c:=#[.i s.2.2]) (T:=3) (fz:=(0,0)) (by simp) rfl) (A6 s.2.1.dirty (ldB (n:=n1) (off:=2) (c:=#[.i s.2.1.wear,.bool s.2.1.bad,.bool s.2.1.dirty]) (T:=eSt) (fz:=(0,0)) (by simp) rfl) (A6 s.1 (ldB (n:=n3) (off:=0) (c:=#[.bool s.1]) (T:=4) (fz:=(0,0)) (by simp) rfl) ?_))
 exact .cons (.cons (.cons (.of ⟨rfl,rfl⟩)))
abbrev BSp:=Bool×Int×Int
def Ae1(s:BSp)(n:Int)(x:BS):BSp:=(true,V3 (if s.1=true then s.2.1 else x.wear) x.wear,S7 (if s.1=true then s.2.2 else x.wear) x.wear)
def bsp(ss:List BS):BSp:=Af4 (F4 ss) Ae1 (false,0,0) ss
def Af9(ss:List BS):Int:=(bsp ss).2.2-(bsp ss).2.1
def Bl9(n3 n1 n2:Nat)(s:BSp):A4:=[(n3,Obj.cells #[.bool s.1] 4),(n1,Obj.cells #[.i s.2.1] 3),(n2,Obj.cells #[.i s.2.2] 3)]
theorem Bz5(n3 n1 n2:Nat)(s:BSp)(n:Int)(x:BS):
  CallF PP 121 #[.i n,.agg #[.i x.wear,.bool x.bad,.bool x.dirty],.pointer (some ⟨n3,0,none⟩),.pointer (some ⟨n1,0,none⟩),.pointer (some ⟨n2,0,none⟩)] (Bl9 n3 n1 n2 s)
  fun r L'=>r= .tuple #[]/\L'=Bl9 n3 n1 n2 (Ae1 s n x):=by
 obtain⟨any,least,most⟩:=s
 refine CallF.of (args:=[.i n,.agg #[.i x.wear,.bool x.bad,.bool x.dirty],.pointer (some ⟨n3,0,none⟩),.pointer (some ⟨n1,0,none⟩),.pointer (some ⟨n2,0,none⟩)]) B4 B5 Tryz.func121 (e121 n (x.wear,x.bad,x.dirty,()) (some ⟨n3,0,none⟩) (some ⟨n1,0,none⟩) (some ⟨n2,0,none⟩) _) ?_
 unfold t121 Bl9
 simp only
 refine C4 fun n4 _=>?_
 generalize ho:(n4,Obj.cells #[.i x.wear,.bool x.bad,.bool x.dirty] eSt)=o4
 have l4: ∀{Z:A4},D0 ⟨n4,0,none⟩ [.i x.wear] (o4::Z):=by subst ho;exact ldB List.mem_cons_self rfl
 clear ho
 refine U0 (fun(_:RsV []) L'=>L'=o4::[(n3,Obj.cells #[.bool true] 4),(n1,Obj.cells #[.i (if any=true then least else x.wear)] 3),(n2,Obj.cells #[.i (if any=true then most else x.wear)] 3)]) ?_ ?_
 ·rintro⟨⟩ _ rfl
  unfold Ae1
  simp only
  generalize (if any=true then least else x.wear)=a
  generalize (if any=true then most else x.wear)=b
  refine A5 rfl (A6 a (ldB (n:=n1) (off:=0) (c:=#[.i a]) (T:=3) (fz:=(0,0)) (by simp) rfl) (A6 x.wear l4 (A5 rfl (A6 b (ldB (n:=n2) (off:=0) (c:=#[.i b]) (T:=3) (fz:=(0,0)) (by simp) rfl) (A6 x.wear l4 (A5 rfl ?_))))))
  refine E0 (n:=n1) (off:=0) (c:=#[.i a]) (T:=3) (fz:=(0,0)) [o4,(n3,Obj.cells #[.bool true] 4)] [(n2,Obj.cells #[.i b] 3)] rfl rfl (by simp) (.inl (Nat.le_refl _)) #[.i (V3 a x.wear)] rfl (E5 l4 (E5 (ldB (n:=n2) (off:=0) (c:=#[.i b]) (T:=3) (fz:=(0,0)) (by simp) rfl) (A5 rfl ?_)))
  exact E0 (n:=n2) (off:=0) (c:=#[.i b]) (T:=3) (fz:=(0,0)) [o4,(n3,Obj.cells #[.bool true] 4),(n1,Obj.cells #[.i (V3 a x.wear)] 3)] [] rfl rfl (by simp) (.inl (Nat.le_refl _)) #[.i (S7 b x.wear)] rfl (.cons (.of ⟨rfl,rfl⟩))
 intro j hj
 refine A5 rfl (A6 any (ldB (n:=n3) (off:=0) (c:=#[.bool any]) (T:=4) (fz:=(0,0)) (by simp) rfl) (G0 (fun hf=>?_) (fun hf=>?_)))
 ·have hf':any=false:=by simpa using hf
  subst hf'
  refine A6 x.wear l4 (A6 x.wear l4 (A5 rfl ?_))
  refine E0 (n:=n1) (off:=0) (c:=#[.i least]) (T:=3) (fz:=(0,0)) [o4,(n3,Obj.cells #[.bool false] 4)] [(n2,Obj.cells #[.i most] 3)] rfl rfl (by simp) (.inl (Nat.le_refl _)) #[.i x.wear] rfl (E5 l4 (A5 rfl ?_))
  refine E0 (n:=n2) (off:=0) (c:=#[.i most]) (T:=3) (fz:=(0,0)) [o4,(n3,Obj.cells #[.bool false] 4),(n1,Obj.cells #[.i x.wear] 3)] [] rfl rfl (by simp) (.inl (Nat.le_refl _)) #[.i x.wear] rfl (A5 rfl ?_)
  exact E0 (n:=n3) (off:=0) (c:=#[.bool false]) (T:=4) (fz:=(0,0)) [o4] [(n1,Obj.cells #[.i x.wear] 3),(n2,Obj.cells #[.i x.wear] 3)] rfl rfl (by simp) (.inl (Nat.le_refl _)) #[.bool true] rfl (hj _ _ rfl)
 ·have hf':any=true:=by simpa using hf
  subst hf'
  exact hj _ _ rfl
theorem sp_rng{s:BSp}{x:BS}(hs:0<=s.2.1/\s.2.1<=1000000000/\0<=s.2.2/\s.2.2<=1000000000)(h:0<=x.wear/\x.wear<=1000000000)(n:Int):0<=(Ae1 s n x).2.1/\(Ae1 s n x).2.1<=1000000000/\0<=(Ae1 s n x).2.2/\(Ae1 s n x).2.2<=1000000000:=by
 unfold Ae1 V3 S7
 simp only
 (repeat' split)<;>omega
theorem B31(m:Nat)(ss:List BS)(us:List Int)(A:A4)(hA:BX m ss us A):Reads PP 56 #[.pointer (some ⟨m,0,none⟩)] A (.i (Af9 ss)):=by
 refine Reads.of (args:=[.pointer (some ⟨m,0,none⟩)]) B4 B5 Tryz.func56 (e56 (some ⟨m,0,none⟩) _) ?_
 unfold t56
 refine C4 fun n1 _=>C4 fun n2 _=>C4 fun n3 _=>?_
 refine E0 (n:=n1) (off:=0) (c:=#[.i 0]) (T:=3) (fz:=(0,0)) [(n3,Obj.cells #[.bool false] 4),(n2,Obj.cells #[.i 0] 3)] A rfl rfl (by simp) (.inl (Nat.le_refl _)) #[.i 0] rfl ?_
 refine E0 (n:=n2) (off:=0) (c:=#[.i 0]) (T:=3) (fz:=(0,0)) [(n3,Obj.cells #[.bool false] 4)] ((n1,Obj.cells #[.i 0] 3)::A) rfl rfl (by simp) (.inl (Nat.le_refl _)) #[.i 0] rfl ?_
 refine E0 (n:=n3) (off:=0) (c:=#[.bool false]) (T:=4) (fz:=(0,0)) [] ((n2,Obj.cells #[.i 0] 3)::(n1,Obj.cells #[.i 0] 3)::A) rfl rfl (by simp) (.inl (Nat.le_refl _)) #[.bool false] rfl ?_
 refine G2 (R:=[]) (Ba7 m ss us A hA (F4 ss) Ae1 (fun _ s=>0<=s.2.1/\s.2.1<=1000000000/\0<=s.2.2/\s.2.2<=1000000000) (fun n s h=>h) (Bl9 n3 n1 n2) 120 121 (by kernel_rfl) (by kernel_rfl) #[.pointer (some ⟨n3,0,none⟩),.pointer (some ⟨n1,0,none⟩),.pointer (some ⟨n2,0,none⟩)]
  (fun L n hs=>Ba6 L m ss us A hA hs n) (fun s n x hn hs a b=>CallF.mono (Bz5 n3 n1 n2 s n x) (by rintro r L' _ ⟨rfl,rfl⟩;exact⟨rfl,rfl,sp_rng hs ⟨a,b⟩ _⟩)) (false,0,0) (by decide)) ?_ ?_
 ·rw[List.append_nil]
  unfold Bl9
  exact List.Perm.cons _ (List.Perm.swap _ _ _)
 rintro _ _ ⟨rfl,rfl,hok⟩
 refine⟨_,.refl _,(),rfl,?_⟩
 show HL.ld _ _ _ (Bl9 n3 n1 n2 (bsp ss)++A++[])
 rw[List.append_nil]
 have hok':0<=(bsp ss).2.1/\(bsp ss).2.1<=1000000000/\0<=(bsp ss).2.2/\(bsp ss).2.2<=1000000000:=hok
 unfold Af9
 generalize bsp ss=s at hok'
 unfold Bl9
 refine A6 s.2.2 (ldB (n:=n2) (off:=0) (c:=#[.i s.2.2]) (T:=3) (fz:=(0,0)) (by simp) rfl) (A6 s.2.1 (ldB (n:=n1) (off:=0) (c:=#[.i s.2.1]) (T:=3) (fz:=(0,0)) (by simp) rfl) ?_)
 rw[C1 (by omega) (by omega)]
 exact .cons (.cons (.cons (.of ⟨rfl,rfl⟩)))
theorem B33(m:Nat)(ss:List BS)(us:List Int)(A:A4)(hA:BX m ss us A):Reads PP 245 #[.pointer (some ⟨m,0,none⟩)] A (.tuple #[.i (us.headD 0),.bool (decide (us≠[]))]):=by
 obtain⟨sv,sseg,uv,useg,rfl,ok⟩:=hA
 refine Reads.of (args:=[.pointer (some ⟨m,0,none⟩)]) B4 B5 Tryz.func245 (e245 (some ⟨m,0,none⟩) _) ?_
 unfold t245
 have hm:bO m sv uv∈bO m sv uv::(sseg++useg):=List.mem_cons_self
 have husl:ISl (bO m sv uv::(sseg++useg)) uv .i64 us:=ok.uown.sl.right.cons
 have hlen:=husl.len
 refine ifF rfl (A5 rfl (A6 uv (b_u hm) (Z7 (fun h0=>.of ⟨?_,rfl⟩) (fun h0=>?_))))
 ·cases us with
  |nil=>rfl
  |cons x r=>rw[List.length_cons]at hlen;have h0':(uv.len:Int)=0:=h0;omega
 ·cases us with
  |nil=>exact absurd (show(uv.len:Int)=0 by simp at hlen;omega) h0
  |cons x r=>
   obtain⟨a,ha⟩:=husl.some (i:=0) (by simp)
   rw[List.length_cons]at hlen
   exact A5 rfl (A6 uv (b_u hm) (A5 ha (E1 (by decide) (by omega) (A6 x (husl.rd (i:=0) (by simp) ha _ rfl) (.of ⟨by simp,rfl⟩)))))
def Ad3(ss:List BS)(us:List Int)(n:Int):Bool:=M9 ss us n&&(match ss[n.toNat]? with|some s=> !s.dirty|none=>false)
theorem N5{ss:List BS}{n:Int}(h:F4 ss n=true):0<=n/\ ∃hi:n.toNat<ss.length,ss[n.toNat].bad=false:=by
 unfold F4 at h
 rw[Bool.and_eq_true]at h
 obtain⟨h1,h2⟩:=h
 refine⟨of_decide_eq_true h1,?_⟩
 split at h2
 ·rename_i s hs
  obtain⟨hi,he⟩:=List.getElem?_eq_some_iff.1 hs
  exact⟨hi,by rw[he];simpa using h2⟩
 ·cases h2
theorem K7{ss:List BS}{us:List Int}{n:Int}(h:M9 ss us n=true):F4 ss n=true/\n∉us:=by
 unfold M9 at h
 rw[Bool.and_eq_true]at h
 exact⟨h.1,by simpa using h.2⟩
theorem B32(m:Nat)(ss:List BS)(us:List Int)(A:A4)(hA:BX m ss us A)(hf:us.length<100000)(n:Int):CallF PP 255 #[.pointer (some ⟨m,0,none⟩),.i n] A
  fun r L'=>r= .bool (Ad3 ss us n)/\BX m ss (if Ad3 ss us n=true then us++[n]else us) L':=by
 have hA':=hA
 obtain⟨sv,sseg,uv,useg,rfl,ok⟩:=hA
 refine CallF.of (args:=[.pointer (some ⟨m,0,none⟩),.i n]) B4 B5 Tryz.func255 (e255 (some ⟨m,0,none⟩) n _) ?_
 unfold t255
 have hm:bO m sv uv∈bO m sv uv::(sseg++useg):=List.mem_cons_self
 refine B7 (As5 _ m ss us _ hA' (fun x hx=>hx) n) (M9 ss us n,()) rfl ?_
 cases hfr:M9 ss us n with
 |false=>
  have:Ad3 ss us n=false:=by unfold Ad3;rw[hfr];rfl
  rw[this]
  exact ifT rfl (.of ⟨rfl,hA'⟩)
 |true=>
  obtain⟨h0,hi,hb⟩:=N5 (K7 hfr).1
  have hsl:Sl (bO m sv uv::(sseg++useg)) sv 3 (ss.flatMap W2):=ok.own.sl.left.cons
  have hlen:=hsl.els_len G8 (by decide)
  obtain⟨a,ha,hl⟩:=hsl.el G8 (by decide) hi
  have hop:Ad3 ss us n= !ss[n.toNat].dirty:=by unfold Ad3;rw[hfr,List.getElem?_eq_getElem hi];rfl
  refine ifF rfl (A5 rfl (A6 sv (b_s hm) (A5 ha (E1 h0 (show n<sv.len by omega) (A6 ss[n.toNat].dirty (hl.one 2 rfl) ?_)))))
  rw[hop]
  refine G0 (fun hd=>?_) (fun hd=>?_)
  ·have hd':ss[n.toNat].dirty=true:=hd
   rw[hd']
   exact .of ⟨rfl,hA'⟩
  ·have hd':ss[n.toNat].dirty=false:=hd
   rw[hd']
   refine A5 rfl (A6 uv (b_u hm) (C4 fun n1 _=>?_))
   have hul:=ok.uown.sl.len
   rw[M2]at hul
   have hsrc: ∀{Z:A4},Sl ((n1,Obj.cells #[.i n] Bx0)::Z) ⟨some ⟨n1,0,none⟩,1,1⟩ 1 (ivs .i64 [n]):=fun{Z}=>⟨rfl,Nat.le_refl _,.inr ⟨_,rfl,ldB List.mem_cons_self rfl⟩⟩
   refine E6 A99 B63 ((n1,Obj.cells #[.i n] Bx0)::bO m sv uv::sseg) [] ok.uown (by simp) (.sl hsrc) (Af0 _ _) (by first|omega|(simp only;omega)) fun v2 seg2 hv2 own2=>A5 rfl ?_
   rw[<-Ab1]at own2
   refine E0 (n:=m) (off:=1) (c:=#[.slice sv.a sv.len sv.cap,.slice uv.a uv.len uv.cap]) (T:=259) (fz:=(0,0)) [(n1,Obj.cells #[.i n] Bx0)] (sseg++seg2) rfl (by simp[bO]) (by simp) (.inl (Nat.le_refl _)) #[.slice sv.a sv.len sv.cap,.slice v2.a v2.len v2.cap] rfl ?_
   exact .cons (.of ⟨rfl,sv,sseg,v2,seg2,rfl,ok.own,own2,ok.cnt,(by show(us++[n]).length<=100000;rw[List.length_append];simp only[List.length_cons,List.length_nil];omega),ok.wr⟩)
def Ab9(ss:List BS)(n:Int)(g:BS->BS):List BS:=ss.modify n.toNat g
theorem Ba4{ss:List BS}{n:Int}(hi:n.toNat<ss.length)(g:BS->BS):Ab9 ss n g=ss.take n.toNat++g ss[n.toNat]::ss.drop (n.toNat+1):=by
 unfold Ab9
 rw[List.modify_eq_take_cons_drop hi]
theorem C83(us:List Int)(n:Int):(iwo us n).length<=us.length:=List.length_filter_le ..
theorem Cu5(m:Nat)(ss:List BS)(us:List Int)(A:A4)(hA:BX m ss us A)(n:Int)(i:FuncId)(hio:Ac7 PP i=true)(caps:Array Value)(obs:A4)(g:BS->BS)(hg: ∀s∈ss,0<=(g s).wear/\(g s).wear<=1000000000)
  (h: ∀(v:SlV) (seg:A4) (j:Nat) (a:Addr) (hj:j<ss.length),Own v 3 eSt (ss.flatMap W2) seg->v.a=some a->CallF PP i (#[.pointer (some (a.add (j*3)))]++caps) (obs++seg) fun r L'=>r= .tuple #[]/\ ∃seg',L'=obs++seg'/\Own v 3 eSt ((ss.take j++g ss[j]::ss.drop (j+1)).flatMap W2) seg'):
  CallF PP 299 #[.pointer (some ⟨m,0,none⟩),.i n,.func (.func i) #[] caps] (obs++A)
   fun r L'=>r= .bool (F4 ss n)/\ ∃A',L'=obs++A'/\BX m (if F4 ss n=true then Ab9 ss n g else ss) (if F4 ss n=true then iwo us n else us) A':=by
 have hA':=hA
 obtain⟨sv,sseg,uv,useg,rfl,ok⟩:=hA
 refine CallF.of (args:=[.pointer (some ⟨m,0,none⟩),.i n,.func (.func i) #[] caps]) B4 B5 Tryz.func299 (e299 (some ⟨m,0,none⟩) n ⟨.func i,#[],caps⟩ _) ?_
 unfold t299
 refine C4 fun n1 _=>A6 n (ldB List.mem_cons_self rfl) ?_
 refine B7 (Ba6 _ m ss us _ hA' (fun x hx=>by simp at hx⊢;simp[hx]) n) (F4 ss n,()) rfl ?_
 cases hgd:F4 ss n with
 |false=>
  refine ifT rfl (.cons (.of ⟨rfl,_,rfl,?_⟩))
  simpa using hA'
 |true=>
  obtain⟨h0,hi,hb⟩:=N5 hgd
  have hlen:=ok.own.sl.els_len G8 (by decide)
  have hfew:=ok.few
  refine ifF rfl (A5 rfl (A6 uv (b_u (sv:=sv) (by simp)) ?_))
  refine G2 (R:=obs++(bO m sv uv::sseg)) (Cr8 uv us useg ok.uown (by omega) n n1) ?_ ?_
  ·classical
   rw[List.perm_iff_count]
   intro x
   simp only[List.append_eq,List.cons_append,List.count_append,List.count_cons,List.count_nil]
   omega
  rintro _ _ ⟨u2,useg2,rfl,rfl,uown2⟩
  generalize ho1:(n1,Obj.cells #[.i n] 3)=o1
  have l1: ∀{Z:A4},D0 ⟨n1,0,none⟩ [.i n] (o1::Z):=by subst ho1;exact ldB List.mem_cons_self rfl
  refine⟨(o1::obs)++bO m sv uv::(sseg++useg2),?_,(u2,()),rfl,A5 rfl ?_⟩
  ·classical
   rw[List.perm_iff_count]
   intro x
   simp only[List.append_eq,List.cons_append,List.count_append,List.count_cons,List.count_nil]
   omega
  refine E0 (n:=m) (off:=1) (c:=#[.slice sv.a sv.len sv.cap,.slice uv.a uv.len uv.cap]) (T:=259) (fz:=(0,0)) (o1::obs) (sseg++useg2) rfl (by simp[bO]) (by simp) (.inl (Nat.le_refl _)) #[.slice sv.a sv.len sv.cap,.slice u2.a u2.len u2.cap] rfl ?_
  obtain⟨a,ha,_⟩:=ok.own.sl.el G8 (by decide) hi
  refine A5 rfl (A6 sv (b_s (m:=m) (uv:=u2) (by unfold bO;simp)) (A6 n l1 (A5 ha (E1 h0 (show n<sv.len by omega) (Y4 hio ?_)))))
  refine G2 (R:=o1::bO m sv u2::useg2) (h sv sseg n.toNat a hi ok.own ha) ?_ ?_
  ·unfold bO
   classical
   rw[List.perm_iff_count]
   intro x
   simp only[List.append_eq,List.cons_append,List.count_append,List.count_cons,List.count_nil]
   omega
  rintro _ _ ⟨rfl,sseg2,rfl,own2⟩
  refine⟨o1::(obs++(bO m sv u2::(sseg2++useg2))),?_,(),rfl,?_⟩
  ·classical
   rw[List.perm_iff_count]
   intro x
   simp only[List.append_eq,List.cons_append,List.count_append,List.count_cons,List.count_nil]
   omega
  rw[<-Ba4 hi]at own2
  refine .cons (.of ⟨rfl,_,rfl,?_⟩)
  simp only[if_true]
  have hil:=C83 us n
  refine⟨sv,sseg2,u2,useg2,rfl,own2,uown2,by unfold Ab9;rw[List.length_modify];exact ok.cnt,by omega,fun s hs=>?_⟩
  rw[Ba4 hi]at hs
  rcases List.mem_append.1 hs with h1|h1
  ·exact ok.wr s (List.mem_of_mem_take h1)
  ·rcases List.mem_cons.1 h1 with rfl|h2
   ·exact hg _ (List.getElem_mem hi)
   ·exact ok.wr s (List.mem_of_mem_drop h2)
theorem Dc1(a:Addr)(i k:Nat):Addr.add (a.add i) k=a.add (i+k):=by
 unfold Addr.add
 by_cases h1:i=0<;>by_cases h2:k=0<;>simp[h1,h2,Nat.add_assoc]
theorem Bw8(p s:List BS)(x x':BS)(k:Nat)(hk:k<3)(w:Value)(hx:(W2 x).set k w=W2 x'):A00 ((p++x::s).flatMap W2) (p.length*3+k) [w]=(p++x'::s).flatMap W2:=by
 have hp:(p.flatMap W2).length=p.length*3:=N4 G8 p
 rw[Ak4 (by rw[N4 G8,List.length_append,List.length_cons];omega)]
 rw[List.flatMap_append,List.flatMap_append,List.flatMap_cons,List.flatMap_cons,<-hx,List.set_append_right _ _ (by omega),hp,show p.length*3+k-p.length*3=k by omega,List.set_append_left _ _ (by rw[G8];exact hk)]
def T0(bad:Bool)(s:BS):BS:=⟨s.wear+1,bad,false⟩
def Z8(s:BS):BS:={s with dirty:=false}
theorem B26(ss:List BS)(hw: ∀s∈ss,0<=s.wear/\s.wear<=1000000000)(bad:Bool)(n1:Nat)(v:SlV)(seg:A4)(j:Nat)(a:Addr)(hj:j<ss.length)(own:Own v 3 eSt (ss.flatMap W2) seg)(ha:v.a=some a):
  CallF PP 300 #[.pointer (some (a.add (j*3))),.pointer (some ⟨n1,0,none⟩)] ([(n1,Obj.cells #[.bool bad] 4)]++seg)
   fun r L'=>r= .tuple #[]/\ ∃seg',L'=[(n1,Obj.cells #[.bool bad] 4)]++seg'/\Own v 3 eSt ((ss.take j++T0 bad ss[j]::ss.drop (j+1)).flatMap W2) seg':=by
 refine CallF.of (args:=[.pointer (some (a.add (j*3))),.pointer (some ⟨n1,0,none⟩)]) B4 B5 Tryz.func300 (e300 (some (a.add (j*3))) (some ⟨n1,0,none⟩) _) ?_
 unfold t300
 have hx:=hw ss[j] (List.getElem_mem hj)
 have hs:ss=ss.take j++ss[j]::ss.drop (j+1):=by rw[<-List.drop_eq_getElem_cons hj,List.take_append_drop]
 have hpj:(ss.take j).length=j:=by rw[List.length_take];omega
 generalize ss.take j=p at hs hpj⊢
 generalize ss.drop (j+1)=t at hs⊢
 generalize ss[j]=x at hs hx⊢
 subst hs
 have hl: ∀(y:BS),((p++y::t).flatMap W2).length=(p.length+1+t.length)*3:=fun y=>by rw[N4 G8,List.length_append,List.length_cons];congr 1;omega
 have hld:=own.sl.el G8 (by decide) (i:=p.length) (by simp)
 obtain⟨a',ha',hld⟩:=hld
 rw[ha]at ha'
 obtain rfl:=Option.some.inj ha'
 rw[show(p++x::t)[p.length]'(by simp)=x by simp,hpj]at hld
 generalize ho:(n1,Obj.cells #[.bool bad] 4)=o1
 have lb: ∀{Z:A4},D0 ⟨n1,0,none⟩ [.bool bad] (o1::Z):=by subst ho;exact ldB List.mem_cons_self rfl
 clear ho
 refine A5 rfl (A6 x.wear ?_ (A5 rfl ?_))
 ·exact(hld.mono fun _ hx=>List.mem_append_right _ hx).pre fun i u hu=>by cases i with|zero=>exact hu|succ i=>exact absurd (show(none:Option Value)=some u from hu) (by simp)
 rw[C1 (by omega) (by omega)]
 refine own.st [o1] [] (p:=j*3+0) (by rw[hl];simp only[List.length_cons,List.length_nil];omega) (by simp) ha rfl (by simp) fun seg1 own1=>?_
 rw[<-hpj,Bw8 p t x ⟨x.wear+1,x.bad,x.dirty⟩ 0 (by decide) _ rfl]at own1
 refine A5 rfl (A6 bad lb (A5 rfl ?_))
 refine own1.st [o1] [] (p:=j*3+1) (by rw[hl];simp only[List.length_cons,List.length_nil];omega) (by simp) ha (Dc1 a (j*3) 1) rfl fun seg2 own2=>?_
 rw[<-hpj,Bw8 p t ⟨x.wear+1,x.bad,x.dirty⟩ ⟨x.wear+1,bad,x.dirty⟩ 1 (by decide) _ rfl]at own2
 refine A5 rfl (own2.st [o1] [] (p:=j*3+2) (by rw[hl];simp only[List.length_cons,List.length_nil];omega) (by simp) ha (Dc1 a (j*3) 2) rfl fun seg3 own3=>?_)
 rw[<-hpj,Bw8 p t ⟨x.wear+1,bad,x.dirty⟩ ⟨x.wear+1,bad,false⟩ 2 (by decide) _ rfl]at own3
 rw[List.append_nil]
 exact .of ⟨rfl,seg3,rfl,own3⟩
theorem B35(m:Nat)(ss:List BS)(us:List Int)(A:A4)(hA:BX m ss us A)(hw: ∀s∈ss,0<=s.wear/\s.wear<=900000000)(n:Int)(bad:Bool):CallF PP 253 #[.pointer (some ⟨m,0,none⟩),.i n,.bool bad] A
  fun r L'=>r= .bool (F4 ss n)/\BX m (if F4 ss n=true then Ab9 ss n (T0 bad)else ss) (if F4 ss n=true then iwo us n else us) L':=by
 refine CallF.of (args:=[.pointer (some ⟨m,0,none⟩),.i n,.bool bad]) B4 B5 Tryz.func253 (e253 (some ⟨m,0,none⟩) n bad _) ?_
 unfold t253
 refine C4 fun n1 _=>?_
 refine J5 [] [] (Cu5 m ss us A hA n 300 (by kernel_rfl) #[.pointer (some ⟨n1,0,none⟩)] [(n1,Obj.cells #[.bool bad] 4)] (T0 bad) (fun s hs=>by have:=hw s hs;unfold T0;simp only;omega)
  (fun v seg j a hj own ha=>B26 ss (fun s hs=>by have:=hw s hs;omega) bad n1 v seg j a hj own ha)) (by simp) ?_
 rintro _ _-⟨rfl,A',rfl,hA'⟩
 rw[List.append_nil]
 exact⟨(F4 ss n,()),rfl,.cons (.of ⟨rfl,hA'⟩)⟩
def Ao3:List BS->List Int->List Int->Option (List BS×List Int)
 |ss,us,[]=>some (ss,us)
 |ss,us,n::r=>if M9 ss us n=true then Ao3 (Ab9 ss n Z8) (us++[n]) r else none
def Bj5(ss:List BS):Bool:=ss.all fun s=>decide (0<=s.wear/\s.wear<=1048576)
def Ah6(ss:List BS)(used:List Int):Option (List BS×List Int):=if 1<=ss.length/\ss.length<=16/\Bj5 ss=true then Ao3 ss [] used else none
theorem Ba3(ss:List BS)(n:Int)(g:BS->BS):(Ab9 ss n g).length=ss.length:=List.length_modify ..
theorem Bf4: ∀(k:Nat) (l:List Int),l.Nodup->(∀x∈l,0<=x/\x<k)->l.length<=k
 |0,l,_,h=>by
  cases l with
  |nil=>simp
  |cons x r=>have:=h x (by simp);omega
 |k+1,l,hn,h=>by
  have h1:=Bf4 k (l.erase (k:Int)) (hn.erase _) (fun x hx=>by
   rw[hn.mem_erase_iff]at hx
   have:=h x hx.2
   have:=hx.1
   omega)
  by_cases hk:(k:Int)∈l
  ·rw[List.length_erase_of_mem hk]at h1;omega
  ·rw[List.erase_of_not_mem hk]at h1;omega
def bus(ss:List BS)(us:List Int):Prop:=us.Nodup/\ ∀x∈us,0<=x/\x<ss.length
theorem Bq5{ss:List BS}{us:List Int}(h:bus ss us):us.length<=ss.length:=Bf4 _ _ h.1 h.2
theorem Bx9{ss:List BS}{us:List Int}(h:bus ss us){n:Int}(hf:M9 ss us n=true):bus ss (us++[n]):=by
 obtain⟨h1,h2⟩:=K7 hf
 obtain⟨h0,hi,_⟩:=N5 h1
 refine⟨?_,fun x hx=>?_⟩
 ·rw[List.nodup_append]
  exact⟨h.1,by simp,fun a ha b hb=>by rw[List.mem_singleton.1 hb];rintro rfl;exact h2 ha⟩
 ·rcases List.mem_append.1 hx with h3|h3
  ·exact h.2 x h3
  ·rw[List.mem_singleton.1 h3];omega
theorem Ci1{ss:List BS}(h:Bj5 ss=true): ∀s∈ss,0<=s.wear/\s.wear<=1048576:=by
 unfold Bj5 at h
 rw[List.all_eq_true]at h
 intro s hs
 simpa using h s hs
def Az3(ss:List BS)(used:List Int)(A:A4)(v:Value)(L':A4):Prop:=match Ah6 ss used with
 |none=>v= .tuple #[.pointer none,.i 2]/\L'=A
 |some r=> ∃(m:Nat) (B:A4),v= .tuple #[.pointer (some ⟨m,0,none⟩),.i 0]/\L'=B++A/\BX m r.1 r.2 B/\bus r.1 r.2
theorem Az3.bad{ss:List BS}{used:List Int}{A:A4}(h:Ah6 ss used=none):Az3 ss used A (.tuple #[.pointer none,.i 2]) A:=by
 unfold Az3
 rw[h]
 exact⟨rfl,rfl⟩
theorem Db8(A:A4)(v:SlV)(ss:List BS)(hv:Sl A v 3 (ss.flatMap W2))(u:SlV)(used:List Int)(hu:ISl A u .i64 used)(hul:used.length<=9223372036854775807):CallF PP 99 #[.slice v.a v.len v.cap,.slice u.a u.len u.cap] A (Az3 ss used A):=by
 refine CallF.of (args:=[.slice v.a v.len v.cap,.slice u.a u.len u.cap]) B4 B5 Tryz.func99 (e99 v u _) ?_
 unfold t99
 have hvl:=hv.els_len G8 (by decide)
 have hulen:=hu.len
 refine C0 (fun(h1:(v.len:Int)<1)=>.of (Az3.bad (by unfold Ah6;rw[if_neg (by omega)]))) (fun(h1: ¬(v.len:Int)<1)=>?_)
 refine C0 (fun(h2:(v.len:Int)>16)=>.of (Az3.bad (by unfold Ah6;rw[if_neg (by omega)]))) (fun(h2: ¬(v.len:Int)>16)=>?_)
 refine J5 [] [] (Bz2 A v ss hv (by omega)) (by simp) ?_
 rintro _ _-⟨sv,sseg,rfl,rfl,sown⟩
 rw[List.append_nil,List.nil_append]
 refine⟨(sv,()),rfl,C4 fun m _=>?_⟩
 refine G3 (fun k z L'=> ∃(i:Nat) (J:A4),i<=ss.length/\k=ss.length-i/\z=((i:Int),())/\L'=J++(bO m sv ⟨none,0,0⟩::(sseg++A))/\ ∀s∈ss.take i,0<=s.wear/\s.wear<=1048576) ss.length ⟨0,[],by omega,by omega,rfl,rfl,by simp⟩ ?_
 rintro k z L' ⟨i,J,hi,rfl,rfl,rfl,hall⟩
 refine C0 (fun(hlt:(i:Int)<v.len)=>?_) (fun(hge: ¬(i:Int)<v.len)=>?_)
 ·have hi':i<ss.length:=by omega
  have hv':Sl (J++(bO m sv ⟨none,0,0⟩::(sseg++A))) v 3 (ss.flatMap W2):=hv.right.cons.right
  obtain⟨a,ha,hl⟩:=hv'.el G8 (by decide) hi'
  refine A5 ha (E1 (show(0:Int)<=(i:Int) by omega) hlt (A6 (ss[i].wear,ss[i].bad,ss[i].dirty,()) (by rw[Int.toNat_natCast];exact hl) ?_))
  have hbad: ¬(0<=ss[i].wear/\ss[i].wear<=1048576)->Ah6 ss used=none:=by
   intro hc
   unfold Ah6
   rw[if_neg]
   rintro⟨_,_,h3⟩
   exact hc (Ci1 h3 _ (List.getElem_mem hi'))
  have htk: ∀(h:0<=ss[i].wear/\ss[i].wear<=1048576),∀s∈ss.take (i+1),0<=s.wear/\s.wear<=1048576:=by
   intro h s hs
   rw[List.take_succ_eq_append_getElem hi']at hs
   rcases List.mem_append.1 hs with h3|h3
   ·exact hall s h3
   ·rw[List.mem_singleton.1 h3];exact h
  generalize ss[i]=x at hbad htk⊢
  refine C4 fun n2 _=>E0 [] _ rfl rfl (by simp) (.inl (Nat.le_refl _)) #[.i x.wear,.bool x.bad,.bool x.dirty] rfl ?_
  rw[List.nil_append]
  refine A6 x.wear (ldB List.mem_cons_self rfl) (C0 (fun(hc:x.wear<0)=>.cons (.app (.cons (.app (.of (Az3.bad (hbad (by omega)))))))) (fun(hc: ¬x.wear<0)=>?_))
  refine A6 x.wear (ldB List.mem_cons_self rfl) (C0 (fun(hc2:x.wear>1048576)=>.cons (.app (.cons (.app (.of (Az3.bad (hbad (by omega)))))))) (fun(hc2: ¬x.wear>1048576)=>?_))
  refine⟨ss.length-(i+1),by omega,i+1,(n2,Obj.cells #[.i x.wear,.bool x.bad,.bool x.dirty] eSt)::J,by omega,rfl,?_,rfl,htk (by omega)⟩
  rw[C1 (by first|omega|(simp only;omega)) (by first|omega|(simp only;omega))]
  rfl
 ·obtain rfl:i=ss.length:=by omega
  rw[List.take_length]at hall
  have hbw:Bj5 ss=true:=by unfold Bj5;rw[List.all_eq_true];intro s hs;simpa using hall s hs
  have hR:Ah6 ss used=Ao3 ss [] used:=by unfold Ah6;rw[if_pos ⟨by omega,by omega,hbw⟩]
  refine G3 (fun k z L'=> ∃(i:Nat) (J:A4) (cs:List BS) (us:List Int) (sseg useg:A4) (uv:SlV),i<=used.length/\k=used.length-i/\z=((i:Int),())/\L'=J++(bO m sv uv::(sseg++useg))++A/\BOk sv sseg cs uv useg us/\bus cs us/\cs.length=ss.length/\Ao3 ss [] used=Ao3 cs us (used.drop i)) used.length
   ⟨0,J,ss,[],sseg,[],⟨none,0,0⟩,by omega,by omega,rfl,by simp,⟨sown,own_z,by omega,by simp,fun s hs=>by have:=hall s hs;omega⟩,⟨by simp,by simp⟩,rfl,rfl⟩ ?_
  rintro k z L' ⟨i,J,cs,us,sseg,useg,uv,hi,rfl,rfl,rfl,ok,hb,hcl,hU⟩
  refine C0 (fun(hlt:(i:Int)<u.len)=>?_) (fun(hge: ¬(i:Int)<u.len)=>?_)
  ·have hi':i<used.length:=by omega
   have hu':ISl (J++(bO m sv uv::(sseg++useg))++A) u .i64 used:=hu.right
   obtain⟨a,ha⟩:=hu'.some hi'
   have hdr:=List.drop_eq_getElem_cons hi'
   rw[hdr]at hU
   refine A5 ha (E1 (show(0:Int)<=(i:Int) by omega) hlt (A6 used[i] (hu'.rd hi' ha _ (by simp)) ?_))
   generalize used[i]=n at hU⊢
   have hBX:BX m cs us (bO m sv uv::(sseg++useg)):=⟨sv,sseg,uv,useg,rfl,ok⟩
   refine B7 (As5 _ m cs us _ hBX (fun x hx=>List.mem_append_left _ (List.mem_append_right _ hx)) n) (M9 cs us n,()) rfl ?_
   cases hfr:M9 cs us n with
   |false=>
    refine ifT rfl (.app (.of (Az3.bad ?_)))
    rw[hR,hU]
    unfold Ao3
    rw[if_neg (by rw[hfr];decide)]
   |true=>
    have hU2:Ao3 ss [] used=Ao3 (Ab9 cs n Z8) (us++[n]) (used.drop (i+1)):=by
     rw[hU]
     conv=>lhs;unfold Ao3
     rw[if_pos hfr]
    obtain⟨h0,hin,_⟩:=N5 (K7 hfr).1
    have hslen:=ok.own.sl.els_len G8 (by decide)
    have hulen2:=ok.uown.sl.len
    rw[M2,Nat.mul_one]at hulen2
    obtain⟨b,hb',_⟩:=ok.own.sl.el G8 (by decide) hin
    have hfew:=Bq5 hb
    refine ifF rfl (A6 sv (b_s (uv:=uv) (by simp)) (A5 hb' (E1 h0 (show n<sv.len by omega) ?_)))
    refine ok.own.st (J++[bO m sv uv]) (useg++A) (p:=n.toNat*3+2) (by rw[N4 G8];simp only[List.length_cons,List.length_nil];omega) (by simp) hb' (Dc1 b (n.toNat*3) 2) (by simp) fun sseg2 own2=>?_
    have hsplit:cs=cs.take n.toNat++cs[n.toNat]::cs.drop (n.toNat+1):=by rw[<-List.drop_eq_getElem_cons hin,List.take_append_drop]
    have hplen:(cs.take n.toNat).length=n.toNat:=by rw[List.length_take];omega
    have hput:=Bw8 (cs.take n.toNat) (cs.drop (n.toNat+1)) cs[n.toNat] (Z8 cs[n.toNat]) 2 (by decide) (.bool false) rfl
    rw[<-hsplit,hplen,<-Ba4 hin]at hput
    rw[hput]at own2
    refine A6 uv (b_u (sv:=sv) (by simp)) (C4 fun n3 _=>?_)
    have hsrc: ∀{Z:A4},Sl ((n3,Obj.cells #[.i n] Bx0)::Z) ⟨some ⟨n3,0,none⟩,1,1⟩ 1 (ivs .i64 [n]):=fun{Z}=>⟨rfl,Nat.le_refl _,.inr ⟨_,rfl,ldB List.mem_cons_self rfl⟩⟩
    have hcnt:=ok.cnt
    refine E6 A99 B63 ((n3,Obj.cells #[.i n] Bx0)::(J++(bO m sv uv::sseg2))) A ok.uown (by simp) (.sl hsrc) (Af0 _ _) (by first|omega|(simp only;omega)) fun v2 seg2 hv2 uown2=>?_
    rw[<-Ab1]at uown2
    refine E0 (n:=m) (off:=1) (c:=#[.slice sv.a sv.len sv.cap,.slice uv.a uv.len uv.cap]) (T:=259) (fz:=(0,0)) ((n3,Obj.cells #[.i n] Bx0)::J) (sseg2++(seg2++A)) rfl (by simp[bO]) (by simp) (.inl (Nat.le_refl _)) #[.slice sv.a sv.len sv.cap,.slice v2.a v2.len v2.cap] rfl ?_
    have hbus:=Bx9 hb hfr
    have hml:=Ba3 cs n Z8
    refine⟨used.length-(i+1),by omega,i+1,(n3,Obj.cells #[.i n] Bx0)::J,Ab9 cs n Z8,us++[n],sseg2,seg2,v2,by omega,rfl,?_,by simp[bO],⟨own2,uown2,by omega,by have:=Bq5 hbus;omega,fun s hs=>?_⟩,⟨hbus.1,fun x hx=>by rw[hml];exact hbus.2 x hx⟩,by omega,hU2⟩
    ·rw[C1 (by first|omega|(simp only;omega)) (by first|omega|(simp only;omega))]
     rfl
    ·rw[Ba4 hin]at hs
     rcases List.mem_append.1 hs with h3|h3
     ·exact ok.wr s (List.mem_of_mem_take h3)
     ·rcases List.mem_cons.1 h3 with rfl|h4
      ·exact ok.wr cs[n.toNat] (List.getElem_mem hin)
      ·exact ok.wr s (List.mem_of_mem_drop h4)
  ·obtain rfl:i=used.length:=by omega
   rw[List.drop_length]at hU
   have hRR:Ah6 ss used=some (cs,us):=by rw[hR,hU];rfl
   rw[List.append_assoc]
   refine .app (.of ?_)
   unfold Az3
   rw[hRR]
   exact⟨m,_,rfl,rfl,⟨sv,sseg,uv,useg,rfl,ok⟩,hb⟩
def cut(n m:Int):Int:=if n<0 then 0 else if m<n then m else n
theorem Af5(n m:Int)(h:0<=m):0<=cut n m/\cut n m<=m:=by unfold cut;split<;>(try split)<;>omega
theorem cut_id(n m:Int)(h:0<=n)(h2:n<=m):cut n m=n:=by unfold cut;split<;>(try split)<;>omega
theorem Cs5(n m:Int)(h:0<=m):S7 (V3 n m) 0=cut n m:=by unfold cut S7 V3;split<;>split<;>(try split)<;>(try split)<;>omega
structure Bk where
 rate:Int
 last:Int
 burst:Int
 tokens:Int
structure Bk.Ok(b:Bk):Prop where
 r0:0<=b.rate
 r1:b.rate<=1048576
 l0:0<=b.last
 l1:b.last<=253402300799
 b0:0<=b.burst
 b1:b.burst<=1073741824
 t0:0<=b.tokens
 t1:b.tokens<=b.burst
def Ah7(rate burst now tokens:Int):Bk:=⟨cut rate 1048576,cut now 253402300799,cut burst 1073741824,cut tokens (cut burst 1073741824)⟩
theorem Cv0(rate burst now tokens:Int):(Ah7 rate burst now tokens).Ok:=by
 have h1:=Af5 rate 1048576 (by decide)
 have h2:=Af5 now 253402300799 (by decide)
 have h3:=Af5 burst 1073741824 (by decide)
 have h4:=Af5 tokens (cut burst 1073741824) h3.1
 exact⟨h1.1,h1.2,h2.1,h2.2,h3.1,h3.2,h4.1,h4.2⟩
def Ad5(b:Bk)(t:Int):Int:=if t<=b.last then 0 else b.rate*(t-b.last)
def Aq0(b:Bk)(now:Int):Bk:=
 let t:=cut now 253402300799
 ⟨b.rate,if t<=b.last then b.last else t,b.burst,cut (b.tokens+Ad5 b t) b.burst⟩
theorem Ca9{a b:Int}(h1:0<=a)(h2:a<=1048576)(h3:0<=b)(h4:b<=253402300799):0<=a*b/\a*b<=265711571000000000:=by
 refine⟨Int.mul_nonneg h1 h3,?_⟩
 have h5:a*b<=1048576*253402300799:=Int.mul_le_mul h2 h4 h3 (by decide)
 omega
theorem A41{b:Bk}(h:b.Ok){t:Int}(h0:0<=t)(h1:t<=253402300799):0<=Ad5 b t/\Ad5 b t<=265711571000000000:=by
 unfold Ad5
 split
 ·omega
 ·have:=h.l0
  exact Ca9 h.r0 h.r1 (by omega) (by omega)
theorem Ci4{b:Bk}(h:b.Ok)(now:Int):(Aq0 b now).Ok:=by
 have h1:=Af5 now 253402300799 (by decide)
 have h2:=Af5 (b.tokens+Ad5 b (cut now 253402300799)) b.burst h.b0
 have h3:=h.l0
 have h4:=h.l1
 refine⟨h.r0,h.r1,?_,?_,h.b0,h.b1,h2.1,h2.2⟩<;>(simp only[Aq0];split<;>omega)
def Ao4(b:Bk)(n:Int):Bool:=decide (0<=n/\n<=b.tokens)
def Ad4(b:Bk)(n:Int):Bk:=if 0<=n/\n<=b.tokens then{b with tokens:=b.tokens-n}else b
theorem Ci5{b:Bk}(h:b.Ok)(n:Int):(Ad4 b n).Ok:=by
 unfold Ad4
 split
 ·have:=h.t1
  exact⟨h.r0,h.r1,h.l0,h.l1,h.b0,h.b1,by first|omega|(simp only;omega),by first|omega|(simp only;omega)⟩
 ·exact h
abbrev A46(b:Bk):Obj:=.cells #[.i b.rate,.i b.last,.i b.burst,.i b.tokens] 171
theorem An9(L:A4)(n m:Int)(b:Nat)(h:0<=m)(hm:(b,Obj.cells #[.i m] 3)∈L):Reads PP 123 #[.i n,.slice (some ⟨b,0,none⟩) 1 1] L (.i (cut n m)):=by
 refine Reads.of (args:=[.i n,.slice (some ⟨b,0,none⟩) 1 1]) B4 B5 Tryz.func123 (e123 n ⟨some ⟨b,0,none⟩,1,1⟩ _) ?_
 unfold t123
 refine G3 (fun k z L'=>L'=L/\((k=1/\z=(n,0,()))\/(k=0/\z=(V3 n m,1,())))) 1 ⟨rfl,.inl ⟨rfl,rfl⟩⟩ ?_
 rintro k z L ⟨rfl,⟨rfl,rfl⟩|⟨rfl,rfl⟩⟩
 ·refine ifP (show(0:Int)<1 by decide) (E1 (show(0:Int)<=0 by decide) (show(0:Int)<1 by decide) (A6 m (ldB hm rfl) ⟨0,by omega,rfl,.inr ⟨rfl,rfl⟩⟩))
 ·refine ifN (show¬(1:Int)<1 by decide) (.of ⟨?_,rfl⟩)
  simp only[Cs5 n m h]
theorem Cu9(rate burst now tokens:Int):CallF PP 96 #[.i rate,.i burst,.i now,.i tokens] [] fun v L'=> ∃n,v= .pointer (some ⟨n,0,none⟩)/\L'=[(n,A46 (Ah7 rate burst now tokens))]:=by
 refine CallF.of (args:=[.i rate,.i burst,.i now,.i tokens]) B4 B5 Tryz.func96 (e96 rate burst now tokens _) ?_
 unfold t96
 have h3:=Af5 burst 1073741824 (by decide)
 refine C4 fun n1 _=>B7 (An9 _ rate 1048576 n1 (by decide) List.mem_cons_self) (cut rate 1048576,()) rfl ?_
 refine C4 fun n2 _=>B7 (An9 _ now 253402300799 n2 (by decide) List.mem_cons_self) (cut now 253402300799,()) rfl ?_
 refine C4 fun n3 _=>B7 (An9 _ burst 1073741824 n3 (by decide) List.mem_cons_self) (cut burst 1073741824,()) rfl ?_
 refine C4 fun n4 _=>A6 (cut burst 1073741824) (ldB List.mem_cons_self rfl) ?_
 refine C4 fun n5 _=>B7 (An9 _ tokens (cut burst 1073741824) n5 h3.1 List.mem_cons_self) (cut tokens (cut burst 1073741824),()) rfl ?_
 refine E0 [_] _ rfl rfl (by simp[M7]) (.inl (Nat.le_refl _)) _ rfl ?_
 exact .drop (A:=[_]) (J:=[_,_,_,_]) ⟨n4,rfl,rfl⟩ (List.Perm.swap _ _ _)
theorem Cm8(L:A4)(b:Bk)(hb:b.Ok)(t:Int)(h0:0<=t)(h1:t<=253402300799):Reads PP 122 #[.agg #[.i b.rate,.i b.last],.i t] L
  (.tuple #[.i (Ad5 b t),.agg #[.i b.rate,.i (if t<=b.last then b.last else t)]]):=by
 refine Reads.of (args:=[.agg #[.i b.rate,.i b.last],.i t]) B4 B5 Tryz.func122 (e122 (b.rate,b.last,()) t _) ?_
 unfold t122
 have hr:=A41 hb h0 h1
 have hl0:=hb.l0
 have hl1:=hb.l1
 refine C4 fun n1 _=>C4 fun n2 _=>A6 b.last (ldB (List.mem_cons_of_mem _ List.mem_cons_self) rfl) ?_
 refine C0 (fun(h:t<=b.last)=>?_) (fun(h: ¬t<=b.last)=>?_)
 ·refine A6 (b.rate,b.last,()) (ldB (List.mem_cons_of_mem _ List.mem_cons_self) rfl) (E0 [] _ rfl rfl (by simp[M7]) (.inl (Nat.le_refl _)) _ rfl (A6 (b.rate,b.last,()) (ldB List.mem_cons_self rfl) ?_))
  refine .drop (A:=L) (J:=[_,_]) ⟨?_,rfl⟩ (List.perm_append_comm (l₁:=[_,_]))
  unfold Ad5
  rw[if_pos h,if_pos h]
 ·refine A6 b.rate (ldB (List.mem_cons_of_mem _ List.mem_cons_self) rfl) (A6 b.last (ldB (List.mem_cons_of_mem _ List.mem_cons_self) rfl) (A6 b.rate (ldB (List.mem_cons_of_mem _ List.mem_cons_self) rfl) ?_))
  refine E0 [] _ rfl rfl (by simp[M7]) (.inl (Nat.le_refl _)) _ rfl (A6 (b.rate,t,()) (ldB List.mem_cons_self rfl) ?_)
  refine .drop (A:=L) (J:=[_,_]) ⟨?_,rfl⟩ (List.perm_append_comm (l₁:=[_,_]))
  unfold Ad5 at hr⊢
  rw[if_neg h]at hr
  rw[if_neg h,if_neg h,C1 (n:=t-b.last) (by omega) (by omega),C1 (by omega) (by omega)]
theorem C23(n:Nat)(b:Bk)(hb:b.Ok)(t:Int):CallF PP 58 #[.pointer (some ⟨n,0,none⟩),.i t] [(n,A46 b)] fun v L'=>v= .tuple #[]/\L'=[(n,A46 (Aq0 b t))]:=by
 refine CallF.of (args:=[.pointer (some ⟨n,0,none⟩),.i t]) B4 B5 Tryz.func58 (e58 (some ⟨n,0,none⟩) t _) ?_
 unfold t58
 have hc:=Af5 t 253402300799 (by decide)
 have hr:=A41 hb hc.1 hc.2
 have ht0:=hb.t0
 have ht1:=hb.t1
 have hb1:=hb.b1
 refine ifF rfl (A5 rfl (A6 (b.rate,b.last,()) (ldB List.mem_cons_self rfl) ?_))
 refine C4 fun n1 _=>B7 (An9 _ t 253402300799 n1 (by decide) List.mem_cons_self) (cut t 253402300799,()) rfl (E5 (ldB (List.mem_cons_of_mem _ List.mem_cons_self) rfl) ?_)
 refine B7 (Cm8 _ b hb (cut t 253402300799) hc.1 hc.2) (Ad5 b (cut t 253402300799),(b.rate,(if cut t 253402300799<=b.last then b.last else cut t 253402300799),()),()) rfl ?_
 refine C4 fun n2 _=>E0 [] _ rfl rfl (by simp[M7]) (.inl (Nat.le_refl _)) _ rfl ?_
 refine A5 rfl (A5 rfl (A6 b.tokens (ldB (List.mem_cons_of_mem _ (List.mem_cons_of_mem _ List.mem_cons_self)) rfl) (A6 b.burst (ldB (List.mem_cons_of_mem _ (List.mem_cons_of_mem _ List.mem_cons_self)) rfl) ?_)))
 refine A6 (b.rate,(if cut t 253402300799<=b.last then b.last else cut t 253402300799),()) (ldB List.mem_cons_self rfl) ?_
 have hw:IntKind.i64.wrap (b.tokens+Ad5 b (cut t 253402300799))=b.tokens+Ad5 b (cut t 253402300799):=C1 (by omega) (by omega)
 refine C4 fun n3 _=>?_
 simp only[hw]
 refine B7 (An9 _ _ b.burst n3 hb.b0 List.mem_cons_self) (cut (b.tokens+Ad5 b (cut t 253402300799)) b.burst,()) rfl (E5 (ldB (List.mem_cons_of_mem _ List.mem_cons_self) rfl) ?_)
 refine A5 rfl (E0 [_,_,_] [] rfl rfl (by simp[M7]) (.inl (Nat.le_refl _)) _ rfl (E5 (ldB (List.mem_cons_of_mem _ List.mem_cons_self) rfl) (A5 rfl (E0 [_,_,_] [] rfl rfl (by simp[M7]) (.inl (Nat.le_refl _)) _ rfl ?_))))
 exact .drop (A:=[_]) (J:=[_,_,_]) ⟨rfl,rfl⟩ (List.perm_append_comm (l₁:=[_,_,_]))
theorem Bc6(L:A4)(n:Nat)(b:Bk)(hm:(n,A46 b)∈L):Reads PP 44 #[.pointer (some ⟨n,0,none⟩)] L (.i b.tokens):=by
 refine Reads.of (args:=[.pointer (some ⟨n,0,none⟩)]) B4 B5 Tryz.func44 (e44 (some ⟨n,0,none⟩) _) ?_
 unfold t44
 exact ifF rfl (A5 rfl (A6 b.tokens (ldB hm rfl) (.of ⟨rfl,rfl⟩)))
theorem C25(n:Nat)(b:Bk)(hb:b.Ok)(t:Int):CallF PP 133 #[.pointer (some ⟨n,0,none⟩),.i t] [(n,A46 b)] fun v L'=>v= .bool (Ao4 b t)/\L'=[(n,A46 (Ad4 b t))]:=by
 refine CallF.of (args:=[.pointer (some ⟨n,0,none⟩),.i t]) B4 B5 Tryz.func133 (e133 (some ⟨n,0,none⟩) t _) ?_
 unfold t133
 have ht1:=hb.t1
 have hb1:=hb.b1
 unfold Ao4 Ad4
 refine ifF rfl (C0 (fun(h:t<0)=>.of ⟨?_,?_⟩) (fun(h: ¬t<0)=>A5 rfl (A6 b.tokens (ldB List.mem_cons_self rfl) (C0 (fun(h2:t>b.tokens)=>.of ⟨?_,?_⟩) (fun(h2: ¬t>b.tokens)=>?_)))))
 ·rw[decide_eq_false (by omega)]
 ·rw[if_neg (by omega)]
 ·rw[decide_eq_false (by omega)]
 ·rw[if_neg (by omega)]
 ·refine A5 rfl (A6 b.tokens (ldB List.mem_cons_self rfl) (A5 rfl (E0 [] [] rfl rfl (by simp[M7]) (.inl (Nat.le_refl _)) _ rfl (.of ⟨?_,?_⟩))))
  ·rw[decide_eq_true (by omega)]
  ·rw[if_pos (by omega),C1 (by first|omega|(simp only;omega)) (by first|omega|(simp only;omega))]
   rfl
end Go.Proofs.YtbaoieipijmakaaGreatDoor
