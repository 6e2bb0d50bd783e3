/-
  It is proved what the functions that the law PlainFlush reaches compute, part 6. There are no further conditions than those that each theorem names.
-/
import Derived.Test.YtieboeindnpnaaaGreatDoorMPlainFlush5
set_option linter.defProp false
set_option linter.unusedVariables false
set_option linter.unusedSimpArgs false
namespace Go.Proofs.YtieboeindnpnaaaGreatDoor
open Go.HL
variable{es:Array MapEntry}{A L:B1}{l:BL}{k:ByteArray}{ck m mk:Nat}
structure K1 where
 key:ByteArray
 has:Bool
 val:ByteArray
 may:BL
abbrev S2:=List K1
def noB:ByteArray:=ByteArray.empty
def Nm(st:S2)(k:ByteArray):Option K1:=st.find? fun x=>decide (x.key=k)
def Ep(st:S2)(k:ByteArray)(f:K1->K1):S2:=st.map fun x=>if x.key=k then f x else x
def K1.put(v:ByteArray)(x:K1):K1:=⟨x.key,true,v,x.may++[v]⟩
def K1.del(x:K1):K1:=⟨x.key,false,noB,x.may⟩
def K1.settle(x:K1):K1:=⟨x.key,x.has,x.val,if x.has then[x.val]else[]⟩
def K1.only(v:ByteArray)(x:K1):K1:=⟨x.key,true,v,[v]⟩
def Lo(st:S2)(k v:ByteArray):S2:=if(Nm st k).isSome then Ep st k (K1.put v)else st++[⟨k,true,v,[v]⟩]
def CO(st:S2)(k:ByteArray):S2:=Ep st k K1.del
def Wv(st:S2):S2:=st.map K1.settle
def Pw(st:S2)(k v:ByteArray)(h:Bool):Bool:=if h then(match Nm st k with|some x=>x.has&&decide (x.val=v)|none=>false)else true
def Ef(st:S2)(k v:ByteArray)(h:Bool):Bool×S2:=
 match Nm st k with
 |none=>(!h,st)
 |some x=>if h then if v∈x.may then(true,Ep st k (K1.only v))else(false,st)else(true,Ep st k K1.del)
def Ak(st:S2):BL:=st.map K1.key
def CM{st:S2}(h:Nm st k=none):k∉Ak st:=by
 unfold Nm at h;rw[RR]at h;intro hm;obtain⟨x,hx,rfl⟩:=NY.1 hm;exact h x hx (by simp)
def BV{st:S2}(h:k∉Ak st)(f:K1->K1):Ep st k f=st:=by
 unfold Ep;conv=>rhs;rw[<-YD st]
 refine TA fun x hx=>?_;rw[ND];rfl;exact fun e=>h (e▸OQ hx)
def Sw{a b:S2}{x:K1}(h:(Ak (a++x::b)).Nodup)(f:K1->K1):Ep (a++x::b) x.key f=a++f x::b:=by
 unfold Ak at h;rw[NQ,NS,QA,OW]at h;have h1:x.key∉Ak a:=fun hm=>h.2.2 _ hm x.key (by simp) rfl;have h2:x.key∉Ak b:=h.2.1.1;have e1:=BV h1 f;have e2:=BV h2 f;unfold Ep at e1 e2⊢;rw[NQ,NS,NE rfl,e1,e2]
structure PN where
 k:K1
 id:Nat
 mid:Nat
 es:Array MapEntry
 ck:Nat
 mm:List (ByteArray×Value)
variable{a b:List PN}{p p':PN}
def PN.o(p:PN):Nat×Obj:=(p.id,Obj.cells #[.w p.k.val,.b p.k.has,.map (some p.mid)] 165)
def PN.objs(p:PN):B1:=[p.o,(p.mid,Obj.map p.es p.ck)]
def PN.ptr(p:PN):Value:=.p p.id
structure PN.Ok(p:PN):Prop where
 mp:Mp Value.w p.es p.mm
 get: ∀v,W9 p.mm v=if v∈p.k.may then some (.b true)else none
def Aj(ps:List PN):B1:=ps.flatMap PN.objs
def CJ(a b:List PN):Aj (a++b)=Aj a++Aj b:=OD
def CI(a:PN)(b:List PN):Aj (a::b)=a.objs++Aj b:=rfl
def Kj(ps:List PN):List (ByteArray×Value):=ps.map fun p=>(p.k.key,p.ptr)
structure PX(m mk:Nat)(es:Array MapEntry)(ck:Nat)(ps:List PN)(A:B1):Prop where
 eq:A=(m,Obj.cells #[.map (some mk)] 158)::((mk,Obj.map es ck)::Aj ps)
 mp:Mp Value.w es (Kj ps)
 born:Kb es ck
 ok: ∀p∈ps,p.Ok
 nd:(Ak (ps.map PN.k)).Nodup
def PH(m:Nat)(st:S2)(A:B1):Prop:= ∃(mk:Nat) (es:Array MapEntry) (ck:Nat) (ps:List PN),PX m mk es ck ps A/\ps.map PN.k=st
def Xj:Fi PP 156 9 159 Value.w (.q none):=Qe (by kernel_rfl) (Xo (by kernel_rfl)) (by kernel_rfl)
def mapM:Fi PP 161 9 4 Value.w (.b false):=Qe (by kernel_rfl) (Xo (by kernel_rfl)) (by kernel_rfl)
def Dx(ps:List PN)(k:ByteArray):Option PN:=ps.find? fun p=>decide (p.k.key=k)
def Np:Option PN->Option Addr
 |some p=>some p.id.z
 |none=>none
def Tk(ps:List PN)(k:ByteArray):(Dx ps k).map PN.k=Nm (ps.map PN.k) k:=by
 unfold Dx Nm;rw[List.find?_map];rfl
def Ad8(ps:List PN)(k:ByteArray):(W9 (Kj ps) k).getD (.q none)= .q (Np (Dx ps k)):=by
 induction ps with
 |nil=>rfl
 |cons p r ih=>
  unfold Kj Dx at*;rw[NS,Ie];by_cases h:k=p.k.key
  ·rw[NE h,TF (by simp[h])];rfl
  ·rw[ND h,TV (by simpa using fun e=>h e.symm)];exact ih
def Tj{ps:List PN}(h:Dx ps k=some p):p.k.key=k/\ ∃a b,ps=a++p::b:=by
 unfold Dx at h;have h1:=List.find?_some h;exact⟨by simpa using h1,RB (UX h)⟩
def Aa9(L:B1)(k:ByteArray):Reads PP 85 #[.q none,.w k] L (.q none):=by
 unfold Reads;refine(c85 none k).c ?_;exact E9 rfl (.of ⟨rfl,rfl⟩)
def Ww(m mk:Nat)(es:Array MapEntry)(ck:Nat)(ps:List PN)(A L:B1)(h:PX m mk es ck ps A)(hs: ∀x∈A,x∈L)(k:ByteArray):
  Reads PP 85 #[.p m,.w k] L (.q (Np (Dx ps k))):=by
 unfold Reads;refine(c85 (some m.z) k).c ?_;have hA:=h.eq;refine D8 rfl (B7 rfl (B5 (some mk) (C2 (c:=#[.map (some mk)]) (T:=158) (fz:=(0,0)) (hs _ (by rw[hA];simp)) rfl) ?_));have lk:=Nq (P:=PP) Xj (hs (mk,Obj.map es ck) (by rw[hA];simp)) h.mp k;rw[Ad8]at lk;exact⟨(Np (Dx ps k),()),lk,.of ⟨rfl,rfl⟩⟩
def PX.set{A':B1}(h:PX m mk es ck (a++p::b) A)(zM:p'.id=p.id)(hk:p'.k.key=p.k.key)(ok:p'.Ok)(hA:A'=(m,Obj.cells #[.map (some mk)] 158)::((mk,Obj.map es ck)::Aj (a++p'::b))):
  PX m mk es ck (a++p'::b) A':=by
 have mH:Kj (a++p'::b)=Kj (a++p::b):=by
  unfold Kj PN.ptr;simp only[NQ,NS,hk,zM]
 refine⟨hA,by rw[mH];exact h.mp,h.born,fun q hq=>?_,?_⟩
 ·rcases NJ.1 hq with hq|hq
  ·exact h.ok q (by simp[hq])
  ·rcases OC.1 hq with rfl|hq
   ·exact ok
   ·exact h.ok q (by simp[hq])
 ·have:=h.nd;unfold Ak at this⊢;simp only[NQ,NS,hk]at this⊢;exact this
def PN.Ok.add(h:p.Ok)(v:ByteArray)(hm:Mp Value.w es (S7 p.mm v (.b true)))(x:K1)(hx: ∀u,u∈x.may↔u=v\/u∈p.k.may):PN.Ok ⟨x,p.id,p.mid,es,ck,S7 p.mm v (.b true)⟩:=by
 refine⟨hm,fun u=>?_⟩;simp only;rw[Tl,h.get u];by_cases e:u=v
 ·rw[NE e,NE ((hx u).2 (.inl e))]
 ·rw[ND e];by_cases e2:u∈p.k.may
  ·rw[NE e2,NE ((hx u).2 (.inr e2))]
  ·rw[ND e2,ND fun hh=>((hx u).1 hh).elim e e2]
def Bq4:CallF PP 35 #[] [] fun r L'=> ∃m,r= .p m/\PH m [] L':=by
 refine c35.c ?_;refine C9 fun n1 _=>C9 fun n2 _=>.of ⟨n2,rfl,n1,#[],0,[],⟨rfl,rfl,Kb.nil 0,by simp,SJ⟩,rfl⟩
def MT(p:PN)(ok:p.Ok)(R:B1):CallF PP 86 #[.p p.id] (p.objs++R) fun r L'=> ∃p':PN,r= .t #[]/\L'=p'.objs++R/\p'.Ok/\p'.k=p.k.settle/\p'.id=p.id:=by
 refine(c86 (some p.id.z)).c ?_;have lo: ∀L:B1,p.o∈L->C0 p.id.z [.w p.k.val,.b p.k.has,.map (some p.mid)] L:=fun L hm=>C2 (by unfold PN.o at hm;exact hm) rfl;refine B7 rfl (B5 (some p.mid) ((lo _ (by simp[PN.objs])).one 2 rfl) ?_);refine Bw8 mapM.und (es:=p.es) (clock:=p.ck) (Y:=p.o::R) (pc fun z=>by simp only[PN.objs,C3,D0,E5];omega) fun L1 aH=>?_;have ho:p.o∈L1:=aH.symm.subset (by simp);refine B5 p.k.has ((lo _ ho).one 1 rfl) (M0 (fun(h:p.k.has=true)=>?_) (fun(h:p.k.has=false)=>?_))
 ·refine B5 (some p.mid) ((lo _ ho).one 2 rfl) (B5 p.k.val (lo _ ho).hd ?_);refine Pf mapM aH (m:=[]) rfl p.k.val (.b true) fun es2 ck2 L2 dJ hY=>?_;refine .drop (A:=PN.objs ⟨p.k.settle,p.id,p.mid,es2,ck2,S7 [] p.k.val (.b true)⟩++R) (J:=[]) ⟨⟨p.k.settle,p.id,p.mid,es2,ck2,S7 [] p.k.val (.b true)⟩,rfl,rfl,⟨dJ,fun v=>?_⟩,rfl,rfl⟩ (pc fun z=>?_)
  ·simp only[K1.settle,h,if_true];rw[Tl];simp[EC]
  ·have:=E8 hY z;simp only[PN.objs,PN.o,K1.settle,C3,D0,E5]at*;omega
 ·refine .drop (A:=PN.objs ⟨p.k.settle,p.id,p.mid,#[],p.ck,[]⟩++R) (J:=[]) ⟨⟨p.k.settle,p.id,p.mid,#[],p.ck,[]⟩,rfl,rfl,⟨rfl,fun v=>?_⟩,rfl,rfl⟩ (pc fun z=>?_)
  ·simp[K1.settle,h,EC]
  ·have:=E8 aH z;simp only[PN.objs,PN.o,K1.settle,C3,D0,E5]at*;omega
theorem Ac9{κ:Type}[DecidableEq κ]: ∀(m:List (κ×Value)) (k:κ) (v:Value),k∉m.map Prod.fst->S7 m k v=m++[(k,v)]
 |[],k,v,_=>rfl
 |p::r,k,v,h=>by
  rw[NS,OC,PS]at h;rw[S7,ND h.1,Ac9 r k v h.2];rfl
def PX.frame(h:PX m mk es ck (a++p::b) A):
  A.Perm (p.o::((p.mid,Obj.map p.es p.ck)::((m,Obj.cells #[.map (some mk)] 158)::((mk,Obj.map es ck)::(Aj a++Aj b))))):=by
 rw[h.eq,CJ,CI];exact pc fun z=>by simp only[PN.objs,C3,D0,E5];omega
def PN.lo(p:PN)(hm:p.o∈L):C0 p.id.z [.w p.k.val,.b p.k.has,.map (some p.mid)] L:=C2 (by unfold PN.o at hm;exact hm) rfl
def PN.set{Y:B1}(hL:L.Perm (p.o::Y))(v:ByteArray)(t:Bool){k:HP}(hk: ∀L',L'.Perm ((PN.o ⟨⟨p.k.key,t,v,p.k.may⟩,p.id,p.mid,p.es,p.ck,p.mm⟩)::Y)->k L'):st p.id.z [.w v,.b t] k L:=
 Mx (n:=p.id) (off:=0) (c:=#[.w p.k.val,.b p.k.has,.map (some p.mid)]) (T:=165) (fz:=(0,0)) hL rfl (by simp) (.inl (NF _)) #[.w v,.b t,.map (some p.mid)] rfl hk
def PX.done{L':B1}{st:S2}{k:K1}(h:PX m mk es ck (a++p::b) A)(zM:p'.id=p.id)(hk:p'.k.key=p.k.key)(ok:p'.Ok)
  (aO:a.map PN.k++p'.k::b.map PN.k=st) (hL:L'.Perm (p'.o::((p'.mid,Obj.map p'.es p'.ck)::((m,Obj.cells #[.map (some mk)] 158)::((mk,Obj.map es ck)::(Aj a++Aj b)))))):
  ∃A',PH m st A'/\L'.Perm A':=by
 refine⟨_,⟨mk,es,ck,a++p'::b,h.set zM hk ok rfl,by rw[NQ,NS];exact aO⟩,?_⟩;rw[CJ,CI];exact pc fun z=>by have:=E8 hL z;simp only[PN.objs,C3,D0,E5]at*;omega
def Bq1(L:B1)(k v:ByteArray):CallF PP 36 #[.q none,.w k,.w v] L fun r L'=>r= .t #[]/\L'=L:=by
 refine(c36 none k v).c ?_;exact E9 rfl (.of ⟨rfl,rfl⟩)
def Wu(m:Nat)(st:S2)(A:B1)(h:PH m st A)(k v:ByteArray):CallF PP 36 #[.p m,.w k,.w v] A fun r L'=>r= .t #[]/\PH m (Lo st k v) L':=by
 obtain⟨mk,es,ck,ps,h,rfl⟩:=h;refine(c36 (some m.z) k v).c ?_;refine D8 rfl (C4 (Ww m mk es ck ps A A h (fun _ hx=>hx) k) (Np (Dx ps k),()) rfl ?_);have fN:=Tk ps k;refine V9 (fun y L'=> ∃(mk:Nat) (es:Array MapEntry) (ck:Nat) (a b:List PN) (p:PN) (A':B1),y=(some p.id.z,())/\PX m mk es ck (a++p::b) A'/\L'.Perm A'/\a.map PN.k++K1.put v p.k::b.map PN.k=Lo (ps.map PN.k) k v) ?_ ?_
 ·rintro _ L1 ⟨mk,es,ck,a,b,p,A',rfl,hx,hp,aO⟩;have aC:=hx.ok p (by simp);have aH:=hp.trans hx.frame;refine B7 rfl (PN.set aH v true fun L2 hY=>?_);refine B5 (some p.mid) ((PN.lo ⟨⟨p.k.key,true,v,p.k.may⟩,p.id,p.mid,p.es,p.ck,p.mm⟩ (hY.symm.subset NG)).one 2 rfl) ?_;refine Pf mapM (es:=p.es) (clock:=p.ck) (Y:=PN.o ⟨⟨p.k.key,true,v,p.k.may⟩,p.id,p.mid,p.es,p.ck,p.mm⟩::((m,Obj.cells #[.map (some mk)] 158)::((mk,Obj.map es ck)::(Aj a++Aj b)))) (pc fun z=>by have:=E8 hY z;simp only[C3,D0]at*;omega) aC.mp v (.b true) fun es2 ck2 L3 iD aW=>?_;obtain⟨A3,lO,bU⟩:=hx.done (p':=⟨K1.put v p.k,p.id,p.mid,es2,ck2,S7 p.mm v (.b true)⟩) (k:=p.k) rfl rfl (aC.add v iD (K1.put v p.k) fun u=>by simp[K1.put,or_comm]) aO (L':=L3) (pc fun z=>by have:=E8 aW z;simp only[PN.o,K1.put,C3,D0]at*;omega);exact .drop (A:=A3) (J:=[]) ⟨rfl,lO⟩ (by simpa using bU)
 ·intro j hj;cases hf:Dx ps k with
  |some p=>
   obtain⟨hk,a,b,rfl⟩:=Tj hf;rw[hf]at fN;refine D8 rfl (hj _ _ ⟨mk,es,ck,a,b,p,A,rfl,h,NH _,?_⟩);have aZ:=h.nd;rw[NQ,NS]at aZ fN⊢;unfold Lo;rw[<-fN];simp only[RO,Option.isSome_some,if_true];rw[<-hk];exact(Sw aZ (K1.put v)).symm
  |none=>
   rw[hf]at fN;have aT:=CM fN.symm;refine E9 rfl (C9 fun n1 _=>C9 fun n2 _=>B7 rfl ?_);have hA:=h.eq;refine B5 (some mk) (C2 (c:=#[.map (some mk)]) (T:=158) (fz:=(0,0)) (by rw[hA];simp) rfl) ?_;refine Az2 Xj (es:=es) (clock:=ck) (Y:=(n2,Obj.cells #[.w ByteArray.empty,.b false,.map (some n1)] 165)::((n1,Obj.map #[] 0)::((m,Obj.cells #[.map (some mk)] 158)::Aj ps))) (pc fun z=>by rw[hA];simp only[C3,D0];omega) h.mp h.born k (.p n2) fun es2 ck2 L2 dJ cZ hY=>?_;refine hj _ _ ⟨mk,es2,ck2,ps,[],⟨⟨k,false,ByteArray.empty,[]⟩,n2,n1,#[],0,[]⟩,_,rfl,⟨rfl,?_,cZ,fun q hq=>?_,?_⟩,?_,?_⟩
   ·rw[Ac9 _ _ _ (by
     intro hm;apply aT;unfold Kj at hm;unfold Ak;rw[OO]at hm⊢;exact hm)]at dJ
    unfold Kj at dJ⊢;rw[NQ];exact dJ
   ·rcases NJ.1 hq with hq|hq
    ·exact h.ok q hq
    ·rw[NM.1 hq];exact⟨rfl,fun v=>rfl⟩
   ·have aZ:=h.nd;unfold Ak at aZ aT⊢;rw[NQ,NQ,QA];refine⟨aZ,by simp,fun x hx y hy=>?_⟩;simp at hy;exact fun e=>aT (by rw[<-hy,<-e];exact hx)
   ·rw[CJ,CI];exact pc fun z=>by have:=E8 hY z;simp only[PN.objs,PN.o,Aj,List.flatMap_nil,C3,D0,E5]at*;omega
   ·unfold Lo;rw[<-fN];rfl
def Bs1(m:Nat)(st:S2)(A:B1)(h:PH m st A)(k:ByteArray):CallF PP 40 #[.p m,.w k] A fun r L'=>r= .t #[]/\PH m (CO st k) L':=by
 obtain⟨mk,es,ck,ps,h,rfl⟩:=h;refine(c40 (some m.z) k).c ?_;refine C4 (Ww m mk es ck ps A A h (fun _ hx=>hx) k) (Np (Dx ps k),()) rfl ?_;have fN:=Tk ps k;cases hf:Dx ps k with
 |none=>
  rw[hf]at fN;exact E9 rfl (.of ⟨rfl,mk,es,ck,ps,h,(BV (CM fN.symm) _).symm⟩)
 |some p=>
  obtain⟨hk,a,b,rfl⟩:=Tj hf;have aC:=h.ok p (by simp);refine D8 rfl (B7 rfl (PN.set h.frame ByteArray.empty false fun L2 hY=>?_));have aZ:=h.nd;rw[NQ,NS]at aZ;obtain⟨A3,lO,bU⟩:=h.done (p':=⟨K1.del p.k,p.id,p.mid,p.es,p.ck,p.mm⟩) (st:=CO (List.map PN.k (a++p::b)) k) (k:=p.k) rfl rfl ⟨aC.mp,aC.get⟩ (by
   rw[NQ,NS,<-hk];exact(Sw aZ K1.del).symm) (L':=L2) hY
  exact .drop (A:=A3) (J:=[]) ⟨rfl,lO⟩ (by simpa using bU)
def Cl4(a c:ByteArray)(b:Bool){k:F7 (.lf .bool)->HP}(hk:k (b&&decide (a=c)) L):
  Y8 PP (binOp .eql 163 (.agg #[.w a,.b b]) (.agg #[.w c,.b true])) (.lf .bool) k L:=by
 refine GC (r:=(a.toList==c.toList&&((b==true)&&true))) (by kernel_rfl) (by kernel_rfl) ?_;have e:(a.toList==c.toList&&((b==true)&&true))=(b&&decide (a=c)):=by
  rw[Re,Re];have h:(a.data.toList==c.data.toList)=decide (a=c):=by
   rw[UT];simp only[beq_iff_eq,QR];constructor
   ·intro h;cases a;cases c;simp only at h;exact congrArg ByteArray.mk (XG.1 h)
   ·intro h;rw[h]
  rw[h];cases b<;>simp
 rw[e];exact hk
def Bq5(L:B1)(k v:ByteArray)(t:Bool):Reads PP 37 #[.q none,.w k,.w v,.b t] L (.b (!t)):=by
 unfold Reads;refine(c37 none k v t).c ?_;refine C4 (Aa9 L k) (none,()) rfl ?_;cases t
 ·exact D8 rfl (.of ⟨rfl,rfl⟩)
 ·exact E9 rfl (E9 rfl (.of ⟨rfl,rfl⟩))
def Sy(m:Nat)(st:S2)(A L:B1)(h:PH m st A)(hs: ∀x∈A,x∈L)(k v:ByteArray)(t:Bool):Reads PP 37 #[.p m,.w k,.w v,.b t] L (.b (Pw st k v t)):=by
 obtain⟨mk,es,ck,ps,h,rfl⟩:=h;unfold Reads;refine(c37 (some m.z) k v t).c ?_;refine C4 (Ww m mk es ck ps A L h hs k) (Np (Dx ps k),()) rfl ?_;have fN:=Tk ps k;cases t with
 |false=>exact D8 rfl (.of ⟨rfl,rfl⟩)
 |true=>
  refine E9 rfl ?_;unfold Pw;rw[NE rfl,<-fN];cases hf:Dx ps k with
  |none=>exact E9 rfl (.of ⟨rfl,rfl⟩)
  |some p=>
   obtain⟨hk,a,b,rfl⟩:=Tj hf;have ho:p.o∈L:=hs _ (h.frame.symm.subset NG);refine D8 rfl (B7 rfl (B5 (p.k.val,p.k.has,()) ((PN.lo p ho).pre fun i u hu=>?_) (Cl4 _ _ _ (.of ⟨rfl,rfl⟩))));cases i with
   |zero=>exact hu
   |succ i=>cases i with
    |zero=>exact hu
    |succ i=>exact nomatch (show(none:Option Value)=some u from hu)
def Bs2(L:B1)(k v:ByteArray)(t:Bool):Reads PP 38 #[.q none,.w k,.w v,.b t] L (.b (!t)):=by
 unfold Reads;refine(c38 none k v t).c ?_;exact C4 (Aa9 L k) (none,()) rfl (E9 rfl (.of ⟨rfl,rfl⟩))
def CP(m:Nat)(st:S2)(A:B1)(h:PH m st A)(k v:ByteArray)(t:Bool):CallF PP 38 #[.p m,.w k,.w v,.b t] A fun r L'=>r= .b (Ef st k v t).1/\PH m (Ef st k v t).2 L':=by
 obtain⟨mk,es,ck,ps,h,rfl⟩:=h;refine(c38 (some m.z) k v t).c ?_;refine C4 (Ww m mk es ck ps A A h (fun _ hx=>hx) k) (Np (Dx ps k),()) rfl ?_;have fN:=Tk ps k;cases hf:Dx ps k with
 |none=>
  rw[hf]at fN;have e:Ef (ps.map PN.k) k v t=(!t,ps.map PN.k):=by unfold Ef;rw[<-fN];rfl
  rw[e];exact E9 rfl (.of ⟨rfl,mk,es,ck,ps,h,rfl⟩)
 |some p=>
  obtain⟨hk,a,b,rfl⟩:=Tj hf;have aC:=h.ok p (by simp);have aZ:=h.nd;rw[hf]at fN;have ho:p.o∈A:=h.frame.symm.subset NG;have hmd:(p.mid,Obj.map p.es p.ck)∈A:=h.frame.symm.subset (by simp);rw[NQ,NS]at aZ;refine D8 rfl ?_;cases t with
  |false=>
   have e:Ef (List.map PN.k (a++p::b)) k v false=(true,Ep (List.map PN.k (a++p::b)) k K1.del):=by unfold Ef;rw[<-fN];rfl
   rw[e];refine D8 rfl (B7 rfl (PN.set h.frame ByteArray.empty false fun L2 hY=>?_));obtain⟨A3,lO,bU⟩:=h.done (p':=⟨K1.del p.k,p.id,p.mid,p.es,p.ck,p.mm⟩) (st:=Ep (List.map PN.k (a++p::b)) k K1.del) (k:=p.k) rfl rfl ⟨aC.mp,aC.get⟩ (by
    rw[NQ,NS,<-hk];exact(Sw aZ K1.del).symm) (L':=L2) hY
   exact .drop (A:=A3) (J:=[]) ⟨rfl,lO⟩ (by simpa using bU)
  |true=>
   refine E9 rfl (B7 rfl (B5 (some p.mid) ((PN.lo p ho).one 2 rfl) ?_));have lk:=Nq (P:=PP) mapM hmd aC.mp v;rw[aC.get v]at lk;by_cases hv:v∈p.k.may
   ·rw[NE hv]at lk;have e:Ef (List.map PN.k (a++p::b)) k v true=(true,Ep (List.map PN.k (a++p::b)) k (K1.only v)):=by unfold Ef;rw[<-fN];simp[hv]
    rw[e];refine⟨(true,()),lk,E9 rfl (PN.set h.frame v true fun L2 hY=>?_)⟩;refine O1 (CallF.perm hY.symm (MT ⟨⟨p.k.key,true,v,p.k.may⟩,p.id,p.mid,p.es,p.ck,p.mm⟩ ⟨aC.mp,aC.get⟩ ((m,Obj.cells #[.map (some mk)] 158)::((mk,Obj.map es ck)::(Aj a++Aj b))))) ?_;rintro _ _-⟨p',rfl,rfl,ok',cA,rG⟩;obtain⟨A3,lO,bU⟩:=h.done (p':=p') (st:=Ep (List.map PN.k (a++p::b)) k (K1.only v)) (k:=p.k) rG (by rw[cA];rfl) ok' (by
     rw[NQ,NS,<-hk,cA];exact(Sw aZ (K1.only v)).symm) (L':=p'.objs++((m,Obj.cells #[.map (some mk)] 158)::((mk,Obj.map es ck)::(Aj a++Aj b)))) (NH _)
    exact⟨(),rfl,.drop (A:=A3) (J:=[]) ⟨rfl,lO⟩ (by simpa using bU)⟩
   ·rw[ND hv]at lk;have e:Ef (List.map PN.k (a++p::b)) k v true=(false,List.map PN.k (a++p::b)):=by unfold Ef;rw[<-fN];simp[hv]
    rw[e];exact⟨(false,()),lk,D8 rfl (.of ⟨rfl,mk,es,ck,_,h,rfl⟩)⟩
def Cl8:V4 PP 55 9 1 16 [.w ⟨#[]⟩]:=De (by kernel_rfl) (by kernel_rfl) rfl (by decide) (by decide)
def Bd5:W6 PP 55:=.inl ⟨9,by kernel_rfl⟩
theorem Ab0{α:Type}: ∀(l:List α) (p q:α->Bool),(∀x∈l,q x=true->p x=true)->(l.filter q).length<=(l.filter p).length
 |[],p,q,_=>by simp
 |x::r,p,q,h=>by
  have ih:=Ab0 r p q fun y hy=>h y (by simp[hy]);have hx:=h x (by simp);rw[QS,QS];cases hq:q x
  ·cases p x<;>simp<;>omega
  ·rw[hx hq];simp;exact ih
theorem An5{α:Type}: ∀(l:List α) (p q:α->Bool),(∀x∈l,q x=true->p x=true)-> ∀e∈l,p e=true->q e=false->(l.filter q).length<(l.filter p).length
 |[],p,q,_,e,he,_,_=>by simp at he
 |x::r,p,q,h,e,he,h1,h2=>by
  have hx:=h x (by simp);have hl:=Ab0 r p q fun y hy=>h y (by simp[hy]);rw[QS,QS];rcases OC.1 he with rfl|he
  ·rw[h1,h2];simp;omega
  ·have ih:=An5 r p q (fun y hy=>h y (by simp[hy])) e he h1 h2;cases hq:q x
   ·cases p x<;>simp<;>omega
   ·rw[hx hq];simp;exact ih
def DQ{α β:Type}{f:α->β}{l:List α}(h:(l.map f).Nodup):l.Nodup:=(SZ.1 h).imp fun{a b} fH e=>fH (congrArg f e)
theorem AI{α:Type}: ∀(a b:List α),a.Nodup->(∀x∈a,x∈b)->a.length<=b.length
 |[],b,_,_=>by simp
 |x::a,b,hn,hs=>by
  obtain⟨b1,b2,rfl⟩:=RB (hs x (by simp));rw[OW]at hn;have:=AI a (b1++b2) hn.2 fun y hy=>by
   have h1:=hs y (by simp[hy]);have h2:y≠x:=fun e=>hn.1 (e▸hy);simp only[NJ,OC]at h1⊢;rcases h1 with h1|h1|h1
   ·exact .inl h1
   ·exact absurd h1 h2
   ·exact .inr h1
  simp only[NR,NU]at this⊢;omega
def AB:Value->Option ByteArray
 | .w s=>some s
 |_=>none
def IJ(l:BL):(l.map Value.string).filterMap AB=l:=by
 induction l with
 |nil=>rfl
 |cons a r ih=>rw[NS,WC];simp only[AB];rw[ih]
def Br4(L:B1):Reads PP 42 #[.q none] L (.slice none 0 0):=by
 unfold Reads;refine(c42 none).c ?_;exact E9 rfl (.of ⟨rfl,rfl⟩)
def Ax1(ks:BL)(A:B1)(r:Value)(L':B1):Prop:= ∃(v:B6) (l:BL) (seg:B1),r= .slice v.a v.len v.cap/\L'=seg++A/\SO v l seg/\l.Perm ks/\Dk l 0 l.length
def Br3(m mk:Nat)(es:Array MapEntry)(ck:Nat)(ps:List PN)(A:B1)(h:PX m mk es ck ps A)(hC:ps.length<=12):CallF PP 42 #[.p m] A (Ax1 (Ak (ps.map PN.k)) A):=by
 refine(c42 (some m.z)).c ?_;have hA:=h.eq;have mR:(mk,Obj.map es ck)∈A:=by rw[hA];simp
 refine D8 rfl (B7 rfl (B5 (some mk) (C2 (c:=#[.map (some mk)]) (T:=158) (fz:=(0,0)) (by rw[hA];simp) rfl) ?_));refine Bm1 Xj.und mR fun n=>?_;have eY:es.toList.map (fun e=>e.key)=(Ak (ps.map PN.k)).map Value.string:=by
  have h1:=congrArg (List.map Prod.fst) h.mp;rw[OO,OO]at h1;unfold Kj at h1;rw[OO]at h1;unfold Ak;rw[OO,OO];exact h1
 have hesl:es.toList.length=ps.length:=by have:=congrArg List.length eY;simpa[Ak]using this
 refine G1 (fun z' z L'=> ∃(vis:List MapEntry) (seen:Array Nat) (v:B6) (l:BL) (sg:B1),z=(v,())/\z'=(es.toList.filter fun e=> !(seen.toList.contains e.born)).length/\(∀e∈vis,e∈es.toList)/\seen.toList=vis.map (fun e=>e.born)/\(vis.map (fun e=>e.born)).Nodup/\vis.map (fun e=>e.key)=l.map Value.string/\
   L'.Perm ((n,Obj.mapIter (some mk) ck seen ck)::(sg++A))/\SO v l sg) _ ⟨[],#[],⟨none,0,0⟩,[],[],rfl,rfl,by simp,rfl,SJ,rfl,NH _,O5⟩ ?_
 rintro z' z L1 ⟨vis,seen,v,l,sg,rfl,rfl,tE,kX,xU,xT,hp,o⟩;dsimp only;have bi:vis.Nodup:=DQ xU;have zU:es.toList.Nodup:=DQ h.born.nd;have bY:vis.length<=es.toList.length:=AI _ _ bi tE;have xB:l.length=vis.length:=by have:=congrArg List.length xT;simpa using this.symm
 have lE:=o.len;refine Bu6 hp (by simp[mR]) h.born (fun aA=>?_) (fun e L2 he cN hY=>?_)
 ·--all were seen
  have fT:vis.Perm es.toList:=by
   refine(WP bi zU).2 fun e=>⟨tE e,fun he=>?_⟩;have h1:=aA e he;rw[kX]at h1;obtain⟨e',lM,hb⟩:=NY.1 h1;have:e'=e:=by
    obtain⟨i,hi,rfl⟩:=TM (tE e' lM);obtain⟨j,hj,rfl⟩:=TM he;rcases Nat.lt_trichotomy i j with h2|rfl|h2
    ·have h3:=(TL.1 h.born.nd) i j (by simpa using hi) (by simpa using hj) h2;simp only[QG]at h3;exact absurd hb h3
    ·rfl
    ·have h3:=(TL.1 h.born.nd) j i (by simpa using hj) (by simpa using hi) h2;simp only[QG]at h3;exact absurd hb.symm h3
   rw[<-this];exact lM
  have dj:l.Perm (Ak (ps.map PN.k)):=by
   have h1:=fT.map fun e:MapEntry=>e.key;rw[xT,eY]at h1;have h2:=h1.filterMap AB
   rwa [IJ,IJ]at h2
  refine O1 (CallF.perm (show((sg++((n,Obj.mapIter (some mk) ck seen ck)::A))).Perm L1 from pc fun z=>by have:=E8 hp z;simp only[C3,D0]at*;omega) (Be4 v l sg ((n,Obj.mapIter (some mk) ck seen ck)::A) o (by omega) (dj.nodup_iff.2 h.nd))) ?_;rintro _ _-⟨l2,sg2,rfl,o2,aP,rfl,gC⟩;refine⟨(),rfl,.drop (A:=sg2++A) (J:=[(n,Obj.mapIter (some mk) ck seen ck)]) ⟨v,l2,sg2,rfl,rfl,o2,aP.perm.trans dj,by rw[aP.len];exact gC⟩ (pc fun z=>by simp only[C3,D0,E5];omega)⟩
 ·have dJ:(mk,Obj.map es ck)∈L2:=hY.symm.subset (by simp[mR]);have eZ:(n,Obj.mapIter (some mk) ck (seen.push e.born) ck)∈L2:=hY.symm.subset NG;have hk: ∃k,e.key= .w k:=by
   have h1:e.key∈es.toList.map (fun e=>e.key):=OQ he;rw[eY]at h1;obtain⟨k,-,h2⟩:=NY.1 h1;exact⟨k,h2.symm⟩
  obtain⟨k,hk⟩:=hk;have vL:=Cl5 (P:=PP) eZ dJ h.born he;rw[hk]at vL;refine⟨k,e.val,vL,?_⟩;have hO:=An5 es.toList (fun x=> !(seen.toList.contains x.born)) (fun x=> !((seen.push e.born).toList.contains x.born)) (fun x hx h1=>by simp at h1⊢;exact h1.1) e he (by simpa using cN) (by simp);have hZ:e.born∉vis.map (fun e=>e.born):=by rw[<-kX];exact cN
  have tC:(vis++[e]).length<=es.toList.length:=AI _ _ (DQ (f:=fun e:MapEntry=>e.born) (by
   rw[NQ,QA];exact⟨xU,by simp,fun x hx y hy=>by simp at hy;subst hy;exact fun e=>hZ (e▸hx)⟩)) fun x hx=>(NJ.1 hx).elim (tE x) fun hx=>by rw[NM.1 hx];exact he
  rw[NR,SS]at tC;refine Iv Cl8 Bd5 o (Y:=(n,Obj.mapIter (some mk) ck (seen.push e.born) ck)::A) (ws:=Sc k) (pc fun z=>by have:=E8 hY z;simp only[C3,D0]at*;omega) rfl rfl (by omega) fun v2 sg2 iR o2=>?_;refine⟨_,hO,vis++[e],seen.push e.born,v2,l++[k],sg2,rfl,rfl,fun x hx=>(NJ.1 hx).elim (tE x) fun hx=>by rw[NM.1 hx];exact he,by simp[kX],?_,by simp[xT,hk],pc fun z=>by simp only[C3,D0];omega,?_⟩
  ·rw[NQ,QA];exact⟨xU,by simp,fun x hx y hy=>by simp at hy;subst hy;exact fun e=>hZ (e▸hx)⟩
  ·unfold SO;rw[OD,PU];exact o2
def Aa3(m:Nat)(st:S2)(A:B1)(h:PH m st A)(hC:st.length<=12):CallF PP 42 #[.p m] A (Ax1 (Ak st) A):=by
 obtain⟨mk,es,ck,ps,h,rfl⟩:=h;exact Br3 m mk es ck ps A h (by rw[NL]at hC;exact hC)
def Br9(m:Nat)(st:S2)(A:B1)(h:PH m st A)(hC:st.length<=12):CallF PP 39 #[.p m] A fun r L'=>r= .t #[]/\PH m (Wv st) L':=by
 refine(c39 (some m.z)).c ?_;refine D8 rfl (O1 (Aa3 m st A h hC) ?_);rintro _ _-⟨v,l,seg,rfl,rfl,o,fT,gC⟩;refine⟨(v,()),rfl,?_⟩;dsimp only;have bY:=o.len;have xB:l.length=st.length:=by have:=fT.length_eq;simpa[Ak]using this
 have yZ:(Ak st).Nodup:=by obtain⟨mk,es,ck,ps,h,rfl⟩:=h;exact h.nd
 have hnl:l.Nodup:=fT.nodup_iff.2 yZ;refine G1 (fun z' z L'=> ∃(i:Nat) (A':B1),i<=l.length/\z'=l.length-i/\z=((i:Int),())/\PH m (st.map fun x=>if x.key∈l.take i then x.settle else x) A'/\L'.Perm (seg++A')) l.length ⟨0,A,by omega,by omega,rfl,by simpa using h,NH _⟩ ?_;rintro z' z L1 ⟨i,A',hi,rfl,rfl,ak,hp⟩;dsimp only;refine D6 (fun(hO:(i:Int)<v.len)=>?_) (fun(aM: ¬(i:Int)<v.len)=>?_)
 ·have hJ:i<l.length:=by omega
  refine Bd Kf (by decide) ((C5.sl o).mono fun x hx=>hp.symm.subset (by simp[hx])) rfl hJ fun a ha=>?_;have aX:l[i]∈Ak st:=fT.subset (NO hJ);have cF:l.take (i+1)=l.take i++[l[i]]:=OB hJ;have kJ:l[i]∉l.take i:=by
   intro hm;obtain⟨j,hj,he⟩:=TM hm;rw[NW]at hj;rw[List.getElem_take]at he;exact(TL.1 hnl) j i (by omega) hJ (by omega) he
  generalize l[i]=k at ha aX cF kJ;refine B5 k ha (B7 rfl ?_);obtain⟨mk,es,ck,ps,hx,aO⟩:=ak;have hA:=hx.eq;have aJ: ∀x∈A',x∈L1:=fun x hx=>hp.symm.subset (by simp[hx]);refine B5 (some mk) (C2 (c:=#[.map (some mk)]) (T:=158) (fz:=(0,0)) (aJ _ (by rw[hA];simp)) rfl) ?_;have lk:=Nq (P:=PP) Xj (aJ (mk,Obj.map es ck) (by rw[hA];simp)) hx.mp k;rw[Ad8]at lk;have pK:k∈Ak (ps.map PN.k):=by
   rw[aO];unfold Ak at aX⊢;rw[OO];obtain⟨y,hy,rfl⟩:=NY.1 aX;refine NY.2 ⟨y,hy,?_⟩;simp only[Function.comp];split<;>rfl
  have fN:=Tk ps k;cases hf:Dx ps k with
  |none=>
   rw[hf]at fN;exact absurd pK (CM fN.symm)
  |some p=>
   rw[hf]at lk;refine⟨(some p.id.z,()),lk,?_⟩;obtain⟨hk,a,b,rfl⟩:=Tj hf;have aZ:=hx.nd;rw[NQ,NS]at aZ;refine O1 (CallF.perm (show(p.objs++(((m,Obj.cells #[.map (some mk)] 158)::((mk,Obj.map es ck)::(Aj a++Aj b)))++seg)).Perm L1 from pc fun z=>by have:=E8 hp z;have:=E8 hx.frame z;simp only[PN.objs,C3,D0,E5]at*;omega) (MT p (hx.ok p (by simp)) _)) ?_;rintro _ _-⟨p',rfl,rfl,ok',cA,rG⟩;obtain⟨A3,lO,bU⟩:=hx.done (p':=p') (st:=Ep (List.map PN.k (a++p::b)) k K1.settle) (k:=p.k) rG (by rw[cA];rfl) ok' (by
    rw[NQ,NS,<-hk,cA];exact(Sw aZ K1.settle).symm) (L':=p'.objs++((m,Obj.cells #[.map (some mk)] 158)::((mk,Obj.map es ck)::(Aj a++Aj b)))) (NH _)
   refine⟨(),rfl,H3 (by omega) ⟨l.length-(i+1),by omega,i+1,A3,by omega,rfl,rfl,?_,pc fun z=>by have:=E8 bU z;simp only[C3]at*;omega⟩⟩;have e:(st.map fun x=>if x.key∈l.take (i+1)then x.settle else x)=Ep (List.map PN.k (a++p::b)) k K1.settle:=by
    rw[aO];unfold Ep;rw[OO];refine TA fun x _=>?_;simp only[Function.comp];rw[cF];by_cases e2:x.key∈l.take i
    ·have e3: ¬x.settle.key=k:=fun e=>kJ (e▸e2);rw[NE (by simp[e2]),NE e2,ND e3]
    ·rw[ND e2];by_cases e1:x.key=k
     ·rw[NE (by simp[e1]),NE e1]
     ·rw[ND (by simp[e1,e2]),ND e1]
   rw[e];exact lO
 ·obtain rfl:i=l.length:=by omega
  have e:(st.map fun x=>if x.key∈l.take l.length then x.settle else x)=Wv st:=by
   unfold Wv;refine TA fun x hx=>?_;rw[OE,NE (fT.symm.subset (OQ hx))]
  rw[e]at ak;exact .drop (A:=A') (J:=seg) ⟨rfl,ak⟩ (hp.trans OT)
def Bo4(h:l.Pairwise le):Dk l 0 l.length:=by
 intro i j h1 h2 h3;rw[Nv (by omega),Nv h3];exact TL.1 h i j (by omega) h3 h2
def Bj2(L:B1)(v w:B6)(l:BL)(hv:Sl L v 1 (l.flatMap Sc))(hw:Sl L w 1 (l.flatMap Sc))(hl:l.length<=9223372036854775807):Reads PP 41 #[.slice v.a v.len v.cap,.slice w.a w.len w.cap] L (.b true):=by
 unfold Reads;refine(c41 v w).c ?_;have bY:=hv.els_len Kf (by decide);have bc:=hw.els_len Kf (by decide);refine Ew (show(v.len:Int)=w.len by omega) ?_;refine G1 (fun k z L'=>L'=L/\ ∃i:Nat,i<=l.length/\k=l.length-i/\z=((i:Int),())) l.length ⟨rfl,0,by omega,by omega,rfl⟩ ?_;rintro k z L ⟨rfl,i,hi,rfl,rfl⟩;dsimp only;refine D6 (fun(hO:(i:Int)<v.len)=>?_) (fun(aM: ¬(i:Int)<v.len)=>.of ⟨rfl,rfl⟩);have hJ:i<l.length:=by omega
 refine Bd Kf (by decide) hv (n:=i) rfl hJ fun a ha=>Bd Kf (by decide) hw (n:=i) rfl hJ fun b hb=>?_;refine B5 l[i] ha (B5 l[i] hb (Ew rfl (H3 (by omega) ⟨l.length-(i+1),by omega,rfl,i+1,by omega,rfl,rfl⟩)))
def bA:ByteArray:=ByteArray.mk #[97]
def bB:ByteArray:=ByteArray.mk #[66]
def b1:ByteArray:=ByteArray.mk #[49]
def b2:ByteArray:=ByteArray.mk #[50]
def bX:ByteArray:=ByteArray.mk #[120]
def bE:ByteArray:=ByteArray.mk #[]
def ps1:S2:=Lo [] bA b1
def Nj:S2:=Lo ps1 bA b2
def Wp:S2:=(Ef Nj bA b1 true).2
def MW:S2:=Lo Wp bA b2
def CA:S2:=Wv MW
def MV:S2:=(Ef CA bA b1 true).2
def MU:S2:=Lo MV bB bX
def Pt:S2:=CO MU bB
def BZ:S2:=(Ef Pt bB bX true).2
def Ca0(hp:l.Perm (Ak BZ))(hs:Dk l 0 l.length):l=[bB,bA]:=by
 have e:Ak BZ=[bA,bB]:=by kernel_rfl
 rw[e]at hp;have h2:l.Perm [bB,bA]:=hp.trans (TO bB bA []);refine Bd4 h2 hs (Bo4 ?_);refine List.Pairwise.cons (fun y hy=>?_) (List.pairwise_singleton _ _);rw[NM.1 hy];show lt bA bB=false
 kernel_rfl
def Bq8(L:B1):Reads PP 8 #[] L (.b true):=by
 unfold Reads;refine c8.c ?_;refine H0 (A:=[]) (R:=L) Bq4 (NH _) ?_;rintro _ A1 ⟨m,rfl,h⟩;refine⟨_,NH _,(some m.z,()),rfl,?_⟩;dsimp only;have sub: ∀{A X:B1},∀x∈A,x∈A++X:=fun x hx=>OA _ hx;refine H0 (Wu m _ A1 h bA b1) (NH _) ?_;rintro _ A2 ⟨rfl,h⟩;refine⟨_,NH _,(),rfl,?_⟩;refine H0 (Wu m _ A2 h bA b2) (NH _) ?_;rintro _ A3 ⟨rfl,h⟩;refine⟨_,NH _,(),rfl,?_⟩;refine C4 (Sy m Nj A3 _ h sub bA b2 true) (true,()) (congrArg Value.b (show Pw Nj bA b2 true=true by kernel_rfl)) ?_;refine C4 (Sy m Nj A3 _ h sub bA b1 true) (false,()) (congrArg Value.b (show Pw Nj bA b1 true=false by kernel_rfl)) ?_;refine H0 (CP m Nj A3 h bA b1 true) (NH _) ?_;rintro _ A4 ⟨rfl,h⟩;refine⟨_,NH _,(true,()),congrArg Value.b (show(Ef Nj bA b1 true).1=true by kernel_rfl),?_⟩;refine C4 (Sy m Wp A4 _ h sub bA b1 true) (true,()) (congrArg Value.b (show Pw Wp bA b1 true=true by kernel_rfl)) ?_;refine H0 (Wu m Wp A4 h bA b2) (NH _) ?_;rintro _ A5 ⟨rfl,h⟩;refine⟨_,NH _,(),rfl,?_⟩;refine H0 (Br9 m MW A5 h (by decide+kernel)) (NH _) ?_;rintro _ A6 ⟨rfl,h⟩;refine⟨_,NH _,(),rfl,?_⟩;refine H0 (CP m CA A6 h bA b1 true) (NH _) ?_;rintro _ A7 ⟨rfl,h⟩;refine⟨_,NH _,(false,()),congrArg Value.b (show(Ef CA bA b1 true).1=false by kernel_rfl),?_⟩;refine H0 (Wu m MV A7 h bB bX) (NH _) ?_;rintro _ A8 ⟨rfl,h⟩;refine⟨_,NH _,(),rfl,?_⟩;refine H0 (Bs1 m MU A8 h bB) (NH _) ?_;rintro _ A9 ⟨rfl,h⟩;refine⟨_,NH _,(),rfl,?_⟩;refine O1 (Bq1 _ bA b1) ?_;rintro _ L2-⟨rfl,rfl⟩;refine⟨(),rfl,E9 rfl (D8 rfl (E9 rfl (E9 rfl (D8 rfl ?_))))⟩;refine C4 (Sy m Pt A9 _ h sub bB bE false) (true,()) rfl (E9 rfl ?_);refine C4 (Sy m Pt A9 _ h sub bB bX true) (false,()) (congrArg Value.b (show Pw Pt bB bX true=false by kernel_rfl)) (D8 rfl ?_);refine H0 (CP m Pt A9 h bB bX true) (NH _) ?_;rintro _ A10 ⟨rfl,h⟩;refine⟨_,NH _,(true,()),congrArg Value.b (show(Ef Pt bB bX true).1=true by kernel_rfl),E9 rfl ?_⟩;refine H0 (Aa3 m BZ A10 h (by decide+kernel)) (NH _) ?_;rintro _ _ ⟨v,l,seg,rfl,rfl,o,hp,hs⟩;refine⟨_,NH _,(v,()),rfl,?_⟩;obtain rfl:=Ca0 hp hs;refine C9 fun n1 _=>?_;refine C4 (Bj2 _ v ⟨some n1.z,2,2⟩ [bB,bA] ((C5.sl o).mono fun x hx=>by simp[hx]) ?_ (by decide)) (true,()) rfl (E9 rfl ?_)
 ·exact⟨rfl,NF _,.inr ⟨n1.z,rfl,C2 (c:=#[.w bB,.w bA]) (T:=9) (fz:=(0,0)) NG rfl⟩⟩
 refine C4 (Bq5 _ bA bE false) (true,()) rfl (E9 rfl ?_);refine C4 (Bs2 _ bA b1 true) (false,()) rfl (D8 rfl ?_);refine C4 (Br4 _) (⟨none,0,0⟩,()) rfl ?_;exact .drop (A:=L) (J:=(n1,Obj.cells #[.w (ByteArray.mk #[66]),.w (ByteArray.mk #[97])] 9)::(seg++A10)) ⟨rfl,rfl⟩ (pc fun z=>by simp only[C3,D0];omega)
def Cj9(L:B1)(v:B6)(l:List Eo)(h:Hv L v l)(most bytes:Int)(hm:most<=1000):
  CallF PP 7 #[.slice v.a v.len v.cap,.i most,.i bytes] L fun r L'=>L'=L/\ ∃b:Bool,r= .b b/\(b=true->Yh l most bytes):=by
 refine(c7 v most bytes).c ?_;have hC:=h.len;refine G1 (fun z' z L'=> ∃i:Nat,z=((i:Int),())/\z'=l.length-i/\i<=l.length/\L'=L/\ ∀x∈l.take i,x.2.1.size<=bytes/\x.2.2.1.2.length<=bytes) l.length ⟨0,rfl,rfl,by omega,rfl,by simp⟩ ?_;rintro z' z L1 ⟨i,rfl,rfl,hi,gA,hx⟩;rw[gA];dsimp only;have fin:((i:Int)<l.length->(i:Int)>most)->HL.Ends (fun r L'=>L'=L/\ ∃b:Bool,r= .b b/\(b=true->Yh l most bytes)) (.b (decide ((v.len:Int)<=most))) L:=fun hq=>.of ⟨rfl,_,rfl,fun hb=>by
  have hb:=PF hb;have:i=l.length:=by omega
  rw[this,OE]at hx;exact⟨by omega,hx⟩⟩
 refine D6 (fun(hO:(i:Int)<v.len)=>?_) (fun(aM: ¬(i:Int)<v.len)=>fin fun _=>by omega);refine D6 (fun(gM:(i:Int)<=most)=>?_) (fun(sP: ¬(i:Int)<=most)=>fin fun _=>by omega);have hJ:i<l.length:=by omega
 have lF:l[i]∈l:=NO hJ;have gT:=h.val l[i] lF;have cF:l.take (i+1)=l.take i++[l[i]]:=OB hJ;refine Bd Wb (by decide) h.sl rfl hJ fun a ha=>?_;generalize l[i]=y at ha gT cF;refine B5 y.2.1 (ha.one 1 rfl) (D6 (fun _=>.of ⟨rfl,false,rfl,fun hb=>by cases hb⟩) fun hk=>?_);refine B5 y.2.2.1.1 (ha.one 2 rfl) (D6 (fun _=>.of ⟨rfl,false,rfl,fun hb=>by cases hb⟩) fun hv=>?_);have bY:=gT.len;refine H3 (by omega) ⟨l.length-(i+1),by omega,i+1,rfl,rfl,by omega,rfl,?_⟩;rw[cF];intro q hq;rcases NJ.1 hq with hq|hq
 ·exact hx q hq
 ·rw[NM.1 hq];exact⟨by omega,by omega⟩
def Bq3(x:W7):CallF PP 6 #[AZ x] [] fun r L'=>(∃J,r= .t #[.q none,.q none]/\L'=J)\/(∃p s g J,r= .t #[.p p.n,.p p.m]/\L'.Perm (SL p s g++J)/\Mo x p s g 4096 0/\PI s):=by
 refine(c6 x).c ?_;refine Ap (Bu7 (x.1,x.2.1,x.2.2.1,x.2.2.2.1,())) (NH _) ?_;rintro _ A0 (⟨-,rfl,rfl⟩|⟨hr,m,rfl,xJ⟩)
 ·exact⟨(none,30,()),rfl,Bp (by decide) (.of (.inl ⟨[],rfl,rfl⟩))⟩
 refine⟨(some m.z,0,()),rfl,Ew rfl ?_⟩;have vT:=As4 hr;have okD:=Cg8 vT;obtain⟨w1,w2⟩:=Cg9 vT;refine Ap (AQ m _ A0 xJ okD (by show(0:Nat)<=999;decide) x 0) (NH _) ?_;rintro _ _ (⟨e,he,hZ,rfl,rfl⟩|⟨s3,p3,g3,he,rfl,hm,rfl,X3,I3⟩)
 ·exact⟨(none,e,()),rfl,Bp hZ (.of (.inl ⟨_,rfl,rfl⟩))⟩
 ·have hc:Dh x (fresh (cfg (x.1,x.2.1,x.2.2.1,x.2.2.2.1,()))):=QQ fun hn=>by
   unfold Bu at he;rw[ND hn]at he;cases he
  obtain⟨s2,e1,e2,e3,e4,e5,e6,-⟩:=Xa w1 okD rfl w2 hc 0;rw[e1]at he;obtain rfl:s2=s3:=NI (congrArg Prod.fst he);refine⟨(some p3.n.z,0,()),rfl,Ew rfl (.of (.inr ⟨p3,s2,g3,[],?_,by simp,⟨X3,I3.upto (EI okD),e2.wr,by rw[e5];exact hc,by rw[e3,e5]⟩,fun _=>⟨DF okD rfl (by show(0:Nat)<=999;decide) (FB _) hc e1,(DE okD rfl (by show(0:Nat)<=999;decide) (FB _) w1 hc e1).1⟩,Ab9 (FB _) e1⟩))⟩;rw[hm]
def Bj3(L:B1)(u v:B6)(a b:List UInt8)(hu:G0 L u a)(hv:G0 L v b):CallF PP 33 #[.slice u.a u.len u.cap,.slice v.a v.len v.cap] L fun r L'=>L'=L/\ ∃t:Bool,r= .b t:=by
 refine(e33 u v).c ?_;exact Mi hu (Mi hv (.of ⟨rfl,_,rfl⟩))
def Ci4(m:Nat)(d:B8)(A:B1)(h:FH m d A)(ok:G3 d)(hf:d.torn.length<=1048576):CallF PP 22 #[.p m] A fun r L'=> ∃(b:Bool) (J:B1),r= .b b/\L'.Perm (A++J):=by
 refine(c22 (some m.z)).c ?_;refine Ap (Ba1 m d A h ok hf) (NH _) ?_;rintro _ L1 ⟨v,seg,ts,rfl,rfl,own,okt,tJ⟩;refine⟨(v,()),rfl,?_⟩;have bY:v.len=ts.length:=own.sl.els_len PT.enc_len (by decide);have hS:=ok.c.s;have oZ:ts.length=d.torn.length:=by rw[<-tJ,NL]
 refine G1 (fun z' z L'=> ∃(i:Nat) (J:B1),z=((i:Int),())/\z'=ts.length-i/\i<=ts.length/\L'.Perm (seg++(L8 ts++A)++J)) ts.length ⟨0,[],rfl,rfl,by omega,by simp⟩ ?_;rintro z' z L2 ⟨i,J,rfl,rfl,hi,hp⟩;dsimp only;refine D6 (fun(hO:(i:Int)<v.len)=>?_) (fun _=>.drop (A:=A++(seg++(L8 ts++J))) (J:=[]) ⟨false,seg++(L8 ts++J),rfl,NH _⟩ (hp.trans (pc fun z=>by simp only[C3,E5];omega)));have hJ:i<ts.length:=by omega
 have aU:Sl L2 v 4 (ts.flatMap PT.enc):=own.sl.mono fun y hy=>hp.symm.subset (by simp[hy]);refine Bd PT.enc_len (by decide) aU rfl hJ fun a ha=>?_;have hm:ts[i]∈ts:=NO hJ;generalize ts[i]=t at ha hm;obtain⟨o1,o2⟩:=okt t hm;have aJ: ∀y,y∈t.m.seg\/y∈t.i.seg->y∈L2:=fun y hy=>hp.symm.subset (OA _ (OG _ (OA _ (OY.2 ⟨t,hm,NJ.2 hy⟩))));have b1:G0 L2 t.m.v t.m.l:=o1.sl.mono fun y hy=>aJ y (.inl hy);have b2:G0 L2 t.i.v t.i.l:=o2.sl.mono fun y hy=>aJ y (.inr hy);have hC:=(ok.torn t.tn (by rw[<-tJ];exact OQ hm)).2;have hC:t.i.l.length=d.c.S:=hC;refine B5 t.i.v (ha.one 3 rfl) (O1 (Bk6 L2 t.i.v t.i.l b2 (by omega)) ?_);rintro _ _-⟨s,sg,rfl,rfl,-⟩;have fU:(sg++L2).Perm (seg++(L8 ts++A)++(sg++J)):=(hp.append_left sg).trans (pc fun z=>by simp only[C3];omega);refine⟨(((C1 t.i.l).1.1,(C1 t.i.l).1.2.1,(C1 t.i.l).1.2.2.1,(C1 t.i.l).1.2.2.2.1,(C1 t.i.l).1.2.2.2.2.1,()),s,(C1 t.i.l).2.2,()),rfl,?_⟩;refine D6 (fun _=>?_) (fun _=>H3 (by omega) ⟨ts.length-(i+1),by omega,i+1,sg++J,rfl,rfl,by omega,fU⟩);have dZ:C0 a t.enc (sg++L2):=ha.mono fun y hy=>OG _ hy;refine B5 t.i.v (dZ.one 3 rfl) (B5 t.m.v (dZ.one 2 rfl) (O1 (Bj3 _ t.i.v t.m.v _ _ (b2.mono fun y hy=>OG _ hy) (b1.mono fun y hy=>OG _ hy)) ?_));rintro _ _-⟨rfl,b,rfl⟩;refine⟨(b,()),rfl,M0 (fun _=>H3 (by omega) ⟨ts.length-(i+1),by omega,i+1,sg++J,rfl,rfl,by omega,fU⟩) (fun _=>.drop (A:=A++(seg++(L8 ts++(sg++J)))) (J:=[]) ⟨true,_,rfl,NH _⟩ (fU.trans (pc fun z=>by simp only[C3,E5];omega)))⟩
def Bq7{c:W7}{p:SP}{s:B0}{g:SG}(jH:Mo c p s g 4096 0)(wI:PI s)(L J0:B1)(hT:Tab L)(v:B6)(l:List Eo)(h:Hv L v l)(hf:Yh l 120 300):
  CallF PP 26 #[AZ c,.p p.n,.p p.m,.slice v.a v.len v.cap] (SL p s g++(L++J0)) fun r L'=> ∃(p':SP) (s':B0) (g':SG) (J:B1) (M:Nat) (k:Int),r= .p p'.n/\p'.m=p.m/\L'.Perm (SL p' s' g'++(L++J))/\Mo c p' s' g' M k/\M<=16000000/\k<=200/\PI s':=by
 refine(c26 c (some p.n.z) (some p.m.z) v).c ?_;have bY:=h.len;obtain⟨m,hm⟩: ∃m,m=p.m:=⟨_,rfl⟩;rw[<-hm];refine G1 (fun z' z L'=> ∃(i:Nat) (now k:Int) (p:SP) (s:B0) (g:SG) (J:B1),z=(some p.n.z,now,(i:Int),())/\z'=l.length-i/\i<=l.length/\L'.Perm (SL p s g++(L++J))/\p.m=m/\k<=i/\Mo c p s g (4096+i*100000) k/\PI s) l.length
  ⟨0,0,0,p,s,g,J0,rfl,rfl,by omega,NH _,hm.symm,by omega,by simpa using jH,wI⟩ ?_
 clear jH wI hm;rintro z' z L1 ⟨i,now,k,p,s,g,J,rfl,rfl,hi,hp,hm,mU,hl,hP⟩;obtain⟨bN,nA⟩:=hf;dsimp only;refine D6 (fun(hO:(i:Int)<v.len)=>?_) (fun(aM: ¬(i:Int)<v.len)=>?_);rotate_left
 ·obtain rfl:i=l.length:=by omega
  exact .drop (A:=SL p s g++(L++J)) (J:=[]) ⟨p,s,g,J,_,k,rfl,hm,NH _,hl,by omega,by omega,hP⟩ (by rw[NP];exact hp)
 have hJ:i<l.length:=by omega
 have sN:Hv L1 v l:=h.mono fun y hy=>hp.symm.subset (by simp[hy]);have aX:l[i]∈l:=NO hJ;refine Bd Wb (by decide) sN.sl rfl hJ fun a ha=>?_;generalize l[i]=y at ha aX;have hn:=h.rng y aX;have hfy:=(nA y aX).2;have hu:G0 (L++J) y.2.2.1.1 y.2.2.1.2:=(h.val y aX).mono fun q hq=>by simp[hq]
 have nM:Tab (L++J):=hT.mono fun q hq=>by simp[hq]
 refine B5 (y.1,y.2.1,y.2.2.1.1,y.2.2.2.1,y.2.2.2.2.1,()) ha ?_;dsimp only;have next: ∀{p2:SP} {s2:B0} {g2:SG} {J2 L3:B1} {now1 now2 k2:Int},Cv c s y now1=s2->L3.Perm (SL p2 s2 g2++(L++J2))->p2.m=m->k2<=k+1->Mo c p2 s2 g2 (4096+i*100000+100000) k2->D9 ((i:Int)+1) (fun i1=>fun L''=> ∃k',k'<l.length-i/\ ∃(i:Nat) (now k:Int) (p:SP) (s:B0) (g:SG) (J:B1),((some p2.n.z,now2,i1,()):D2 [.lf .ptr,lI,lI])=(some p.n.z,now,(i:Int),())/\k'=l.length-i/\i<=l.length/\L''.Perm (SL p s g++(L++J))/\p.m=m/\k<=i/\Mo c p s g (4096+i*100000) k/\PI s) L3:=fun{p2 s2 g2 J2 L3 now1 now2 k2} e hY dJ eA iR=>
  H3 (by omega) ⟨l.length-(i+1),by omega,i+1,_,k2,p2,s2,g2,J2,rfl,rfl,by omega,hY,dJ,by omega,by rw[show 4096+(i+1)*100000=4096+i*100000+100000 by omega];exact iR,by
   rw[<-e];exact hP.act hl (by omega) (by omega) now1⟩
 have mk: ∀{s':B0} {g':SG},SX p s' g'->M5 s' (4096+i*100000+100000)->WR s' k->s'.sc=s.sc->Mo c p s' g' (4096+i*100000+100000) k:=fun X' iv w e=>by
  have hc:=X'.cfg.trans ((congrArg SC.c e).trans hl.X.cfg.symm);exact⟨X',iv,w,Od hl.cfg hc,by rw[e,hl.sc,BA c hc]⟩
 refine D6 (fun(h0:y.1=0)=>?_) (fun(h0: ¬y.1=0)=>?_)
 ·refine Ap (Be2 p s g hl.X hl.iv (by omega) (L++J) nM y.2.1 y.2.2.1.1 y.2.2.1.2 hu) hp ?_;rintro _ _ ⟨g2,rfl,X2,rfl⟩;have i2:=hl.iv.put y.2.1 y.2.2.1.2;exact⟨((s.put y.2.1 y.2.2.1.2).2,()),rfl,next (now1:=now) (by unfold Cv;rw[NE h0]) (NH _) hm (by omega) (mk X2 i2.1 (hl.wr.put hl.iv _ _) i2.2)⟩
 refine D6 (fun(h1:y.1=1)=>?_) (fun(h1: ¬y.1=1)=>?_)
 ·refine H0 (Bf8 p s g hl.X hl.iv.ok y.2.1) hp ?_;rintro _ _ ⟨g2,u,sg,rfl,X2,-,rfl⟩;have i2:=hl.iv.get y.2.1;exact⟨_,NH _,(u,(s.get y.2.1).2.2,()),rfl,next (now1:=now) (J2:=J++sg) (by unfold Cv;rw[ND h0,NE h1]) (pc fun z=>by simp only[C3,E5];omega) hm (by omega) (mk X2 (i2.1.upto (by omega)) (hl.wr.get _) i2.2)⟩
 refine D6 (fun(h2:y.1=2)=>?_) (fun(h2: ¬y.1=2)=>?_)
 ·refine H0 (Bi0 p s g hl.X hl.iv.ok (by omega) y.2.1) hp ?_;rintro _ _ ⟨g2,rfl,X2,rfl⟩;have i2:=hl.iv.delete y.2.1;exact⟨_,NH _,((s.delete y.2.1).2.1,(s.delete y.2.1).2.2,()),rfl,next (now1:=now) (J2:=J) (by unfold Cv;rw[ND h0,ND h1,NE h2]) (pc fun z=>by simp only[C3,E5];omega) hm (by omega) (mk X2 (i2.1.upto (by omega)) (hl.wr.delete _) i2.2)⟩
 refine D6 (fun(h3:y.1=3)=>?_) (fun(h3: ¬y.1=3)=>?_)
 ·refine Ap (KQ p s g hl.X hl.iv.ok (by omega) (L++J) nM) hp ?_;rintro _ _ ⟨g2,rfl,X2,rfl⟩;have i2:=hl.iv.flush;exact⟨(s.flush.2,()),rfl,next (now1:=now) (by unfold Cv;rw[ND h0,ND h1,ND h2,NE h3]) (NH _) hm (by omega) (mk X2 (i2.1.upto (by omega)) (hl.wr.flush hl.iv) i2.2)⟩
 refine D6 (fun(h4:y.1=4)=>?_) (fun(h4: ¬y.1=4)=>?_)
 ·refine H0 (Bc8 p s g hl.X hl.iv.ok.bk y.2.2.2.1) hp ?_;rintro _ _ ⟨g2,rfl,X2,rfl⟩;have i2:=hl.iv.tick y.2.2.2.1;exact⟨_,NH _,(),rfl,next (now1:=y.2.2.2.1) (J2:=J) (by unfold Cv;rw[ND h0,ND h1,ND h2,ND h3,NE h4]) (pc fun z=>by simp only[C3,E5];omega) hm (by omega) (mk X2 (i2.1.upto (by omega)) (hl.wr.tick _) i2.2)⟩
 have vQ:FH m s.d g.Ad:=by rw[<-hm];exact hl.X.dev
 refine D6 (fun(h5:y.1=5)=>?_) (fun(h5: ¬y.1=5)=>?_)
 ·refine H0 (Av9 m s.d g.Ad vQ y.2.2.2.1 y.2.2.2.2.1) (R:=Y4 p s g++(L++J)) (hp.trans (Jy p s g _)) ?_;rintro _ A' ⟨rfl,cU⟩;have X2:SX p (s.dev (T3 s.d y.2.2.2.1 y.2.2.2.2.1)) {g with Ad:=A'}:=⟨(Rh s.d _ _).1.trans hl.X.cfg,by rw[hm];exact cU,hl.X.blk,hl.X.que,hl.X.gho,hl.X.idx,hl.X.mp,hl.X.rs,hl.X.op,hl.X.ok,hl.X.pd⟩;exact⟨_,NH _,(),rfl,next (now1:=now) (by unfold Cv;rw[ND h0,ND h1,ND h2,ND h3,ND h4,NE h5]) (Jy p (s.dev (T3 s.d y.2.2.2.1 y.2.2.2.2.1)) {g with Ad:=A'} (L++J)).symm hm (by omega) (mk X2 ((hl.iv.armed hn _).upto (by omega)) (hl.wr.armed _ _) rfl)⟩
 refine D6 (fun(h6:y.1=6)=>?_) (fun(h6: ¬y.1=6)=>?_)
 ·refine H0 (Bl1 m s.d g.Ad vQ) (R:=Y4 p s g++(L++J)) (hp.trans (Jy p s g _)) ?_;rintro _ A' ⟨rfl,cU⟩;refine⟨_,NH _,(),rfl,?_⟩;have okr:=Wj hl.iv.ok.dv;obtain⟨⟨us,w1,-⟩,w2⟩:=hl.wr.restarted;have hc:Dh c (Fm s.d):=Od hl.cfg rfl;obtain⟨s2,e1,e2,e3,e4,e5,-⟩:=Xa w1 okr rfl w2 hc now;have vG:(Fm s.d).torn.length<=999:=by
   unfold TN at w2;rw[show(Fm s.d).down=false from rfl,ND (by decide)]at w2;omega
  refine H0 (AQ m (Fm s.d) A' cU okr vG c now) (R:=Y4 p s g++(L++J)) (NH _) ?_;rintro _ _ (⟨e,he,hZ,-,-⟩|⟨s3,p3,g3,he,rfl,iD,rfl,X3,I3⟩)
  ·rw[e1]at he;exact absurd (congrArg Prod.snd he).symm hZ
  ·have jU:=he;rw[e1]at he;obtain rfl:s2=s3:=NI (congrArg Prod.fst he);refine⟨_,NH _,(some p3.n.z,0,()),rfl,Ew rfl (next (now1:=now) (J2:=J++Y4 p s g) (k2:=k+1) (by unfold Cv;rw[ND h0,ND h1,ND h2,ND h3,ND h4,ND h5,NE h6,e1];rfl) (pc fun z=>by simp only[C3];omega) iD (QJ _) ⟨X3,?_,e2.wr,?_,?_⟩)⟩
   ·exact I3.upto (by have:=EI okr;omega)
   ·rw[e5];exact hc
   ·rw[e3,e5]
 exact next (now1:=now) (by unfold Cv;rw[ND h0,ND h1,ND h2,ND h3,ND h4,ND h5,ND h6]) hp hm (by omega) (mk hl.X (hl.iv.upto (by omega)) hl.wr rfl)
def Bz2(L:B1)(hT:Tab L)(c:W7)(v:B6)(l:List Eo)(h:Hv L v l):Reads PP 5 #[AZ c,.slice v.a v.len v.cap] L (.b true):=by
 unfold Reads;refine(c5 c v).c ?_;have fin: ∀{L2 J:B1},L2.Perm (L++J)->cl PP 8 #[] [.lf .bool] (fun r=>HL.Ends (fun v' L'=>v'= .b true/\L'=L) (.b r.1)) L2:=fun{L2 J} hp=>
  C4 (Bq8 L2) (true,()) rfl (.drop (A:=L) (J:=J) ⟨rfl,rfl⟩ hp)
 have bY:=h.len;refine H0 (A:=[]) (R:=L) (Bq3 c) (NH _) ?_;rintro _ J1 (⟨-,rfl,-⟩|⟨p,s,g,J0,rfl,bJ,jH,wI⟩)
 ·refine⟨_,NH _,(none,none,()),rfl,?_⟩;exact V9 (fun _ _=>False) (fun _ _ hf=>hf.elim) fun j hj=>E9 rfl (fin (J:=J1) OT)
 refine⟨SL p s g++(L++J0),(bJ.append_right L).trans (pc fun z=>by simp only[C3];omega),(some p.n.z,some p.m.z,()),rfl,?_⟩;have xD:Hv (SL p s g++(L++J0)) v l:=h.mono fun y hy=>by simp[hy]
 refine V9 (fun _ L'=>L'=SL p s g++(L++J0)/\Yh l 120 300) ?_ ?_;rotate_left
 ·intro j hj;refine D8 rfl (O1 (Cj9 _ v l xD 120 300 (by decide)) ?_);rintro _ _-⟨rfl,b,rfl,hb⟩;exact⟨(b,()),rfl,M0 (fun(e:b=true)=>hj _ _ ⟨rfl,hb e⟩) fun _=>fin (J:=SL p s g++J0) (pc fun z=>by simp only[C3];omega)⟩
 rintro _ _ ⟨rfl,bN⟩;obtain⟨m,hm⟩: ∃m,m=p.m:=⟨_,rfl⟩;refine Ap (Bq7 jH wI L J0 hT v l h bN) (NH _) ?_;rw[<-hm];clear jH wI bJ xD hm;rintro _ L1 ⟨p,s,g,J,M,k,rfl,hm,hp,hl,hM,hk,hP⟩;refine⟨(some p.n.z,()),rfl,?_⟩;have pT:FH m s.d g.Ad:=by rw[<-hm];exact hl.X.dev
 have hC:=bN.1;refine V9 (fun _ L'=> ∃J,L'.Perm (SL p s g++(L++J))) ?_ ?_;rotate_left
 ·intro j hj;refine D8 rfl (H0 (Ci4 m s.d g.Ad pT hl.iv.ok.dv (by have:=hl.iv.ok.few;omega)) (hp.trans (Jy p s g _)) ?_);rintro _ A' ⟨b,J2,rfl,cU⟩;have hY:(A'++(Y4 p s g++(L++J))).Perm (SL p s g++(L++(J++J2))):=(cU.append_right _).trans ((pc fun z=>by simp only[C3];omega).trans (Jy p s g (L++(J++J2))).symm);refine⟨_,hY,(b,()),rfl,M0 (fun _=>D8 rfl (fin (J:=SL p s g++(J++J2)) (pc fun z=>by simp only[C3];omega))) fun _=>hj _ _ ⟨J++J2,NH _⟩⟩
 rintro _ L2 ⟨J,hp⟩;refine H0 (Av9 m s.d g.Ad pT 0 0) (hp.trans (Jy p s g _)) ?_;rintro _ A' ⟨rfl,cU⟩;obtain⟨s1,bM⟩: ∃s1,s1=s.dev (T3 s.d 0 0):=⟨_,rfl⟩;obtain⟨g1,eM⟩: ∃g1:SG,g1={g with Ad:=A'}:=⟨_,rfl⟩;obtain⟨r1,r2,r3,r4,r5⟩:=Rh s.d 0 0;have X1:SX p s1 g1:=by
  rw[bM,eM];exact⟨r1.trans hl.X.cfg,by rw[hm];exact cU,hl.X.blk,hl.X.que,hl.X.gho,hl.X.idx,hl.X.mp,hl.X.rs,hl.X.op,hl.X.ok,hl.X.pd⟩
 have iv1:M5 s1 M:=by rw[bM];exact hl.iv.armed (by decide) 0
 have wr1:WR s1 k:=by rw[bM];exact hl.wr.armed 0 0
 have kl1:s1.down=false->KI s1/\LV (-1) s1:=fun hd=>by
  rw[bM]at hd⊢;exact⟨(hP.kl hd).1.armed 0 0,(hP.kl hd).2.armed 0 0⟩
 have dB:s1.d=T3 s.d 0 0:=by rw[bM];rfl
 have ec1:s1.d.c=s.d.c:=by rw[dB];exact r1
 have esc:s1.sc=Q6 c s1.d:=by rw[BA c ec1,bM];exact hl.sc
 have cf1:Dh c s1.d:=Od hl.cfg ec1;have sb1:F4 s1:=by
  rw[bM];exact⟨hP.sb.db.congr r2 r1,fun r hr=>(hP.sb.rs r hr).congr r2,fun o ho=>⟨(hP.sb.op o ho).1.congr r2,(hP.sb.op o ho).2⟩⟩
 refine⟨SL p s1 g1++(L++J),by rw[bM,eM];exact(Jy p (s.dev (T3 s.d 0 0)) {g with Ad:=A'} (L++J)).symm,(),rfl,?_⟩;refine Ap (KQ p s1 g1 X1 iv1.ok (by omega) (L++J) (hT.mono fun q hq=>by simp[hq])) (NH _) ?_;rintro _ _ ⟨g2,rfl,X2,rfl⟩;refine⟨(s1.flush.2,()),rfl,D6 (fun(h0:s1.flush.2=0)=>?_) fun _=>fin (J:=SL p s1.flush.1 g2++J) (pc fun z=>by simp only[C3];omega)⟩;obtain⟨a1,a2,a3,a4,a5,a6⟩:=Ct3 iv1 wr1 kl1 sb1 h0;obtain⟨iv2,sc2⟩:=iv1.flush;generalize s1.flush=wq at X2 a1 a2 a3 a4 a5 a6 iv2 sc2;obtain⟨w,we⟩:=wq;dsimp only at X2 a1 a2 a3 a4 a5 a6 iv2 sc2⊢;have ecw:w.d.c=s1.d.c:=X2.cfg.trans ((congrArg SC.c sc2).trans X1.cfg.symm);have cfw:Dh c w.d:=Od cf1 ecw;have dvw:=iv2.ok.dv;have jK:w.d.down=false:=by rw[<-iv2.ok.dn];exact a1
 have vG:w.d.torn.length<=999:=by
  have:=iv2.ok.few;rw[jK,ND (by decide)]at this;omega
 obtain⟨t,e1,e2,e3,e4,e5,-,-⟩:=Xa a5.di dvw jK a5.tn cfw 0;have kt:=DF dvw jK vG a6.db cfw e1;obtain⟨lt,lo⟩:=DE dvw jK vG a6.db a5.di cfw e1;have vP:FH m w.d g2.Ad:=by rw[<-hm];exact X2.dev
 refine H0 (AQ m w.d g2.Ad vP dvw vG c 0) (Jy p w g2 _) ?_;rintro _ _ (⟨e,he,hZ,-,-⟩|⟨t2,p3,g3,he,rfl,iD,rfl,X3,I3⟩)
 ·rw[e1]at he;exact absurd (congrArg Prod.snd he).symm hZ
 rw[e1]at he;obtain rfl:t=t2:=NI (congrArg Prod.fst he);have esc2:t.sc=w.sc:=by rw[e3,BA c ecw,<-esc,sc2]
 obtain⟨b1,b2,b3⟩:=Ci7 a3 a2 iv2.ok a1 a5 a4 lt kt I3.ok e4 e2 lo e5 esc2;have eG:=Bj1 a2 a1 kt e4 (Bt0 e1) e5 b3;obtain⟨g4,oO⟩: ∃g4:SG,g4={g2 with Ad:=g3.Ad}:=⟨_,rfl⟩;have X4:SX p w g4:=by
  rw[oO];have pS:FH m t.d g3.Ad:=by rw[<-iD];exact X3.dev
  rw[e5]at pS;exact⟨X2.cfg,by rw[hm];exact pS,X2.blk,X2.que,X2.gho,X2.idx,X2.mp,X2.rs,X2.op,X2.ok,X2.pd⟩
 have two: ∀R:B1,(SL p3 t g3++(Y4 p w g2++R)).Perm (SL p w g4++(Y4 p3 t g3++R)):=fun R=>by
  have h1:=Jy p w g4 (Y4 p3 t g3++R);have h2:Y4 p w g4=Y4 p w g2:=by rw[oO];rfl
  have h3:g4.Ad=g3.Ad:=by rw[oO]
  rw[h2,h3]at h1;exact(Jy p3 t g3 (Y4 p w g2++R)).trans ((pc fun z=>by simp only[C3];omega).trans h1.symm)
 refine⟨_,NH _,(some p3.n.z,0,()),rfl,?_⟩;refine V9 (fun _ L'=> ∃J,L'.Perm (SL p3 t g3++(Y4 p w g2++(L++J)))) ?_ ?_;rotate_left
 ·intro j hj;refine Ew rfl (C4 (Reads.has ⟨_,NH _⟩ (KH X3)) ((ilen t.ix:Int),()) (by rw[e4];rfl) ?_);refine C4 (Reads.has ⟨_,two _⟩ (KH X4)) ((ilen w.ix:Int),()) (by rw[a1];rfl) ?_;refine Ew (by rw[b2]) (H0 (Be3 X3 (by rw[b1];exact PQ _)) (NH _) ?_);rintro _ _ ⟨u,sg,rfl,rfl,own⟩;refine⟨_,NH _,(u,()),rfl,Ew ?_ (hj _ _ ⟨J++sg,pc fun z=>by simp only[C3];omega⟩)⟩;have hu:=own.sl.els_len (by intro x;rfl) (by decide);rw[e4,ND (by decide),b1]at hu;rw[hu];rfl
 rintro _ L3 ⟨J,aW⟩;refine G1 (fun z' z L'=> ∃(i:Nat) (J:B1),z=((i:Int),())/\z'=l.length-i/\i<=l.length/\L'.Perm (SL p3 t g3++(Y4 p w g2++(L++J)))) l.length ⟨0,J,rfl,rfl,by omega,aW⟩ ?_;clear aW;rintro z' z L4 ⟨i,J,rfl,rfl,hi,bU⟩;dsimp only;refine D6 (fun(hO:(i:Int)<v.len)=>?_) (fun _=>fin (J:=SL p3 t g3++(Y4 p w g2++J)) (bU.trans (pc fun z=>by simp only[C3];omega)));have hJ:i<l.length:=by omega
 have sN:Hv L4 v l:=h.mono fun y hy=>bU.symm.subset (by simp[hy]);refine Bd Wb (by decide) sN.sl rfl hJ fun a ha=>?_;generalize l[i]=y at ha;obtain⟨q1,q2,q3⟩:=eG y.2.1;refine B5 y.2.1 (ha.one 1 rfl) ?_;have sZ:L4.Perm (SL p w g4++(Y4 p3 t g3++(L++J))):=bU.trans (two _);refine C4 (Reads.has ⟨_,sZ⟩ (KN p w g4 X4 iv2.ok y.2.1)) (w.has y.2.1,()) rfl ?_;refine C4 (Reads.has ⟨_,bU⟩ (KN p3 t g3 X3 I3.ok y.2.1)) (t.has y.2.1,()) rfl ?_;refine D8 (by
  by_cases e:w.has y.2.1=2
  ·rw[e,q1.1 e];rfl
  ·have e':t.has y.2.1≠2:=fun e2=>e (q1.2 e2);rw[show(w.has y.2.1==2)=false by simpa using e,show(t.has y.2.1==2)=false by simpa using e'];rfl) ?_
 refine H0 (KB p w g4 X4 iv2.ok y.2.1) sZ ?_;rintro _ _ ⟨u1,sg1,rfl,own1,rfl⟩;have jD:(sg1++SL p w g4++(Y4 p3 t g3++(L++J))).Perm (SL p3 t g3++(Y4 p w g2++(L++(J++sg1)))):=(pc fun z=>by simp only[C3];omega:(sg1++SL p w g4++(Y4 p3 t g3++(L++J))).Perm (SL p w g4++(Y4 p3 t g3++(L++(J++sg1))))).trans (two _).symm;refine⟨_,jD,(u1,(w.peek y.2.1).2,()),rfl,?_⟩;refine H0 (KB p3 t g3 X3 I3.ok y.2.1) (NH _) ?_;rintro _ _ ⟨u2,sg2,rfl,own2,rfl⟩;refine⟨_,(pc fun z=>by simp only[C3];omega:(sg2++SL p3 t g3++(Y4 p w g2++(L++(J++sg1)))).Perm (SL p3 t g3++(Y4 p w g2++(L++(J++sg1++sg2))))),(u2,(t.peek y.2.1).2,()),rfl,?_⟩;have next:D9 ((i:Int)+1) (fun i1=>fun L''=> ∃k',k'<l.length-i/\ ∃(i':Nat) (J:B1),((i1,()):D2 [lI])=((i':Int),())/\k'=l.length-i'/\i'<=l.length/\L''.Perm (SL p3 t g3++(Y4 p w g2++(L++J)))) (SL p3 t g3++(Y4 p w g2++(L++(J++sg1++sg2)))):=
  H3 (by omega) ⟨l.length-(i+1),by omega,i+1,_,rfl,rfl,by omega,NH _⟩
 refine D6 (fun(e:w.has y.2.1=2)=>?_) (fun(e: ¬w.has y.2.1=2)=>?_)
 ·obtain⟨d1,d2⟩:=q2 e;rw[d2]at own2;refine Ew d1 (C4 (Bi9 _ u1 u2 (w.peek y.2.1).1 (own1.sl.mono fun q hq=>by simp[hq]) (own2.sl.mono fun q hq=>by simp[hq])) (true,()) rfl (E9 rfl (E9 (by rw[e];rfl) next)))
 ·refine D8 (by simp[e]) (Bp (q3 e) next)
def Ct8(W:World)(hT:Tab (Gz W))(a0:HH)(w0:Bi7 a0)(a1:B6)(l1:List Eo)(w1:Mn W Wc (LF W) 5 (a1,l1)):
  Reads PP 5 #[.agg #[.i a0.1.1,.i a0.1.2.1,.i a0.1.2.2.1,.i a0.1.2.2.2.1,.i a0.2.1,.i a0.2.2.1,.i a0.2.2.2.1,.i a0.2.2.2.2.1,.i a0.2.2.2.2.2.1,.i a0.2.2.2.2.2.2.1,.i a0.2.2.2.2.2.2.2.1],.slice a1.a a1.len a1.cap] (Gz W) (.b true):=
 Bz2 _ hT (scR a0) a1 l1 (Bj4 w1)
end Go.Proofs.YtieboeindnpnaaaGreatDoor
